/- What the functions of the chapter on values compute (printed by a program). -/
import Derived.Test.YtedohmdgbilicaaVal
namespace Go.Proofs.Ytedohmdgbilicaa
open Go.Pv


inductive R_value_valid_b0 where
  | k0
  | k1
inductive R_value_valid_b1 where
  | k0
  | k1
mutual
/-- orchestrator/ value.valid -/
def s_value_valid (p0 : Val) (p1 : Int) : Bool :=
  bif (p1 == 0) then
    false
  else
    bif (s_value_scalar p0) then
      bif (p0.kind == 4) then
        bif (p0.kind == 5) then
          bif (decide (64 < ((List.length p0.list) : Int))) then
            false
          else
            bif (decide (64 < ((List.length p0.fields) : Int))) then
              false
            else
              (match (l_value_valid_b0 p0 p1 p0.list 0) with
              | .k0 => (match (l_value_valid_b1 p0 p1 p0.fields 0) with
                | .k0 => true
                | .k1 => false)
              | .k1 => false)
        else
          bif (decide (0 < ((List.length p0.fields) : Int))) then
            false
          else
            bif (decide (64 < ((List.length p0.list) : Int))) then
              false
            else
              bif (decide (64 < ((List.length p0.fields) : Int))) then
                false
              else
                (match (l_value_valid_b0 p0 p1 p0.list 0) with
                | .k0 => (match (l_value_valid_b1 p0 p1 p0.fields 0) with
                  | .k0 => true
                  | .k1 => false)
                | .k1 => false)
      else
        bif (decide (0 < ((List.length p0.list) : Int))) then
          false
        else
          bif (p0.kind == 5) then
            bif (decide (64 < ((List.length p0.list) : Int))) then
              false
            else
              bif (decide (64 < ((List.length p0.fields) : Int))) then
                false
              else
                (match (l_value_valid_b0 p0 p1 p0.list 0) with
                | .k0 => (match (l_value_valid_b1 p0 p1 p0.fields 0) with
                  | .k0 => true
                  | .k1 => false)
                | .k1 => false)
          else
            bif (decide (0 < ((List.length p0.fields) : Int))) then
              false
            else
              bif (decide (64 < ((List.length p0.list) : Int))) then
                false
              else
                bif (decide (64 < ((List.length p0.fields) : Int))) then
                  false
                else
                  (match (l_value_valid_b0 p0 p1 p0.list 0) with
                  | .k0 => (match (l_value_valid_b1 p0 p1 p0.fields 0) with
                    | .k0 => true
                    | .k1 => false)
                  | .k1 => false)
    else
      false
termination_by SizeOf.sizeOf p0
decreasing_by all_goals first | exact Val.lt_list _ | exact Val.lt_fields _ | exact lt_head _ _ | exact lt_tail _ _ | exact lt_headv _ _
def l_value_valid_b0 (p0 : Val) (p1 : Int) : List Val → Nat → R_value_valid_b0
  | [], _i0 =>
    (.k0)
  | x0 :: r0, i0 =>
    bif (s_value_valid x0 (w64 (p1 - 1))) then
      l_value_valid_b0 p0 p1 r0 (i0 + 1)
    else
      (.k1)
termination_by l => SizeOf.sizeOf l
decreasing_by all_goals first | exact Val.lt_list _ | exact Val.lt_fields _ | exact lt_head _ _ | exact lt_tail _ _ | exact lt_headv _ _
def l_value_valid_b1 (p0 : Val) (p1 : Int) : List Fld → Nat → R_value_valid_b1
  | [], _i1 =>
    (.k0)
  | x1 :: r1, i1 =>
    bif (s_value_name x1.name) then
      bif (decide (0 < (i1 : Int))) then
        bif (sLt (List.getD p0.fields (Int.toNat (w64 ((i1 : Int) - 1))) (Fld.mk (⟨#[]⟩ : ByteArray) (Val.mk 0 0 (⟨#[]⟩ : ByteArray) [] []))).name x1.name) then
          bif (s_value_valid x1.v (w64 (p1 - 1))) then
            l_value_valid_b1 p0 p1 r1 (i1 + 1)
          else
            (.k1)
        else
          (.k1)
      else
        bif (s_value_valid x1.v (w64 (p1 - 1))) then
          l_value_valid_b1 p0 p1 r1 (i1 + 1)
        else
          (.k1)
    else
      (.k1)
termination_by l => SizeOf.sizeOf l
decreasing_by all_goals first | exact Val.lt_list _ | exact Val.lt_fields _ | exact lt_head _ _ | exact lt_tail _ _ | exact lt_headv _ _
end
def HE_value_valid_b0 (p0 : Val) (p1 : Int) (i0 : Nat) : List PV :=
  [.un, .int .i64 p1, .bx 0 0, .un, .un, .un, .un, .un, .un, .un, .un, .un, .un, .un, .un, .un, .un, .un, .un, .un, .un, .un, .un, .un, .un, .un, .un, .un, .un, .un, .un, .un, .un, .un, .un, .un, .un, .un, .un, .un, .un, .un, .un, .un, .un, .un, .un, .un, .un, .un, .un, .sl (Val.rows p0.list), .int .i64 ((List.length p0.list) : Int), .int .i64 (i0 : Int), .un, .un, .un, .un, .un, .un, .un, .un, .un, .un, .un, .un, .un, .un, .un, .un, .un, .un, .un, .un, .un, .un, .un, .un, .un, .un, .un, .un, .un, .un, .un, .un, .un, .un, .un, .un, .un, .un, .un, .un, .un, .un, .un, .un, .un, .un]
def HO_value_valid_b0 (p0 : Val) (_p1 : Int) (_i0 : Nat) : List Ob :=
  [⟨5, 0, true, [.int .i64 p0.kind, .int .i64 p0.n, .str p0.s, .sl (Val.rows p0.list), .sl (Fld.rows p0.fields)]⟩]
def E_value_valid_b0 (p0 : Val) (p1 : Int) (i0 : Nat) : En := .loop 0 Ir.value_valid_b0_live Ir.value_valid_b0 (HE_value_valid_b0 p0 p1 i0) (HO_value_valid_b0 p0 p1 i0)
def S_value_valid_b0_0 (p0 : Val) (p1 : Int) (z : Nat → PV) (_zo : Nat → List PV) : St :=
  ⟨[z 0, .int .i64 p1, .bx 0 0, z 3, z 4, z 5, z 6, z 7, z 8, z 9, z 10, z 11, z 12, z 13, z 14, z 15, z 16, z 17, z 18, z 19, z 20, z 21, z 22, z 23, z 24, z 25, z 26, z 27, z 28, z 29, z 30, z 31, z 32, z 33, z 34, z 35, z 36, z 37, z 38, z 39, z 40, z 41, z 42, z 43, z 44, z 45, z 46, z 47, z 48, z 49, z 50, z 51, z 52, z 53, z 54, z 55, z 56, z 57, z 58, z 59, z 60, z 61, z 62, z 63, z 64, z 65, z 66, z 67, z 68, z 69, z 70, z 71, z 72, z 73, z 74, z 75, z 76, z 77, z 78, z 79, z 80, z 81, z 82, z 83, z 84, z 85, z 86, z 87, z 88, z 89, z 90, z 91, z 92, z 93, z 94, z 95, z 96, z 97, z 98, z 99], [(0, ⟨5, 0, true, [.int .i64 p0.kind, .int .i64 p0.n, .str p0.s, .sl (Val.rows p0.list), .sl (Fld.rows p0.fields)]⟩)], 65⟩
def S_value_valid_b0_1 (_p0 : Val) (_p1 : Int) (z : Nat → PV) (zo : Nat → List PV) : St :=
  ⟨[z 0, z 1, z 2, z 3, .bool false, z 5, z 6, z 7, z 8, z 9, z 10, z 11, z 12, z 13, z 14, z 15, z 16, z 17, z 18, z 19, z 20, z 21, z 22, z 23, z 24, z 25, z 26, z 27, z 28, z 29, z 30, z 31, z 32, z 33, z 34, z 35, z 36, z 37, z 38, z 39, z 40, z 41, z 42, z 43, z 44, z 45, z 46, z 47, z 48, z 49, z 50, z 51, z 52, z 53, z 54, z 55, z 56, z 57, z 58, z 59, z 60, z 61, z 62, z 63, z 64, z 65, z 66, z 67, z 68, z 69, z 70, z 71, z 72, z 73, z 74, z 75, z 76, z 77, z 78, z 79, z 80, z 81, z 82, z 83, z 84, z 85, z 86, z 87, z 88, z 89, z 90, z 91, z 92, z 93, z 94, z 95, z 96, z 97, z 98, z 99], [(0, ⟨5, 0, true, zo 0⟩), (193, ⟨5, 0, true, zo 193⟩)], 705⟩
def P_value_valid_b0 (p0 : Val) (p1 : Int) (e : En) : R_value_valid_b0 → Prop
  | .k0 => ∃ z zo, Tells G e (.st (.exit 0) (S_value_valid_b0_0 p0 p1 z zo))
  | .k1 => ∃ z zo, Tells G e (.st .ret (S_value_valid_b0_1 p0 p1 z zo))
theorem P_value_valid_b0_mono (p0 : Val) (p1 : Int) {e e' : En} (h : ∀ r, Tells G e r → Tells G e' r) : ∀ q, P_value_valid_b0 p0 p1 e q → P_value_valid_b0 p0 p1 e' q
  | .k0, ⟨z, zo, hz⟩ => ⟨z, zo, h _ hz⟩
  | .k1, ⟨z, zo, hz⟩ => ⟨z, zo, h _ hz⟩
def HE_value_valid_b1 (p0 : Val) (p1 : Int) (i1 : Nat) : List PV :=
  [.un, .int .i64 p1, .bx 0 0, .un, .un, .un, .un, .un, .un, .un, .un, .un, .un, .un, .un, .un, .un, .un, .un, .un, .un, .un, .un, .un, .un, .un, .un, .un, .un, .un, .un, .un, .un, .un, .un, .un, .un, .un, .un, .un, .un, .un, .un, .un, .un, .un, .un, .un, .un, .un, .un, .un, .un, .un, .un, .un, .un, .un, .un, .un, .un, .un, .un, .un, .sl (Fld.rows p0.fields), .int .i64 ((List.length p0.fields) : Int), .int .i64 (i1 : Int), .un, .un, .un, .un, .un, .un, .un, .un, .un, .un, .un, .un, .un, .un, .un, .un, .un, .un, .un, .un, .un, .un, .un, .un, .un, .un, .un, .un, .un, .un, .un, .un, .un]
def HO_value_valid_b1 (p0 : Val) (_p1 : Int) (_i1 : Nat) : List Ob :=
  [⟨5, 0, true, [.int .i64 p0.kind, .int .i64 p0.n, .str p0.s, .sl (Val.rows p0.list), .sl (Fld.rows p0.fields)]⟩]
def E_value_valid_b1 (p0 : Val) (p1 : Int) (i1 : Nat) : En := .loop 0 Ir.value_valid_b1_live Ir.value_valid_b1 (HE_value_valid_b1 p0 p1 i1) (HO_value_valid_b1 p0 p1 i1)
def S_value_valid_b1_0 (p0 : Val) (_p1 : Int) (z : Nat → PV) (_zo : Nat → List PV) : St :=
  ⟨[z 0, z 1, z 2, z 3, z 4, z 5, z 6, z 7, z 8, z 9, z 10, z 11, z 12, z 13, z 14, z 15, z 16, z 17, z 18, z 19, z 20, z 21, z 22, z 23, z 24, z 25, z 26, z 27, z 28, z 29, z 30, z 31, z 32, z 33, z 34, z 35, z 36, z 37, z 38, z 39, z 40, z 41, z 42, z 43, z 44, z 45, z 46, z 47, z 48, z 49, z 50, z 51, z 52, z 53, z 54, z 55, z 56, z 57, z 58, z 59, z 60, z 61, z 62, z 63, z 64, z 65, z 66, z 67, z 68, z 69, z 70, z 71, z 72, z 73, z 74, z 75, z 76, z 77, z 78, z 79, z 80, z 81, z 82, z 83, z 84, z 85, z 86, z 87, z 88, z 89, z 90, z 91, z 92, z 93, z 94, z 95, z 96, z 97, z 98, z 99], [(0, ⟨5, 0, true, [.int .i64 p0.kind, .int .i64 p0.n, .str p0.s, .sl (Val.rows p0.list), .sl (Fld.rows p0.fields)]⟩)], 65⟩
def S_value_valid_b1_1 (_p0 : Val) (_p1 : Int) (z : Nat → PV) (zo : Nat → List PV) : St :=
  ⟨[z 0, z 1, z 2, z 3, .bool false, z 5, z 6, z 7, z 8, z 9, z 10, z 11, z 12, z 13, z 14, z 15, z 16, z 17, z 18, z 19, z 20, z 21, z 22, z 23, z 24, z 25, z 26, z 27, z 28, z 29, z 30, z 31, z 32, z 33, z 34, z 35, z 36, z 37, z 38, z 39, z 40, z 41, z 42, z 43, z 44, z 45, z 46, z 47, z 48, z 49, z 50, z 51, z 52, z 53, z 54, z 55, z 56, z 57, z 58, z 59, z 60, z 61, z 62, z 63, z 64, z 65, z 66, z 67, z 68, z 69, z 70, z 71, z 72, z 73, z 74, z 75, z 76, z 77, z 78, z 79, z 80, z 81, z 82, z 83, z 84, z 85, z 86, z 87, z 88, z 89, z 90, z 91, z 92, z 93, z 94, z 95, z 96, z 97, z 98, z 99], [(0, ⟨5, 0, true, zo 0⟩), (257, ⟨6, 0, true, zo 257⟩)], 2305⟩
def P_value_valid_b1 (p0 : Val) (p1 : Int) (e : En) : R_value_valid_b1 → Prop
  | .k0 => ∃ z zo, Tells G e (.st (.exit 2) (S_value_valid_b1_0 p0 p1 z zo))
  | .k1 => ∃ z zo, Tells G e (.st .ret (S_value_valid_b1_1 p0 p1 z zo))
theorem P_value_valid_b1_mono (p0 : Val) (p1 : Int) {e e' : En} (h : ∀ r, Tells G e r → Tells G e' r) : ∀ q, P_value_valid_b1 p0 p1 e q → P_value_valid_b1 p0 p1 e' q
  | .k0, ⟨z, zo, hz⟩ => ⟨z, zo, h _ hz⟩
  | .k1, ⟨z, zo, hz⟩ => ⟨z, zo, h _ hz⟩
def c_value_valid (p0 : Val) (p1 : Int) : En := .call 39 [.agg (Val.cells p0), .int .i64 p1] []
def a_value_valid (p0 : Val) (p1 : Int) : Rs := .ret (.bool (s_value_valid p0 p1)) []
abbrev H_value_valid (p0 : Val) : Prop := Val_ok p0
def Rec_value_valid (p0 : Val) : Prop := ∀ (q : Val), SizeOf.sizeOf q < SizeOf.sizeOf p0 → ∀ (p1 : Int), H_value_valid q → Tells G (c_value_valid q p1) (a_value_valid q p1)
def H_value_valid_b0 (p0 : Val) (_p1 : Int) : Prop := (List.length p0.list ≤ 4611686018427387904) ∧ (∀ x0 ∈ p0.list, H_value_valid x0) ∧ True
def H_value_valid_b1 (p0 : Val) (_p1 : Int) : Prop := (List.length p0.fields ≤ 4611686018427387904) ∧ (∀ x1 ∈ p0.fields, H_value_name x1.name) ∧ (∀ (i1 : Nat) (x1 : Fld), p0.fields[i1]? = some x1 → (decide (0 < (i1 : Int))) = true → 0 ≤ (w64 ((i1 : Int) - 1))) ∧ (∀ (i1 : Nat) (x1 : Fld), p0.fields[i1]? = some x1 → (decide (0 < (i1 : Int))) = true → Int.toNat (w64 ((i1 : Int) - 1)) < List.length p0.fields) ∧ (∀ x1 ∈ p0.fields, H_value_valid x1.v) ∧ True
theorem give_value_valid (p0 : Val) (p1 : Int) (H : H_value_valid p0) : (H_value_scalar p0) ∧ (H_value_valid_b0 p0 p1) ∧ (H_value_valid_b1 p0 p1) ∧ True := by
  obtain ⟨_, _, h3, hl, hf, sl, sf⟩ := H.all
  unfold okS at h3
  have nm : ∀ x ∈ p0.fields, H_value_name x.name := fun x hx => by
    have := (sf x hx).1
    unfold okS at this
    exact ⟨⟨by rw [lettersLen]; omega, trivial⟩, trivial⟩
  have ix : ∀ (i1 : Nat) (x1 : Fld), p0.fields[i1]? = some x1 → decide (0 < (i1 : Int)) = true → 0 ≤ w64 ((i1 : Int) - 1) ∧ Int.toNat (w64 ((i1 : Int) - 1)) < p0.fields.length := fun i x hx h => by
    have h0 := of_decide_eq_true h
    have h1 := (List.getElem?_eq_some_iff.1 hx).1
    rw [w64_of (by omega)]
    omega
  exact ⟨⟨⟨⟨by rw [lettersLen]; omega, trivial⟩, trivial⟩, trivial⟩, ⟨by omega, sl, trivial⟩, ⟨by omega, nm, fun i x a b => (ix i x a b).1, fun i x a b => (ix i x a b).2, fun x hx => (sf x hx).2, trivial⟩, trivial⟩
def Z_value_valid_b0_0 (p0 : Val) (_p1 : Int) (i0 : Nat) : List PV :=
  [.un, .un, .un, .un, .un, .un, .un, .un, .un, .un, .un, .un, .un, .un, .un, .un, .un, .un, .un, .un, .un, .un, .un, .un, .un, .un, .un, .un, .un, .un, .un, .un, .un, .un, .un, .un, .un, .un, .un, .un, .un, .un, .un, .un, .un, .un, .un, .un, .un, .un, .un, .sl (Val.rows p0.list), .int .i64 ((List.length p0.list) : Int), .int .i64 (i0 : Int), .bool false]
def ZO_value_valid_b0_0 (_p0 : Val) (_p1 : Int) (_i0 : Nat) : List (Nat × List PV) :=
  []
theorem x_value_valid_b0_0 (p0 : Val) (p1 : Int) (_H : H_value_valid_b0 p0 p1) (_rec : Rec_value_valid p0) (i0 : Nat) (hc0 : (decide ((i0 : Int) < ((List.length p0.list) : Int))) = false) : P_value_valid_b0 p0 p1 (E_value_valid_b0 p0 p1 i0) (.k0) := by
  exact ⟨(envF (Z_value_valid_b0_0 p0 p1 i0)), (zoF (ZO_value_valid_b0_0 p0 p1 i0)), tells_outVI VOK.nil (x := ((.exit 0), S_value_valid_b0_0 p0 p1 (envF (Z_value_valid_b0_0 p0 p1 i0)) (zoF (ZO_value_valid_b0_0 p0 p1 i0)))) [hB 0 hc0] [] (by kernel_rfl)⟩
theorem n_value_valid_b0_1 (p0 : Val) (p1 : Int) (H : H_value_valid_b0 p0 p1) (rec : Rec_value_valid p0) (x0 : Val) (i0 : Nat) (hx0 : p0.list[i0]? = some x0) (hi0 : i0 < List.length p0.list) (hc0 : (decide ((i0 : Int) < ((List.length p0.list) : Int))) = true) (h0 : (s_value_valid x0 (w64 (p1 - 1))) = true) {r : Rs} (hr : Tells G (E_value_valid_b0 p0 p1 (i0 + 1)) r) : Tells G (E_value_valid_b0 p0 p1 i0) r := by
  have hB0 := H.1
  exact tells_nextVI VOK.nil (y := (HE_value_valid_b0 p0 p1 (i0 + 1), HO_value_valid_b0 p0 p1 (i0 + 1))) [hB 0 hc0, hP 0 (ix_ok 5 (Val.rows p0.list) i0 _ (Val.rowsGet hx0) rfl), hP 8 (inc_ok i0 (by omega))] [aB (rec x0 (szL hx0) (w64 (p1 - 1)) (H.2.1 x0 (mem_get hx0))) h0] (by kernel_rfl) hr
def Z_value_valid_b0_2 (p0 : Val) (p1 : Int) (i0 : Nat) (x0 : Val) : List PV :=
  [.un, .int .i64 p1, .bx 0 0, .un, .un, .un, .bx 193 0, .un, .un, .un, .un, .un, .un, .un, .un, .un, .un, .un, .un, .un, .un, .un, .un, .un, .un, .un, .un, .un, .un, .un, .un, .un, .un, .un, .un, .un, .un, .un, .un, .un, .un, .un, .un, .un, .un, .un, .un, .un, .un, .un, .un, .sl (Val.rows p0.list), .int .i64 ((List.length p0.list) : Int), .int .i64 (i0 : Int), .bool true, .rf [.int .i64 x0.kind, .int .i64 x0.n, .str x0.s, .sl (Val.rows x0.list), .sl (Fld.rows x0.fields)], .agg [.int .i64 x0.kind, .int .i64 x0.n, .str x0.s, .sl (Val.rows x0.list), .sl (Fld.rows x0.fields)], .agg [.int .i64 x0.kind, .int .i64 x0.n, .str x0.s, .sl (Val.rows x0.list), .sl (Fld.rows x0.fields)], .int .i64 p1, .int .i64 (w64 (p1 - 1)), .bool false, .bool true]
def ZO_value_valid_b0_2 (p0 : Val) (_p1 : Int) (_i0 : Nat) (x0 : Val) : List (Nat × List PV) :=
  [(0, [.int .i64 p0.kind, .int .i64 p0.n, .str p0.s, .sl (Val.rows p0.list), .sl (Fld.rows p0.fields)]), (193, [.int .i64 x0.kind, .int .i64 x0.n, .str x0.s, .sl (Val.rows x0.list), .sl (Fld.rows x0.fields)])]
theorem x_value_valid_b0_2 (p0 : Val) (p1 : Int) (H : H_value_valid_b0 p0 p1) (rec : Rec_value_valid p0) (x0 : Val) (i0 : Nat) (hx0 : p0.list[i0]? = some x0) (_hi0 : i0 < List.length p0.list) (hc0 : (decide ((i0 : Int) < ((List.length p0.list) : Int))) = true) (h0 : (s_value_valid x0 (w64 (p1 - 1))) = false) : P_value_valid_b0 p0 p1 (E_value_valid_b0 p0 p1 i0) (.k1) := by
  exact ⟨(envF (Z_value_valid_b0_2 p0 p1 i0 x0)), (zoF (ZO_value_valid_b0_2 p0 p1 i0 x0)), tells_outVI VOK.nil (x := (.ret, S_value_valid_b0_1 p0 p1 (envF (Z_value_valid_b0_2 p0 p1 i0 x0)) (zoF (ZO_value_valid_b0_2 p0 p1 i0 x0)))) [hB 0 hc0, hP 0 (ix_ok 5 (Val.rows p0.list) i0 _ (Val.rowsGet hx0) rfl)] [aB (rec x0 (szL hx0) (w64 (p1 - 1)) (H.2.1 x0 (mem_get hx0))) h0] (by kernel_rfl)⟩
theorem lt_value_valid_b0 (p0 : Val) (p1 : Int) (H : H_value_valid_b0 p0 p1) (rec : Rec_value_valid p0) : ∀ (r0 : List Val) (i0 : Nat), List.drop i0 p0.list = r0 → P_value_valid_b0 p0 p1 (E_value_valid_b0 p0 p1 i0) (l_value_valid_b0 p0 p1 r0 i0)
  | [], i0, hd => by
    have hc0 : (decide ((i0 : Int) < ((List.length p0.list) : Int))) = false := by have := drop_end hd; simp; omega
    rw [l_value_valid_b0]
    exact x_value_valid_b0_0 p0 p1 H rec i0 hc0
  | x0 :: r0, i0, hd => by
    obtain ⟨hx0, hi0, hd'⟩ := drop_get hd
    have hc0 : (decide ((i0 : Int) < ((List.length p0.list) : Int))) = true := by simp; omega
    rw [l_value_valid_b0]
    cases h0 : (s_value_valid x0 (w64 (p1 - 1))) with
    | true =>
     exact P_value_valid_b0_mono p0 p1 (fun r hr => n_value_valid_b0_1 p0 p1 H rec x0 i0 hx0 hi0 hc0 h0 hr) _ (lt_value_valid_b0 p0 p1 H rec r0 (i0 + 1) hd')
    | false =>
     exact x_value_valid_b0_2 p0 p1 H rec x0 i0 hx0 hi0 hc0 h0
def Z_value_valid_b1_0 (p0 : Val) (p1 : Int) (i1 : Nat) : List PV :=
  [.un, .int .i64 p1, .bx 0 0, .un, .un, .un, .un, .un, .un, .un, .un, .un, .un, .un, .un, .un, .un, .un, .un, .un, .un, .un, .un, .un, .un, .un, .un, .un, .un, .un, .un, .un, .un, .un, .un, .un, .un, .un, .un, .un, .un, .un, .un, .un, .un, .un, .un, .un, .un, .un, .un, .un, .un, .un, .un, .un, .un, .un, .un, .un, .un, .un, .un, .un, .sl (Fld.rows p0.fields), .int .i64 ((List.length p0.fields) : Int), .int .i64 (i1 : Int), .bool false]
def ZO_value_valid_b1_0 (_p0 : Val) (_p1 : Int) (_i1 : Nat) : List (Nat × List PV) :=
  []
theorem x_value_valid_b1_0 (p0 : Val) (p1 : Int) (_H : H_value_valid_b1 p0 p1) (_rec : Rec_value_valid p0) (i1 : Nat) (hc1 : (decide ((i1 : Int) < ((List.length p0.fields) : Int))) = false) : P_value_valid_b1 p0 p1 (E_value_valid_b1 p0 p1 i1) (.k0) := by
  exact ⟨(envF (Z_value_valid_b1_0 p0 p1 i1)), (zoF (ZO_value_valid_b1_0 p0 p1 i1)), tells_outVI VOK.nil (x := ((.exit 2), S_value_valid_b1_0 p0 p1 (envF (Z_value_valid_b1_0 p0 p1 i1)) (zoF (ZO_value_valid_b1_0 p0 p1 i1)))) [hB 0 hc1] [] (by kernel_rfl)⟩
theorem n_value_valid_b1_1 (p0 : Val) (p1 : Int) (H : H_value_valid_b1 p0 p1) (rec : Rec_value_valid p0) (x1 : Fld) (i1 : Nat) (hx1 : p0.fields[i1]? = some x1) (hi1 : i1 < List.length p0.fields) (hc1 : (decide ((i1 : Int) < ((List.length p0.fields) : Int))) = true) (h0 : (s_value_name x1.name) = true) (h1 : (decide (0 < (i1 : Int))) = true) (h2 : (sLt (List.getD p0.fields (Int.toNat (w64 ((i1 : Int) - 1))) (Fld.mk (⟨#[]⟩ : ByteArray) (Val.mk 0 0 (⟨#[]⟩ : ByteArray) [] []))).name x1.name) = true) (h3 : (s_value_valid x1.v (w64 (p1 - 1))) = true) {r : Rs} (hr : Tells G (E_value_valid_b1 p0 p1 (i1 + 1)) r) : Tells G (E_value_valid_b1 p0 p1 i1) r := by
  have hB0 := H.1; have e1 := of_decide_eq_true h1
  exact tells_nextVI VOK.nil (y := (HE_value_valid_b1 p0 p1 (i1 + 1), HO_value_valid_b1 p0 p1 (i1 + 1))) [hB 0 hc1, hP 1 (ix_ok 6 (Fld.rows p0.fields) i1 _ (Fld.rowsGet hx1) rfl), hB 10 h1, hP 5 (ixI_ok 6 (Fld.rows p0.fields) (w64 ((i1 : Int) - 1)) _ ((H.2.2.1 i1 x1 hx1) h1) (Fld.rowsGet (getD_ok p0.fields (Int.toNat (w64 ((i1 : Int) - 1))) (Fld.mk (⟨#[]⟩ : ByteArray) (Val.mk 0 0 (⟨#[]⟩ : ByteArray) [] [])) ((H.2.2.2.1 i1 x1 hx1) h1))) rfl), hP 4 (dec (!(sLt (List.getD p0.fields (Int.toNat (w64 ((i1 : Int) - 1))) (Fld.mk (⟨#[]⟩ : ByteArray) (Val.mk 0 0 (⟨#[]⟩ : ByteArray) [] []))).name x1.name)) false (by rw [h2]; rfl)), hP 10 (inc_ok i1 (by omega))] [aB (t_value_name x1.name (H.2.1 x1 (mem_get hx1))) h0, aB (rec x1.v (szF hx1) (w64 (p1 - 1)) (H.2.2.2.2.1 x1 (mem_get hx1))) h3] (by kernel_rfl) hr
def Z_value_valid_b1_2 (p0 : Val) (p1 : Int) (i1 : Nat) (x1 : Fld) : List PV :=
  [.un, .int .i64 p1, .bx 0 0, .un, .un, .un, .un, .int .i64 (i1 : Int), .bx 257 0, .un, .un, .un, .un, .un, .un, .un, .un, .un, .un, .un, .un, .un, .un, .un, .un, .un, .un, .un, .un, .un, .un, .un, .un, .un, .un, .un, .un, .un, .un, .un, .un, .un, .un, .un, .un, .un, .un, .un, .un, .un, .un, .un, .un, .un, .un, .un, .un, .un, .un, .un, .un, .un, .un, .un, .sl (Fld.rows p0.fields), .int .i64 ((List.length p0.fields) : Int), .int .i64 (i1 : Int), .bool true, .int .i64 (i1 : Int), .rf [.str x1.name, .int .i64 x1.v.kind, .int .i64 x1.v.n, .str x1.v.s, .sl (Val.rows x1.v.list), .sl (Fld.rows x1.v.fields)], .agg [.str x1.name, .int .i64 x1.v.kind, .int .i64 x1.v.n, .str x1.v.s, .sl (Val.rows x1.v.list), .sl (Fld.rows x1.v.fields)], .bx 257 0, .str x1.name, .bool true, .bool false, .bool false, .int .i64 (i1 : Int), .bool true, .bool true, .bx 0 4, .sl (Fld.rows p0.fields), .int .i64 (i1 : Int), .int .i64 (w64 ((i1 : Int) - 1)), .rf [.str (List.getD p0.fields (Int.toNat (w64 ((i1 : Int) - 1))) (Fld.mk (⟨#[]⟩ : ByteArray) (Val.mk 0 0 (⟨#[]⟩ : ByteArray) [] []))).name, .int .i64 (List.getD p0.fields (Int.toNat (w64 ((i1 : Int) - 1))) (Fld.mk (⟨#[]⟩ : ByteArray) (Val.mk 0 0 (⟨#[]⟩ : ByteArray) [] []))).v.kind, .int .i64 (List.getD p0.fields (Int.toNat (w64 ((i1 : Int) - 1))) (Fld.mk (⟨#[]⟩ : ByteArray) (Val.mk 0 0 (⟨#[]⟩ : ByteArray) [] []))).v.n, .str (List.getD p0.fields (Int.toNat (w64 ((i1 : Int) - 1))) (Fld.mk (⟨#[]⟩ : ByteArray) (Val.mk 0 0 (⟨#[]⟩ : ByteArray) [] []))).v.s, .sl (Val.rows (List.getD p0.fields (Int.toNat (w64 ((i1 : Int) - 1))) (Fld.mk (⟨#[]⟩ : ByteArray) (Val.mk 0 0 (⟨#[]⟩ : ByteArray) [] []))).v.list), .sl (Fld.rows (List.getD p0.fields (Int.toNat (w64 ((i1 : Int) - 1))) (Fld.mk (⟨#[]⟩ : ByteArray) (Val.mk 0 0 (⟨#[]⟩ : ByteArray) [] []))).v.fields)], .rf [.str (List.getD p0.fields (Int.toNat (w64 ((i1 : Int) - 1))) (Fld.mk (⟨#[]⟩ : ByteArray) (Val.mk 0 0 (⟨#[]⟩ : ByteArray) [] []))).name, .int .i64 (List.getD p0.fields (Int.toNat (w64 ((i1 : Int) - 1))) (Fld.mk (⟨#[]⟩ : ByteArray) (Val.mk 0 0 (⟨#[]⟩ : ByteArray) [] []))).v.kind, .int .i64 (List.getD p0.fields (Int.toNat (w64 ((i1 : Int) - 1))) (Fld.mk (⟨#[]⟩ : ByteArray) (Val.mk 0 0 (⟨#[]⟩ : ByteArray) [] []))).v.n, .str (List.getD p0.fields (Int.toNat (w64 ((i1 : Int) - 1))) (Fld.mk (⟨#[]⟩ : ByteArray) (Val.mk 0 0 (⟨#[]⟩ : ByteArray) [] []))).v.s, .sl (Val.rows (List.getD p0.fields (Int.toNat (w64 ((i1 : Int) - 1))) (Fld.mk (⟨#[]⟩ : ByteArray) (Val.mk 0 0 (⟨#[]⟩ : ByteArray) [] []))).v.list), .sl (Fld.rows (List.getD p0.fields (Int.toNat (w64 ((i1 : Int) - 1))) (Fld.mk (⟨#[]⟩ : ByteArray) (Val.mk 0 0 (⟨#[]⟩ : ByteArray) [] []))).v.fields)], .str (List.getD p0.fields (Int.toNat (w64 ((i1 : Int) - 1))) (Fld.mk (⟨#[]⟩ : ByteArray) (Val.mk 0 0 (⟨#[]⟩ : ByteArray) [] []))).name, .bx 257 0, .str x1.name, .bool false, .bool false, .bool false, .bool false, .bx 257 1, .agg [.int .i64 x1.v.kind, .int .i64 x1.v.n, .str x1.v.s, .sl (Val.rows x1.v.list), .sl (Fld.rows x1.v.fields)], .int .i64 p1, .int .i64 (w64 (p1 - 1)), .bool false, .bool true, .bool true]
def ZO_value_valid_b1_2 (p0 : Val) (_p1 : Int) (_i1 : Nat) (x1 : Fld) : List (Nat × List PV) :=
  [(0, [.int .i64 p0.kind, .int .i64 p0.n, .str p0.s, .sl (Val.rows p0.list), .sl (Fld.rows p0.fields)]), (257, [.str x1.name, .int .i64 x1.v.kind, .int .i64 x1.v.n, .str x1.v.s, .sl (Val.rows x1.v.list), .sl (Fld.rows x1.v.fields)])]
theorem x_value_valid_b1_2 (p0 : Val) (p1 : Int) (H : H_value_valid_b1 p0 p1) (rec : Rec_value_valid p0) (x1 : Fld) (i1 : Nat) (hx1 : p0.fields[i1]? = some x1) (_hi1 : i1 < List.length p0.fields) (hc1 : (decide ((i1 : Int) < ((List.length p0.fields) : Int))) = true) (h0 : (s_value_name x1.name) = true) (h1 : (decide (0 < (i1 : Int))) = true) (h2 : (sLt (List.getD p0.fields (Int.toNat (w64 ((i1 : Int) - 1))) (Fld.mk (⟨#[]⟩ : ByteArray) (Val.mk 0 0 (⟨#[]⟩ : ByteArray) [] []))).name x1.name) = true) (h3 : (s_value_valid x1.v (w64 (p1 - 1))) = false) : P_value_valid_b1 p0 p1 (E_value_valid_b1 p0 p1 i1) (.k1) := by
  exact ⟨(envF (Z_value_valid_b1_2 p0 p1 i1 x1)), (zoF (ZO_value_valid_b1_2 p0 p1 i1 x1)), tells_outVI VOK.nil (x := (.ret, S_value_valid_b1_1 p0 p1 (envF (Z_value_valid_b1_2 p0 p1 i1 x1)) (zoF (ZO_value_valid_b1_2 p0 p1 i1 x1)))) [hB 0 hc1, hP 1 (ix_ok 6 (Fld.rows p0.fields) i1 _ (Fld.rowsGet hx1) rfl), hB 10 h1, hP 5 (ixI_ok 6 (Fld.rows p0.fields) (w64 ((i1 : Int) - 1)) _ ((H.2.2.1 i1 x1 hx1) h1) (Fld.rowsGet (getD_ok p0.fields (Int.toNat (w64 ((i1 : Int) - 1))) (Fld.mk (⟨#[]⟩ : ByteArray) (Val.mk 0 0 (⟨#[]⟩ : ByteArray) [] [])) ((H.2.2.2.1 i1 x1 hx1) h1))) rfl), hP 4 (dec (!(sLt (List.getD p0.fields (Int.toNat (w64 ((i1 : Int) - 1))) (Fld.mk (⟨#[]⟩ : ByteArray) (Val.mk 0 0 (⟨#[]⟩ : ByteArray) [] []))).name x1.name)) false (by rw [h2]; rfl))] [aB (t_value_name x1.name (H.2.1 x1 (mem_get hx1))) h0, aB (rec x1.v (szF hx1) (w64 (p1 - 1)) (H.2.2.2.2.1 x1 (mem_get hx1))) h3] (by kernel_rfl)⟩
def Z_value_valid_b1_3 (p0 : Val) (p1 : Int) (i1 : Nat) (x1 : Fld) : List PV :=
  [.un, .int .i64 p1, .bx 0 0, .un, .un, .un, .un, .int .i64 (i1 : Int), .bx 257 0, .un, .un, .un, .un, .un, .un, .un, .un, .un, .un, .un, .un, .un, .un, .un, .un, .un, .un, .un, .un, .un, .un, .un, .un, .un, .un, .un, .un, .un, .un, .un, .un, .un, .un, .un, .un, .un, .un, .un, .un, .un, .un, .un, .un, .un, .un, .un, .un, .un, .un, .un, .un, .un, .un, .un, .sl (Fld.rows p0.fields), .int .i64 ((List.length p0.fields) : Int), .int .i64 (i1 : Int), .bool true, .int .i64 (i1 : Int), .rf [.str x1.name, .int .i64 x1.v.kind, .int .i64 x1.v.n, .str x1.v.s, .sl (Val.rows x1.v.list), .sl (Fld.rows x1.v.fields)], .agg [.str x1.name, .int .i64 x1.v.kind, .int .i64 x1.v.n, .str x1.v.s, .sl (Val.rows x1.v.list), .sl (Fld.rows x1.v.fields)], .bx 257 0, .str x1.name, .bool true, .bool false, .bool false, .int .i64 (i1 : Int), .bool true, .bool true, .bx 0 4, .sl (Fld.rows p0.fields), .int .i64 (i1 : Int), .int .i64 (w64 ((i1 : Int) - 1)), .rf [.str (List.getD p0.fields (Int.toNat (w64 ((i1 : Int) - 1))) (Fld.mk (⟨#[]⟩ : ByteArray) (Val.mk 0 0 (⟨#[]⟩ : ByteArray) [] []))).name, .int .i64 (List.getD p0.fields (Int.toNat (w64 ((i1 : Int) - 1))) (Fld.mk (⟨#[]⟩ : ByteArray) (Val.mk 0 0 (⟨#[]⟩ : ByteArray) [] []))).v.kind, .int .i64 (List.getD p0.fields (Int.toNat (w64 ((i1 : Int) - 1))) (Fld.mk (⟨#[]⟩ : ByteArray) (Val.mk 0 0 (⟨#[]⟩ : ByteArray) [] []))).v.n, .str (List.getD p0.fields (Int.toNat (w64 ((i1 : Int) - 1))) (Fld.mk (⟨#[]⟩ : ByteArray) (Val.mk 0 0 (⟨#[]⟩ : ByteArray) [] []))).v.s, .sl (Val.rows (List.getD p0.fields (Int.toNat (w64 ((i1 : Int) - 1))) (Fld.mk (⟨#[]⟩ : ByteArray) (Val.mk 0 0 (⟨#[]⟩ : ByteArray) [] []))).v.list), .sl (Fld.rows (List.getD p0.fields (Int.toNat (w64 ((i1 : Int) - 1))) (Fld.mk (⟨#[]⟩ : ByteArray) (Val.mk 0 0 (⟨#[]⟩ : ByteArray) [] []))).v.fields)], .rf [.str (List.getD p0.fields (Int.toNat (w64 ((i1 : Int) - 1))) (Fld.mk (⟨#[]⟩ : ByteArray) (Val.mk 0 0 (⟨#[]⟩ : ByteArray) [] []))).name, .int .i64 (List.getD p0.fields (Int.toNat (w64 ((i1 : Int) - 1))) (Fld.mk (⟨#[]⟩ : ByteArray) (Val.mk 0 0 (⟨#[]⟩ : ByteArray) [] []))).v.kind, .int .i64 (List.getD p0.fields (Int.toNat (w64 ((i1 : Int) - 1))) (Fld.mk (⟨#[]⟩ : ByteArray) (Val.mk 0 0 (⟨#[]⟩ : ByteArray) [] []))).v.n, .str (List.getD p0.fields (Int.toNat (w64 ((i1 : Int) - 1))) (Fld.mk (⟨#[]⟩ : ByteArray) (Val.mk 0 0 (⟨#[]⟩ : ByteArray) [] []))).v.s, .sl (Val.rows (List.getD p0.fields (Int.toNat (w64 ((i1 : Int) - 1))) (Fld.mk (⟨#[]⟩ : ByteArray) (Val.mk 0 0 (⟨#[]⟩ : ByteArray) [] []))).v.list), .sl (Fld.rows (List.getD p0.fields (Int.toNat (w64 ((i1 : Int) - 1))) (Fld.mk (⟨#[]⟩ : ByteArray) (Val.mk 0 0 (⟨#[]⟩ : ByteArray) [] []))).v.fields)], .str (List.getD p0.fields (Int.toNat (w64 ((i1 : Int) - 1))) (Fld.mk (⟨#[]⟩ : ByteArray) (Val.mk 0 0 (⟨#[]⟩ : ByteArray) [] []))).name, .bx 257 0, .str x1.name, .bool true, .bool true, .bool true, .bool true, .tup [], .tup [], .tup [], .tup [], .tup [], .tup [], .bool true]
def ZO_value_valid_b1_3 (p0 : Val) (_p1 : Int) (_i1 : Nat) (x1 : Fld) : List (Nat × List PV) :=
  [(0, [.int .i64 p0.kind, .int .i64 p0.n, .str p0.s, .sl (Val.rows p0.list), .sl (Fld.rows p0.fields)]), (257, [.str x1.name, .int .i64 x1.v.kind, .int .i64 x1.v.n, .str x1.v.s, .sl (Val.rows x1.v.list), .sl (Fld.rows x1.v.fields)])]
theorem x_value_valid_b1_3 (p0 : Val) (p1 : Int) (H : H_value_valid_b1 p0 p1) (_rec : Rec_value_valid p0) (x1 : Fld) (i1 : Nat) (hx1 : p0.fields[i1]? = some x1) (_hi1 : i1 < List.length p0.fields) (hc1 : (decide ((i1 : Int) < ((List.length p0.fields) : Int))) = true) (h0 : (s_value_name x1.name) = true) (h1 : (decide (0 < (i1 : Int))) = true) (h2 : (sLt (List.getD p0.fields (Int.toNat (w64 ((i1 : Int) - 1))) (Fld.mk (⟨#[]⟩ : ByteArray) (Val.mk 0 0 (⟨#[]⟩ : ByteArray) [] []))).name x1.name) = false) : P_value_valid_b1 p0 p1 (E_value_valid_b1 p0 p1 i1) (.k1) := by
  exact ⟨(envF (Z_value_valid_b1_3 p0 p1 i1 x1)), (zoF (ZO_value_valid_b1_3 p0 p1 i1 x1)), tells_outVI VOK.nil (x := (.ret, S_value_valid_b1_1 p0 p1 (envF (Z_value_valid_b1_3 p0 p1 i1 x1)) (zoF (ZO_value_valid_b1_3 p0 p1 i1 x1)))) [hB 0 hc1, hP 1 (ix_ok 6 (Fld.rows p0.fields) i1 _ (Fld.rowsGet hx1) rfl), hB 10 h1, hP 5 (ixI_ok 6 (Fld.rows p0.fields) (w64 ((i1 : Int) - 1)) _ ((H.2.2.1 i1 x1 hx1) h1) (Fld.rowsGet (getD_ok p0.fields (Int.toNat (w64 ((i1 : Int) - 1))) (Fld.mk (⟨#[]⟩ : ByteArray) (Val.mk 0 0 (⟨#[]⟩ : ByteArray) [] [])) ((H.2.2.2.1 i1 x1 hx1) h1))) rfl), hP 4 (dec (!(sLt (List.getD p0.fields (Int.toNat (w64 ((i1 : Int) - 1))) (Fld.mk (⟨#[]⟩ : ByteArray) (Val.mk 0 0 (⟨#[]⟩ : ByteArray) [] []))).name x1.name)) true (by rw [h2]; rfl))] [aB (t_value_name x1.name (H.2.1 x1 (mem_get hx1))) h0] (by kernel_rfl)⟩
theorem n_value_valid_b1_4 (p0 : Val) (p1 : Int) (H : H_value_valid_b1 p0 p1) (rec : Rec_value_valid p0) (x1 : Fld) (i1 : Nat) (hx1 : p0.fields[i1]? = some x1) (_hi1 : i1 < List.length p0.fields) (hc1 : (decide ((i1 : Int) < ((List.length p0.fields) : Int))) = true) (h0 : (s_value_name x1.name) = true) (h1 : (decide (0 < (i1 : Int))) = false) (h2 : (s_value_valid x1.v (w64 (p1 - 1))) = true) {r : Rs} (hr : Tells G (E_value_valid_b1 p0 p1 (i1 + 1)) r) : Tells G (E_value_valid_b1 p0 p1 i1) r := by
  have hB0 := H.1; have e1 := of_decide_eq_false h1
  exact tells_nextVI VOK.nil (y := (HE_value_valid_b1 p0 p1 (i1 + 1), HO_value_valid_b1 p0 p1 (i1 + 1))) [hB 0 hc1, hP 1 (ix_ok 6 (Fld.rows p0.fields) i1 _ (Fld.rowsGet hx1) rfl), hB 10 h1, hP 21 (inc_ok i1 (by omega))] [aB (t_value_name x1.name (H.2.1 x1 (mem_get hx1))) h0, aB (rec x1.v (szF hx1) (w64 (p1 - 1)) (H.2.2.2.2.1 x1 (mem_get hx1))) h2] (by kernel_rfl) hr
def Z_value_valid_b1_5 (p0 : Val) (p1 : Int) (i1 : Nat) (x1 : Fld) : List PV :=
  [.un, .int .i64 p1, .bx 0 0, .un, .un, .un, .un, .int .i64 (i1 : Int), .bx 257 0, .un, .un, .un, .un, .un, .un, .un, .un, .un, .un, .un, .un, .un, .un, .un, .un, .un, .un, .un, .un, .un, .un, .un, .un, .un, .un, .un, .un, .un, .un, .un, .un, .un, .un, .un, .un, .un, .un, .un, .un, .un, .un, .un, .un, .un, .un, .un, .un, .un, .un, .un, .un, .un, .un, .un, .sl (Fld.rows p0.fields), .int .i64 ((List.length p0.fields) : Int), .int .i64 (i1 : Int), .bool true, .int .i64 (i1 : Int), .rf [.str x1.name, .int .i64 x1.v.kind, .int .i64 x1.v.n, .str x1.v.s, .sl (Val.rows x1.v.list), .sl (Fld.rows x1.v.fields)], .agg [.str x1.name, .int .i64 x1.v.kind, .int .i64 x1.v.n, .str x1.v.s, .sl (Val.rows x1.v.list), .sl (Fld.rows x1.v.fields)], .bx 257 0, .str x1.name, .bool true, .bool false, .bool false, .int .i64 (i1 : Int), .bool false, .bool false, .tup [], .tup [], .tup [], .tup [], .tup [], .tup [], .tup [], .tup [], .tup [], .tup [], .bool false, .bool false, .bool false, .bx 257 1, .agg [.int .i64 x1.v.kind, .int .i64 x1.v.n, .str x1.v.s, .sl (Val.rows x1.v.list), .sl (Fld.rows x1.v.fields)], .int .i64 p1, .int .i64 (w64 (p1 - 1)), .bool false, .bool true, .bool true]
def ZO_value_valid_b1_5 (p0 : Val) (_p1 : Int) (_i1 : Nat) (x1 : Fld) : List (Nat × List PV) :=
  [(0, [.int .i64 p0.kind, .int .i64 p0.n, .str p0.s, .sl (Val.rows p0.list), .sl (Fld.rows p0.fields)]), (257, [.str x1.name, .int .i64 x1.v.kind, .int .i64 x1.v.n, .str x1.v.s, .sl (Val.rows x1.v.list), .sl (Fld.rows x1.v.fields)])]
theorem x_value_valid_b1_5 (p0 : Val) (p1 : Int) (H : H_value_valid_b1 p0 p1) (rec : Rec_value_valid p0) (x1 : Fld) (i1 : Nat) (hx1 : p0.fields[i1]? = some x1) (_hi1 : i1 < List.length p0.fields) (hc1 : (decide ((i1 : Int) < ((List.length p0.fields) : Int))) = true) (h0 : (s_value_name x1.name) = true) (h1 : (decide (0 < (i1 : Int))) = false) (h2 : (s_value_valid x1.v (w64 (p1 - 1))) = false) : P_value_valid_b1 p0 p1 (E_value_valid_b1 p0 p1 i1) (.k1) := by
  exact ⟨(envF (Z_value_valid_b1_5 p0 p1 i1 x1)), (zoF (ZO_value_valid_b1_5 p0 p1 i1 x1)), tells_outVI VOK.nil (x := (.ret, S_value_valid_b1_1 p0 p1 (envF (Z_value_valid_b1_5 p0 p1 i1 x1)) (zoF (ZO_value_valid_b1_5 p0 p1 i1 x1)))) [hB 0 hc1, hP 1 (ix_ok 6 (Fld.rows p0.fields) i1 _ (Fld.rowsGet hx1) rfl), hB 10 h1] [aB (t_value_name x1.name (H.2.1 x1 (mem_get hx1))) h0, aB (rec x1.v (szF hx1) (w64 (p1 - 1)) (H.2.2.2.2.1 x1 (mem_get hx1))) h2] (by kernel_rfl)⟩
def Z_value_valid_b1_6 (p0 : Val) (p1 : Int) (i1 : Nat) (x1 : Fld) : List PV :=
  [.un, .int .i64 p1, .bx 0 0, .un, .un, .un, .un, .int .i64 (i1 : Int), .bx 257 0, .un, .un, .un, .un, .un, .un, .un, .un, .un, .un, .un, .un, .un, .un, .un, .un, .un, .un, .un, .un, .un, .un, .un, .un, .un, .un, .un, .un, .un, .un, .un, .un, .un, .un, .un, .un, .un, .un, .un, .un, .un, .un, .un, .un, .un, .un, .un, .un, .un, .un, .un, .un, .un, .un, .un, .sl (Fld.rows p0.fields), .int .i64 ((List.length p0.fields) : Int), .int .i64 (i1 : Int), .bool true, .int .i64 (i1 : Int), .rf [.str x1.name, .int .i64 x1.v.kind, .int .i64 x1.v.n, .str x1.v.s, .sl (Val.rows x1.v.list), .sl (Fld.rows x1.v.fields)], .agg [.str x1.name, .int .i64 x1.v.kind, .int .i64 x1.v.n, .str x1.v.s, .sl (Val.rows x1.v.list), .sl (Fld.rows x1.v.fields)], .bx 257 0, .str x1.name, .bool false, .bool true, .bool true, .tup [], .tup [], .tup [], .tup [], .tup [], .tup [], .tup [], .tup [], .tup [], .tup [], .tup [], .tup [], .tup [], .tup [], .bool true, .bool true, .tup [], .tup [], .tup [], .tup [], .tup [], .tup [], .bool true]
def ZO_value_valid_b1_6 (p0 : Val) (_p1 : Int) (_i1 : Nat) (x1 : Fld) : List (Nat × List PV) :=
  [(0, [.int .i64 p0.kind, .int .i64 p0.n, .str p0.s, .sl (Val.rows p0.list), .sl (Fld.rows p0.fields)]), (257, [.str x1.name, .int .i64 x1.v.kind, .int .i64 x1.v.n, .str x1.v.s, .sl (Val.rows x1.v.list), .sl (Fld.rows x1.v.fields)])]
theorem x_value_valid_b1_6 (p0 : Val) (p1 : Int) (H : H_value_valid_b1 p0 p1) (_rec : Rec_value_valid p0) (x1 : Fld) (i1 : Nat) (hx1 : p0.fields[i1]? = some x1) (_hi1 : i1 < List.length p0.fields) (hc1 : (decide ((i1 : Int) < ((List.length p0.fields) : Int))) = true) (h0 : (s_value_name x1.name) = false) : P_value_valid_b1 p0 p1 (E_value_valid_b1 p0 p1 i1) (.k1) := by
  exact ⟨(envF (Z_value_valid_b1_6 p0 p1 i1 x1)), (zoF (ZO_value_valid_b1_6 p0 p1 i1 x1)), tells_outVI VOK.nil (x := (.ret, S_value_valid_b1_1 p0 p1 (envF (Z_value_valid_b1_6 p0 p1 i1 x1)) (zoF (ZO_value_valid_b1_6 p0 p1 i1 x1)))) [hB 0 hc1, hP 1 (ix_ok 6 (Fld.rows p0.fields) i1 _ (Fld.rowsGet hx1) rfl)] [aB (t_value_name x1.name (H.2.1 x1 (mem_get hx1))) h0] (by kernel_rfl)⟩
theorem lt_value_valid_b1 (p0 : Val) (p1 : Int) (H : H_value_valid_b1 p0 p1) (rec : Rec_value_valid p0) : ∀ (r1 : List Fld) (i1 : Nat), List.drop i1 p0.fields = r1 → P_value_valid_b1 p0 p1 (E_value_valid_b1 p0 p1 i1) (l_value_valid_b1 p0 p1 r1 i1)
  | [], i1, hd => by
    have hc1 : (decide ((i1 : Int) < ((List.length p0.fields) : Int))) = false := by have := drop_end hd; simp; omega
    rw [l_value_valid_b1]
    exact x_value_valid_b1_0 p0 p1 H rec i1 hc1
  | x1 :: r1, i1, hd => by
    obtain ⟨hx1, hi1, hd'⟩ := drop_get hd
    have hc1 : (decide ((i1 : Int) < ((List.length p0.fields) : Int))) = true := by simp; omega
    rw [l_value_valid_b1]
    cases h0 : (s_value_name x1.name) with
    | true =>
     cases h1 : (decide (0 < (i1 : Int))) with
     | true =>
      cases h2 : (sLt (List.getD p0.fields (Int.toNat (w64 ((i1 : Int) - 1))) (Fld.mk (⟨#[]⟩ : ByteArray) (Val.mk 0 0 (⟨#[]⟩ : ByteArray) [] []))).name x1.name) with
      | true =>
       cases h3 : (s_value_valid x1.v (w64 (p1 - 1))) with
       | true =>
        exact P_value_valid_b1_mono p0 p1 (fun r hr => n_value_valid_b1_1 p0 p1 H rec x1 i1 hx1 hi1 hc1 h0 h1 h2 h3 hr) _ (lt_value_valid_b1 p0 p1 H rec r1 (i1 + 1) hd')
       | false =>
        exact x_value_valid_b1_2 p0 p1 H rec x1 i1 hx1 hi1 hc1 h0 h1 h2 h3
      | false =>
       exact x_value_valid_b1_3 p0 p1 H rec x1 i1 hx1 hi1 hc1 h0 h1 h2
     | false =>
      cases h2 : (s_value_valid x1.v (w64 (p1 - 1))) with
      | true =>
       exact P_value_valid_b1_mono p0 p1 (fun r hr => n_value_valid_b1_4 p0 p1 H rec x1 i1 hx1 hi1 hc1 h0 h1 h2 hr) _ (lt_value_valid_b1 p0 p1 H rec r1 (i1 + 1) hd')
      | false =>
       exact x_value_valid_b1_5 p0 p1 H rec x1 i1 hx1 hi1 hc1 h0 h1 h2
    | false =>
     exact x_value_valid_b1_6 p0 p1 H rec x1 i1 hx1 hi1 hc1 h0
theorem t_value_valid_0 (p0 : Val) (p1 : Int) (_H : H_value_valid p0) (_rec : Rec_value_valid p0) (h0 : (p1 == 0) = true) : Tells G (c_value_valid p0 p1) (.ret (.bool (false)) []) := by
  exact tells_VI (fn := Ir.value_valid) rfl VOK.nil [hB 3 h0] [] (by kernel_rfl)
theorem t_value_valid_1 (p0 : Val) (p1 : Int) (H : H_value_valid p0) (_rec : Rec_value_valid p0) (h0 : (p1 == 0) = false) (h1 : (s_value_scalar p0) = true) (h2 : (p0.kind == 4) = true) (h3 : (p0.kind == 5) = true) (h4 : (decide (64 < ((List.length p0.list) : Int))) = true) : Tells G (c_value_valid p0 p1) (.ret (.bool (false)) []) := by
  exact tells_VI (fn := Ir.value_valid) rfl VOK.nil [hB 3 h0, hP 8 (dec (!(p0.kind == 4)) false (by rw [h2]; rfl)), hP 10 (dec (!(p0.kind == 5)) false (by rw [h3]; rfl)), hP 10 (len_ok (Val.rows p0.list) (List.length p0.list) (Val.rowsLen p0.list)), hB 0 h4] [aB (t_value_scalar p0 (give_value_valid p0 p1 H).1) h1] (by kernel_rfl)
theorem t_value_valid_2 (p0 : Val) (p1 : Int) (H : H_value_valid p0) (_rec : Rec_value_valid p0) (h0 : (p1 == 0) = false) (h1 : (s_value_scalar p0) = true) (h2 : (p0.kind == 4) = true) (h3 : (p0.kind == 5) = true) (h4 : (decide (64 < ((List.length p0.list) : Int))) = false) (h5 : (decide (64 < ((List.length p0.fields) : Int))) = true) : Tells G (c_value_valid p0 p1) (.ret (.bool (false)) []) := by
  exact tells_VI (fn := Ir.value_valid) rfl VOK.nil [hB 3 h0, hP 8 (dec (!(p0.kind == 4)) false (by rw [h2]; rfl)), hP 10 (dec (!(p0.kind == 5)) false (by rw [h3]; rfl)), hP 10 (len_ok (Val.rows p0.list) (List.length p0.list) (Val.rowsLen p0.list)), hB 0 h4, hP 4 (len_ok (Fld.rows p0.fields) (List.length p0.fields) (Fld.rowsLen p0.fields)), hB 0 h5] [aB (t_value_scalar p0 (give_value_valid p0 p1 H).1) h1] (by kernel_rfl)
theorem t_value_valid_3 (p0 : Val) (p1 : Int) (H : H_value_valid p0) (_rec : Rec_value_valid p0) (h0 : (p1 == 0) = false) (h1 : (s_value_scalar p0) = true) (h2 : (p0.kind == 4) = true) (h3 : (p0.kind == 5) = true) (h4 : (decide (64 < ((List.length p0.list) : Int))) = false) (h5 : (decide (64 < ((List.length p0.fields) : Int))) = false) (z6 : Nat → PV) (zo6 : Nat → List PV) (hl6 : Tells G (E_value_valid_b0 p0 p1 0) (.st (.exit 0) (S_value_valid_b0_0 p0 p1 z6 zo6))) (z7 : Nat → PV) (zo7 : Nat → List PV) (hl7 : Tells G (E_value_valid_b1 p0 p1 0) (.st (.exit 2) (S_value_valid_b1_0 p0 p1 z7 zo7))) : Tells G (c_value_valid p0 p1) (.ret (.bool (true)) []) := by
  exact tells_VI (fn := Ir.value_valid) rfl VOK.nil [hB 3 h0, hP 8 (dec (!(p0.kind == 4)) false (by rw [h2]; rfl)), hP 10 (dec (!(p0.kind == 5)) false (by rw [h3]; rfl)), hP 10 (len_ok (Val.rows p0.list) (List.length p0.list) (Val.rowsLen p0.list)), hB 0 h4, hP 4 (len_ok (Fld.rows p0.fields) (List.length p0.fields) (Fld.rowsLen p0.fields)), hB 0 h5, hP 3 (len_ok (Val.rows p0.list) (List.length p0.list) (Val.rowsLen p0.list)), hP 3 (len_ok (Fld.rows p0.fields) (List.length p0.fields) (Fld.rowsLen p0.fields))] [aB (t_value_scalar p0 (give_value_valid p0 p1 H).1) h1, aN hl6, aN hl7] (by kernel_rfl)
theorem t_value_valid_4 (p0 : Val) (p1 : Int) (H : H_value_valid p0) (_rec : Rec_value_valid p0) (h0 : (p1 == 0) = false) (h1 : (s_value_scalar p0) = true) (h2 : (p0.kind == 4) = true) (h3 : (p0.kind == 5) = true) (h4 : (decide (64 < ((List.length p0.list) : Int))) = false) (h5 : (decide (64 < ((List.length p0.fields) : Int))) = false) (z6 : Nat → PV) (zo6 : Nat → List PV) (hl6 : Tells G (E_value_valid_b0 p0 p1 0) (.st (.exit 0) (S_value_valid_b0_0 p0 p1 z6 zo6))) (z7 : Nat → PV) (zo7 : Nat → List PV) (hl7 : Tells G (E_value_valid_b1 p0 p1 0) (.st .ret (S_value_valid_b1_1 p0 p1 z7 zo7))) : Tells G (c_value_valid p0 p1) (.ret (.bool (false)) []) := by
  exact tells_VI (fn := Ir.value_valid) rfl VOK.nil [hB 3 h0, hP 8 (dec (!(p0.kind == 4)) false (by rw [h2]; rfl)), hP 10 (dec (!(p0.kind == 5)) false (by rw [h3]; rfl)), hP 10 (len_ok (Val.rows p0.list) (List.length p0.list) (Val.rowsLen p0.list)), hB 0 h4, hP 4 (len_ok (Fld.rows p0.fields) (List.length p0.fields) (Fld.rowsLen p0.fields)), hB 0 h5, hP 3 (len_ok (Val.rows p0.list) (List.length p0.list) (Val.rowsLen p0.list)), hP 3 (len_ok (Fld.rows p0.fields) (List.length p0.fields) (Fld.rowsLen p0.fields))] [aB (t_value_scalar p0 (give_value_valid p0 p1 H).1) h1, aN hl6, aN hl7] (by kernel_rfl)
theorem t_value_valid_5 (p0 : Val) (p1 : Int) (H : H_value_valid p0) (_rec : Rec_value_valid p0) (h0 : (p1 == 0) = false) (h1 : (s_value_scalar p0) = true) (h2 : (p0.kind == 4) = true) (h3 : (p0.kind == 5) = true) (h4 : (decide (64 < ((List.length p0.list) : Int))) = false) (h5 : (decide (64 < ((List.length p0.fields) : Int))) = false) (z6 : Nat → PV) (zo6 : Nat → List PV) (hl6 : Tells G (E_value_valid_b0 p0 p1 0) (.st .ret (S_value_valid_b0_1 p0 p1 z6 zo6))) : Tells G (c_value_valid p0 p1) (.ret (.bool (false)) []) := by
  exact tells_VI (fn := Ir.value_valid) rfl VOK.nil [hB 3 h0, hP 8 (dec (!(p0.kind == 4)) false (by rw [h2]; rfl)), hP 10 (dec (!(p0.kind == 5)) false (by rw [h3]; rfl)), hP 10 (len_ok (Val.rows p0.list) (List.length p0.list) (Val.rowsLen p0.list)), hB 0 h4, hP 4 (len_ok (Fld.rows p0.fields) (List.length p0.fields) (Fld.rowsLen p0.fields)), hB 0 h5, hP 3 (len_ok (Val.rows p0.list) (List.length p0.list) (Val.rowsLen p0.list))] [aB (t_value_scalar p0 (give_value_valid p0 p1 H).1) h1, aN hl6] (by kernel_rfl)
theorem t_value_valid_6 (p0 : Val) (p1 : Int) (H : H_value_valid p0) (_rec : Rec_value_valid p0) (h0 : (p1 == 0) = false) (h1 : (s_value_scalar p0) = true) (h2 : (p0.kind == 4) = true) (h3 : (p0.kind == 5) = false) (h4 : (decide (0 < ((List.length p0.fields) : Int))) = true) : Tells G (c_value_valid p0 p1) (.ret (.bool (false)) []) := by
  exact tells_VI (fn := Ir.value_valid) rfl VOK.nil [hB 3 h0, hP 8 (dec (!(p0.kind == 4)) false (by rw [h2]; rfl)), hP 10 (dec (!(p0.kind == 5)) true (by rw [h3]; rfl)), hP 3 (len_ok (Fld.rows p0.fields) (List.length p0.fields) (Fld.rowsLen p0.fields)), hB 0 h4] [aB (t_value_scalar p0 (give_value_valid p0 p1 H).1) h1] (by kernel_rfl)
theorem t_value_valid_7 (p0 : Val) (p1 : Int) (H : H_value_valid p0) (_rec : Rec_value_valid p0) (h0 : (p1 == 0) = false) (h1 : (s_value_scalar p0) = true) (h2 : (p0.kind == 4) = true) (h3 : (p0.kind == 5) = false) (h4 : (decide (0 < ((List.length p0.fields) : Int))) = false) (h5 : (decide (64 < ((List.length p0.list) : Int))) = true) : Tells G (c_value_valid p0 p1) (.ret (.bool (false)) []) := by
  exact tells_VI (fn := Ir.value_valid) rfl VOK.nil [hB 3 h0, hP 8 (dec (!(p0.kind == 4)) false (by rw [h2]; rfl)), hP 10 (dec (!(p0.kind == 5)) true (by rw [h3]; rfl)), hP 3 (len_ok (Fld.rows p0.fields) (List.length p0.fields) (Fld.rowsLen p0.fields)), hB 0 h4, hP 5 (len_ok (Val.rows p0.list) (List.length p0.list) (Val.rowsLen p0.list)), hB 0 h5] [aB (t_value_scalar p0 (give_value_valid p0 p1 H).1) h1] (by kernel_rfl)
theorem t_value_valid_8 (p0 : Val) (p1 : Int) (H : H_value_valid p0) (_rec : Rec_value_valid p0) (h0 : (p1 == 0) = false) (h1 : (s_value_scalar p0) = true) (h2 : (p0.kind == 4) = true) (h3 : (p0.kind == 5) = false) (h4 : (decide (0 < ((List.length p0.fields) : Int))) = false) (h5 : (decide (64 < ((List.length p0.list) : Int))) = false) (h6 : (decide (64 < ((List.length p0.fields) : Int))) = true) : Tells G (c_value_valid p0 p1) (.ret (.bool (false)) []) := by
  exact tells_VI (fn := Ir.value_valid) rfl VOK.nil [hB 3 h0, hP 8 (dec (!(p0.kind == 4)) false (by rw [h2]; rfl)), hP 10 (dec (!(p0.kind == 5)) true (by rw [h3]; rfl)), hP 3 (len_ok (Fld.rows p0.fields) (List.length p0.fields) (Fld.rowsLen p0.fields)), hB 0 h4, hP 5 (len_ok (Val.rows p0.list) (List.length p0.list) (Val.rowsLen p0.list)), hB 0 h5, hP 4 (len_ok (Fld.rows p0.fields) (List.length p0.fields) (Fld.rowsLen p0.fields)), hB 0 h6] [aB (t_value_scalar p0 (give_value_valid p0 p1 H).1) h1] (by kernel_rfl)
theorem t_value_valid_9 (p0 : Val) (p1 : Int) (H : H_value_valid p0) (_rec : Rec_value_valid p0) (h0 : (p1 == 0) = false) (h1 : (s_value_scalar p0) = true) (h2 : (p0.kind == 4) = true) (h3 : (p0.kind == 5) = false) (h4 : (decide (0 < ((List.length p0.fields) : Int))) = false) (h5 : (decide (64 < ((List.length p0.list) : Int))) = false) (h6 : (decide (64 < ((List.length p0.fields) : Int))) = false) (z7 : Nat → PV) (zo7 : Nat → List PV) (hl7 : Tells G (E_value_valid_b0 p0 p1 0) (.st (.exit 0) (S_value_valid_b0_0 p0 p1 z7 zo7))) (z8 : Nat → PV) (zo8 : Nat → List PV) (hl8 : Tells G (E_value_valid_b1 p0 p1 0) (.st (.exit 2) (S_value_valid_b1_0 p0 p1 z8 zo8))) : Tells G (c_value_valid p0 p1) (.ret (.bool (true)) []) := by
  exact tells_VI (fn := Ir.value_valid) rfl VOK.nil [hB 3 h0, hP 8 (dec (!(p0.kind == 4)) false (by rw [h2]; rfl)), hP 10 (dec (!(p0.kind == 5)) true (by rw [h3]; rfl)), hP 3 (len_ok (Fld.rows p0.fields) (List.length p0.fields) (Fld.rowsLen p0.fields)), hB 0 h4, hP 5 (len_ok (Val.rows p0.list) (List.length p0.list) (Val.rowsLen p0.list)), hB 0 h5, hP 4 (len_ok (Fld.rows p0.fields) (List.length p0.fields) (Fld.rowsLen p0.fields)), hB 0 h6, hP 3 (len_ok (Val.rows p0.list) (List.length p0.list) (Val.rowsLen p0.list)), hP 3 (len_ok (Fld.rows p0.fields) (List.length p0.fields) (Fld.rowsLen p0.fields))] [aB (t_value_scalar p0 (give_value_valid p0 p1 H).1) h1, aN hl7, aN hl8] (by kernel_rfl)
theorem t_value_valid_10 (p0 : Val) (p1 : Int) (H : H_value_valid p0) (_rec : Rec_value_valid p0) (h0 : (p1 == 0) = false) (h1 : (s_value_scalar p0) = true) (h2 : (p0.kind == 4) = true) (h3 : (p0.kind == 5) = false) (h4 : (decide (0 < ((List.length p0.fields) : Int))) = false) (h5 : (decide (64 < ((List.length p0.list) : Int))) = false) (h6 : (decide (64 < ((List.length p0.fields) : Int))) = false) (z7 : Nat → PV) (zo7 : Nat → List PV) (hl7 : Tells G (E_value_valid_b0 p0 p1 0) (.st (.exit 0) (S_value_valid_b0_0 p0 p1 z7 zo7))) (z8 : Nat → PV) (zo8 : Nat → List PV) (hl8 : Tells G (E_value_valid_b1 p0 p1 0) (.st .ret (S_value_valid_b1_1 p0 p1 z8 zo8))) : Tells G (c_value_valid p0 p1) (.ret (.bool (false)) []) := by
  exact tells_VI (fn := Ir.value_valid) rfl VOK.nil [hB 3 h0, hP 8 (dec (!(p0.kind == 4)) false (by rw [h2]; rfl)), hP 10 (dec (!(p0.kind == 5)) true (by rw [h3]; rfl)), hP 3 (len_ok (Fld.rows p0.fields) (List.length p0.fields) (Fld.rowsLen p0.fields)), hB 0 h4, hP 5 (len_ok (Val.rows p0.list) (List.length p0.list) (Val.rowsLen p0.list)), hB 0 h5, hP 4 (len_ok (Fld.rows p0.fields) (List.length p0.fields) (Fld.rowsLen p0.fields)), hB 0 h6, hP 3 (len_ok (Val.rows p0.list) (List.length p0.list) (Val.rowsLen p0.list)), hP 3 (len_ok (Fld.rows p0.fields) (List.length p0.fields) (Fld.rowsLen p0.fields))] [aB (t_value_scalar p0 (give_value_valid p0 p1 H).1) h1, aN hl7, aN hl8] (by kernel_rfl)
theorem t_value_valid_11 (p0 : Val) (p1 : Int) (H : H_value_valid p0) (_rec : Rec_value_valid p0) (h0 : (p1 == 0) = false) (h1 : (s_value_scalar p0) = true) (h2 : (p0.kind == 4) = true) (h3 : (p0.kind == 5) = false) (h4 : (decide (0 < ((List.length p0.fields) : Int))) = false) (h5 : (decide (64 < ((List.length p0.list) : Int))) = false) (h6 : (decide (64 < ((List.length p0.fields) : Int))) = false) (z7 : Nat → PV) (zo7 : Nat → List PV) (hl7 : Tells G (E_value_valid_b0 p0 p1 0) (.st .ret (S_value_valid_b0_1 p0 p1 z7 zo7))) : Tells G (c_value_valid p0 p1) (.ret (.bool (false)) []) := by
  exact tells_VI (fn := Ir.value_valid) rfl VOK.nil [hB 3 h0, hP 8 (dec (!(p0.kind == 4)) false (by rw [h2]; rfl)), hP 10 (dec (!(p0.kind == 5)) true (by rw [h3]; rfl)), hP 3 (len_ok (Fld.rows p0.fields) (List.length p0.fields) (Fld.rowsLen p0.fields)), hB 0 h4, hP 5 (len_ok (Val.rows p0.list) (List.length p0.list) (Val.rowsLen p0.list)), hB 0 h5, hP 4 (len_ok (Fld.rows p0.fields) (List.length p0.fields) (Fld.rowsLen p0.fields)), hB 0 h6, hP 3 (len_ok (Val.rows p0.list) (List.length p0.list) (Val.rowsLen p0.list))] [aB (t_value_scalar p0 (give_value_valid p0 p1 H).1) h1, aN hl7] (by kernel_rfl)
theorem t_value_valid_12 (p0 : Val) (p1 : Int) (H : H_value_valid p0) (_rec : Rec_value_valid p0) (h0 : (p1 == 0) = false) (h1 : (s_value_scalar p0) = true) (h2 : (p0.kind == 4) = false) (h3 : (decide (0 < ((List.length p0.list) : Int))) = true) : Tells G (c_value_valid p0 p1) (.ret (.bool (false)) []) := by
  exact tells_VI (fn := Ir.value_valid) rfl VOK.nil [hB 3 h0, hP 8 (dec (!(p0.kind == 4)) true (by rw [h2]; rfl)), hP 3 (len_ok (Val.rows p0.list) (List.length p0.list) (Val.rowsLen p0.list)), hB 0 h3] [aB (t_value_scalar p0 (give_value_valid p0 p1 H).1) h1] (by kernel_rfl)
theorem t_value_valid_13 (p0 : Val) (p1 : Int) (H : H_value_valid p0) (_rec : Rec_value_valid p0) (h0 : (p1 == 0) = false) (h1 : (s_value_scalar p0) = true) (h2 : (p0.kind == 4) = false) (h3 : (decide (0 < ((List.length p0.list) : Int))) = false) (h4 : (p0.kind == 5) = true) (h5 : (decide (64 < ((List.length p0.list) : Int))) = true) : Tells G (c_value_valid p0 p1) (.ret (.bool (false)) []) := by
  exact tells_VI (fn := Ir.value_valid) rfl VOK.nil [hB 3 h0, hP 8 (dec (!(p0.kind == 4)) true (by rw [h2]; rfl)), hP 3 (len_ok (Val.rows p0.list) (List.length p0.list) (Val.rowsLen p0.list)), hB 0 h3, hP 5 (dec (!(p0.kind == 5)) false (by rw [h4]; rfl)), hP 10 (len_ok (Val.rows p0.list) (List.length p0.list) (Val.rowsLen p0.list)), hB 0 h5] [aB (t_value_scalar p0 (give_value_valid p0 p1 H).1) h1] (by kernel_rfl)
theorem t_value_valid_14 (p0 : Val) (p1 : Int) (H : H_value_valid p0) (_rec : Rec_value_valid p0) (h0 : (p1 == 0) = false) (h1 : (s_value_scalar p0) = true) (h2 : (p0.kind == 4) = false) (h3 : (decide (0 < ((List.length p0.list) : Int))) = false) (h4 : (p0.kind == 5) = true) (h5 : (decide (64 < ((List.length p0.list) : Int))) = false) (h6 : (decide (64 < ((List.length p0.fields) : Int))) = true) : Tells G (c_value_valid p0 p1) (.ret (.bool (false)) []) := by
  exact tells_VI (fn := Ir.value_valid) rfl VOK.nil [hB 3 h0, hP 8 (dec (!(p0.kind == 4)) true (by rw [h2]; rfl)), hP 3 (len_ok (Val.rows p0.list) (List.length p0.list) (Val.rowsLen p0.list)), hB 0 h3, hP 5 (dec (!(p0.kind == 5)) false (by rw [h4]; rfl)), hP 10 (len_ok (Val.rows p0.list) (List.length p0.list) (Val.rowsLen p0.list)), hB 0 h5, hP 4 (len_ok (Fld.rows p0.fields) (List.length p0.fields) (Fld.rowsLen p0.fields)), hB 0 h6] [aB (t_value_scalar p0 (give_value_valid p0 p1 H).1) h1] (by kernel_rfl)
theorem t_value_valid_15 (p0 : Val) (p1 : Int) (H : H_value_valid p0) (_rec : Rec_value_valid p0) (h0 : (p1 == 0) = false) (h1 : (s_value_scalar p0) = true) (h2 : (p0.kind == 4) = false) (h3 : (decide (0 < ((List.length p0.list) : Int))) = false) (h4 : (p0.kind == 5) = true) (h5 : (decide (64 < ((List.length p0.list) : Int))) = false) (h6 : (decide (64 < ((List.length p0.fields) : Int))) = false) (z7 : Nat → PV) (zo7 : Nat → List PV) (hl7 : Tells G (E_value_valid_b0 p0 p1 0) (.st (.exit 0) (S_value_valid_b0_0 p0 p1 z7 zo7))) (z8 : Nat → PV) (zo8 : Nat → List PV) (hl8 : Tells G (E_value_valid_b1 p0 p1 0) (.st (.exit 2) (S_value_valid_b1_0 p0 p1 z8 zo8))) : Tells G (c_value_valid p0 p1) (.ret (.bool (true)) []) := by
  exact tells_VI (fn := Ir.value_valid) rfl VOK.nil [hB 3 h0, hP 8 (dec (!(p0.kind == 4)) true (by rw [h2]; rfl)), hP 3 (len_ok (Val.rows p0.list) (List.length p0.list) (Val.rowsLen p0.list)), hB 0 h3, hP 5 (dec (!(p0.kind == 5)) false (by rw [h4]; rfl)), hP 10 (len_ok (Val.rows p0.list) (List.length p0.list) (Val.rowsLen p0.list)), hB 0 h5, hP 4 (len_ok (Fld.rows p0.fields) (List.length p0.fields) (Fld.rowsLen p0.fields)), hB 0 h6, hP 3 (len_ok (Val.rows p0.list) (List.length p0.list) (Val.rowsLen p0.list)), hP 3 (len_ok (Fld.rows p0.fields) (List.length p0.fields) (Fld.rowsLen p0.fields))] [aB (t_value_scalar p0 (give_value_valid p0 p1 H).1) h1, aN hl7, aN hl8] (by kernel_rfl)
theorem t_value_valid_16 (p0 : Val) (p1 : Int) (H : H_value_valid p0) (_rec : Rec_value_valid p0) (h0 : (p1 == 0) = false) (h1 : (s_value_scalar p0) = true) (h2 : (p0.kind == 4) = false) (h3 : (decide (0 < ((List.length p0.list) : Int))) = false) (h4 : (p0.kind == 5) = true) (h5 : (decide (64 < ((List.length p0.list) : Int))) = false) (h6 : (decide (64 < ((List.length p0.fields) : Int))) = false) (z7 : Nat → PV) (zo7 : Nat → List PV) (hl7 : Tells G (E_value_valid_b0 p0 p1 0) (.st (.exit 0) (S_value_valid_b0_0 p0 p1 z7 zo7))) (z8 : Nat → PV) (zo8 : Nat → List PV) (hl8 : Tells G (E_value_valid_b1 p0 p1 0) (.st .ret (S_value_valid_b1_1 p0 p1 z8 zo8))) : Tells G (c_value_valid p0 p1) (.ret (.bool (false)) []) := by
  exact tells_VI (fn := Ir.value_valid) rfl VOK.nil [hB 3 h0, hP 8 (dec (!(p0.kind == 4)) true (by rw [h2]; rfl)), hP 3 (len_ok (Val.rows p0.list) (List.length p0.list) (Val.rowsLen p0.list)), hB 0 h3, hP 5 (dec (!(p0.kind == 5)) false (by rw [h4]; rfl)), hP 10 (len_ok (Val.rows p0.list) (List.length p0.list) (Val.rowsLen p0.list)), hB 0 h5, hP 4 (len_ok (Fld.rows p0.fields) (List.length p0.fields) (Fld.rowsLen p0.fields)), hB 0 h6, hP 3 (len_ok (Val.rows p0.list) (List.length p0.list) (Val.rowsLen p0.list)), hP 3 (len_ok (Fld.rows p0.fields) (List.length p0.fields) (Fld.rowsLen p0.fields))] [aB (t_value_scalar p0 (give_value_valid p0 p1 H).1) h1, aN hl7, aN hl8] (by kernel_rfl)
theorem t_value_valid_17 (p0 : Val) (p1 : Int) (H : H_value_valid p0) (_rec : Rec_value_valid p0) (h0 : (p1 == 0) = false) (h1 : (s_value_scalar p0) = true) (h2 : (p0.kind == 4) = false) (h3 : (decide (0 < ((List.length p0.list) : Int))) = false) (h4 : (p0.kind == 5) = true) (h5 : (decide (64 < ((List.length p0.list) : Int))) = false) (h6 : (decide (64 < ((List.length p0.fields) : Int))) = false) (z7 : Nat → PV) (zo7 : Nat → List PV) (hl7 : Tells G (E_value_valid_b0 p0 p1 0) (.st .ret (S_value_valid_b0_1 p0 p1 z7 zo7))) : Tells G (c_value_valid p0 p1) (.ret (.bool (false)) []) := by
  exact tells_VI (fn := Ir.value_valid) rfl VOK.nil [hB 3 h0, hP 8 (dec (!(p0.kind == 4)) true (by rw [h2]; rfl)), hP 3 (len_ok (Val.rows p0.list) (List.length p0.list) (Val.rowsLen p0.list)), hB 0 h3, hP 5 (dec (!(p0.kind == 5)) false (by rw [h4]; rfl)), hP 10 (len_ok (Val.rows p0.list) (List.length p0.list) (Val.rowsLen p0.list)), hB 0 h5, hP 4 (len_ok (Fld.rows p0.fields) (List.length p0.fields) (Fld.rowsLen p0.fields)), hB 0 h6, hP 3 (len_ok (Val.rows p0.list) (List.length p0.list) (Val.rowsLen p0.list))] [aB (t_value_scalar p0 (give_value_valid p0 p1 H).1) h1, aN hl7] (by kernel_rfl)
theorem t_value_valid_18 (p0 : Val) (p1 : Int) (H : H_value_valid p0) (_rec : Rec_value_valid p0) (h0 : (p1 == 0) = false) (h1 : (s_value_scalar p0) = true) (h2 : (p0.kind == 4) = false) (h3 : (decide (0 < ((List.length p0.list) : Int))) = false) (h4 : (p0.kind == 5) = false) (h5 : (decide (0 < ((List.length p0.fields) : Int))) = true) : Tells G (c_value_valid p0 p1) (.ret (.bool (false)) []) := by
  exact tells_VI (fn := Ir.value_valid) rfl VOK.nil [hB 3 h0, hP 8 (dec (!(p0.kind == 4)) true (by rw [h2]; rfl)), hP 3 (len_ok (Val.rows p0.list) (List.length p0.list) (Val.rowsLen p0.list)), hB 0 h3, hP 5 (dec (!(p0.kind == 5)) true (by rw [h4]; rfl)), hP 3 (len_ok (Fld.rows p0.fields) (List.length p0.fields) (Fld.rowsLen p0.fields)), hB 0 h5] [aB (t_value_scalar p0 (give_value_valid p0 p1 H).1) h1] (by kernel_rfl)
theorem t_value_valid_19 (p0 : Val) (p1 : Int) (H : H_value_valid p0) (_rec : Rec_value_valid p0) (h0 : (p1 == 0) = false) (h1 : (s_value_scalar p0) = true) (h2 : (p0.kind == 4) = false) (h3 : (decide (0 < ((List.length p0.list) : Int))) = false) (h4 : (p0.kind == 5) = false) (h5 : (decide (0 < ((List.length p0.fields) : Int))) = false) (h6 : (decide (64 < ((List.length p0.list) : Int))) = true) : Tells G (c_value_valid p0 p1) (.ret (.bool (false)) []) := by
  exact tells_VI (fn := Ir.value_valid) rfl VOK.nil [hB 3 h0, hP 8 (dec (!(p0.kind == 4)) true (by rw [h2]; rfl)), hP 3 (len_ok (Val.rows p0.list) (List.length p0.list) (Val.rowsLen p0.list)), hB 0 h3, hP 5 (dec (!(p0.kind == 5)) true (by rw [h4]; rfl)), hP 3 (len_ok (Fld.rows p0.fields) (List.length p0.fields) (Fld.rowsLen p0.fields)), hB 0 h5, hP 5 (len_ok (Val.rows p0.list) (List.length p0.list) (Val.rowsLen p0.list)), hB 0 h6] [aB (t_value_scalar p0 (give_value_valid p0 p1 H).1) h1] (by kernel_rfl)
theorem t_value_valid_20 (p0 : Val) (p1 : Int) (H : H_value_valid p0) (_rec : Rec_value_valid p0) (h0 : (p1 == 0) = false) (h1 : (s_value_scalar p0) = true) (h2 : (p0.kind == 4) = false) (h3 : (decide (0 < ((List.length p0.list) : Int))) = false) (h4 : (p0.kind == 5) = false) (h5 : (decide (0 < ((List.length p0.fields) : Int))) = false) (h6 : (decide (64 < ((List.length p0.list) : Int))) = false) (h7 : (decide (64 < ((List.length p0.fields) : Int))) = true) : Tells G (c_value_valid p0 p1) (.ret (.bool (false)) []) := by
  exact tells_VI (fn := Ir.value_valid) rfl VOK.nil [hB 3 h0, hP 8 (dec (!(p0.kind == 4)) true (by rw [h2]; rfl)), hP 3 (len_ok (Val.rows p0.list) (List.length p0.list) (Val.rowsLen p0.list)), hB 0 h3, hP 5 (dec (!(p0.kind == 5)) true (by rw [h4]; rfl)), hP 3 (len_ok (Fld.rows p0.fields) (List.length p0.fields) (Fld.rowsLen p0.fields)), hB 0 h5, hP 5 (len_ok (Val.rows p0.list) (List.length p0.list) (Val.rowsLen p0.list)), hB 0 h6, hP 4 (len_ok (Fld.rows p0.fields) (List.length p0.fields) (Fld.rowsLen p0.fields)), hB 0 h7] [aB (t_value_scalar p0 (give_value_valid p0 p1 H).1) h1] (by kernel_rfl)
theorem t_value_valid_21 (p0 : Val) (p1 : Int) (H : H_value_valid p0) (_rec : Rec_value_valid p0) (h0 : (p1 == 0) = false) (h1 : (s_value_scalar p0) = true) (h2 : (p0.kind == 4) = false) (h3 : (decide (0 < ((List.length p0.list) : Int))) = false) (h4 : (p0.kind == 5) = false) (h5 : (decide (0 < ((List.length p0.fields) : Int))) = false) (h6 : (decide (64 < ((List.length p0.list) : Int))) = false) (h7 : (decide (64 < ((List.length p0.fields) : Int))) = false) (z8 : Nat → PV) (zo8 : Nat → List PV) (hl8 : Tells G (E_value_valid_b0 p0 p1 0) (.st (.exit 0) (S_value_valid_b0_0 p0 p1 z8 zo8))) (z9 : Nat → PV) (zo9 : Nat → List PV) (hl9 : Tells G (E_value_valid_b1 p0 p1 0) (.st (.exit 2) (S_value_valid_b1_0 p0 p1 z9 zo9))) : Tells G (c_value_valid p0 p1) (.ret (.bool (true)) []) := by
  exact tells_VI (fn := Ir.value_valid) rfl VOK.nil [hB 3 h0, hP 8 (dec (!(p0.kind == 4)) true (by rw [h2]; rfl)), hP 3 (len_ok (Val.rows p0.list) (List.length p0.list) (Val.rowsLen p0.list)), hB 0 h3, hP 5 (dec (!(p0.kind == 5)) true (by rw [h4]; rfl)), hP 3 (len_ok (Fld.rows p0.fields) (List.length p0.fields) (Fld.rowsLen p0.fields)), hB 0 h5, hP 5 (len_ok (Val.rows p0.list) (List.length p0.list) (Val.rowsLen p0.list)), hB 0 h6, hP 4 (len_ok (Fld.rows p0.fields) (List.length p0.fields) (Fld.rowsLen p0.fields)), hB 0 h7, hP 3 (len_ok (Val.rows p0.list) (List.length p0.list) (Val.rowsLen p0.list)), hP 3 (len_ok (Fld.rows p0.fields) (List.length p0.fields) (Fld.rowsLen p0.fields))] [aB (t_value_scalar p0 (give_value_valid p0 p1 H).1) h1, aN hl8, aN hl9] (by kernel_rfl)
theorem t_value_valid_22 (p0 : Val) (p1 : Int) (H : H_value_valid p0) (_rec : Rec_value_valid p0) (h0 : (p1 == 0) = false) (h1 : (s_value_scalar p0) = true) (h2 : (p0.kind == 4) = false) (h3 : (decide (0 < ((List.length p0.list) : Int))) = false) (h4 : (p0.kind == 5) = false) (h5 : (decide (0 < ((List.length p0.fields) : Int))) = false) (h6 : (decide (64 < ((List.length p0.list) : Int))) = false) (h7 : (decide (64 < ((List.length p0.fields) : Int))) = false) (z8 : Nat → PV) (zo8 : Nat → List PV) (hl8 : Tells G (E_value_valid_b0 p0 p1 0) (.st (.exit 0) (S_value_valid_b0_0 p0 p1 z8 zo8))) (z9 : Nat → PV) (zo9 : Nat → List PV) (hl9 : Tells G (E_value_valid_b1 p0 p1 0) (.st .ret (S_value_valid_b1_1 p0 p1 z9 zo9))) : Tells G (c_value_valid p0 p1) (.ret (.bool (false)) []) := by
  exact tells_VI (fn := Ir.value_valid) rfl VOK.nil [hB 3 h0, hP 8 (dec (!(p0.kind == 4)) true (by rw [h2]; rfl)), hP 3 (len_ok (Val.rows p0.list) (List.length p0.list) (Val.rowsLen p0.list)), hB 0 h3, hP 5 (dec (!(p0.kind == 5)) true (by rw [h4]; rfl)), hP 3 (len_ok (Fld.rows p0.fields) (List.length p0.fields) (Fld.rowsLen p0.fields)), hB 0 h5, hP 5 (len_ok (Val.rows p0.list) (List.length p0.list) (Val.rowsLen p0.list)), hB 0 h6, hP 4 (len_ok (Fld.rows p0.fields) (List.length p0.fields) (Fld.rowsLen p0.fields)), hB 0 h7, hP 3 (len_ok (Val.rows p0.list) (List.length p0.list) (Val.rowsLen p0.list)), hP 3 (len_ok (Fld.rows p0.fields) (List.length p0.fields) (Fld.rowsLen p0.fields))] [aB (t_value_scalar p0 (give_value_valid p0 p1 H).1) h1, aN hl8, aN hl9] (by kernel_rfl)
theorem t_value_valid_23 (p0 : Val) (p1 : Int) (H : H_value_valid p0) (_rec : Rec_value_valid p0) (h0 : (p1 == 0) = false) (h1 : (s_value_scalar p0) = true) (h2 : (p0.kind == 4) = false) (h3 : (decide (0 < ((List.length p0.list) : Int))) = false) (h4 : (p0.kind == 5) = false) (h5 : (decide (0 < ((List.length p0.fields) : Int))) = false) (h6 : (decide (64 < ((List.length p0.list) : Int))) = false) (h7 : (decide (64 < ((List.length p0.fields) : Int))) = false) (z8 : Nat → PV) (zo8 : Nat → List PV) (hl8 : Tells G (E_value_valid_b0 p0 p1 0) (.st .ret (S_value_valid_b0_1 p0 p1 z8 zo8))) : Tells G (c_value_valid p0 p1) (.ret (.bool (false)) []) := by
  exact tells_VI (fn := Ir.value_valid) rfl VOK.nil [hB 3 h0, hP 8 (dec (!(p0.kind == 4)) true (by rw [h2]; rfl)), hP 3 (len_ok (Val.rows p0.list) (List.length p0.list) (Val.rowsLen p0.list)), hB 0 h3, hP 5 (dec (!(p0.kind == 5)) true (by rw [h4]; rfl)), hP 3 (len_ok (Fld.rows p0.fields) (List.length p0.fields) (Fld.rowsLen p0.fields)), hB 0 h5, hP 5 (len_ok (Val.rows p0.list) (List.length p0.list) (Val.rowsLen p0.list)), hB 0 h6, hP 4 (len_ok (Fld.rows p0.fields) (List.length p0.fields) (Fld.rowsLen p0.fields)), hB 0 h7, hP 3 (len_ok (Val.rows p0.list) (List.length p0.list) (Val.rowsLen p0.list))] [aB (t_value_scalar p0 (give_value_valid p0 p1 H).1) h1, aN hl8] (by kernel_rfl)
theorem t_value_valid_24 (p0 : Val) (p1 : Int) (H : H_value_valid p0) (_rec : Rec_value_valid p0) (h0 : (p1 == 0) = false) (h1 : (s_value_scalar p0) = false) : Tells G (c_value_valid p0 p1) (.ret (.bool (false)) []) := by
  exact tells_VI (fn := Ir.value_valid) rfl VOK.nil [hB 3 h0] [aB (t_value_scalar p0 (give_value_valid p0 p1 H).1) h1] (by kernel_rfl)
theorem r_value_valid (p0 : Val) (p1 : Int) (H : H_value_valid p0) (rec : Rec_value_valid p0) : Tells G (c_value_valid p0 p1) (a_value_valid p0 p1) := by
  unfold a_value_valid
  rw [s_value_valid]
  cases h0 : (p1 == 0) with
  | true =>
   exact t_value_valid_0 p0 p1 H rec h0
  | false =>
   cases h1 : (s_value_scalar p0) with
   | true =>
    cases h2 : (p0.kind == 4) with
    | true =>
     cases h3 : (p0.kind == 5) with
     | true =>
      cases h4 : (decide (64 < ((List.length p0.list) : Int))) with
      | true =>
       exact t_value_valid_1 p0 p1 H rec h0 h1 h2 h3 h4
      | false =>
       cases h5 : (decide (64 < ((List.length p0.fields) : Int))) with
       | true =>
        exact t_value_valid_2 p0 p1 H rec h0 h1 h2 h3 h4 h5
       | false =>
        have hl6 := lt_value_valid_b0 p0 p1 ((give_value_valid p0 p1 H).2.1) rec p0.list 0 (by simp)
        cases hr6 : (l_value_valid_b0 p0 p1 p0.list 0) with
        | k0 =>
          rw [hr6] at hl6
          obtain ⟨z6, zo6, hl6⟩ := hl6
          try dsimp only
          have hl7 := lt_value_valid_b1 p0 p1 ((give_value_valid p0 p1 H).2.2.1) rec p0.fields 0 (by simp)
          cases hr7 : (l_value_valid_b1 p0 p1 p0.fields 0) with
          | k0 =>
            rw [hr7] at hl7
            obtain ⟨z7, zo7, hl7⟩ := hl7
            exact t_value_valid_3 p0 p1 H rec h0 h1 h2 h3 h4 h5 z6 zo6 hl6 z7 zo7 hl7
          | k1 =>
            rw [hr7] at hl7
            obtain ⟨z7, zo7, hl7⟩ := hl7
            exact t_value_valid_4 p0 p1 H rec h0 h1 h2 h3 h4 h5 z6 zo6 hl6 z7 zo7 hl7
        | k1 =>
          rw [hr6] at hl6
          obtain ⟨z6, zo6, hl6⟩ := hl6
          exact t_value_valid_5 p0 p1 H rec h0 h1 h2 h3 h4 h5 z6 zo6 hl6
     | false =>
      cases h4 : (decide (0 < ((List.length p0.fields) : Int))) with
      | true =>
       exact t_value_valid_6 p0 p1 H rec h0 h1 h2 h3 h4
      | false =>
       cases h5 : (decide (64 < ((List.length p0.list) : Int))) with
       | true =>
        exact t_value_valid_7 p0 p1 H rec h0 h1 h2 h3 h4 h5
       | false =>
        cases h6 : (decide (64 < ((List.length p0.fields) : Int))) with
        | true =>
         exact t_value_valid_8 p0 p1 H rec h0 h1 h2 h3 h4 h5 h6
        | false =>
         have hl7 := lt_value_valid_b0 p0 p1 ((give_value_valid p0 p1 H).2.1) rec p0.list 0 (by simp)
         cases hr7 : (l_value_valid_b0 p0 p1 p0.list 0) with
         | k0 =>
           rw [hr7] at hl7
           obtain ⟨z7, zo7, hl7⟩ := hl7
           try dsimp only
           have hl8 := lt_value_valid_b1 p0 p1 ((give_value_valid p0 p1 H).2.2.1) rec p0.fields 0 (by simp)
           cases hr8 : (l_value_valid_b1 p0 p1 p0.fields 0) with
           | k0 =>
             rw [hr8] at hl8
             obtain ⟨z8, zo8, hl8⟩ := hl8
             exact t_value_valid_9 p0 p1 H rec h0 h1 h2 h3 h4 h5 h6 z7 zo7 hl7 z8 zo8 hl8
           | k1 =>
             rw [hr8] at hl8
             obtain ⟨z8, zo8, hl8⟩ := hl8
             exact t_value_valid_10 p0 p1 H rec h0 h1 h2 h3 h4 h5 h6 z7 zo7 hl7 z8 zo8 hl8
         | k1 =>
           rw [hr7] at hl7
           obtain ⟨z7, zo7, hl7⟩ := hl7
           exact t_value_valid_11 p0 p1 H rec h0 h1 h2 h3 h4 h5 h6 z7 zo7 hl7
    | false =>
     cases h3 : (decide (0 < ((List.length p0.list) : Int))) with
     | true =>
      exact t_value_valid_12 p0 p1 H rec h0 h1 h2 h3
     | false =>
      cases h4 : (p0.kind == 5) with
      | true =>
       cases h5 : (decide (64 < ((List.length p0.list) : Int))) with
       | true =>
        exact t_value_valid_13 p0 p1 H rec h0 h1 h2 h3 h4 h5
       | false =>
        cases h6 : (decide (64 < ((List.length p0.fields) : Int))) with
        | true =>
         exact t_value_valid_14 p0 p1 H rec h0 h1 h2 h3 h4 h5 h6
        | false =>
         have hl7 := lt_value_valid_b0 p0 p1 ((give_value_valid p0 p1 H).2.1) rec p0.list 0 (by simp)
         cases hr7 : (l_value_valid_b0 p0 p1 p0.list 0) with
         | k0 =>
           rw [hr7] at hl7
           obtain ⟨z7, zo7, hl7⟩ := hl7
           try dsimp only
           have hl8 := lt_value_valid_b1 p0 p1 ((give_value_valid p0 p1 H).2.2.1) rec p0.fields 0 (by simp)
           cases hr8 : (l_value_valid_b1 p0 p1 p0.fields 0) with
           | k0 =>
             rw [hr8] at hl8
             obtain ⟨z8, zo8, hl8⟩ := hl8
             exact t_value_valid_15 p0 p1 H rec h0 h1 h2 h3 h4 h5 h6 z7 zo7 hl7 z8 zo8 hl8
           | k1 =>
             rw [hr8] at hl8
             obtain ⟨z8, zo8, hl8⟩ := hl8
             exact t_value_valid_16 p0 p1 H rec h0 h1 h2 h3 h4 h5 h6 z7 zo7 hl7 z8 zo8 hl8
         | k1 =>
           rw [hr7] at hl7
           obtain ⟨z7, zo7, hl7⟩ := hl7
           exact t_value_valid_17 p0 p1 H rec h0 h1 h2 h3 h4 h5 h6 z7 zo7 hl7
      | false =>
       cases h5 : (decide (0 < ((List.length p0.fields) : Int))) with
       | true =>
        exact t_value_valid_18 p0 p1 H rec h0 h1 h2 h3 h4 h5
       | false =>
        cases h6 : (decide (64 < ((List.length p0.list) : Int))) with
        | true =>
         exact t_value_valid_19 p0 p1 H rec h0 h1 h2 h3 h4 h5 h6
        | false =>
         cases h7 : (decide (64 < ((List.length p0.fields) : Int))) with
         | true =>
          exact t_value_valid_20 p0 p1 H rec h0 h1 h2 h3 h4 h5 h6 h7
         | false =>
          have hl8 := lt_value_valid_b0 p0 p1 ((give_value_valid p0 p1 H).2.1) rec p0.list 0 (by simp)
          cases hr8 : (l_value_valid_b0 p0 p1 p0.list 0) with
          | k0 =>
            rw [hr8] at hl8
            obtain ⟨z8, zo8, hl8⟩ := hl8
            try dsimp only
            have hl9 := lt_value_valid_b1 p0 p1 ((give_value_valid p0 p1 H).2.2.1) rec p0.fields 0 (by simp)
            cases hr9 : (l_value_valid_b1 p0 p1 p0.fields 0) with
            | k0 =>
              rw [hr9] at hl9
              obtain ⟨z9, zo9, hl9⟩ := hl9
              exact t_value_valid_21 p0 p1 H rec h0 h1 h2 h3 h4 h5 h6 h7 z8 zo8 hl8 z9 zo9 hl9
            | k1 =>
              rw [hr9] at hl9
              obtain ⟨z9, zo9, hl9⟩ := hl9
              exact t_value_valid_22 p0 p1 H rec h0 h1 h2 h3 h4 h5 h6 h7 z8 zo8 hl8 z9 zo9 hl9
          | k1 =>
            rw [hr8] at hl8
            obtain ⟨z8, zo8, hl8⟩ := hl8
            exact t_value_valid_23 p0 p1 H rec h0 h1 h2 h3 h4 h5 h6 h7 z8 zo8 hl8
   | false =>
    exact t_value_valid_24 p0 p1 H rec h0 h1
theorem i_value_valid : ∀ (k : Nat) (p0 : Val), SizeOf.sizeOf p0 < k → ∀ (p1 : Int), H_value_valid p0 → Tells G (c_value_valid p0 p1) (a_value_valid p0 p1)
  | 0, _, h, _, _ => absurd h (Nat.not_lt_zero _)
  | k + 1, p0, h, p1, H => r_value_valid p0 p1 H (fun q hq p1 hH => i_value_valid k q (by omega) p1 hH)
theorem t_value_valid (p0 : Val) (p1 : Int) (H : H_value_valid p0) : Tells G (c_value_valid p0 p1) (a_value_valid p0 p1) := i_value_valid _ p0 (Nat.lt_succ_self _) p1 H

inductive R_ref04_valid_b0 where
  | k0
  | k1
inductive R_ref04_valid_b1 where
  | k0
  | k1
mutual
/-- orchestrator/ orchestratorref04.valid -/
def s_ref04_valid (p0 : Val) (p1 : Int) : Bool :=
  bif (p1 == 0) then
    false
  else
    bif (s_ref04_scalar p0) then
      bif (decide (64 < ((List.length p0.list) : Int))) then
        false
      else
        bif (decide (64 < ((List.length p0.fields) : Int))) then
          false
        else
          bif (p0.kind == 4) then
            bif (p0.kind == 5) then
              (match (l_ref04_valid_b0 p0 p1 p0.list 0) with
              | .k0 => (match (l_ref04_valid_b1 p0 p1 p0.fields 0) with
                | .k0 => true
                | .k1 => false)
              | .k1 => false)
            else
              bif (decide (0 < ((List.length p0.fields) : Int))) then
                false
              else
                (match (l_ref04_valid_b0 p0 p1 p0.list 0) with
                | .k0 => (match (l_ref04_valid_b1 p0 p1 p0.fields 0) with
                  | .k0 => true
                  | .k1 => false)
                | .k1 => false)
          else
            bif (decide (0 < ((List.length p0.list) : Int))) then
              false
            else
              bif (p0.kind == 5) then
                (match (l_ref04_valid_b0 p0 p1 p0.list 0) with
                | .k0 => (match (l_ref04_valid_b1 p0 p1 p0.fields 0) with
                  | .k0 => true
                  | .k1 => false)
                | .k1 => false)
              else
                bif (decide (0 < ((List.length p0.fields) : Int))) then
                  false
                else
                  (match (l_ref04_valid_b0 p0 p1 p0.list 0) with
                  | .k0 => (match (l_ref04_valid_b1 p0 p1 p0.fields 0) with
                    | .k0 => true
                    | .k1 => false)
                  | .k1 => false)
    else
      false
termination_by SizeOf.sizeOf p0
decreasing_by all_goals first | exact Val.lt_list _ | exact Val.lt_fields _ | exact lt_head _ _ | exact lt_tail _ _ | exact lt_headv _ _
def l_ref04_valid_b0 (p0 : Val) (p1 : Int) : List Val → Nat → R_ref04_valid_b0
  | [], _i0 =>
    (.k0)
  | x0 :: r0, i0 =>
    bif (s_ref04_valid x0 (w64 (p1 - 1))) then
      l_ref04_valid_b0 p0 p1 r0 (i0 + 1)
    else
      (.k1)
termination_by l => SizeOf.sizeOf l
decreasing_by all_goals first | exact Val.lt_list _ | exact Val.lt_fields _ | exact lt_head _ _ | exact lt_tail _ _ | exact lt_headv _ _
def l_ref04_valid_b1 (p0 : Val) (p1 : Int) : List Fld → Nat → R_ref04_valid_b1
  | [], _i1 =>
    (.k0)
  | x1 :: r1, i1 =>
    bif (s_ref04_ValidField x1.name) then
      bif (decide (0 < (i1 : Int))) then
        bif ((sLt x1.name (List.getD p0.fields (Int.toNat (w64 ((i1 : Int) - 1))) (Fld.mk (⟨#[]⟩ : ByteArray) (Val.mk 0 0 (⟨#[]⟩ : ByteArray) [] []))).name) || (sEq x1.name (List.getD p0.fields (Int.toNat (w64 ((i1 : Int) - 1))) (Fld.mk (⟨#[]⟩ : ByteArray) (Val.mk 0 0 (⟨#[]⟩ : ByteArray) [] []))).name)) then
          (.k1)
        else
          bif (s_ref04_valid x1.v (w64 (p1 - 1))) then
            l_ref04_valid_b1 p0 p1 r1 (i1 + 1)
          else
            (.k1)
      else
        bif (s_ref04_valid x1.v (w64 (p1 - 1))) then
          l_ref04_valid_b1 p0 p1 r1 (i1 + 1)
        else
          (.k1)
    else
      (.k1)
termination_by l => SizeOf.sizeOf l
decreasing_by all_goals first | exact Val.lt_list _ | exact Val.lt_fields _ | exact lt_head _ _ | exact lt_tail _ _ | exact lt_headv _ _
end
def HE_ref04_valid_b0 (_p0 : Val) (p1 : Int) (i0 : Nat) : List PV :=
  [.un, .int .i64 p1, .bx 0 0, .un, .un, .int .i64 (i0 : Int), .un, .un, .un, .un, .un, .un, .un, .un, .un, .un, .un, .un, .un, .un, .un, .un, .un, .un, .un, .un, .un, .un, .un, .un, .un, .un, .un, .un, .un, .un, .un, .un, .un, .un, .un, .un, .un, .un, .un, .un, .un, .un, .un, .un, .un, .un, .un, .un, .un, .un, .un, .un, .un, .un, .un, .un, .un, .un, .un, .un, .un, .un, .un, .un, .un, .un, .un, .un, .un, .un, .un, .un, .un, .un, .un, .un, .un, .un, .un, .un, .un, .un, .un, .un, .un, .un, .un, .un, .un, .un, .un, .un, .un, .un, .un, .un, .un, .un, .un, .un, .un, .un, .un]
def HO_ref04_valid_b0 (p0 : Val) (_p1 : Int) (_i0 : Nat) : List Ob :=
  [⟨5, 0, true, [.int .i64 p0.kind, .int .i64 p0.n, .str p0.s, .sl (Val.rows p0.list), .sl (Fld.rows p0.fields)]⟩]
def E_ref04_valid_b0 (p0 : Val) (p1 : Int) (i0 : Nat) : En := .loop 0 Ir.ref04_valid_b0_live Ir.ref04_valid_b0 (HE_ref04_valid_b0 p0 p1 i0) (HO_ref04_valid_b0 p0 p1 i0)
def S_ref04_valid_b0_0 (p0 : Val) (p1 : Int) (z : Nat → PV) (_zo : Nat → List PV) : St :=
  ⟨[z 0, .int .i64 p1, .bx 0 0, z 3, z 4, z 5, z 6, z 7, z 8, z 9, z 10, z 11, z 12, z 13, z 14, z 15, z 16, z 17, z 18, z 19, z 20, z 21, z 22, z 23, z 24, z 25, z 26, z 27, z 28, z 29, z 30, z 31, z 32, z 33, z 34, z 35, z 36, z 37, z 38, z 39, z 40, z 41, z 42, z 43, z 44, z 45, z 46, z 47, z 48, z 49, z 50, z 51, z 52, z 53, z 54, z 55, z 56, z 57, z 58, z 59, z 60, z 61, z 62, z 63, z 64, z 65, z 66, z 67, z 68, z 69, z 70, z 71, z 72, z 73, z 74, z 75, z 76, z 77, z 78, z 79, z 80, z 81, z 82, z 83, z 84, z 85, z 86, z 87, z 88, z 89, z 90, z 91, z 92, z 93, z 94, z 95, z 96, z 97, z 98, z 99, z 100, z 101, z 102, z 103, z 104, z 105, z 106, z 107, z 108], [(0, ⟨5, 0, true, [.int .i64 p0.kind, .int .i64 p0.n, .str p0.s, .sl (Val.rows p0.list), .sl (Fld.rows p0.fields)]⟩)], 321⟩
def S_ref04_valid_b0_1 (_p0 : Val) (_p1 : Int) (z : Nat → PV) (zo : Nat → List PV) : St :=
  ⟨[z 0, z 1, z 2, z 3, .bool false, z 5, z 6, z 7, z 8, z 9, z 10, z 11, z 12, z 13, z 14, z 15, z 16, z 17, z 18, z 19, z 20, z 21, z 22, z 23, z 24, z 25, z 26, z 27, z 28, z 29, z 30, z 31, z 32, z 33, z 34, z 35, z 36, z 37, z 38, z 39, z 40, z 41, z 42, z 43, z 44, z 45, z 46, z 47, z 48, z 49, z 50, z 51, z 52, z 53, z 54, z 55, z 56, z 57, z 58, z 59, z 60, z 61, z 62, z 63, z 64, z 65, z 66, z 67, z 68, z 69, z 70, z 71, z 72, z 73, z 74, z 75, z 76, z 77, z 78, z 79, z 80, z 81, z 82, z 83, z 84, z 85, z 86, z 87, z 88, z 89, z 90, z 91, z 92, z 93, z 94, z 95, z 96, z 97, z 98, z 99, z 100, z 101, z 102, z 103, z 104, z 105, z 106, z 107, z 108], [(0, ⟨5, 0, true, zo 0⟩)], 961⟩
def P_ref04_valid_b0 (p0 : Val) (p1 : Int) (e : En) : R_ref04_valid_b0 → Prop
  | .k0 => ∃ z zo, Tells G e (.st (.exit 0) (S_ref04_valid_b0_0 p0 p1 z zo))
  | .k1 => ∃ z zo, Tells G e (.st .ret (S_ref04_valid_b0_1 p0 p1 z zo))
theorem P_ref04_valid_b0_mono (p0 : Val) (p1 : Int) {e e' : En} (h : ∀ r, Tells G e r → Tells G e' r) : ∀ q, P_ref04_valid_b0 p0 p1 e q → P_ref04_valid_b0 p0 p1 e' q
  | .k0, ⟨z, zo, hz⟩ => ⟨z, zo, h _ hz⟩
  | .k1, ⟨z, zo, hz⟩ => ⟨z, zo, h _ hz⟩
def HE_ref04_valid_b1 (_p0 : Val) (p1 : Int) (i1 : Nat) : List PV :=
  [.un, .int .i64 p1, .bx 0 0, .un, .un, .un, .int .i64 (i1 : Int), .un, .un, .un, .un, .un, .un, .un, .un, .un, .un, .un, .un, .un, .un, .un, .un, .un, .un, .un, .un, .un, .un, .un, .un, .un, .un, .un, .un, .un, .un, .un, .un, .un, .un, .un, .un, .un, .un, .un, .un, .un, .un, .un, .un, .un, .un, .un, .un, .un, .un, .un, .un, .un, .un, .un, .un, .un, .un, .un, .un, .un, .un, .un, .un, .un, .un, .un, .un, .un, .un, .un, .un, .un, .un, .un, .un, .un, .un, .un, .un, .un, .un, .un, .un, .un, .un, .un, .un, .un, .un, .un, .un, .un, .un, .un, .un, .un, .un, .un, .un, .un, .un]
def HO_ref04_valid_b1 (p0 : Val) (_p1 : Int) (_i1 : Nat) : List Ob :=
  [⟨5, 0, true, [.int .i64 p0.kind, .int .i64 p0.n, .str p0.s, .sl (Val.rows p0.list), .sl (Fld.rows p0.fields)]⟩]
def E_ref04_valid_b1 (p0 : Val) (p1 : Int) (i1 : Nat) : En := .loop 0 Ir.ref04_valid_b1_live Ir.ref04_valid_b1 (HE_ref04_valid_b1 p0 p1 i1) (HO_ref04_valid_b1 p0 p1 i1)
def S_ref04_valid_b1_0 (p0 : Val) (_p1 : Int) (z : Nat → PV) (_zo : Nat → List PV) : St :=
  ⟨[z 0, z 1, z 2, z 3, z 4, z 5, z 6, z 7, z 8, z 9, z 10, z 11, z 12, z 13, z 14, z 15, z 16, z 17, z 18, z 19, z 20, z 21, z 22, z 23, z 24, z 25, z 26, z 27, z 28, z 29, z 30, z 31, z 32, z 33, z 34, z 35, z 36, z 37, z 38, z 39, z 40, z 41, z 42, z 43, z 44, z 45, z 46, z 47, z 48, z 49, z 50, z 51, z 52, z 53, z 54, z 55, z 56, z 57, z 58, z 59, z 60, z 61, z 62, z 63, z 64, z 65, z 66, z 67, z 68, z 69, z 70, z 71, z 72, z 73, z 74, z 75, z 76, z 77, z 78, z 79, z 80, z 81, z 82, z 83, z 84, z 85, z 86, z 87, z 88, z 89, z 90, z 91, z 92, z 93, z 94, z 95, z 96, z 97, z 98, z 99, z 100, z 101, z 102, z 103, z 104, z 105, z 106, z 107, z 108], [(0, ⟨5, 0, true, [.int .i64 p0.kind, .int .i64 p0.n, .str p0.s, .sl (Val.rows p0.list), .sl (Fld.rows p0.fields)]⟩)], 321⟩
def S_ref04_valid_b1_1 (_p0 : Val) (_p1 : Int) (z : Nat → PV) (zo : Nat → List PV) : St :=
  ⟨[z 0, z 1, z 2, z 3, .bool false, z 5, z 6, z 7, z 8, z 9, z 10, z 11, z 12, z 13, z 14, z 15, z 16, z 17, z 18, z 19, z 20, z 21, z 22, z 23, z 24, z 25, z 26, z 27, z 28, z 29, z 30, z 31, z 32, z 33, z 34, z 35, z 36, z 37, z 38, z 39, z 40, z 41, z 42, z 43, z 44, z 45, z 46, z 47, z 48, z 49, z 50, z 51, z 52, z 53, z 54, z 55, z 56, z 57, z 58, z 59, z 60, z 61, z 62, z 63, z 64, z 65, z 66, z 67, z 68, z 69, z 70, z 71, z 72, z 73, z 74, z 75, z 76, z 77, z 78, z 79, z 80, z 81, z 82, z 83, z 84, z 85, z 86, z 87, z 88, z 89, z 90, z 91, z 92, z 93, z 94, z 95, z 96, z 97, z 98, z 99, z 100, z 101, z 102, z 103, z 104, z 105, z 106, z 107, z 108], [(0, ⟨5, 0, true, zo 0⟩)], 2945⟩
def P_ref04_valid_b1 (p0 : Val) (p1 : Int) (e : En) : R_ref04_valid_b1 → Prop
  | .k0 => ∃ z zo, Tells G e (.st (.exit 2) (S_ref04_valid_b1_0 p0 p1 z zo))
  | .k1 => ∃ z zo, Tells G e (.st .ret (S_ref04_valid_b1_1 p0 p1 z zo))
theorem P_ref04_valid_b1_mono (p0 : Val) (p1 : Int) {e e' : En} (h : ∀ r, Tells G e r → Tells G e' r) : ∀ q, P_ref04_valid_b1 p0 p1 e q → P_ref04_valid_b1 p0 p1 e' q
  | .k0, ⟨z, zo, hz⟩ => ⟨z, zo, h _ hz⟩
  | .k1, ⟨z, zo, hz⟩ => ⟨z, zo, h _ hz⟩
def c_ref04_valid (p0 : Val) (p1 : Int) : En := .call 40 [.agg (Val.cells p0), .int .i64 p1] []
def a_ref04_valid (p0 : Val) (p1 : Int) : Rs := .ret (.bool (s_ref04_valid p0 p1)) []
abbrev H_ref04_valid (p0 : Val) : Prop := Val_ok p0
def Rec_ref04_valid (p0 : Val) : Prop := ∀ (q : Val), SizeOf.sizeOf q < SizeOf.sizeOf p0 → ∀ (p1 : Int), H_ref04_valid q → Tells G (c_ref04_valid q p1) (a_ref04_valid q p1)
def H_ref04_valid_b0 (p0 : Val) (_p1 : Int) : Prop := (List.length p0.list ≤ 4611686018427387904) ∧ (∀ x0 ∈ p0.list, H_ref04_valid x0) ∧ True
def H_ref04_valid_b1 (p0 : Val) (_p1 : Int) : Prop := (List.length p0.fields ≤ 4611686018427387904) ∧ (∀ x1 ∈ p0.fields, H_ref04_ValidField x1.name) ∧ (∀ (i1 : Nat) (x1 : Fld), p0.fields[i1]? = some x1 → (decide (0 < (i1 : Int))) = true → 0 ≤ (w64 ((i1 : Int) - 1))) ∧ (∀ (i1 : Nat) (x1 : Fld), p0.fields[i1]? = some x1 → (decide (0 < (i1 : Int))) = true → Int.toNat (w64 ((i1 : Int) - 1)) < List.length p0.fields) ∧ (∀ x1 ∈ p0.fields, H_ref04_valid x1.v) ∧ True
theorem give_ref04_valid (p0 : Val) (p1 : Int) (H : H_ref04_valid p0) : (H_ref04_scalar p0) ∧ (H_ref04_valid_b0 p0 p1) ∧ (H_ref04_valid_b1 p0 p1) ∧ True := by
  obtain ⟨_, _, h3, hl, hf, sl, sf⟩ := H.all
  unfold okS at h3
  have nm : ∀ x ∈ p0.fields, H_ref04_ValidField x.name := fun x hx => by
    have := (sf x hx).1
    unfold okS at this
    exact ⟨⟨by rw [lettersLen]; omega, trivial⟩, trivial⟩
  have ix : ∀ (i1 : Nat) (x1 : Fld), p0.fields[i1]? = some x1 → decide (0 < (i1 : Int)) = true → 0 ≤ w64 ((i1 : Int) - 1) ∧ Int.toNat (w64 ((i1 : Int) - 1)) < p0.fields.length := fun i x hx h => by
    have h0 := of_decide_eq_true h
    have h1 := (List.getElem?_eq_some_iff.1 hx).1
    rw [w64_of (by omega)]
    omega
  exact ⟨⟨⟨⟨by rw [lettersLen]; omega, trivial⟩, trivial⟩, trivial⟩, ⟨by omega, sl, trivial⟩, ⟨by omega, nm, fun i x a b => (ix i x a b).1, fun i x a b => (ix i x a b).2, fun x hx => (sf x hx).2, trivial⟩, trivial⟩
def Z_ref04_valid_b0_0 (p0 : Val) (_p1 : Int) (i0 : Nat) : List PV :=
  [.un, .un, .un, .un, .un, .int .i64 (i0 : Int), .un, .un, .un, .un, .un, .un, .un, .un, .un, .un, .un, .un, .un, .un, .un, .un, .un, .un, .un, .un, .un, .un, .un, .un, .un, .un, .un, .un, .un, .un, .un, .un, .un, .un, .un, .un, .un, .un, .un, .un, .int .i64 (i0 : Int), .bx 0 3, .sl (Val.rows p0.list), .int .i64 ((List.length p0.list) : Int), .bool false]
def ZO_ref04_valid_b0_0 (_p0 : Val) (_p1 : Int) (_i0 : Nat) : List (Nat × List PV) :=
  []
theorem x_ref04_valid_b0_0 (p0 : Val) (p1 : Int) (_H : H_ref04_valid_b0 p0 p1) (_rec : Rec_ref04_valid p0) (i0 : Nat) (hc0 : (decide ((i0 : Int) < ((List.length p0.list) : Int))) = false) : P_ref04_valid_b0 p0 p1 (E_ref04_valid_b0 p0 p1 i0) (.k0) := by
  exact ⟨(envF (Z_ref04_valid_b0_0 p0 p1 i0)), (zoF (ZO_ref04_valid_b0_0 p0 p1 i0)), tells_outVI VOK.nil (x := ((.exit 0), S_ref04_valid_b0_0 p0 p1 (envF (Z_ref04_valid_b0_0 p0 p1 i0)) (zoF (ZO_ref04_valid_b0_0 p0 p1 i0)))) [hP 3 (len_ok (Val.rows p0.list) (List.length p0.list) (Val.rowsLen p0.list)), hB 0 hc0] [] (by kernel_rfl)⟩
theorem n_ref04_valid_b0_1 (p0 : Val) (p1 : Int) (H : H_ref04_valid_b0 p0 p1) (rec : Rec_ref04_valid p0) (x0 : Val) (i0 : Nat) (hx0 : p0.list[i0]? = some x0) (hi0 : i0 < List.length p0.list) (hc0 : (decide ((i0 : Int) < ((List.length p0.list) : Int))) = true) (h0 : (s_ref04_valid x0 (w64 (p1 - 1))) = true) {r : Rs} (hr : Tells G (E_ref04_valid_b0 p0 p1 (i0 + 1)) r) : Tells G (E_ref04_valid_b0 p0 p1 i0) r := by
  have hB0 := H.1
  exact tells_nextVI VOK.nil (y := (HE_ref04_valid_b0 p0 p1 (i0 + 1), HO_ref04_valid_b0 p0 p1 (i0 + 1))) [hP 3 (len_ok (Val.rows p0.list) (List.length p0.list) (Val.rowsLen p0.list)), hB 0 hc0, hP 3 (ix_ok 5 (Val.rows p0.list) i0 _ (Val.rowsGet hx0) rfl), hP 6 (inc_ok i0 (by omega))] [aB (rec x0 (szL hx0) (w64 (p1 - 1)) (H.2.1 x0 (mem_get hx0))) h0] (by kernel_rfl) hr
def Z_ref04_valid_b0_2 (p0 : Val) (p1 : Int) (i0 : Nat) (x0 : Val) : List PV :=
  [.un, .int .i64 p1, .bx 0 0, .un, .un, .int .i64 (i0 : Int), .un, .un, .un, .un, .un, .un, .un, .un, .un, .un, .un, .un, .un, .un, .un, .un, .un, .un, .un, .un, .un, .un, .un, .un, .un, .un, .un, .un, .un, .un, .un, .un, .un, .un, .un, .un, .un, .un, .un, .un, .int .i64 (i0 : Int), .bx 0 3, .sl (Val.rows p0.list), .int .i64 ((List.length p0.list) : Int), .bool true, .un, .un, .bx 0 3, .sl (Val.rows p0.list), .int .i64 (i0 : Int), .rf [.int .i64 x0.kind, .int .i64 x0.n, .str x0.s, .sl (Val.rows x0.list), .sl (Fld.rows x0.fields)], .agg [.int .i64 x0.kind, .int .i64 x0.n, .str x0.s, .sl (Val.rows x0.list), .sl (Fld.rows x0.fields)], .int .i64 p1, .int .i64 (w64 (p1 - 1)), .bool false, .bool true]
def ZO_ref04_valid_b0_2 (p0 : Val) (_p1 : Int) (_i0 : Nat) (_x0 : Val) : List (Nat × List PV) :=
  [(0, [.int .i64 p0.kind, .int .i64 p0.n, .str p0.s, .sl (Val.rows p0.list), .sl (Fld.rows p0.fields)])]
theorem x_ref04_valid_b0_2 (p0 : Val) (p1 : Int) (H : H_ref04_valid_b0 p0 p1) (rec : Rec_ref04_valid p0) (x0 : Val) (i0 : Nat) (hx0 : p0.list[i0]? = some x0) (_hi0 : i0 < List.length p0.list) (hc0 : (decide ((i0 : Int) < ((List.length p0.list) : Int))) = true) (h0 : (s_ref04_valid x0 (w64 (p1 - 1))) = false) : P_ref04_valid_b0 p0 p1 (E_ref04_valid_b0 p0 p1 i0) (.k1) := by
  exact ⟨(envF (Z_ref04_valid_b0_2 p0 p1 i0 x0)), (zoF (ZO_ref04_valid_b0_2 p0 p1 i0 x0)), tells_outVI VOK.nil (x := (.ret, S_ref04_valid_b0_1 p0 p1 (envF (Z_ref04_valid_b0_2 p0 p1 i0 x0)) (zoF (ZO_ref04_valid_b0_2 p0 p1 i0 x0)))) [hP 3 (len_ok (Val.rows p0.list) (List.length p0.list) (Val.rowsLen p0.list)), hB 0 hc0, hP 3 (ix_ok 5 (Val.rows p0.list) i0 _ (Val.rowsGet hx0) rfl)] [aB (rec x0 (szL hx0) (w64 (p1 - 1)) (H.2.1 x0 (mem_get hx0))) h0] (by kernel_rfl)⟩
theorem lt_ref04_valid_b0 (p0 : Val) (p1 : Int) (H : H_ref04_valid_b0 p0 p1) (rec : Rec_ref04_valid p0) : ∀ (r0 : List Val) (i0 : Nat), List.drop i0 p0.list = r0 → P_ref04_valid_b0 p0 p1 (E_ref04_valid_b0 p0 p1 i0) (l_ref04_valid_b0 p0 p1 r0 i0)
  | [], i0, hd => by
    have hc0 : (decide ((i0 : Int) < ((List.length p0.list) : Int))) = false := by have := drop_end hd; simp; omega
    rw [l_ref04_valid_b0]
    exact x_ref04_valid_b0_0 p0 p1 H rec i0 hc0
  | x0 :: r0, i0, hd => by
    obtain ⟨hx0, hi0, hd'⟩ := drop_get hd
    have hc0 : (decide ((i0 : Int) < ((List.length p0.list) : Int))) = true := by simp; omega
    rw [l_ref04_valid_b0]
    cases h0 : (s_ref04_valid x0 (w64 (p1 - 1))) with
    | true =>
     exact P_ref04_valid_b0_mono p0 p1 (fun r hr => n_ref04_valid_b0_1 p0 p1 H rec x0 i0 hx0 hi0 hc0 h0 hr) _ (lt_ref04_valid_b0 p0 p1 H rec r0 (i0 + 1) hd')
    | false =>
     exact x_ref04_valid_b0_2 p0 p1 H rec x0 i0 hx0 hi0 hc0 h0
def Z_ref04_valid_b1_0 (p0 : Val) (p1 : Int) (i1 : Nat) : List PV :=
  [.un, .int .i64 p1, .bx 0 0, .un, .un, .un, .int .i64 (i1 : Int), .un, .un, .un, .un, .un, .un, .un, .un, .un, .un, .un, .un, .un, .un, .un, .un, .un, .un, .un, .un, .un, .un, .un, .un, .un, .un, .un, .un, .un, .un, .un, .un, .un, .un, .un, .un, .un, .un, .un, .un, .un, .un, .un, .un, .un, .un, .un, .un, .un, .un, .un, .un, .un, .un, .un, .int .i64 (i1 : Int), .bx 0 4, .sl (Fld.rows p0.fields), .int .i64 ((List.length p0.fields) : Int), .bool false]
def ZO_ref04_valid_b1_0 (_p0 : Val) (_p1 : Int) (_i1 : Nat) : List (Nat × List PV) :=
  []
theorem x_ref04_valid_b1_0 (p0 : Val) (p1 : Int) (_H : H_ref04_valid_b1 p0 p1) (_rec : Rec_ref04_valid p0) (i1 : Nat) (hc1 : (decide ((i1 : Int) < ((List.length p0.fields) : Int))) = false) : P_ref04_valid_b1 p0 p1 (E_ref04_valid_b1 p0 p1 i1) (.k0) := by
  exact ⟨(envF (Z_ref04_valid_b1_0 p0 p1 i1)), (zoF (ZO_ref04_valid_b1_0 p0 p1 i1)), tells_outVI VOK.nil (x := ((.exit 2), S_ref04_valid_b1_0 p0 p1 (envF (Z_ref04_valid_b1_0 p0 p1 i1)) (zoF (ZO_ref04_valid_b1_0 p0 p1 i1)))) [hP 3 (len_ok (Fld.rows p0.fields) (List.length p0.fields) (Fld.rowsLen p0.fields)), hB 0 hc1] [] (by kernel_rfl)⟩
def Z_ref04_valid_b1_1 (p0 : Val) (p1 : Int) (i1 : Nat) (x1 : Fld) : List PV :=
  [.un, .int .i64 p1, .bx 0 0, .un, .un, .un, .int .i64 (i1 : Int), .un, .un, .un, .un, .un, .un, .un, .un, .un, .un, .un, .un, .un, .un, .un, .un, .un, .un, .un, .un, .un, .un, .un, .un, .un, .un, .un, .un, .un, .un, .un, .un, .un, .un, .un, .un, .un, .un, .un, .un, .un, .un, .un, .un, .un, .un, .un, .un, .un, .un, .un, .un, .un, .un, .un, .int .i64 (i1 : Int), .bx 0 4, .sl (Fld.rows p0.fields), .int .i64 ((List.length p0.fields) : Int), .bool true, .un, .un, .bx 0 4, .sl (Fld.rows p0.fields), .int .i64 (i1 : Int), .rf [.str x1.name, .int .i64 x1.v.kind, .int .i64 x1.v.n, .str x1.v.s, .sl (Val.rows x1.v.list), .sl (Fld.rows x1.v.fields)], .rf [.str x1.name, .int .i64 x1.v.kind, .int .i64 x1.v.n, .str x1.v.s, .sl (Val.rows x1.v.list), .sl (Fld.rows x1.v.fields)], .str x1.name, .bool true, .bool false, .bool false, .int .i64 (i1 : Int), .bool true, .bool true, .bx 0 4, .sl (Fld.rows p0.fields), .int .i64 (i1 : Int), .rf [.str x1.name, .int .i64 x1.v.kind, .int .i64 x1.v.n, .str x1.v.s, .sl (Val.rows x1.v.list), .sl (Fld.rows x1.v.fields)], .rf [.str x1.name, .int .i64 x1.v.kind, .int .i64 x1.v.n, .str x1.v.s, .sl (Val.rows x1.v.list), .sl (Fld.rows x1.v.fields)], .str x1.name, .bx 0 4, .sl (Fld.rows p0.fields), .int .i64 (i1 : Int), .int .i64 (w64 ((i1 : Int) - 1)), .rf [.str (List.getD p0.fields (Int.toNat (w64 ((i1 : Int) - 1))) (Fld.mk (⟨#[]⟩ : ByteArray) (Val.mk 0 0 (⟨#[]⟩ : ByteArray) [] []))).name, .int .i64 (List.getD p0.fields (Int.toNat (w64 ((i1 : Int) - 1))) (Fld.mk (⟨#[]⟩ : ByteArray) (Val.mk 0 0 (⟨#[]⟩ : ByteArray) [] []))).v.kind, .int .i64 (List.getD p0.fields (Int.toNat (w64 ((i1 : Int) - 1))) (Fld.mk (⟨#[]⟩ : ByteArray) (Val.mk 0 0 (⟨#[]⟩ : ByteArray) [] []))).v.n, .str (List.getD p0.fields (Int.toNat (w64 ((i1 : Int) - 1))) (Fld.mk (⟨#[]⟩ : ByteArray) (Val.mk 0 0 (⟨#[]⟩ : ByteArray) [] []))).v.s, .sl (Val.rows (List.getD p0.fields (Int.toNat (w64 ((i1 : Int) - 1))) (Fld.mk (⟨#[]⟩ : ByteArray) (Val.mk 0 0 (⟨#[]⟩ : ByteArray) [] []))).v.list), .sl (Fld.rows (List.getD p0.fields (Int.toNat (w64 ((i1 : Int) - 1))) (Fld.mk (⟨#[]⟩ : ByteArray) (Val.mk 0 0 (⟨#[]⟩ : ByteArray) [] []))).v.fields)], .rf [.str (List.getD p0.fields (Int.toNat (w64 ((i1 : Int) - 1))) (Fld.mk (⟨#[]⟩ : ByteArray) (Val.mk 0 0 (⟨#[]⟩ : ByteArray) [] []))).name, .int .i64 (List.getD p0.fields (Int.toNat (w64 ((i1 : Int) - 1))) (Fld.mk (⟨#[]⟩ : ByteArray) (Val.mk 0 0 (⟨#[]⟩ : ByteArray) [] []))).v.kind, .int .i64 (List.getD p0.fields (Int.toNat (w64 ((i1 : Int) - 1))) (Fld.mk (⟨#[]⟩ : ByteArray) (Val.mk 0 0 (⟨#[]⟩ : ByteArray) [] []))).v.n, .str (List.getD p0.fields (Int.toNat (w64 ((i1 : Int) - 1))) (Fld.mk (⟨#[]⟩ : ByteArray) (Val.mk 0 0 (⟨#[]⟩ : ByteArray) [] []))).v.s, .sl (Val.rows (List.getD p0.fields (Int.toNat (w64 ((i1 : Int) - 1))) (Fld.mk (⟨#[]⟩ : ByteArray) (Val.mk 0 0 (⟨#[]⟩ : ByteArray) [] []))).v.list), .sl (Fld.rows (List.getD p0.fields (Int.toNat (w64 ((i1 : Int) - 1))) (Fld.mk (⟨#[]⟩ : ByteArray) (Val.mk 0 0 (⟨#[]⟩ : ByteArray) [] []))).v.fields)], .str (List.getD p0.fields (Int.toNat (w64 ((i1 : Int) - 1))) (Fld.mk (⟨#[]⟩ : ByteArray) (Val.mk 0 0 (⟨#[]⟩ : ByteArray) [] []))).name, .bool true, .bool true, .bool true, .bool true, .tup [], .tup [], .tup [], .tup [], .tup [], .tup [], .tup [], .tup [], .tup [], .tup [], .bool true]
def ZO_ref04_valid_b1_1 (p0 : Val) (_p1 : Int) (_i1 : Nat) (_x1 : Fld) : List (Nat × List PV) :=
  [(0, [.int .i64 p0.kind, .int .i64 p0.n, .str p0.s, .sl (Val.rows p0.list), .sl (Fld.rows p0.fields)])]
theorem x_ref04_valid_b1_1 (p0 : Val) (p1 : Int) (H : H_ref04_valid_b1 p0 p1) (_rec : Rec_ref04_valid p0) (x1 : Fld) (i1 : Nat) (hx1 : p0.fields[i1]? = some x1) (_hi1 : i1 < List.length p0.fields) (hc1 : (decide ((i1 : Int) < ((List.length p0.fields) : Int))) = true) (h0 : (s_ref04_ValidField x1.name) = true) (h1 : (decide (0 < (i1 : Int))) = true) (h2 : ((sLt x1.name (List.getD p0.fields (Int.toNat (w64 ((i1 : Int) - 1))) (Fld.mk (⟨#[]⟩ : ByteArray) (Val.mk 0 0 (⟨#[]⟩ : ByteArray) [] []))).name) || (sEq x1.name (List.getD p0.fields (Int.toNat (w64 ((i1 : Int) - 1))) (Fld.mk (⟨#[]⟩ : ByteArray) (Val.mk 0 0 (⟨#[]⟩ : ByteArray) [] []))).name)) = true) : P_ref04_valid_b1 p0 p1 (E_ref04_valid_b1 p0 p1 i1) (.k1) := by
  exact ⟨(envF (Z_ref04_valid_b1_1 p0 p1 i1 x1)), (zoF (ZO_ref04_valid_b1_1 p0 p1 i1 x1)), tells_outVI VOK.nil (x := (.ret, S_ref04_valid_b1_1 p0 p1 (envF (Z_ref04_valid_b1_1 p0 p1 i1 x1)) (zoF (ZO_ref04_valid_b1_1 p0 p1 i1 x1)))) [hP 3 (len_ok (Fld.rows p0.fields) (List.length p0.fields) (Fld.rowsLen p0.fields)), hB 0 hc1, hP 3 (ix_ok 6 (Fld.rows p0.fields) i1 _ (Fld.rowsGet hx1) rfl), hB 6 h1, hP 4 (ix_ok 6 (Fld.rows p0.fields) i1 _ (Fld.rowsGet hx1) rfl), hP 6 (ixI_ok 6 (Fld.rows p0.fields) (w64 ((i1 : Int) - 1)) _ ((H.2.2.1 i1 x1 hx1) h1) (Fld.rowsGet (getD_ok p0.fields (Int.toNat (w64 ((i1 : Int) - 1))) (Fld.mk (⟨#[]⟩ : ByteArray) (Val.mk 0 0 (⟨#[]⟩ : ByteArray) [] [])) ((H.2.2.2.1 i1 x1 hx1) h1))) rfl), hB 2 h2] [aB (t_ref04_ValidField x1.name (H.2.1 x1 (mem_get hx1))) h0] (by kernel_rfl)⟩
theorem n_ref04_valid_b1_2 (p0 : Val) (p1 : Int) (H : H_ref04_valid_b1 p0 p1) (rec : Rec_ref04_valid p0) (x1 : Fld) (i1 : Nat) (hx1 : p0.fields[i1]? = some x1) (hi1 : i1 < List.length p0.fields) (hc1 : (decide ((i1 : Int) < ((List.length p0.fields) : Int))) = true) (h0 : (s_ref04_ValidField x1.name) = true) (h1 : (decide (0 < (i1 : Int))) = true) (h2 : ((sLt x1.name (List.getD p0.fields (Int.toNat (w64 ((i1 : Int) - 1))) (Fld.mk (⟨#[]⟩ : ByteArray) (Val.mk 0 0 (⟨#[]⟩ : ByteArray) [] []))).name) || (sEq x1.name (List.getD p0.fields (Int.toNat (w64 ((i1 : Int) - 1))) (Fld.mk (⟨#[]⟩ : ByteArray) (Val.mk 0 0 (⟨#[]⟩ : ByteArray) [] []))).name)) = false) (h3 : (s_ref04_valid x1.v (w64 (p1 - 1))) = true) {r : Rs} (hr : Tells G (E_ref04_valid_b1 p0 p1 (i1 + 1)) r) : Tells G (E_ref04_valid_b1 p0 p1 i1) r := by
  have hB0 := H.1; have e1 := of_decide_eq_true h1
  exact tells_nextVI VOK.nil (y := (HE_ref04_valid_b1 p0 p1 (i1 + 1), HO_ref04_valid_b1 p0 p1 (i1 + 1))) [hP 3 (len_ok (Fld.rows p0.fields) (List.length p0.fields) (Fld.rowsLen p0.fields)), hB 0 hc1, hP 3 (ix_ok 6 (Fld.rows p0.fields) i1 _ (Fld.rowsGet hx1) rfl), hB 6 h1, hP 4 (ix_ok 6 (Fld.rows p0.fields) i1 _ (Fld.rowsGet hx1) rfl), hP 6 (ixI_ok 6 (Fld.rows p0.fields) (w64 ((i1 : Int) - 1)) _ ((H.2.2.1 i1 x1 hx1) h1) (Fld.rowsGet (getD_ok p0.fields (Int.toNat (w64 ((i1 : Int) - 1))) (Fld.mk (⟨#[]⟩ : ByteArray) (Val.mk 0 0 (⟨#[]⟩ : ByteArray) [] [])) ((H.2.2.2.1 i1 x1 hx1) h1))) rfl), hB 2 h2, hP 6 (ix_ok 6 (Fld.rows p0.fields) i1 _ (Fld.rowsGet hx1) rfl), hP 8 (inc_ok i1 (by omega))] [aB (t_ref04_ValidField x1.name (H.2.1 x1 (mem_get hx1))) h0, aB (rec x1.v (szF hx1) (w64 (p1 - 1)) (H.2.2.2.2.1 x1 (mem_get hx1))) h3] (by kernel_rfl) hr
def Z_ref04_valid_b1_3 (p0 : Val) (p1 : Int) (i1 : Nat) (x1 : Fld) : List PV :=
  [.un, .int .i64 p1, .bx 0 0, .un, .un, .un, .int .i64 (i1 : Int), .un, .un, .un, .un, .un, .un, .un, .un, .un, .un, .un, .un, .un, .un, .un, .un, .un, .un, .un, .un, .un, .un, .un, .un, .un, .un, .un, .un, .un, .un, .un, .un, .un, .un, .un, .un, .un, .un, .un, .un, .un, .un, .un, .un, .un, .un, .un, .un, .un, .un, .un, .un, .un, .un, .un, .int .i64 (i1 : Int), .bx 0 4, .sl (Fld.rows p0.fields), .int .i64 ((List.length p0.fields) : Int), .bool true, .un, .un, .bx 0 4, .sl (Fld.rows p0.fields), .int .i64 (i1 : Int), .rf [.str x1.name, .int .i64 x1.v.kind, .int .i64 x1.v.n, .str x1.v.s, .sl (Val.rows x1.v.list), .sl (Fld.rows x1.v.fields)], .rf [.str x1.name, .int .i64 x1.v.kind, .int .i64 x1.v.n, .str x1.v.s, .sl (Val.rows x1.v.list), .sl (Fld.rows x1.v.fields)], .str x1.name, .bool true, .bool false, .bool false, .int .i64 (i1 : Int), .bool true, .bool true, .bx 0 4, .sl (Fld.rows p0.fields), .int .i64 (i1 : Int), .rf [.str x1.name, .int .i64 x1.v.kind, .int .i64 x1.v.n, .str x1.v.s, .sl (Val.rows x1.v.list), .sl (Fld.rows x1.v.fields)], .rf [.str x1.name, .int .i64 x1.v.kind, .int .i64 x1.v.n, .str x1.v.s, .sl (Val.rows x1.v.list), .sl (Fld.rows x1.v.fields)], .str x1.name, .bx 0 4, .sl (Fld.rows p0.fields), .int .i64 (i1 : Int), .int .i64 (w64 ((i1 : Int) - 1)), .rf [.str (List.getD p0.fields (Int.toNat (w64 ((i1 : Int) - 1))) (Fld.mk (⟨#[]⟩ : ByteArray) (Val.mk 0 0 (⟨#[]⟩ : ByteArray) [] []))).name, .int .i64 (List.getD p0.fields (Int.toNat (w64 ((i1 : Int) - 1))) (Fld.mk (⟨#[]⟩ : ByteArray) (Val.mk 0 0 (⟨#[]⟩ : ByteArray) [] []))).v.kind, .int .i64 (List.getD p0.fields (Int.toNat (w64 ((i1 : Int) - 1))) (Fld.mk (⟨#[]⟩ : ByteArray) (Val.mk 0 0 (⟨#[]⟩ : ByteArray) [] []))).v.n, .str (List.getD p0.fields (Int.toNat (w64 ((i1 : Int) - 1))) (Fld.mk (⟨#[]⟩ : ByteArray) (Val.mk 0 0 (⟨#[]⟩ : ByteArray) [] []))).v.s, .sl (Val.rows (List.getD p0.fields (Int.toNat (w64 ((i1 : Int) - 1))) (Fld.mk (⟨#[]⟩ : ByteArray) (Val.mk 0 0 (⟨#[]⟩ : ByteArray) [] []))).v.list), .sl (Fld.rows (List.getD p0.fields (Int.toNat (w64 ((i1 : Int) - 1))) (Fld.mk (⟨#[]⟩ : ByteArray) (Val.mk 0 0 (⟨#[]⟩ : ByteArray) [] []))).v.fields)], .rf [.str (List.getD p0.fields (Int.toNat (w64 ((i1 : Int) - 1))) (Fld.mk (⟨#[]⟩ : ByteArray) (Val.mk 0 0 (⟨#[]⟩ : ByteArray) [] []))).name, .int .i64 (List.getD p0.fields (Int.toNat (w64 ((i1 : Int) - 1))) (Fld.mk (⟨#[]⟩ : ByteArray) (Val.mk 0 0 (⟨#[]⟩ : ByteArray) [] []))).v.kind, .int .i64 (List.getD p0.fields (Int.toNat (w64 ((i1 : Int) - 1))) (Fld.mk (⟨#[]⟩ : ByteArray) (Val.mk 0 0 (⟨#[]⟩ : ByteArray) [] []))).v.n, .str (List.getD p0.fields (Int.toNat (w64 ((i1 : Int) - 1))) (Fld.mk (⟨#[]⟩ : ByteArray) (Val.mk 0 0 (⟨#[]⟩ : ByteArray) [] []))).v.s, .sl (Val.rows (List.getD p0.fields (Int.toNat (w64 ((i1 : Int) - 1))) (Fld.mk (⟨#[]⟩ : ByteArray) (Val.mk 0 0 (⟨#[]⟩ : ByteArray) [] []))).v.list), .sl (Fld.rows (List.getD p0.fields (Int.toNat (w64 ((i1 : Int) - 1))) (Fld.mk (⟨#[]⟩ : ByteArray) (Val.mk 0 0 (⟨#[]⟩ : ByteArray) [] []))).v.fields)], .str (List.getD p0.fields (Int.toNat (w64 ((i1 : Int) - 1))) (Fld.mk (⟨#[]⟩ : ByteArray) (Val.mk 0 0 (⟨#[]⟩ : ByteArray) [] []))).name, .bool false, .bool false, .bool false, .bool false, .bx 0 4, .sl (Fld.rows p0.fields), .int .i64 (i1 : Int), .rf [.str x1.name, .int .i64 x1.v.kind, .int .i64 x1.v.n, .str x1.v.s, .sl (Val.rows x1.v.list), .sl (Fld.rows x1.v.fields)], .rf [.int .i64 x1.v.kind, .int .i64 x1.v.n, .str x1.v.s, .sl (Val.rows x1.v.list), .sl (Fld.rows x1.v.fields)], .agg [.int .i64 x1.v.kind, .int .i64 x1.v.n, .str x1.v.s, .sl (Val.rows x1.v.list), .sl (Fld.rows x1.v.fields)], .int .i64 p1, .int .i64 (w64 (p1 - 1)), .bool false, .bool true, .bool true]
def ZO_ref04_valid_b1_3 (p0 : Val) (_p1 : Int) (_i1 : Nat) (_x1 : Fld) : List (Nat × List PV) :=
  [(0, [.int .i64 p0.kind, .int .i64 p0.n, .str p0.s, .sl (Val.rows p0.list), .sl (Fld.rows p0.fields)])]
theorem x_ref04_valid_b1_3 (p0 : Val) (p1 : Int) (H : H_ref04_valid_b1 p0 p1) (rec : Rec_ref04_valid p0) (x1 : Fld) (i1 : Nat) (hx1 : p0.fields[i1]? = some x1) (_hi1 : i1 < List.length p0.fields) (hc1 : (decide ((i1 : Int) < ((List.length p0.fields) : Int))) = true) (h0 : (s_ref04_ValidField x1.name) = true) (h1 : (decide (0 < (i1 : Int))) = true) (h2 : ((sLt x1.name (List.getD p0.fields (Int.toNat (w64 ((i1 : Int) - 1))) (Fld.mk (⟨#[]⟩ : ByteArray) (Val.mk 0 0 (⟨#[]⟩ : ByteArray) [] []))).name) || (sEq x1.name (List.getD p0.fields (Int.toNat (w64 ((i1 : Int) - 1))) (Fld.mk (⟨#[]⟩ : ByteArray) (Val.mk 0 0 (⟨#[]⟩ : ByteArray) [] []))).name)) = false) (h3 : (s_ref04_valid x1.v (w64 (p1 - 1))) = false) : P_ref04_valid_b1 p0 p1 (E_ref04_valid_b1 p0 p1 i1) (.k1) := by
  exact ⟨(envF (Z_ref04_valid_b1_3 p0 p1 i1 x1)), (zoF (ZO_ref04_valid_b1_3 p0 p1 i1 x1)), tells_outVI VOK.nil (x := (.ret, S_ref04_valid_b1_1 p0 p1 (envF (Z_ref04_valid_b1_3 p0 p1 i1 x1)) (zoF (ZO_ref04_valid_b1_3 p0 p1 i1 x1)))) [hP 3 (len_ok (Fld.rows p0.fields) (List.length p0.fields) (Fld.rowsLen p0.fields)), hB 0 hc1, hP 3 (ix_ok 6 (Fld.rows p0.fields) i1 _ (Fld.rowsGet hx1) rfl), hB 6 h1, hP 4 (ix_ok 6 (Fld.rows p0.fields) i1 _ (Fld.rowsGet hx1) rfl), hP 6 (ixI_ok 6 (Fld.rows p0.fields) (w64 ((i1 : Int) - 1)) _ ((H.2.2.1 i1 x1 hx1) h1) (Fld.rowsGet (getD_ok p0.fields (Int.toNat (w64 ((i1 : Int) - 1))) (Fld.mk (⟨#[]⟩ : ByteArray) (Val.mk 0 0 (⟨#[]⟩ : ByteArray) [] [])) ((H.2.2.2.1 i1 x1 hx1) h1))) rfl), hB 2 h2, hP 6 (ix_ok 6 (Fld.rows p0.fields) i1 _ (Fld.rowsGet hx1) rfl)] [aB (t_ref04_ValidField x1.name (H.2.1 x1 (mem_get hx1))) h0, aB (rec x1.v (szF hx1) (w64 (p1 - 1)) (H.2.2.2.2.1 x1 (mem_get hx1))) h3] (by kernel_rfl)⟩
theorem n_ref04_valid_b1_4 (p0 : Val) (p1 : Int) (H : H_ref04_valid_b1 p0 p1) (rec : Rec_ref04_valid p0) (x1 : Fld) (i1 : Nat) (hx1 : p0.fields[i1]? = some x1) (_hi1 : i1 < List.length p0.fields) (hc1 : (decide ((i1 : Int) < ((List.length p0.fields) : Int))) = true) (h0 : (s_ref04_ValidField x1.name) = true) (h1 : (decide (0 < (i1 : Int))) = false) (h2 : (s_ref04_valid x1.v (w64 (p1 - 1))) = true) {r : Rs} (hr : Tells G (E_ref04_valid_b1 p0 p1 (i1 + 1)) r) : Tells G (E_ref04_valid_b1 p0 p1 i1) r := by
  have hB0 := H.1; have e1 := of_decide_eq_false h1
  exact tells_nextVI VOK.nil (y := (HE_ref04_valid_b1 p0 p1 (i1 + 1), HO_ref04_valid_b1 p0 p1 (i1 + 1))) [hP 3 (len_ok (Fld.rows p0.fields) (List.length p0.fields) (Fld.rowsLen p0.fields)), hB 0 hc1, hP 3 (ix_ok 6 (Fld.rows p0.fields) i1 _ (Fld.rowsGet hx1) rfl), hB 6 h1, hP 21 (ix_ok 6 (Fld.rows p0.fields) i1 _ (Fld.rowsGet hx1) rfl), hP 8 (inc_ok i1 (by omega))] [aB (t_ref04_ValidField x1.name (H.2.1 x1 (mem_get hx1))) h0, aB (rec x1.v (szF hx1) (w64 (p1 - 1)) (H.2.2.2.2.1 x1 (mem_get hx1))) h2] (by kernel_rfl) hr
def Z_ref04_valid_b1_5 (p0 : Val) (p1 : Int) (i1 : Nat) (x1 : Fld) : List PV :=
  [.un, .int .i64 p1, .bx 0 0, .un, .un, .un, .int .i64 (i1 : Int), .un, .un, .un, .un, .un, .un, .un, .un, .un, .un, .un, .un, .un, .un, .un, .un, .un, .un, .un, .un, .un, .un, .un, .un, .un, .un, .un, .un, .un, .un, .un, .un, .un, .un, .un, .un, .un, .un, .un, .un, .un, .un, .un, .un, .un, .un, .un, .un, .un, .un, .un, .un, .un, .un, .un, .int .i64 (i1 : Int), .bx 0 4, .sl (Fld.rows p0.fields), .int .i64 ((List.length p0.fields) : Int), .bool true, .un, .un, .bx 0 4, .sl (Fld.rows p0.fields), .int .i64 (i1 : Int), .rf [.str x1.name, .int .i64 x1.v.kind, .int .i64 x1.v.n, .str x1.v.s, .sl (Val.rows x1.v.list), .sl (Fld.rows x1.v.fields)], .rf [.str x1.name, .int .i64 x1.v.kind, .int .i64 x1.v.n, .str x1.v.s, .sl (Val.rows x1.v.list), .sl (Fld.rows x1.v.fields)], .str x1.name, .bool true, .bool false, .bool false, .int .i64 (i1 : Int), .bool false, .bool false, .tup [], .tup [], .tup [], .tup [], .tup [], .tup [], .tup [], .tup [], .tup [], .tup [], .tup [], .tup [], .tup [], .tup [], .bool false, .bool false, .bool false, .bx 0 4, .sl (Fld.rows p0.fields), .int .i64 (i1 : Int), .rf [.str x1.name, .int .i64 x1.v.kind, .int .i64 x1.v.n, .str x1.v.s, .sl (Val.rows x1.v.list), .sl (Fld.rows x1.v.fields)], .rf [.int .i64 x1.v.kind, .int .i64 x1.v.n, .str x1.v.s, .sl (Val.rows x1.v.list), .sl (Fld.rows x1.v.fields)], .agg [.int .i64 x1.v.kind, .int .i64 x1.v.n, .str x1.v.s, .sl (Val.rows x1.v.list), .sl (Fld.rows x1.v.fields)], .int .i64 p1, .int .i64 (w64 (p1 - 1)), .bool false, .bool true, .bool true]
def ZO_ref04_valid_b1_5 (p0 : Val) (_p1 : Int) (_i1 : Nat) (_x1 : Fld) : List (Nat × List PV) :=
  [(0, [.int .i64 p0.kind, .int .i64 p0.n, .str p0.s, .sl (Val.rows p0.list), .sl (Fld.rows p0.fields)])]
theorem x_ref04_valid_b1_5 (p0 : Val) (p1 : Int) (H : H_ref04_valid_b1 p0 p1) (rec : Rec_ref04_valid p0) (x1 : Fld) (i1 : Nat) (hx1 : p0.fields[i1]? = some x1) (_hi1 : i1 < List.length p0.fields) (hc1 : (decide ((i1 : Int) < ((List.length p0.fields) : Int))) = true) (h0 : (s_ref04_ValidField x1.name) = true) (h1 : (decide (0 < (i1 : Int))) = false) (h2 : (s_ref04_valid x1.v (w64 (p1 - 1))) = false) : P_ref04_valid_b1 p0 p1 (E_ref04_valid_b1 p0 p1 i1) (.k1) := by
  exact ⟨(envF (Z_ref04_valid_b1_5 p0 p1 i1 x1)), (zoF (ZO_ref04_valid_b1_5 p0 p1 i1 x1)), tells_outVI VOK.nil (x := (.ret, S_ref04_valid_b1_1 p0 p1 (envF (Z_ref04_valid_b1_5 p0 p1 i1 x1)) (zoF (ZO_ref04_valid_b1_5 p0 p1 i1 x1)))) [hP 3 (len_ok (Fld.rows p0.fields) (List.length p0.fields) (Fld.rowsLen p0.fields)), hB 0 hc1, hP 3 (ix_ok 6 (Fld.rows p0.fields) i1 _ (Fld.rowsGet hx1) rfl), hB 6 h1, hP 21 (ix_ok 6 (Fld.rows p0.fields) i1 _ (Fld.rowsGet hx1) rfl)] [aB (t_ref04_ValidField x1.name (H.2.1 x1 (mem_get hx1))) h0, aB (rec x1.v (szF hx1) (w64 (p1 - 1)) (H.2.2.2.2.1 x1 (mem_get hx1))) h2] (by kernel_rfl)⟩
def Z_ref04_valid_b1_6 (p0 : Val) (p1 : Int) (i1 : Nat) (x1 : Fld) : List PV :=
  [.un, .int .i64 p1, .bx 0 0, .un, .un, .un, .int .i64 (i1 : Int), .un, .un, .un, .un, .un, .un, .un, .un, .un, .un, .un, .un, .un, .un, .un, .un, .un, .un, .un, .un, .un, .un, .un, .un, .un, .un, .un, .un, .un, .un, .un, .un, .un, .un, .un, .un, .un, .un, .un, .un, .un, .un, .un, .un, .un, .un, .un, .un, .un, .un, .un, .un, .un, .un, .un, .int .i64 (i1 : Int), .bx 0 4, .sl (Fld.rows p0.fields), .int .i64 ((List.length p0.fields) : Int), .bool true, .un, .un, .bx 0 4, .sl (Fld.rows p0.fields), .int .i64 (i1 : Int), .rf [.str x1.name, .int .i64 x1.v.kind, .int .i64 x1.v.n, .str x1.v.s, .sl (Val.rows x1.v.list), .sl (Fld.rows x1.v.fields)], .rf [.str x1.name, .int .i64 x1.v.kind, .int .i64 x1.v.n, .str x1.v.s, .sl (Val.rows x1.v.list), .sl (Fld.rows x1.v.fields)], .str x1.name, .bool false, .bool true, .bool true, .tup [], .tup [], .tup [], .tup [], .tup [], .tup [], .tup [], .tup [], .tup [], .tup [], .tup [], .tup [], .tup [], .tup [], .tup [], .tup [], .tup [], .tup [], .bool true, .bool true, .tup [], .tup [], .tup [], .tup [], .tup [], .tup [], .tup [], .tup [], .tup [], .tup [], .bool true]
def ZO_ref04_valid_b1_6 (p0 : Val) (_p1 : Int) (_i1 : Nat) (_x1 : Fld) : List (Nat × List PV) :=
  [(0, [.int .i64 p0.kind, .int .i64 p0.n, .str p0.s, .sl (Val.rows p0.list), .sl (Fld.rows p0.fields)])]
theorem x_ref04_valid_b1_6 (p0 : Val) (p1 : Int) (H : H_ref04_valid_b1 p0 p1) (_rec : Rec_ref04_valid p0) (x1 : Fld) (i1 : Nat) (hx1 : p0.fields[i1]? = some x1) (_hi1 : i1 < List.length p0.fields) (hc1 : (decide ((i1 : Int) < ((List.length p0.fields) : Int))) = true) (h0 : (s_ref04_ValidField x1.name) = false) : P_ref04_valid_b1 p0 p1 (E_ref04_valid_b1 p0 p1 i1) (.k1) := by
  exact ⟨(envF (Z_ref04_valid_b1_6 p0 p1 i1 x1)), (zoF (ZO_ref04_valid_b1_6 p0 p1 i1 x1)), tells_outVI VOK.nil (x := (.ret, S_ref04_valid_b1_1 p0 p1 (envF (Z_ref04_valid_b1_6 p0 p1 i1 x1)) (zoF (ZO_ref04_valid_b1_6 p0 p1 i1 x1)))) [hP 3 (len_ok (Fld.rows p0.fields) (List.length p0.fields) (Fld.rowsLen p0.fields)), hB 0 hc1, hP 3 (ix_ok 6 (Fld.rows p0.fields) i1 _ (Fld.rowsGet hx1) rfl)] [aB (t_ref04_ValidField x1.name (H.2.1 x1 (mem_get hx1))) h0] (by kernel_rfl)⟩
theorem lt_ref04_valid_b1 (p0 : Val) (p1 : Int) (H : H_ref04_valid_b1 p0 p1) (rec : Rec_ref04_valid p0) : ∀ (r1 : List Fld) (i1 : Nat), List.drop i1 p0.fields = r1 → P_ref04_valid_b1 p0 p1 (E_ref04_valid_b1 p0 p1 i1) (l_ref04_valid_b1 p0 p1 r1 i1)
  | [], i1, hd => by
    have hc1 : (decide ((i1 : Int) < ((List.length p0.fields) : Int))) = false := by have := drop_end hd; simp; omega
    rw [l_ref04_valid_b1]
    exact x_ref04_valid_b1_0 p0 p1 H rec i1 hc1
  | x1 :: r1, i1, hd => by
    obtain ⟨hx1, hi1, hd'⟩ := drop_get hd
    have hc1 : (decide ((i1 : Int) < ((List.length p0.fields) : Int))) = true := by simp; omega
    rw [l_ref04_valid_b1]
    cases h0 : (s_ref04_ValidField x1.name) with
    | true =>
     cases h1 : (decide (0 < (i1 : Int))) with
     | true =>
      cases h2 : ((sLt x1.name (List.getD p0.fields (Int.toNat (w64 ((i1 : Int) - 1))) (Fld.mk (⟨#[]⟩ : ByteArray) (Val.mk 0 0 (⟨#[]⟩ : ByteArray) [] []))).name) || (sEq x1.name (List.getD p0.fields (Int.toNat (w64 ((i1 : Int) - 1))) (Fld.mk (⟨#[]⟩ : ByteArray) (Val.mk 0 0 (⟨#[]⟩ : ByteArray) [] []))).name)) with
      | true =>
       exact x_ref04_valid_b1_1 p0 p1 H rec x1 i1 hx1 hi1 hc1 h0 h1 h2
      | false =>
       cases h3 : (s_ref04_valid x1.v (w64 (p1 - 1))) with
       | true =>
        exact P_ref04_valid_b1_mono p0 p1 (fun r hr => n_ref04_valid_b1_2 p0 p1 H rec x1 i1 hx1 hi1 hc1 h0 h1 h2 h3 hr) _ (lt_ref04_valid_b1 p0 p1 H rec r1 (i1 + 1) hd')
       | false =>
        exact x_ref04_valid_b1_3 p0 p1 H rec x1 i1 hx1 hi1 hc1 h0 h1 h2 h3
     | false =>
      cases h2 : (s_ref04_valid x1.v (w64 (p1 - 1))) with
      | true =>
       exact P_ref04_valid_b1_mono p0 p1 (fun r hr => n_ref04_valid_b1_4 p0 p1 H rec x1 i1 hx1 hi1 hc1 h0 h1 h2 hr) _ (lt_ref04_valid_b1 p0 p1 H rec r1 (i1 + 1) hd')
      | false =>
       exact x_ref04_valid_b1_5 p0 p1 H rec x1 i1 hx1 hi1 hc1 h0 h1 h2
    | false =>
     exact x_ref04_valid_b1_6 p0 p1 H rec x1 i1 hx1 hi1 hc1 h0
theorem t_ref04_valid_0 (p0 : Val) (p1 : Int) (_H : H_ref04_valid p0) (_rec : Rec_ref04_valid p0) (h0 : (p1 == 0) = true) : Tells G (c_ref04_valid p0 p1) (.ret (.bool (false)) []) := by
  exact tells_VI (fn := Ir.ref04_valid) rfl VOK.nil [hB 3 h0] [] (by kernel_rfl)
theorem t_ref04_valid_1 (p0 : Val) (p1 : Int) (H : H_ref04_valid p0) (_rec : Rec_ref04_valid p0) (h0 : (p1 == 0) = false) (h1 : (s_ref04_scalar p0) = true) (h2 : (decide (64 < ((List.length p0.list) : Int))) = true) : Tells G (c_ref04_valid p0 p1) (.ret (.bool (false)) []) := by
  exact tells_VI (fn := Ir.ref04_valid) rfl VOK.nil [hB 3 h0, hP 8 (len_ok (Val.rows p0.list) (List.length p0.list) (Val.rowsLen p0.list)), hB 0 h2] [aB (t_ref04_scalar p0 (give_ref04_valid p0 p1 H).1) h1] (by kernel_rfl)
theorem t_ref04_valid_2 (p0 : Val) (p1 : Int) (H : H_ref04_valid p0) (_rec : Rec_ref04_valid p0) (h0 : (p1 == 0) = false) (h1 : (s_ref04_scalar p0) = true) (h2 : (decide (64 < ((List.length p0.list) : Int))) = false) (h3 : (decide (64 < ((List.length p0.fields) : Int))) = true) : Tells G (c_ref04_valid p0 p1) (.ret (.bool (false)) []) := by
  exact tells_VI (fn := Ir.ref04_valid) rfl VOK.nil [hB 3 h0, hP 8 (len_ok (Val.rows p0.list) (List.length p0.list) (Val.rowsLen p0.list)), hB 0 h2, hP 4 (len_ok (Fld.rows p0.fields) (List.length p0.fields) (Fld.rowsLen p0.fields)), hB 0 h3] [aB (t_ref04_scalar p0 (give_ref04_valid p0 p1 H).1) h1] (by kernel_rfl)
theorem t_ref04_valid_3 (p0 : Val) (p1 : Int) (H : H_ref04_valid p0) (_rec : Rec_ref04_valid p0) (h0 : (p1 == 0) = false) (h1 : (s_ref04_scalar p0) = true) (h2 : (decide (64 < ((List.length p0.list) : Int))) = false) (h3 : (decide (64 < ((List.length p0.fields) : Int))) = false) (h4 : (p0.kind == 4) = true) (h5 : (p0.kind == 5) = true) (z6 : Nat → PV) (zo6 : Nat → List PV) (hl6 : Tells G (E_ref04_valid_b0 p0 p1 0) (.st (.exit 0) (S_ref04_valid_b0_0 p0 p1 z6 zo6))) (z7 : Nat → PV) (zo7 : Nat → List PV) (hl7 : Tells G (E_ref04_valid_b1 p0 p1 0) (.st (.exit 2) (S_ref04_valid_b1_0 p0 p1 z7 zo7))) : Tells G (c_ref04_valid p0 p1) (.ret (.bool (true)) []) := by
  exact tells_VI (fn := Ir.ref04_valid) rfl VOK.nil [hB 3 h0, hP 8 (len_ok (Val.rows p0.list) (List.length p0.list) (Val.rowsLen p0.list)), hB 0 h2, hP 4 (len_ok (Fld.rows p0.fields) (List.length p0.fields) (Fld.rowsLen p0.fields)), hB 0 h3, hP 3 (dec (!(p0.kind == 4)) false (by rw [h4]; rfl)), hP 9 (dec (!(p0.kind == 5)) false (by rw [h5]; rfl))] [aB (t_ref04_scalar p0 (give_ref04_valid p0 p1 H).1) h1, aN hl6, aN hl7] (by kernel_rfl)
theorem t_ref04_valid_4 (p0 : Val) (p1 : Int) (H : H_ref04_valid p0) (_rec : Rec_ref04_valid p0) (h0 : (p1 == 0) = false) (h1 : (s_ref04_scalar p0) = true) (h2 : (decide (64 < ((List.length p0.list) : Int))) = false) (h3 : (decide (64 < ((List.length p0.fields) : Int))) = false) (h4 : (p0.kind == 4) = true) (h5 : (p0.kind == 5) = true) (z6 : Nat → PV) (zo6 : Nat → List PV) (hl6 : Tells G (E_ref04_valid_b0 p0 p1 0) (.st (.exit 0) (S_ref04_valid_b0_0 p0 p1 z6 zo6))) (z7 : Nat → PV) (zo7 : Nat → List PV) (hl7 : Tells G (E_ref04_valid_b1 p0 p1 0) (.st .ret (S_ref04_valid_b1_1 p0 p1 z7 zo7))) : Tells G (c_ref04_valid p0 p1) (.ret (.bool (false)) []) := by
  exact tells_VI (fn := Ir.ref04_valid) rfl VOK.nil [hB 3 h0, hP 8 (len_ok (Val.rows p0.list) (List.length p0.list) (Val.rowsLen p0.list)), hB 0 h2, hP 4 (len_ok (Fld.rows p0.fields) (List.length p0.fields) (Fld.rowsLen p0.fields)), hB 0 h3, hP 3 (dec (!(p0.kind == 4)) false (by rw [h4]; rfl)), hP 9 (dec (!(p0.kind == 5)) false (by rw [h5]; rfl))] [aB (t_ref04_scalar p0 (give_ref04_valid p0 p1 H).1) h1, aN hl6, aN hl7] (by kernel_rfl)
theorem t_ref04_valid_5 (p0 : Val) (p1 : Int) (H : H_ref04_valid p0) (_rec : Rec_ref04_valid p0) (h0 : (p1 == 0) = false) (h1 : (s_ref04_scalar p0) = true) (h2 : (decide (64 < ((List.length p0.list) : Int))) = false) (h3 : (decide (64 < ((List.length p0.fields) : Int))) = false) (h4 : (p0.kind == 4) = true) (h5 : (p0.kind == 5) = true) (z6 : Nat → PV) (zo6 : Nat → List PV) (hl6 : Tells G (E_ref04_valid_b0 p0 p1 0) (.st .ret (S_ref04_valid_b0_1 p0 p1 z6 zo6))) : Tells G (c_ref04_valid p0 p1) (.ret (.bool (false)) []) := by
  exact tells_VI (fn := Ir.ref04_valid) rfl VOK.nil [hB 3 h0, hP 8 (len_ok (Val.rows p0.list) (List.length p0.list) (Val.rowsLen p0.list)), hB 0 h2, hP 4 (len_ok (Fld.rows p0.fields) (List.length p0.fields) (Fld.rowsLen p0.fields)), hB 0 h3, hP 3 (dec (!(p0.kind == 4)) false (by rw [h4]; rfl)), hP 9 (dec (!(p0.kind == 5)) false (by rw [h5]; rfl))] [aB (t_ref04_scalar p0 (give_ref04_valid p0 p1 H).1) h1, aN hl6] (by kernel_rfl)
theorem t_ref04_valid_6 (p0 : Val) (p1 : Int) (H : H_ref04_valid p0) (_rec : Rec_ref04_valid p0) (h0 : (p1 == 0) = false) (h1 : (s_ref04_scalar p0) = true) (h2 : (decide (64 < ((List.length p0.list) : Int))) = false) (h3 : (decide (64 < ((List.length p0.fields) : Int))) = false) (h4 : (p0.kind == 4) = true) (h5 : (p0.kind == 5) = false) (h6 : (decide (0 < ((List.length p0.fields) : Int))) = true) : Tells G (c_ref04_valid p0 p1) (.ret (.bool (false)) []) := by
  exact tells_VI (fn := Ir.ref04_valid) rfl VOK.nil [hB 3 h0, hP 8 (len_ok (Val.rows p0.list) (List.length p0.list) (Val.rowsLen p0.list)), hB 0 h2, hP 4 (len_ok (Fld.rows p0.fields) (List.length p0.fields) (Fld.rowsLen p0.fields)), hB 0 h3, hP 3 (dec (!(p0.kind == 4)) false (by rw [h4]; rfl)), hP 9 (dec (!(p0.kind == 5)) true (by rw [h5]; rfl)), hP 3 (len_ok (Fld.rows p0.fields) (List.length p0.fields) (Fld.rowsLen p0.fields)), hB 0 h6] [aB (t_ref04_scalar p0 (give_ref04_valid p0 p1 H).1) h1] (by kernel_rfl)
theorem t_ref04_valid_7 (p0 : Val) (p1 : Int) (H : H_ref04_valid p0) (_rec : Rec_ref04_valid p0) (h0 : (p1 == 0) = false) (h1 : (s_ref04_scalar p0) = true) (h2 : (decide (64 < ((List.length p0.list) : Int))) = false) (h3 : (decide (64 < ((List.length p0.fields) : Int))) = false) (h4 : (p0.kind == 4) = true) (h5 : (p0.kind == 5) = false) (h6 : (decide (0 < ((List.length p0.fields) : Int))) = false) (z7 : Nat → PV) (zo7 : Nat → List PV) (hl7 : Tells G (E_ref04_valid_b0 p0 p1 0) (.st (.exit 0) (S_ref04_valid_b0_0 p0 p1 z7 zo7))) (z8 : Nat → PV) (zo8 : Nat → List PV) (hl8 : Tells G (E_ref04_valid_b1 p0 p1 0) (.st (.exit 2) (S_ref04_valid_b1_0 p0 p1 z8 zo8))) : Tells G (c_ref04_valid p0 p1) (.ret (.bool (true)) []) := by
  exact tells_VI (fn := Ir.ref04_valid) rfl VOK.nil [hB 3 h0, hP 8 (len_ok (Val.rows p0.list) (List.length p0.list) (Val.rowsLen p0.list)), hB 0 h2, hP 4 (len_ok (Fld.rows p0.fields) (List.length p0.fields) (Fld.rowsLen p0.fields)), hB 0 h3, hP 3 (dec (!(p0.kind == 4)) false (by rw [h4]; rfl)), hP 9 (dec (!(p0.kind == 5)) true (by rw [h5]; rfl)), hP 3 (len_ok (Fld.rows p0.fields) (List.length p0.fields) (Fld.rowsLen p0.fields)), hB 0 h6] [aB (t_ref04_scalar p0 (give_ref04_valid p0 p1 H).1) h1, aN hl7, aN hl8] (by kernel_rfl)
theorem t_ref04_valid_8 (p0 : Val) (p1 : Int) (H : H_ref04_valid p0) (_rec : Rec_ref04_valid p0) (h0 : (p1 == 0) = false) (h1 : (s_ref04_scalar p0) = true) (h2 : (decide (64 < ((List.length p0.list) : Int))) = false) (h3 : (decide (64 < ((List.length p0.fields) : Int))) = false) (h4 : (p0.kind == 4) = true) (h5 : (p0.kind == 5) = false) (h6 : (decide (0 < ((List.length p0.fields) : Int))) = false) (z7 : Nat → PV) (zo7 : Nat → List PV) (hl7 : Tells G (E_ref04_valid_b0 p0 p1 0) (.st (.exit 0) (S_ref04_valid_b0_0 p0 p1 z7 zo7))) (z8 : Nat → PV) (zo8 : Nat → List PV) (hl8 : Tells G (E_ref04_valid_b1 p0 p1 0) (.st .ret (S_ref04_valid_b1_1 p0 p1 z8 zo8))) : Tells G (c_ref04_valid p0 p1) (.ret (.bool (false)) []) := by
  exact tells_VI (fn := Ir.ref04_valid) rfl VOK.nil [hB 3 h0, hP 8 (len_ok (Val.rows p0.list) (List.length p0.list) (Val.rowsLen p0.list)), hB 0 h2, hP 4 (len_ok (Fld.rows p0.fields) (List.length p0.fields) (Fld.rowsLen p0.fields)), hB 0 h3, hP 3 (dec (!(p0.kind == 4)) false (by rw [h4]; rfl)), hP 9 (dec (!(p0.kind == 5)) true (by rw [h5]; rfl)), hP 3 (len_ok (Fld.rows p0.fields) (List.length p0.fields) (Fld.rowsLen p0.fields)), hB 0 h6] [aB (t_ref04_scalar p0 (give_ref04_valid p0 p1 H).1) h1, aN hl7, aN hl8] (by kernel_rfl)
theorem t_ref04_valid_9 (p0 : Val) (p1 : Int) (H : H_ref04_valid p0) (_rec : Rec_ref04_valid p0) (h0 : (p1 == 0) = false) (h1 : (s_ref04_scalar p0) = true) (h2 : (decide (64 < ((List.length p0.list) : Int))) = false) (h3 : (decide (64 < ((List.length p0.fields) : Int))) = false) (h4 : (p0.kind == 4) = true) (h5 : (p0.kind == 5) = false) (h6 : (decide (0 < ((List.length p0.fields) : Int))) = false) (z7 : Nat → PV) (zo7 : Nat → List PV) (hl7 : Tells G (E_ref04_valid_b0 p0 p1 0) (.st .ret (S_ref04_valid_b0_1 p0 p1 z7 zo7))) : Tells G (c_ref04_valid p0 p1) (.ret (.bool (false)) []) := by
  exact tells_VI (fn := Ir.ref04_valid) rfl VOK.nil [hB 3 h0, hP 8 (len_ok (Val.rows p0.list) (List.length p0.list) (Val.rowsLen p0.list)), hB 0 h2, hP 4 (len_ok (Fld.rows p0.fields) (List.length p0.fields) (Fld.rowsLen p0.fields)), hB 0 h3, hP 3 (dec (!(p0.kind == 4)) false (by rw [h4]; rfl)), hP 9 (dec (!(p0.kind == 5)) true (by rw [h5]; rfl)), hP 3 (len_ok (Fld.rows p0.fields) (List.length p0.fields) (Fld.rowsLen p0.fields)), hB 0 h6] [aB (t_ref04_scalar p0 (give_ref04_valid p0 p1 H).1) h1, aN hl7] (by kernel_rfl)
theorem t_ref04_valid_10 (p0 : Val) (p1 : Int) (H : H_ref04_valid p0) (_rec : Rec_ref04_valid p0) (h0 : (p1 == 0) = false) (h1 : (s_ref04_scalar p0) = true) (h2 : (decide (64 < ((List.length p0.list) : Int))) = false) (h3 : (decide (64 < ((List.length p0.fields) : Int))) = false) (h4 : (p0.kind == 4) = false) (h5 : (decide (0 < ((List.length p0.list) : Int))) = true) : Tells G (c_ref04_valid p0 p1) (.ret (.bool (false)) []) := by
  exact tells_VI (fn := Ir.ref04_valid) rfl VOK.nil [hB 3 h0, hP 8 (len_ok (Val.rows p0.list) (List.length p0.list) (Val.rowsLen p0.list)), hB 0 h2, hP 4 (len_ok (Fld.rows p0.fields) (List.length p0.fields) (Fld.rowsLen p0.fields)), hB 0 h3, hP 3 (dec (!(p0.kind == 4)) true (by rw [h4]; rfl)), hP 3 (len_ok (Val.rows p0.list) (List.length p0.list) (Val.rowsLen p0.list)), hB 0 h5] [aB (t_ref04_scalar p0 (give_ref04_valid p0 p1 H).1) h1] (by kernel_rfl)
theorem t_ref04_valid_11 (p0 : Val) (p1 : Int) (H : H_ref04_valid p0) (_rec : Rec_ref04_valid p0) (h0 : (p1 == 0) = false) (h1 : (s_ref04_scalar p0) = true) (h2 : (decide (64 < ((List.length p0.list) : Int))) = false) (h3 : (decide (64 < ((List.length p0.fields) : Int))) = false) (h4 : (p0.kind == 4) = false) (h5 : (decide (0 < ((List.length p0.list) : Int))) = false) (h6 : (p0.kind == 5) = true) (z7 : Nat → PV) (zo7 : Nat → List PV) (hl7 : Tells G (E_ref04_valid_b0 p0 p1 0) (.st (.exit 0) (S_ref04_valid_b0_0 p0 p1 z7 zo7))) (z8 : Nat → PV) (zo8 : Nat → List PV) (hl8 : Tells G (E_ref04_valid_b1 p0 p1 0) (.st (.exit 2) (S_ref04_valid_b1_0 p0 p1 z8 zo8))) : Tells G (c_ref04_valid p0 p1) (.ret (.bool (true)) []) := by
  exact tells_VI (fn := Ir.ref04_valid) rfl VOK.nil [hB 3 h0, hP 8 (len_ok (Val.rows p0.list) (List.length p0.list) (Val.rowsLen p0.list)), hB 0 h2, hP 4 (len_ok (Fld.rows p0.fields) (List.length p0.fields) (Fld.rowsLen p0.fields)), hB 0 h3, hP 3 (dec (!(p0.kind == 4)) true (by rw [h4]; rfl)), hP 3 (len_ok (Val.rows p0.list) (List.length p0.list) (Val.rowsLen p0.list)), hB 0 h5, hP 4 (dec (!(p0.kind == 5)) false (by rw [h6]; rfl))] [aB (t_ref04_scalar p0 (give_ref04_valid p0 p1 H).1) h1, aN hl7, aN hl8] (by kernel_rfl)
theorem t_ref04_valid_12 (p0 : Val) (p1 : Int) (H : H_ref04_valid p0) (_rec : Rec_ref04_valid p0) (h0 : (p1 == 0) = false) (h1 : (s_ref04_scalar p0) = true) (h2 : (decide (64 < ((List.length p0.list) : Int))) = false) (h3 : (decide (64 < ((List.length p0.fields) : Int))) = false) (h4 : (p0.kind == 4) = false) (h5 : (decide (0 < ((List.length p0.list) : Int))) = false) (h6 : (p0.kind == 5) = true) (z7 : Nat → PV) (zo7 : Nat → List PV) (hl7 : Tells G (E_ref04_valid_b0 p0 p1 0) (.st (.exit 0) (S_ref04_valid_b0_0 p0 p1 z7 zo7))) (z8 : Nat → PV) (zo8 : Nat → List PV) (hl8 : Tells G (E_ref04_valid_b1 p0 p1 0) (.st .ret (S_ref04_valid_b1_1 p0 p1 z8 zo8))) : Tells G (c_ref04_valid p0 p1) (.ret (.bool (false)) []) := by
  exact tells_VI (fn := Ir.ref04_valid) rfl VOK.nil [hB 3 h0, hP 8 (len_ok (Val.rows p0.list) (List.length p0.list) (Val.rowsLen p0.list)), hB 0 h2, hP 4 (len_ok (Fld.rows p0.fields) (List.length p0.fields) (Fld.rowsLen p0.fields)), hB 0 h3, hP 3 (dec (!(p0.kind == 4)) true (by rw [h4]; rfl)), hP 3 (len_ok (Val.rows p0.list) (List.length p0.list) (Val.rowsLen p0.list)), hB 0 h5, hP 4 (dec (!(p0.kind == 5)) false (by rw [h6]; rfl))] [aB (t_ref04_scalar p0 (give_ref04_valid p0 p1 H).1) h1, aN hl7, aN hl8] (by kernel_rfl)
theorem t_ref04_valid_13 (p0 : Val) (p1 : Int) (H : H_ref04_valid p0) (_rec : Rec_ref04_valid p0) (h0 : (p1 == 0) = false) (h1 : (s_ref04_scalar p0) = true) (h2 : (decide (64 < ((List.length p0.list) : Int))) = false) (h3 : (decide (64 < ((List.length p0.fields) : Int))) = false) (h4 : (p0.kind == 4) = false) (h5 : (decide (0 < ((List.length p0.list) : Int))) = false) (h6 : (p0.kind == 5) = true) (z7 : Nat → PV) (zo7 : Nat → List PV) (hl7 : Tells G (E_ref04_valid_b0 p0 p1 0) (.st .ret (S_ref04_valid_b0_1 p0 p1 z7 zo7))) : Tells G (c_ref04_valid p0 p1) (.ret (.bool (false)) []) := by
  exact tells_VI (fn := Ir.ref04_valid) rfl VOK.nil [hB 3 h0, hP 8 (len_ok (Val.rows p0.list) (List.length p0.list) (Val.rowsLen p0.list)), hB 0 h2, hP 4 (len_ok (Fld.rows p0.fields) (List.length p0.fields) (Fld.rowsLen p0.fields)), hB 0 h3, hP 3 (dec (!(p0.kind == 4)) true (by rw [h4]; rfl)), hP 3 (len_ok (Val.rows p0.list) (List.length p0.list) (Val.rowsLen p0.list)), hB 0 h5, hP 4 (dec (!(p0.kind == 5)) false (by rw [h6]; rfl))] [aB (t_ref04_scalar p0 (give_ref04_valid p0 p1 H).1) h1, aN hl7] (by kernel_rfl)
theorem t_ref04_valid_14 (p0 : Val) (p1 : Int) (H : H_ref04_valid p0) (_rec : Rec_ref04_valid p0) (h0 : (p1 == 0) = false) (h1 : (s_ref04_scalar p0) = true) (h2 : (decide (64 < ((List.length p0.list) : Int))) = false) (h3 : (decide (64 < ((List.length p0.fields) : Int))) = false) (h4 : (p0.kind == 4) = false) (h5 : (decide (0 < ((List.length p0.list) : Int))) = false) (h6 : (p0.kind == 5) = false) (h7 : (decide (0 < ((List.length p0.fields) : Int))) = true) : Tells G (c_ref04_valid p0 p1) (.ret (.bool (false)) []) := by
  exact tells_VI (fn := Ir.ref04_valid) rfl VOK.nil [hB 3 h0, hP 8 (len_ok (Val.rows p0.list) (List.length p0.list) (Val.rowsLen p0.list)), hB 0 h2, hP 4 (len_ok (Fld.rows p0.fields) (List.length p0.fields) (Fld.rowsLen p0.fields)), hB 0 h3, hP 3 (dec (!(p0.kind == 4)) true (by rw [h4]; rfl)), hP 3 (len_ok (Val.rows p0.list) (List.length p0.list) (Val.rowsLen p0.list)), hB 0 h5, hP 4 (dec (!(p0.kind == 5)) true (by rw [h6]; rfl)), hP 3 (len_ok (Fld.rows p0.fields) (List.length p0.fields) (Fld.rowsLen p0.fields)), hB 0 h7] [aB (t_ref04_scalar p0 (give_ref04_valid p0 p1 H).1) h1] (by kernel_rfl)
theorem t_ref04_valid_15 (p0 : Val) (p1 : Int) (H : H_ref04_valid p0) (_rec : Rec_ref04_valid p0) (h0 : (p1 == 0) = false) (h1 : (s_ref04_scalar p0) = true) (h2 : (decide (64 < ((List.length p0.list) : Int))) = false) (h3 : (decide (64 < ((List.length p0.fields) : Int))) = false) (h4 : (p0.kind == 4) = false) (h5 : (decide (0 < ((List.length p0.list) : Int))) = false) (h6 : (p0.kind == 5) = false) (h7 : (decide (0 < ((List.length p0.fields) : Int))) = false) (z8 : Nat → PV) (zo8 : Nat → List PV) (hl8 : Tells G (E_ref04_valid_b0 p0 p1 0) (.st (.exit 0) (S_ref04_valid_b0_0 p0 p1 z8 zo8))) (z9 : Nat → PV) (zo9 : Nat → List PV) (hl9 : Tells G (E_ref04_valid_b1 p0 p1 0) (.st (.exit 2) (S_ref04_valid_b1_0 p0 p1 z9 zo9))) : Tells G (c_ref04_valid p0 p1) (.ret (.bool (true)) []) := by
  exact tells_VI (fn := Ir.ref04_valid) rfl VOK.nil [hB 3 h0, hP 8 (len_ok (Val.rows p0.list) (List.length p0.list) (Val.rowsLen p0.list)), hB 0 h2, hP 4 (len_ok (Fld.rows p0.fields) (List.length p0.fields) (Fld.rowsLen p0.fields)), hB 0 h3, hP 3 (dec (!(p0.kind == 4)) true (by rw [h4]; rfl)), hP 3 (len_ok (Val.rows p0.list) (List.length p0.list) (Val.rowsLen p0.list)), hB 0 h5, hP 4 (dec (!(p0.kind == 5)) true (by rw [h6]; rfl)), hP 3 (len_ok (Fld.rows p0.fields) (List.length p0.fields) (Fld.rowsLen p0.fields)), hB 0 h7] [aB (t_ref04_scalar p0 (give_ref04_valid p0 p1 H).1) h1, aN hl8, aN hl9] (by kernel_rfl)
theorem t_ref04_valid_16 (p0 : Val) (p1 : Int) (H : H_ref04_valid p0) (_rec : Rec_ref04_valid p0) (h0 : (p1 == 0) = false) (h1 : (s_ref04_scalar p0) = true) (h2 : (decide (64 < ((List.length p0.list) : Int))) = false) (h3 : (decide (64 < ((List.length p0.fields) : Int))) = false) (h4 : (p0.kind == 4) = false) (h5 : (decide (0 < ((List.length p0.list) : Int))) = false) (h6 : (p0.kind == 5) = false) (h7 : (decide (0 < ((List.length p0.fields) : Int))) = false) (z8 : Nat → PV) (zo8 : Nat → List PV) (hl8 : Tells G (E_ref04_valid_b0 p0 p1 0) (.st (.exit 0) (S_ref04_valid_b0_0 p0 p1 z8 zo8))) (z9 : Nat → PV) (zo9 : Nat → List PV) (hl9 : Tells G (E_ref04_valid_b1 p0 p1 0) (.st .ret (S_ref04_valid_b1_1 p0 p1 z9 zo9))) : Tells G (c_ref04_valid p0 p1) (.ret (.bool (false)) []) := by
  exact tells_VI (fn := Ir.ref04_valid) rfl VOK.nil [hB 3 h0, hP 8 (len_ok (Val.rows p0.list) (List.length p0.list) (Val.rowsLen p0.list)), hB 0 h2, hP 4 (len_ok (Fld.rows p0.fields) (List.length p0.fields) (Fld.rowsLen p0.fields)), hB 0 h3, hP 3 (dec (!(p0.kind == 4)) true (by rw [h4]; rfl)), hP 3 (len_ok (Val.rows p0.list) (List.length p0.list) (Val.rowsLen p0.list)), hB 0 h5, hP 4 (dec (!(p0.kind == 5)) true (by rw [h6]; rfl)), hP 3 (len_ok (Fld.rows p0.fields) (List.length p0.fields) (Fld.rowsLen p0.fields)), hB 0 h7] [aB (t_ref04_scalar p0 (give_ref04_valid p0 p1 H).1) h1, aN hl8, aN hl9] (by kernel_rfl)
theorem t_ref04_valid_17 (p0 : Val) (p1 : Int) (H : H_ref04_valid p0) (_rec : Rec_ref04_valid p0) (h0 : (p1 == 0) = false) (h1 : (s_ref04_scalar p0) = true) (h2 : (decide (64 < ((List.length p0.list) : Int))) = false) (h3 : (decide (64 < ((List.length p0.fields) : Int))) = false) (h4 : (p0.kind == 4) = false) (h5 : (decide (0 < ((List.length p0.list) : Int))) = false) (h6 : (p0.kind == 5) = false) (h7 : (decide (0 < ((List.length p0.fields) : Int))) = false) (z8 : Nat → PV) (zo8 : Nat → List PV) (hl8 : Tells G (E_ref04_valid_b0 p0 p1 0) (.st .ret (S_ref04_valid_b0_1 p0 p1 z8 zo8))) : Tells G (c_ref04_valid p0 p1) (.ret (.bool (false)) []) := by
  exact tells_VI (fn := Ir.ref04_valid) rfl VOK.nil [hB 3 h0, hP 8 (len_ok (Val.rows p0.list) (List.length p0.list) (Val.rowsLen p0.list)), hB 0 h2, hP 4 (len_ok (Fld.rows p0.fields) (List.length p0.fields) (Fld.rowsLen p0.fields)), hB 0 h3, hP 3 (dec (!(p0.kind == 4)) true (by rw [h4]; rfl)), hP 3 (len_ok (Val.rows p0.list) (List.length p0.list) (Val.rowsLen p0.list)), hB 0 h5, hP 4 (dec (!(p0.kind == 5)) true (by rw [h6]; rfl)), hP 3 (len_ok (Fld.rows p0.fields) (List.length p0.fields) (Fld.rowsLen p0.fields)), hB 0 h7] [aB (t_ref04_scalar p0 (give_ref04_valid p0 p1 H).1) h1, aN hl8] (by kernel_rfl)
theorem t_ref04_valid_18 (p0 : Val) (p1 : Int) (H : H_ref04_valid p0) (_rec : Rec_ref04_valid p0) (h0 : (p1 == 0) = false) (h1 : (s_ref04_scalar p0) = false) : Tells G (c_ref04_valid p0 p1) (.ret (.bool (false)) []) := by
  exact tells_VI (fn := Ir.ref04_valid) rfl VOK.nil [hB 3 h0] [aB (t_ref04_scalar p0 (give_ref04_valid p0 p1 H).1) h1] (by kernel_rfl)
theorem r_ref04_valid (p0 : Val) (p1 : Int) (H : H_ref04_valid p0) (rec : Rec_ref04_valid p0) : Tells G (c_ref04_valid p0 p1) (a_ref04_valid p0 p1) := by
  unfold a_ref04_valid
  rw [s_ref04_valid]
  cases h0 : (p1 == 0) with
  | true =>
   exact t_ref04_valid_0 p0 p1 H rec h0
  | false =>
   cases h1 : (s_ref04_scalar p0) with
   | true =>
    cases h2 : (decide (64 < ((List.length p0.list) : Int))) with
    | true =>
     exact t_ref04_valid_1 p0 p1 H rec h0 h1 h2
    | false =>
     cases h3 : (decide (64 < ((List.length p0.fields) : Int))) with
     | true =>
      exact t_ref04_valid_2 p0 p1 H rec h0 h1 h2 h3
     | false =>
      cases h4 : (p0.kind == 4) with
      | true =>
       cases h5 : (p0.kind == 5) with
       | true =>
        have hl6 := lt_ref04_valid_b0 p0 p1 ((give_ref04_valid p0 p1 H).2.1) rec p0.list 0 (by simp)
        cases hr6 : (l_ref04_valid_b0 p0 p1 p0.list 0) with
        | k0 =>
          rw [hr6] at hl6
          obtain ⟨z6, zo6, hl6⟩ := hl6
          try dsimp only
          have hl7 := lt_ref04_valid_b1 p0 p1 ((give_ref04_valid p0 p1 H).2.2.1) rec p0.fields 0 (by simp)
          cases hr7 : (l_ref04_valid_b1 p0 p1 p0.fields 0) with
          | k0 =>
            rw [hr7] at hl7
            obtain ⟨z7, zo7, hl7⟩ := hl7
            exact t_ref04_valid_3 p0 p1 H rec h0 h1 h2 h3 h4 h5 z6 zo6 hl6 z7 zo7 hl7
          | k1 =>
            rw [hr7] at hl7
            obtain ⟨z7, zo7, hl7⟩ := hl7
            exact t_ref04_valid_4 p0 p1 H rec h0 h1 h2 h3 h4 h5 z6 zo6 hl6 z7 zo7 hl7
        | k1 =>
          rw [hr6] at hl6
          obtain ⟨z6, zo6, hl6⟩ := hl6
          exact t_ref04_valid_5 p0 p1 H rec h0 h1 h2 h3 h4 h5 z6 zo6 hl6
       | false =>
        cases h6 : (decide (0 < ((List.length p0.fields) : Int))) with
        | true =>
         exact t_ref04_valid_6 p0 p1 H rec h0 h1 h2 h3 h4 h5 h6
        | false =>
         have hl7 := lt_ref04_valid_b0 p0 p1 ((give_ref04_valid p0 p1 H).2.1) rec p0.list 0 (by simp)
         cases hr7 : (l_ref04_valid_b0 p0 p1 p0.list 0) with
         | k0 =>
           rw [hr7] at hl7
           obtain ⟨z7, zo7, hl7⟩ := hl7
           try dsimp only
           have hl8 := lt_ref04_valid_b1 p0 p1 ((give_ref04_valid p0 p1 H).2.2.1) rec p0.fields 0 (by simp)
           cases hr8 : (l_ref04_valid_b1 p0 p1 p0.fields 0) with
           | k0 =>
             rw [hr8] at hl8
             obtain ⟨z8, zo8, hl8⟩ := hl8
             exact t_ref04_valid_7 p0 p1 H rec h0 h1 h2 h3 h4 h5 h6 z7 zo7 hl7 z8 zo8 hl8
           | k1 =>
             rw [hr8] at hl8
             obtain ⟨z8, zo8, hl8⟩ := hl8
             exact t_ref04_valid_8 p0 p1 H rec h0 h1 h2 h3 h4 h5 h6 z7 zo7 hl7 z8 zo8 hl8
         | k1 =>
           rw [hr7] at hl7
           obtain ⟨z7, zo7, hl7⟩ := hl7
           exact t_ref04_valid_9 p0 p1 H rec h0 h1 h2 h3 h4 h5 h6 z7 zo7 hl7
      | false =>
       cases h5 : (decide (0 < ((List.length p0.list) : Int))) with
       | true =>
        exact t_ref04_valid_10 p0 p1 H rec h0 h1 h2 h3 h4 h5
       | false =>
        cases h6 : (p0.kind == 5) with
        | true =>
         have hl7 := lt_ref04_valid_b0 p0 p1 ((give_ref04_valid p0 p1 H).2.1) rec p0.list 0 (by simp)
         cases hr7 : (l_ref04_valid_b0 p0 p1 p0.list 0) with
         | k0 =>
           rw [hr7] at hl7
           obtain ⟨z7, zo7, hl7⟩ := hl7
           try dsimp only
           have hl8 := lt_ref04_valid_b1 p0 p1 ((give_ref04_valid p0 p1 H).2.2.1) rec p0.fields 0 (by simp)
           cases hr8 : (l_ref04_valid_b1 p0 p1 p0.fields 0) with
           | k0 =>
             rw [hr8] at hl8
             obtain ⟨z8, zo8, hl8⟩ := hl8
             exact t_ref04_valid_11 p0 p1 H rec h0 h1 h2 h3 h4 h5 h6 z7 zo7 hl7 z8 zo8 hl8
           | k1 =>
             rw [hr8] at hl8
             obtain ⟨z8, zo8, hl8⟩ := hl8
             exact t_ref04_valid_12 p0 p1 H rec h0 h1 h2 h3 h4 h5 h6 z7 zo7 hl7 z8 zo8 hl8
         | k1 =>
           rw [hr7] at hl7
           obtain ⟨z7, zo7, hl7⟩ := hl7
           exact t_ref04_valid_13 p0 p1 H rec h0 h1 h2 h3 h4 h5 h6 z7 zo7 hl7
        | false =>
         cases h7 : (decide (0 < ((List.length p0.fields) : Int))) with
         | true =>
          exact t_ref04_valid_14 p0 p1 H rec h0 h1 h2 h3 h4 h5 h6 h7
         | false =>
          have hl8 := lt_ref04_valid_b0 p0 p1 ((give_ref04_valid p0 p1 H).2.1) rec p0.list 0 (by simp)
          cases hr8 : (l_ref04_valid_b0 p0 p1 p0.list 0) with
          | k0 =>
            rw [hr8] at hl8
            obtain ⟨z8, zo8, hl8⟩ := hl8
            try dsimp only
            have hl9 := lt_ref04_valid_b1 p0 p1 ((give_ref04_valid p0 p1 H).2.2.1) rec p0.fields 0 (by simp)
            cases hr9 : (l_ref04_valid_b1 p0 p1 p0.fields 0) with
            | k0 =>
              rw [hr9] at hl9
              obtain ⟨z9, zo9, hl9⟩ := hl9
              exact t_ref04_valid_15 p0 p1 H rec h0 h1 h2 h3 h4 h5 h6 h7 z8 zo8 hl8 z9 zo9 hl9
            | k1 =>
              rw [hr9] at hl9
              obtain ⟨z9, zo9, hl9⟩ := hl9
              exact t_ref04_valid_16 p0 p1 H rec h0 h1 h2 h3 h4 h5 h6 h7 z8 zo8 hl8 z9 zo9 hl9
          | k1 =>
            rw [hr8] at hl8
            obtain ⟨z8, zo8, hl8⟩ := hl8
            exact t_ref04_valid_17 p0 p1 H rec h0 h1 h2 h3 h4 h5 h6 h7 z8 zo8 hl8
   | false =>
    exact t_ref04_valid_18 p0 p1 H rec h0 h1
theorem i_ref04_valid : ∀ (k : Nat) (p0 : Val), SizeOf.sizeOf p0 < k → ∀ (p1 : Int), H_ref04_valid p0 → Tells G (c_ref04_valid p0 p1) (a_ref04_valid p0 p1)
  | 0, _, h, _, _ => absurd h (Nat.not_lt_zero _)
  | k + 1, p0, h, p1, H => r_ref04_valid p0 p1 H (fun q hq p1 hH => i_ref04_valid k q (by omega) p1 hH)
theorem t_ref04_valid (p0 : Val) (p1 : Int) (H : H_ref04_valid p0) : Tells G (c_ref04_valid p0 p1) (a_ref04_valid p0 p1) := i_ref04_valid _ p0 (Nat.lt_succ_self _) p1 H

/-- orchestrator/ value.Valid -/
def s_value_Valid (p0 : Val) : Bool :=
  bif (s_value_valid p0 12) then
    (decide ((s_value_Size p0) ≤ 600))
  else
    false
def c_value_Valid (p0 : Val) : En := .call 11 [.agg (Val.cells p0)] []
def a_value_Valid (p0 : Val) : Rs := .ret (.bool (s_value_Valid p0)) []
def H_value_Valid (p0 : Val) : Prop := (H_value_valid p0) ∧ (H_value_Size p0) ∧ True
theorem t_value_Valid (p0 : Val) (H : H_value_Valid p0) : Tells G (c_value_Valid p0) (a_value_Valid p0) := by
  unfold a_value_Valid s_value_Valid
  cases h0 : (s_value_valid p0 12) with
  | true =>
   exact tells_VI (fn := Ir.value_Valid) rfl VOK.nil [] [aB (t_value_valid p0 12 H.1) h0, aN (t_value_Size p0 H.2.1)] (by kernel_rfl)
  | false =>
   exact tells_VI (fn := Ir.value_Valid) rfl VOK.nil [] [aB (t_value_valid p0 12 H.1) h0] (by kernel_rfl)

/-- orchestrator/ orchestratorref04.Valid -/
def s_ref04_Valid (p0 : Val) : Bool :=
  bif (s_ref04_valid p0 12) then
    (decide ((s_ref04_Size p0) ≤ 600))
  else
    false
def c_ref04_Valid (p0 : Val) : En := .call 12 [.agg (Val.cells p0)] []
def a_ref04_Valid (p0 : Val) : Rs := .ret (.bool (s_ref04_Valid p0)) []
def H_ref04_Valid (p0 : Val) : Prop := (H_ref04_valid p0) ∧ (H_ref04_Size p0) ∧ True
theorem t_ref04_Valid (p0 : Val) (H : H_ref04_Valid p0) : Tells G (c_ref04_Valid p0) (a_ref04_Valid p0) := by
  unfold a_ref04_Valid s_ref04_Valid
  cases h0 : (s_ref04_valid p0 12) with
  | true =>
   exact tells_VI (fn := Ir.ref04_Valid) rfl VOK.nil [] [aB (t_ref04_valid p0 12 H.1) h0, aN (t_ref04_Size p0 H.2.1)] (by kernel_rfl)
  | false =>
   exact tells_VI (fn := Ir.ref04_Valid) rfl VOK.nil [] [aB (t_ref04_valid p0 12 H.1) h0] (by kernel_rfl)

/-- orchestrator/ orchestratorref04.order -/
def s_ref04_order (p0 : Bool) (p1 : Bool) : Int :=
  bif p0 then
    bif p1 then
      (-1)
    else
      (-1)
  else
    bif p1 then
      1
    else
      0
def c_ref04_order (p0 : Bool) (p1 : Bool) : En := .call 47 [.bool p0, .bool p1] []
def a_ref04_order (p0 : Bool) (p1 : Bool) : Rs := .ret (.int .i64 (s_ref04_order p0 p1)) []
theorem t_ref04_order (p0 : Bool) (p1 : Bool) : Tells G (c_ref04_order p0 p1) (a_ref04_order p0 p1) := by
  unfold a_ref04_order s_ref04_order
  cases h0 : p0 with
  | true =>
   cases h1 : p1 with
   | true =>
    exact tells_VI (fn := Ir.ref04_order) rfl VOK.nil [] [] (by kernel_rfl)
   | false =>
    exact tells_VI (fn := Ir.ref04_order) rfl VOK.nil [] [] (by kernel_rfl)
  | false =>
   cases h1 : p1 with
   | true =>
    exact tells_VI (fn := Ir.ref04_order) rfl VOK.nil [] [] (by kernel_rfl)
   | false =>
    exact tells_VI (fn := Ir.ref04_order) rfl VOK.nil [] [] (by kernel_rfl)

mutual
/-- orchestrator/ orchestratorref04.Compare -/
def s_ref04_Compare (p0 : Val) (p1 : Val) : Int :=
  bif ((s_ref04_order (decide (p0.kind < p1.kind)) (decide (p1.kind < p0.kind))) == 0) then
    bif ((s_ref04_order (decide (p0.n < p1.n)) (decide (p1.n < p0.n))) == 0) then
      bif ((l_ref04_Compare_b0 p0 p1 p0.list 0 (s_ref04_order (sLt p0.s p1.s) (!((sLt p0.s p1.s) || (sEq p0.s p1.s))))) == 0) then
        bif ((l_ref04_Compare_b1 p0 p1 p0.fields 0 (s_ref04_order (decide (((List.length p0.list) : Int) < ((List.length p1.list) : Int))) (decide (((List.length p1.list) : Int) < ((List.length p0.list) : Int))))) == 0) then
          (s_ref04_order (decide (((List.length p0.fields) : Int) < ((List.length p1.fields) : Int))) (decide (((List.length p1.fields) : Int) < ((List.length p0.fields) : Int))))
        else
          (l_ref04_Compare_b1 p0 p1 p0.fields 0 (s_ref04_order (decide (((List.length p0.list) : Int) < ((List.length p1.list) : Int))) (decide (((List.length p1.list) : Int) < ((List.length p0.list) : Int)))))
      else
        bif ((l_ref04_Compare_b1 p0 p1 p0.fields 0 (l_ref04_Compare_b0 p0 p1 p0.list 0 (s_ref04_order (sLt p0.s p1.s) (!((sLt p0.s p1.s) || (sEq p0.s p1.s)))))) == 0) then
          (s_ref04_order (decide (((List.length p0.fields) : Int) < ((List.length p1.fields) : Int))) (decide (((List.length p1.fields) : Int) < ((List.length p0.fields) : Int))))
        else
          (l_ref04_Compare_b1 p0 p1 p0.fields 0 (l_ref04_Compare_b0 p0 p1 p0.list 0 (s_ref04_order (sLt p0.s p1.s) (!((sLt p0.s p1.s) || (sEq p0.s p1.s))))))
    else
      bif ((l_ref04_Compare_b0 p0 p1 p0.list 0 (s_ref04_order (decide (p0.n < p1.n)) (decide (p1.n < p0.n)))) == 0) then
        bif ((l_ref04_Compare_b1 p0 p1 p0.fields 0 (s_ref04_order (decide (((List.length p0.list) : Int) < ((List.length p1.list) : Int))) (decide (((List.length p1.list) : Int) < ((List.length p0.list) : Int))))) == 0) then
          (s_ref04_order (decide (((List.length p0.fields) : Int) < ((List.length p1.fields) : Int))) (decide (((List.length p1.fields) : Int) < ((List.length p0.fields) : Int))))
        else
          (l_ref04_Compare_b1 p0 p1 p0.fields 0 (s_ref04_order (decide (((List.length p0.list) : Int) < ((List.length p1.list) : Int))) (decide (((List.length p1.list) : Int) < ((List.length p0.list) : Int)))))
      else
        bif ((l_ref04_Compare_b1 p0 p1 p0.fields 0 (l_ref04_Compare_b0 p0 p1 p0.list 0 (s_ref04_order (decide (p0.n < p1.n)) (decide (p1.n < p0.n))))) == 0) then
          (s_ref04_order (decide (((List.length p0.fields) : Int) < ((List.length p1.fields) : Int))) (decide (((List.length p1.fields) : Int) < ((List.length p0.fields) : Int))))
        else
          (l_ref04_Compare_b1 p0 p1 p0.fields 0 (l_ref04_Compare_b0 p0 p1 p0.list 0 (s_ref04_order (decide (p0.n < p1.n)) (decide (p1.n < p0.n)))))
  else
    bif ((l_ref04_Compare_b0 p0 p1 p0.list 0 (s_ref04_order (decide (p0.kind < p1.kind)) (decide (p1.kind < p0.kind)))) == 0) then
      bif ((l_ref04_Compare_b1 p0 p1 p0.fields 0 (s_ref04_order (decide (((List.length p0.list) : Int) < ((List.length p1.list) : Int))) (decide (((List.length p1.list) : Int) < ((List.length p0.list) : Int))))) == 0) then
        (s_ref04_order (decide (((List.length p0.fields) : Int) < ((List.length p1.fields) : Int))) (decide (((List.length p1.fields) : Int) < ((List.length p0.fields) : Int))))
      else
        (l_ref04_Compare_b1 p0 p1 p0.fields 0 (s_ref04_order (decide (((List.length p0.list) : Int) < ((List.length p1.list) : Int))) (decide (((List.length p1.list) : Int) < ((List.length p0.list) : Int)))))
    else
      bif ((l_ref04_Compare_b1 p0 p1 p0.fields 0 (l_ref04_Compare_b0 p0 p1 p0.list 0 (s_ref04_order (decide (p0.kind < p1.kind)) (decide (p1.kind < p0.kind))))) == 0) then
        (s_ref04_order (decide (((List.length p0.fields) : Int) < ((List.length p1.fields) : Int))) (decide (((List.length p1.fields) : Int) < ((List.length p0.fields) : Int))))
      else
        (l_ref04_Compare_b1 p0 p1 p0.fields 0 (l_ref04_Compare_b0 p0 p1 p0.list 0 (s_ref04_order (decide (p0.kind < p1.kind)) (decide (p1.kind < p0.kind)))))
termination_by SizeOf.sizeOf p0
decreasing_by all_goals first | exact Val.lt_list _ | exact Val.lt_fields _ | exact lt_head _ _ | exact lt_tail _ _ | exact lt_headv _ _
def l_ref04_Compare_b0 (p0 : Val) (p1 : Val) : List Val → Nat → Int → Int
  | [], _i0, v0_1 =>
    v0_1
  | x0 :: r0, i0, v0_1 =>
    bif (decide ((i0 : Int) < ((List.length p1.list) : Int))) then
      bif (v0_1 == 0) then
        l_ref04_Compare_b0 p0 p1 r0 (i0 + 1) (s_ref04_Compare x0 (List.getD p1.list i0 (Val.mk 0 0 (⟨#[]⟩ : ByteArray) [] [])))
      else
        v0_1
    else
      v0_1
termination_by l => SizeOf.sizeOf l
decreasing_by all_goals first | exact Val.lt_list _ | exact Val.lt_fields _ | exact lt_head _ _ | exact lt_tail _ _ | exact lt_headv _ _
def l_ref04_Compare_b1 (p0 : Val) (p1 : Val) : List Fld → Nat → Int → Int
  | [], _i1, v1_1 =>
    v1_1
  | x1 :: r1, i1, v1_1 =>
    bif (decide ((i1 : Int) < ((List.length p1.fields) : Int))) then
      bif (v1_1 == 0) then
        bif ((s_ref04_order (sLt x1.name (List.getD p1.fields i1 (Fld.mk (⟨#[]⟩ : ByteArray) (Val.mk 0 0 (⟨#[]⟩ : ByteArray) [] []))).name) (!((sLt x1.name (List.getD p1.fields i1 (Fld.mk (⟨#[]⟩ : ByteArray) (Val.mk 0 0 (⟨#[]⟩ : ByteArray) [] []))).name) || (sEq x1.name (List.getD p1.fields i1 (Fld.mk (⟨#[]⟩ : ByteArray) (Val.mk 0 0 (⟨#[]⟩ : ByteArray) [] []))).name)))) == 0) then
          l_ref04_Compare_b1 p0 p1 r1 (i1 + 1) (s_ref04_Compare x1.v (List.getD p1.fields i1 (Fld.mk (⟨#[]⟩ : ByteArray) (Val.mk 0 0 (⟨#[]⟩ : ByteArray) [] []))).v)
        else
          l_ref04_Compare_b1 p0 p1 r1 (i1 + 1) (s_ref04_order (sLt x1.name (List.getD p1.fields i1 (Fld.mk (⟨#[]⟩ : ByteArray) (Val.mk 0 0 (⟨#[]⟩ : ByteArray) [] []))).name) (!((sLt x1.name (List.getD p1.fields i1 (Fld.mk (⟨#[]⟩ : ByteArray) (Val.mk 0 0 (⟨#[]⟩ : ByteArray) [] []))).name) || (sEq x1.name (List.getD p1.fields i1 (Fld.mk (⟨#[]⟩ : ByteArray) (Val.mk 0 0 (⟨#[]⟩ : ByteArray) [] []))).name))))
      else
        v1_1
    else
      v1_1
termination_by l => SizeOf.sizeOf l
decreasing_by all_goals first | exact Val.lt_list _ | exact Val.lt_fields _ | exact lt_head _ _ | exact lt_tail _ _ | exact lt_headv _ _
end
def HE_ref04_Compare_b0 (_p0 : Val) (_p1 : Val) (i0 : Nat) (v0_1 : Int) : List PV :=
  [.un, .un, .bx 0 0, .bx 1 0, .un, .int .i64 v0_1, .int .i64 (i0 : Int), .un, .un, .un, .un, .un, .un, .un, .un, .un, .un, .un, .un, .un, .un, .un, .un, .un, .un, .un, .un, .un, .un, .un, .un, .un, .un, .un, .un, .un, .un, .un, .un, .un, .un, .un, .un, .un, .un, .un, .un, .un, .un, .un, .un, .un, .un, .un, .un, .un, .un, .un, .un, .un, .un, .un, .un, .un, .un, .un, .un, .un, .un, .un, .un, .un, .un, .un, .un, .un, .un, .un, .un, .un, .un, .un, .un, .un, .un, .un, .un, .un, .un, .un, .un, .un, .un, .un, .un, .un, .un, .un, .un, .un, .un, .un, .un, .un, .un, .un, .un, .un, .un, .un, .un, .un, .un, .un, .un, .un, .un, .un, .un, .un, .un, .un, .un, .un, .un, .un, .un, .un, .un, .un, .un, .un, .un, .un, .un, .un, .un, .un, .un, .un, .un, .un, .un, .un, .un, .un, .un, .un, .un, .un, .un, .un, .un, .un, .un, .un, .un, .un, .un, .un, .un, .un, .un, .un, .un, .un, .un, .un, .un]
def HO_ref04_Compare_b0 (p0 : Val) (p1 : Val) (_i0 : Nat) (_v0_1 : Int) : List Ob :=
  [⟨5, 0, true, [.int .i64 p0.kind, .int .i64 p0.n, .str p0.s, .sl (Val.rows p0.list), .sl (Fld.rows p0.fields)]⟩, ⟨5, 0, true, [.int .i64 p1.kind, .int .i64 p1.n, .str p1.s, .sl (Val.rows p1.list), .sl (Fld.rows p1.fields)]⟩]
def E_ref04_Compare_b0 (p0 : Val) (p1 : Val) (i0 : Nat) (v0_1 : Int) : En := .loop 0 Ir.ref04_Compare_b0_live Ir.ref04_Compare_b0 (HE_ref04_Compare_b0 p0 p1 i0 v0_1) (HO_ref04_Compare_b0 p0 p1 i0 v0_1)
def S_ref04_Compare_b0_0 (p0 : Val) (p1 : Val) (q0 : Int) (z : Nat → PV) (_zo : Nat → List PV) : St :=
  ⟨[z 0, z 1, .bx 0 0, .bx 1 0, z 4, .int .i64 q0, z 6, z 7, z 8, z 9, z 10, z 11, z 12, z 13, z 14, z 15, z 16, z 17, z 18, z 19, z 20, z 21, z 22, z 23, z 24, z 25, z 26, z 27, z 28, z 29, z 30, z 31, z 32, z 33, z 34, z 35, z 36, z 37, z 38, z 39, z 40, z 41, z 42, z 43, z 44, z 45, z 46, z 47, z 48, z 49, z 50, z 51, z 52, z 53, z 54, z 55, z 56, z 57, z 58, z 59, z 60, z 61, z 62, z 63, z 64, z 65, z 66, z 67, z 68, z 69, z 70, z 71, z 72, z 73, z 74, z 75, z 76, z 77, z 78, z 79, z 80, z 81, z 82, z 83, z 84, z 85, z 86, z 87, z 88, z 89, z 90, z 91, z 92, z 93, z 94, z 95, z 96, z 97, z 98, z 99, z 100, z 101, z 102, z 103, z 104, z 105, z 106, z 107, z 108, z 109, z 110, z 111, z 112, z 113, z 114, z 115, z 116, z 117, z 118, z 119, z 120, z 121, z 122, z 123, z 124, z 125, z 126, z 127, z 128, z 129, z 130, z 131, z 132, z 133, z 134, z 135, z 136, z 137, z 138, z 139, z 140, z 141, z 142, z 143, z 144, z 145, z 146, z 147, z 148, z 149, z 150, z 151, z 152, z 153, z 154, z 155, z 156, z 157, z 158, z 159, z 160, z 161, z 162, z 163, z 164, z 165, z 166, z 167, z 168], [(0, ⟨5, 0, true, [.int .i64 p0.kind, .int .i64 p0.n, .str p0.s, .sl (Val.rows p0.list), .sl (Fld.rows p0.fields)]⟩), (1, ⟨5, 0, true, [.int .i64 p1.kind, .int .i64 p1.n, .str p1.s, .sl (Val.rows p1.list), .sl (Fld.rows p1.fields)]⟩)], 1026⟩
def P_ref04_Compare_b0 (p0 : Val) (p1 : Val) (e : En) (q : Int) : Prop := ∃ z zo, Tells G e (.st (.exit 0) (S_ref04_Compare_b0_0 p0 p1 q z zo))
theorem P_ref04_Compare_b0_mono (p0 : Val) (p1 : Val) {e e' : En} (h : ∀ r, Tells G e r → Tells G e' r) : ∀ q, P_ref04_Compare_b0 p0 p1 e q → P_ref04_Compare_b0 p0 p1 e' q
  | _, ⟨z, zo, hz⟩ => ⟨z, zo, h _ hz⟩
def HE_ref04_Compare_b1 (_p0 : Val) (_p1 : Val) (i1 : Nat) (v1_1 : Int) : List PV :=
  [.un, .un, .bx 0 0, .bx 1 0, .un, .int .i64 v1_1, .un, .int .i64 (i1 : Int), .un, .un, .un, .un, .un, .un, .un, .un, .un, .un, .un, .un, .un, .un, .un, .un, .un, .un, .un, .un, .un, .un, .un, .un, .un, .un, .un, .un, .un, .un, .un, .un, .un, .un, .un, .un, .un, .un, .un, .un, .un, .un, .un, .un, .un, .un, .un, .un, .un, .un, .un, .un, .un, .un, .un, .un, .un, .un, .un, .un, .un, .un, .un, .un, .un, .un, .un, .un, .un, .un, .un, .un, .un, .un, .un, .un, .un, .un, .un, .un, .un, .un, .un, .un, .un, .un, .un, .un, .un, .un, .un, .un, .un, .un, .un, .un, .un, .un, .un, .un, .un, .un, .un, .un, .un, .un, .un, .un, .un, .un, .un, .un, .un, .un, .un, .un, .un, .un, .un, .un, .un, .un, .un, .un, .un, .un, .un, .un, .un, .un, .un, .un, .un, .un, .un, .un, .un, .un, .un, .un, .un, .un, .un, .un, .un, .un, .un, .un, .un, .un, .un, .un, .un, .un, .un, .un, .un, .un, .un, .un, .un]
def HO_ref04_Compare_b1 (p0 : Val) (p1 : Val) (_i1 : Nat) (_v1_1 : Int) : List Ob :=
  [⟨5, 0, true, [.int .i64 p0.kind, .int .i64 p0.n, .str p0.s, .sl (Val.rows p0.list), .sl (Fld.rows p0.fields)]⟩, ⟨5, 0, true, [.int .i64 p1.kind, .int .i64 p1.n, .str p1.s, .sl (Val.rows p1.list), .sl (Fld.rows p1.fields)]⟩]
def E_ref04_Compare_b1 (p0 : Val) (p1 : Val) (i1 : Nat) (v1_1 : Int) : En := .loop 0 Ir.ref04_Compare_b1_live Ir.ref04_Compare_b1 (HE_ref04_Compare_b1 p0 p1 i1 v1_1) (HO_ref04_Compare_b1 p0 p1 i1 v1_1)
def S_ref04_Compare_b1_0 (p0 : Val) (p1 : Val) (q0 : Int) (z : Nat → PV) (_zo : Nat → List PV) : St :=
  ⟨[z 0, z 1, .bx 0 0, .bx 1 0, z 4, .int .i64 q0, z 6, z 7, z 8, z 9, z 10, z 11, z 12, z 13, z 14, z 15, z 16, z 17, z 18, z 19, z 20, z 21, z 22, z 23, z 24, z 25, z 26, z 27, z 28, z 29, z 30, z 31, z 32, z 33, z 34, z 35, z 36, z 37, z 38, z 39, z 40, z 41, z 42, z 43, z 44, z 45, z 46, z 47, z 48, z 49, z 50, z 51, z 52, z 53, z 54, z 55, z 56, z 57, z 58, z 59, z 60, z 61, z 62, z 63, z 64, z 65, z 66, z 67, z 68, z 69, z 70, z 71, z 72, z 73, z 74, z 75, z 76, z 77, z 78, z 79, z 80, z 81, z 82, z 83, z 84, z 85, z 86, z 87, z 88, z 89, z 90, z 91, z 92, z 93, z 94, z 95, z 96, z 97, z 98, z 99, z 100, z 101, z 102, z 103, z 104, z 105, z 106, z 107, z 108, z 109, z 110, z 111, z 112, z 113, z 114, z 115, z 116, z 117, z 118, z 119, z 120, z 121, z 122, z 123, z 124, z 125, z 126, z 127, z 128, z 129, z 130, z 131, z 132, z 133, z 134, z 135, z 136, z 137, z 138, z 139, z 140, z 141, z 142, z 143, z 144, z 145, z 146, z 147, z 148, z 149, z 150, z 151, z 152, z 153, z 154, z 155, z 156, z 157, z 158, z 159, z 160, z 161, z 162, z 163, z 164, z 165, z 166, z 167, z 168], [(0, ⟨5, 0, true, [.int .i64 p0.kind, .int .i64 p0.n, .str p0.s, .sl (Val.rows p0.list), .sl (Fld.rows p0.fields)]⟩), (1, ⟨5, 0, true, [.int .i64 p1.kind, .int .i64 p1.n, .str p1.s, .sl (Val.rows p1.list), .sl (Fld.rows p1.fields)]⟩)], 1026⟩
def P_ref04_Compare_b1 (p0 : Val) (p1 : Val) (e : En) (q : Int) : Prop := ∃ z zo, Tells G e (.st (.exit 2) (S_ref04_Compare_b1_0 p0 p1 q z zo))
theorem P_ref04_Compare_b1_mono (p0 : Val) (p1 : Val) {e e' : En} (h : ∀ r, Tells G e r → Tells G e' r) : ∀ q, P_ref04_Compare_b1 p0 p1 e q → P_ref04_Compare_b1 p0 p1 e' q
  | _, ⟨z, zo, hz⟩ => ⟨z, zo, h _ hz⟩
def c_ref04_Compare (p0 : Val) (p1 : Val) : En := .call 18 [.agg (Val.cells p0), .agg (Val.cells p1)] []
def a_ref04_Compare (p0 : Val) (p1 : Val) : Rs := .ret (.int .i64 (s_ref04_Compare p0 p1)) []
abbrev H_ref04_Compare (p0 : Val) : Prop := Val.Sm 4611686018427387904 p0
def Rec_ref04_Compare (p0 : Val) : Prop := ∀ (q : Val), SizeOf.sizeOf q < SizeOf.sizeOf p0 → ∀ (p1 : Val), H_ref04_Compare q → Tells G (c_ref04_Compare q p1) (a_ref04_Compare q p1)
def H_ref04_Compare_b0 (p0 : Val) (_p1 : Val) : Prop := (List.length p0.list ≤ 4611686018427387904) ∧ (∀ x0 ∈ p0.list, H_ref04_Compare x0) ∧ True
def H_ref04_Compare_b1 (p0 : Val) (_p1 : Val) : Prop := (List.length p0.fields ≤ 4611686018427387904) ∧ (∀ x1 ∈ p0.fields, H_ref04_Compare x1.v) ∧ True
theorem give_ref04_Compare (p0 : Val) (p1 : Val) (H : H_ref04_Compare p0) : (H_ref04_Compare_b0 p0 p1) ∧ (H_ref04_Compare_b1 p0 p1) ∧ True := by
  obtain ⟨h1, h2, h3, h4⟩ := H.all
  simp only [H_ref04_Compare_b0, H_ref04_Compare_b1]
  exact ⟨⟨h1, h3, trivial⟩, ⟨h2, h4, trivial⟩, trivial⟩
def Z_ref04_Compare_b0_0 (p0 : Val) (_p1 : Val) (i0 : Nat) (_v0_1 : Int) : List PV :=
  [.un, .un, .un, .un, .un, .un, .int .i64 (i0 : Int), .un, .un, .un, .un, .un, .un, .un, .un, .un, .un, .un, .un, .un, .un, .un, .un, .un, .un, .un, .un, .un, .un, .un, .un, .un, .un, .un, .un, .un, .un, .un, .un, .un, .un, .un, .un, .un, .un, .int .i64 (i0 : Int), .bx 0 3, .sl (Val.rows p0.list), .int .i64 ((List.length p0.list) : Int), .bool false, .bool false, .tup [], .tup [], .tup [], .tup [], .tup [], .bool false, .bool false, .tup [], .tup [], .bool false]
def ZO_ref04_Compare_b0_0 (_p0 : Val) (_p1 : Val) (_i0 : Nat) (_v0_1 : Int) : List (Nat × List PV) :=
  []
theorem x_ref04_Compare_b0_0 (p0 : Val) (p1 : Val) (_H : H_ref04_Compare_b0 p0 p1) (_rec : Rec_ref04_Compare p0) (i0 : Nat) (v0_1 : Int) (hc0 : (decide ((i0 : Int) < ((List.length p0.list) : Int))) = false) : P_ref04_Compare_b0 p0 p1 (E_ref04_Compare_b0 p0 p1 i0 v0_1) v0_1 := by
  exact ⟨(envF (Z_ref04_Compare_b0_0 p0 p1 i0 v0_1)), (zoF (ZO_ref04_Compare_b0_0 p0 p1 i0 v0_1)), tells_outVI VOK.nil (x := ((.exit 0), S_ref04_Compare_b0_0 p0 p1 v0_1 (envF (Z_ref04_Compare_b0_0 p0 p1 i0 v0_1)) (zoF (ZO_ref04_Compare_b0_0 p0 p1 i0 v0_1)))) [hP 3 (len_ok (Val.rows p0.list) (List.length p0.list) (Val.rowsLen p0.list)), hB 0 hc0] [] (by kernel_rfl)⟩
theorem n_ref04_Compare_b0_1 (p0 : Val) (p1 : Val) (H : H_ref04_Compare_b0 p0 p1) (rec : Rec_ref04_Compare p0) (x0 : Val) (i0 : Nat) (v0_1 : Int) (hx0 : p0.list[i0]? = some x0) (hi0 : i0 < List.length p0.list) (hc0 : (decide ((i0 : Int) < ((List.length p0.list) : Int))) = true) (h0 : (decide ((i0 : Int) < ((List.length p1.list) : Int))) = true) (h1 : (v0_1 == 0) = true) {r : Rs} (hr : Tells G (E_ref04_Compare_b0 p0 p1 (i0 + 1) (s_ref04_Compare x0 (List.getD p1.list i0 (Val.mk 0 0 (⟨#[]⟩ : ByteArray) [] [])))) r) : Tells G (E_ref04_Compare_b0 p0 p1 i0 v0_1) r := by
  have hB0 := H.1; have e0 := of_decide_eq_true h0; have e1 := eq_of_beq h1
  exact tells_nextVI VOK.nil (y := (HE_ref04_Compare_b0 p0 p1 (i0 + 1) (s_ref04_Compare x0 (List.getD p1.list i0 (Val.mk 0 0 (⟨#[]⟩ : ByteArray) [] []))), HO_ref04_Compare_b0 p0 p1 (i0 + 1) (s_ref04_Compare x0 (List.getD p1.list i0 (Val.mk 0 0 (⟨#[]⟩ : ByteArray) [] []))))) [hP 3 (len_ok (Val.rows p0.list) (List.length p0.list) (Val.rowsLen p0.list)), hB 0 hc0, hP 4 (len_ok (Val.rows p1.list) (List.length p1.list) (Val.rowsLen p1.list)), hB 0 h0, hB 3 h1, hP 4 (ix_ok 5 (Val.rows p0.list) i0 _ (Val.rowsGet hx0) rfl), hP 4 (ixI_ok 5 (Val.rows p1.list) (i0 : Int) _ (by omega) (Val.rowsGet (getD_ok p1.list (Int.toNat (i0 : Int)) (Val.mk 0 0 (⟨#[]⟩ : ByteArray) [] []) (by omega))) rfl), hP 4 (inc_ok i0 (by omega))] [aN (rec x0 (szL hx0) (List.getD p1.list i0 (Val.mk 0 0 (⟨#[]⟩ : ByteArray) [] [])) (H.2.1 x0 (mem_get hx0)))] (by kernel_rfl) hr
def Z_ref04_Compare_b0_2 (p0 : Val) (p1 : Val) (i0 : Nat) (v0_1 : Int) (_x0 : Val) : List PV :=
  [.un, .un, .un, .un, .un, .un, .int .i64 (i0 : Int), .un, .un, .un, .un, .un, .un, .un, .un, .un, .un, .un, .un, .un, .un, .un, .un, .un, .un, .un, .un, .un, .un, .un, .un, .un, .un, .un, .un, .un, .un, .un, .un, .un, .un, .un, .un, .un, .un, .int .i64 (i0 : Int), .bx 0 3, .sl (Val.rows p0.list), .int .i64 ((List.length p0.list) : Int), .bool true, .bool true, .int .i64 (i0 : Int), .bx 1 3, .sl (Val.rows p1.list), .int .i64 ((List.length p1.list) : Int), .bool true, .bool true, .bool true, .int .i64 v0_1, .bool false, .bool false]
def ZO_ref04_Compare_b0_2 (_p0 : Val) (_p1 : Val) (_i0 : Nat) (_v0_1 : Int) (_x0 : Val) : List (Nat × List PV) :=
  []
theorem x_ref04_Compare_b0_2 (p0 : Val) (p1 : Val) (_H : H_ref04_Compare_b0 p0 p1) (_rec : Rec_ref04_Compare p0) (x0 : Val) (i0 : Nat) (v0_1 : Int) (_hx0 : p0.list[i0]? = some x0) (_hi0 : i0 < List.length p0.list) (hc0 : (decide ((i0 : Int) < ((List.length p0.list) : Int))) = true) (h0 : (decide ((i0 : Int) < ((List.length p1.list) : Int))) = true) (h1 : (v0_1 == 0) = false) : P_ref04_Compare_b0 p0 p1 (E_ref04_Compare_b0 p0 p1 i0 v0_1) v0_1 := by
  exact ⟨(envF (Z_ref04_Compare_b0_2 p0 p1 i0 v0_1 x0)), (zoF (ZO_ref04_Compare_b0_2 p0 p1 i0 v0_1 x0)), tells_outVI VOK.nil (x := ((.exit 0), S_ref04_Compare_b0_0 p0 p1 v0_1 (envF (Z_ref04_Compare_b0_2 p0 p1 i0 v0_1 x0)) (zoF (ZO_ref04_Compare_b0_2 p0 p1 i0 v0_1 x0)))) [hP 3 (len_ok (Val.rows p0.list) (List.length p0.list) (Val.rowsLen p0.list)), hB 0 hc0, hP 4 (len_ok (Val.rows p1.list) (List.length p1.list) (Val.rowsLen p1.list)), hB 0 h0, hB 3 h1] [] (by kernel_rfl)⟩
def Z_ref04_Compare_b0_3 (p0 : Val) (p1 : Val) (i0 : Nat) (_v0_1 : Int) (_x0 : Val) : List PV :=
  [.un, .un, .un, .un, .un, .un, .int .i64 (i0 : Int), .un, .un, .un, .un, .un, .un, .un, .un, .un, .un, .un, .un, .un, .un, .un, .un, .un, .un, .un, .un, .un, .un, .un, .un, .un, .un, .un, .un, .un, .un, .un, .un, .un, .un, .un, .un, .un, .un, .int .i64 (i0 : Int), .bx 0 3, .sl (Val.rows p0.list), .int .i64 ((List.length p0.list) : Int), .bool true, .bool true, .int .i64 (i0 : Int), .bx 1 3, .sl (Val.rows p1.list), .int .i64 ((List.length p1.list) : Int), .bool false, .bool false, .bool false, .tup [], .tup [], .bool false]
def ZO_ref04_Compare_b0_3 (_p0 : Val) (_p1 : Val) (_i0 : Nat) (_v0_1 : Int) (_x0 : Val) : List (Nat × List PV) :=
  []
theorem x_ref04_Compare_b0_3 (p0 : Val) (p1 : Val) (_H : H_ref04_Compare_b0 p0 p1) (_rec : Rec_ref04_Compare p0) (x0 : Val) (i0 : Nat) (v0_1 : Int) (_hx0 : p0.list[i0]? = some x0) (_hi0 : i0 < List.length p0.list) (hc0 : (decide ((i0 : Int) < ((List.length p0.list) : Int))) = true) (h0 : (decide ((i0 : Int) < ((List.length p1.list) : Int))) = false) : P_ref04_Compare_b0 p0 p1 (E_ref04_Compare_b0 p0 p1 i0 v0_1) v0_1 := by
  exact ⟨(envF (Z_ref04_Compare_b0_3 p0 p1 i0 v0_1 x0)), (zoF (ZO_ref04_Compare_b0_3 p0 p1 i0 v0_1 x0)), tells_outVI VOK.nil (x := ((.exit 0), S_ref04_Compare_b0_0 p0 p1 v0_1 (envF (Z_ref04_Compare_b0_3 p0 p1 i0 v0_1 x0)) (zoF (ZO_ref04_Compare_b0_3 p0 p1 i0 v0_1 x0)))) [hP 3 (len_ok (Val.rows p0.list) (List.length p0.list) (Val.rowsLen p0.list)), hB 0 hc0, hP 4 (len_ok (Val.rows p1.list) (List.length p1.list) (Val.rowsLen p1.list)), hB 0 h0] [] (by kernel_rfl)⟩
theorem lt_ref04_Compare_b0 (p0 : Val) (p1 : Val) (H : H_ref04_Compare_b0 p0 p1) (rec : Rec_ref04_Compare p0) : ∀ (r0 : List Val) (i0 : Nat) (v0_1 : Int), List.drop i0 p0.list = r0 → P_ref04_Compare_b0 p0 p1 (E_ref04_Compare_b0 p0 p1 i0 v0_1) (l_ref04_Compare_b0 p0 p1 r0 i0 v0_1)
  | [], i0, v0_1, hd => by
    have hc0 : (decide ((i0 : Int) < ((List.length p0.list) : Int))) = false := by have := drop_end hd; simp; omega
    rw [l_ref04_Compare_b0]
    exact x_ref04_Compare_b0_0 p0 p1 H rec i0 v0_1 hc0
  | x0 :: r0, i0, v0_1, hd => by
    obtain ⟨hx0, hi0, hd'⟩ := drop_get hd
    have hc0 : (decide ((i0 : Int) < ((List.length p0.list) : Int))) = true := by simp; omega
    rw [l_ref04_Compare_b0]
    cases h0 : (decide ((i0 : Int) < ((List.length p1.list) : Int))) with
    | true =>
     cases h1 : (v0_1 == 0) with
     | true =>
      exact P_ref04_Compare_b0_mono p0 p1 (fun r hr => n_ref04_Compare_b0_1 p0 p1 H rec x0 i0 v0_1 hx0 hi0 hc0 h0 h1 hr) _ (lt_ref04_Compare_b0 p0 p1 H rec r0 (i0 + 1) (s_ref04_Compare x0 (List.getD p1.list i0 (Val.mk 0 0 (⟨#[]⟩ : ByteArray) [] []))) hd')
     | false =>
      exact x_ref04_Compare_b0_2 p0 p1 H rec x0 i0 v0_1 hx0 hi0 hc0 h0 h1
    | false =>
     exact x_ref04_Compare_b0_3 p0 p1 H rec x0 i0 v0_1 hx0 hi0 hc0 h0
def Z_ref04_Compare_b1_0 (p0 : Val) (_p1 : Val) (i1 : Nat) (_v1_1 : Int) : List PV :=
  [.un, .un, .un, .un, .un, .un, .un, .int .i64 (i1 : Int), .un, .un, .un, .un, .un, .un, .un, .un, .un, .un, .un, .un, .un, .un, .un, .un, .un, .un, .un, .un, .un, .un, .un, .un, .un, .un, .un, .un, .un, .un, .un, .un, .un, .un, .un, .un, .un, .un, .un, .un, .un, .un, .un, .un, .un, .un, .un, .un, .un, .un, .un, .un, .un, .un, .un, .un, .un, .un, .un, .un, .un, .un, .un, .un, .un, .un, .un, .un, .un, .un, .un, .un, .un, .un, .un, .un, .un, .un, .un, .un, .un, .un, .un, .int .i64 (i1 : Int), .bx 0 4, .sl (Fld.rows p0.fields), .int .i64 ((List.length p0.fields) : Int), .bool false, .bool false, .tup [], .tup [], .tup [], .tup [], .tup [], .bool false, .bool false, .tup [], .tup [], .bool false]
def ZO_ref04_Compare_b1_0 (_p0 : Val) (_p1 : Val) (_i1 : Nat) (_v1_1 : Int) : List (Nat × List PV) :=
  []
theorem x_ref04_Compare_b1_0 (p0 : Val) (p1 : Val) (_H : H_ref04_Compare_b1 p0 p1) (_rec : Rec_ref04_Compare p0) (i1 : Nat) (v1_1 : Int) (hc1 : (decide ((i1 : Int) < ((List.length p0.fields) : Int))) = false) : P_ref04_Compare_b1 p0 p1 (E_ref04_Compare_b1 p0 p1 i1 v1_1) v1_1 := by
  exact ⟨(envF (Z_ref04_Compare_b1_0 p0 p1 i1 v1_1)), (zoF (ZO_ref04_Compare_b1_0 p0 p1 i1 v1_1)), tells_outVI VOK.nil (x := ((.exit 2), S_ref04_Compare_b1_0 p0 p1 v1_1 (envF (Z_ref04_Compare_b1_0 p0 p1 i1 v1_1)) (zoF (ZO_ref04_Compare_b1_0 p0 p1 i1 v1_1)))) [hP 3 (len_ok (Fld.rows p0.fields) (List.length p0.fields) (Fld.rowsLen p0.fields)), hB 0 hc1] [] (by kernel_rfl)⟩
theorem n_ref04_Compare_b1_1 (p0 : Val) (p1 : Val) (H : H_ref04_Compare_b1 p0 p1) (rec : Rec_ref04_Compare p0) (x1 : Fld) (i1 : Nat) (v1_1 : Int) (hx1 : p0.fields[i1]? = some x1) (hi1 : i1 < List.length p0.fields) (hc1 : (decide ((i1 : Int) < ((List.length p0.fields) : Int))) = true) (h0 : (decide ((i1 : Int) < ((List.length p1.fields) : Int))) = true) (h1 : (v1_1 == 0) = true) (h2 : ((s_ref04_order (sLt x1.name (List.getD p1.fields i1 (Fld.mk (⟨#[]⟩ : ByteArray) (Val.mk 0 0 (⟨#[]⟩ : ByteArray) [] []))).name) (!((sLt x1.name (List.getD p1.fields i1 (Fld.mk (⟨#[]⟩ : ByteArray) (Val.mk 0 0 (⟨#[]⟩ : ByteArray) [] []))).name) || (sEq x1.name (List.getD p1.fields i1 (Fld.mk (⟨#[]⟩ : ByteArray) (Val.mk 0 0 (⟨#[]⟩ : ByteArray) [] []))).name)))) == 0) = true) {r : Rs} (hr : Tells G (E_ref04_Compare_b1 p0 p1 (i1 + 1) (s_ref04_Compare x1.v (List.getD p1.fields i1 (Fld.mk (⟨#[]⟩ : ByteArray) (Val.mk 0 0 (⟨#[]⟩ : ByteArray) [] []))).v)) r) : Tells G (E_ref04_Compare_b1 p0 p1 i1 v1_1) r := by
  have hB0 := H.1; have e0 := of_decide_eq_true h0; have e1 := eq_of_beq h1
  exact tells_nextVI VOK.nil (y := (HE_ref04_Compare_b1 p0 p1 (i1 + 1) (s_ref04_Compare x1.v (List.getD p1.fields i1 (Fld.mk (⟨#[]⟩ : ByteArray) (Val.mk 0 0 (⟨#[]⟩ : ByteArray) [] []))).v), HO_ref04_Compare_b1 p0 p1 (i1 + 1) (s_ref04_Compare x1.v (List.getD p1.fields i1 (Fld.mk (⟨#[]⟩ : ByteArray) (Val.mk 0 0 (⟨#[]⟩ : ByteArray) [] []))).v))) [hP 3 (len_ok (Fld.rows p0.fields) (List.length p0.fields) (Fld.rowsLen p0.fields)), hB 0 hc1, hP 4 (len_ok (Fld.rows p1.fields) (List.length p1.fields) (Fld.rowsLen p1.fields)), hB 0 h0, hB 3 h1, hP 4 (ix_ok 6 (Fld.rows p0.fields) i1 _ (Fld.rowsGet hx1) rfl), hP 5 (ixI_ok 6 (Fld.rows p1.fields) (i1 : Int) _ (by omega) (Fld.rowsGet (getD_ok p1.fields (Int.toNat (i1 : Int)) (Fld.mk (⟨#[]⟩ : ByteArray) (Val.mk 0 0 (⟨#[]⟩ : ByteArray) [] [])) (by omega))) rfl), hP 6 (ix_ok 6 (Fld.rows p0.fields) i1 _ (Fld.rowsGet hx1) rfl), hP 5 (ixI_ok 6 (Fld.rows p1.fields) (i1 : Int) _ (by omega) (Fld.rowsGet (getD_ok p1.fields (Int.toNat (i1 : Int)) (Fld.mk (⟨#[]⟩ : ByteArray) (Val.mk 0 0 (⟨#[]⟩ : ByteArray) [] [])) (by omega))) rfl), hB 6 h2, hP 3 (ix_ok 6 (Fld.rows p0.fields) i1 _ (Fld.rowsGet hx1) rfl), hP 5 (ixI_ok 6 (Fld.rows p1.fields) (i1 : Int) _ (by omega) (Fld.rowsGet (getD_ok p1.fields (Int.toNat (i1 : Int)) (Fld.mk (⟨#[]⟩ : ByteArray) (Val.mk 0 0 (⟨#[]⟩ : ByteArray) [] [])) (by omega))) rfl), hP 5 (inc_ok i1 (by omega))] [aN (t_ref04_order (sLt x1.name (List.getD p1.fields i1 (Fld.mk (⟨#[]⟩ : ByteArray) (Val.mk 0 0 (⟨#[]⟩ : ByteArray) [] []))).name) (!((sLt x1.name (List.getD p1.fields i1 (Fld.mk (⟨#[]⟩ : ByteArray) (Val.mk 0 0 (⟨#[]⟩ : ByteArray) [] []))).name) || (sEq x1.name (List.getD p1.fields i1 (Fld.mk (⟨#[]⟩ : ByteArray) (Val.mk 0 0 (⟨#[]⟩ : ByteArray) [] []))).name)))), aN (rec x1.v (szF hx1) (List.getD p1.fields i1 (Fld.mk (⟨#[]⟩ : ByteArray) (Val.mk 0 0 (⟨#[]⟩ : ByteArray) [] []))).v (H.2.1 x1 (mem_get hx1)))] (by kernel_rfl) hr
theorem n_ref04_Compare_b1_2 (p0 : Val) (p1 : Val) (H : H_ref04_Compare_b1 p0 p1) (_rec : Rec_ref04_Compare p0) (x1 : Fld) (i1 : Nat) (v1_1 : Int) (hx1 : p0.fields[i1]? = some x1) (hi1 : i1 < List.length p0.fields) (hc1 : (decide ((i1 : Int) < ((List.length p0.fields) : Int))) = true) (h0 : (decide ((i1 : Int) < ((List.length p1.fields) : Int))) = true) (h1 : (v1_1 == 0) = true) (h2 : ((s_ref04_order (sLt x1.name (List.getD p1.fields i1 (Fld.mk (⟨#[]⟩ : ByteArray) (Val.mk 0 0 (⟨#[]⟩ : ByteArray) [] []))).name) (!((sLt x1.name (List.getD p1.fields i1 (Fld.mk (⟨#[]⟩ : ByteArray) (Val.mk 0 0 (⟨#[]⟩ : ByteArray) [] []))).name) || (sEq x1.name (List.getD p1.fields i1 (Fld.mk (⟨#[]⟩ : ByteArray) (Val.mk 0 0 (⟨#[]⟩ : ByteArray) [] []))).name)))) == 0) = false) {r : Rs} (hr : Tells G (E_ref04_Compare_b1 p0 p1 (i1 + 1) (s_ref04_order (sLt x1.name (List.getD p1.fields i1 (Fld.mk (⟨#[]⟩ : ByteArray) (Val.mk 0 0 (⟨#[]⟩ : ByteArray) [] []))).name) (!((sLt x1.name (List.getD p1.fields i1 (Fld.mk (⟨#[]⟩ : ByteArray) (Val.mk 0 0 (⟨#[]⟩ : ByteArray) [] []))).name) || (sEq x1.name (List.getD p1.fields i1 (Fld.mk (⟨#[]⟩ : ByteArray) (Val.mk 0 0 (⟨#[]⟩ : ByteArray) [] []))).name))))) r) : Tells G (E_ref04_Compare_b1 p0 p1 i1 v1_1) r := by
  have hB0 := H.1; have e0 := of_decide_eq_true h0; have e1 := eq_of_beq h1
  exact tells_nextVI VOK.nil (y := (HE_ref04_Compare_b1 p0 p1 (i1 + 1) (s_ref04_order (sLt x1.name (List.getD p1.fields i1 (Fld.mk (⟨#[]⟩ : ByteArray) (Val.mk 0 0 (⟨#[]⟩ : ByteArray) [] []))).name) (!((sLt x1.name (List.getD p1.fields i1 (Fld.mk (⟨#[]⟩ : ByteArray) (Val.mk 0 0 (⟨#[]⟩ : ByteArray) [] []))).name) || (sEq x1.name (List.getD p1.fields i1 (Fld.mk (⟨#[]⟩ : ByteArray) (Val.mk 0 0 (⟨#[]⟩ : ByteArray) [] []))).name)))), HO_ref04_Compare_b1 p0 p1 (i1 + 1) (s_ref04_order (sLt x1.name (List.getD p1.fields i1 (Fld.mk (⟨#[]⟩ : ByteArray) (Val.mk 0 0 (⟨#[]⟩ : ByteArray) [] []))).name) (!((sLt x1.name (List.getD p1.fields i1 (Fld.mk (⟨#[]⟩ : ByteArray) (Val.mk 0 0 (⟨#[]⟩ : ByteArray) [] []))).name) || (sEq x1.name (List.getD p1.fields i1 (Fld.mk (⟨#[]⟩ : ByteArray) (Val.mk 0 0 (⟨#[]⟩ : ByteArray) [] []))).name)))))) [hP 3 (len_ok (Fld.rows p0.fields) (List.length p0.fields) (Fld.rowsLen p0.fields)), hB 0 hc1, hP 4 (len_ok (Fld.rows p1.fields) (List.length p1.fields) (Fld.rowsLen p1.fields)), hB 0 h0, hB 3 h1, hP 4 (ix_ok 6 (Fld.rows p0.fields) i1 _ (Fld.rowsGet hx1) rfl), hP 5 (ixI_ok 6 (Fld.rows p1.fields) (i1 : Int) _ (by omega) (Fld.rowsGet (getD_ok p1.fields (Int.toNat (i1 : Int)) (Fld.mk (⟨#[]⟩ : ByteArray) (Val.mk 0 0 (⟨#[]⟩ : ByteArray) [] [])) (by omega))) rfl), hP 6 (ix_ok 6 (Fld.rows p0.fields) i1 _ (Fld.rowsGet hx1) rfl), hP 5 (ixI_ok 6 (Fld.rows p1.fields) (i1 : Int) _ (by omega) (Fld.rowsGet (getD_ok p1.fields (Int.toNat (i1 : Int)) (Fld.mk (⟨#[]⟩ : ByteArray) (Val.mk 0 0 (⟨#[]⟩ : ByteArray) [] [])) (by omega))) rfl), hB 6 h2, hP 1 (inc_ok i1 (by omega))] [aN (t_ref04_order (sLt x1.name (List.getD p1.fields i1 (Fld.mk (⟨#[]⟩ : ByteArray) (Val.mk 0 0 (⟨#[]⟩ : ByteArray) [] []))).name) (!((sLt x1.name (List.getD p1.fields i1 (Fld.mk (⟨#[]⟩ : ByteArray) (Val.mk 0 0 (⟨#[]⟩ : ByteArray) [] []))).name) || (sEq x1.name (List.getD p1.fields i1 (Fld.mk (⟨#[]⟩ : ByteArray) (Val.mk 0 0 (⟨#[]⟩ : ByteArray) [] []))).name))))] (by kernel_rfl) hr
def Z_ref04_Compare_b1_3 (p0 : Val) (p1 : Val) (i1 : Nat) (v1_1 : Int) (_x1 : Fld) : List PV :=
  [.un, .un, .un, .un, .un, .un, .un, .int .i64 (i1 : Int), .un, .un, .un, .un, .un, .un, .un, .un, .un, .un, .un, .un, .un, .un, .un, .un, .un, .un, .un, .un, .un, .un, .un, .un, .un, .un, .un, .un, .un, .un, .un, .un, .un, .un, .un, .un, .un, .un, .un, .un, .un, .un, .un, .un, .un, .un, .un, .un, .un, .un, .un, .un, .un, .un, .un, .un, .un, .un, .un, .un, .un, .un, .un, .un, .un, .un, .un, .un, .un, .un, .un, .un, .un, .un, .un, .un, .un, .un, .un, .un, .un, .un, .un, .int .i64 (i1 : Int), .bx 0 4, .sl (Fld.rows p0.fields), .int .i64 ((List.length p0.fields) : Int), .bool true, .bool true, .int .i64 (i1 : Int), .bx 1 4, .sl (Fld.rows p1.fields), .int .i64 ((List.length p1.fields) : Int), .bool true, .bool true, .bool true, .int .i64 v1_1, .bool false, .bool false]
def ZO_ref04_Compare_b1_3 (_p0 : Val) (_p1 : Val) (_i1 : Nat) (_v1_1 : Int) (_x1 : Fld) : List (Nat × List PV) :=
  []
theorem x_ref04_Compare_b1_3 (p0 : Val) (p1 : Val) (_H : H_ref04_Compare_b1 p0 p1) (_rec : Rec_ref04_Compare p0) (x1 : Fld) (i1 : Nat) (v1_1 : Int) (_hx1 : p0.fields[i1]? = some x1) (_hi1 : i1 < List.length p0.fields) (hc1 : (decide ((i1 : Int) < ((List.length p0.fields) : Int))) = true) (h0 : (decide ((i1 : Int) < ((List.length p1.fields) : Int))) = true) (h1 : (v1_1 == 0) = false) : P_ref04_Compare_b1 p0 p1 (E_ref04_Compare_b1 p0 p1 i1 v1_1) v1_1 := by
  exact ⟨(envF (Z_ref04_Compare_b1_3 p0 p1 i1 v1_1 x1)), (zoF (ZO_ref04_Compare_b1_3 p0 p1 i1 v1_1 x1)), tells_outVI VOK.nil (x := ((.exit 2), S_ref04_Compare_b1_0 p0 p1 v1_1 (envF (Z_ref04_Compare_b1_3 p0 p1 i1 v1_1 x1)) (zoF (ZO_ref04_Compare_b1_3 p0 p1 i1 v1_1 x1)))) [hP 3 (len_ok (Fld.rows p0.fields) (List.length p0.fields) (Fld.rowsLen p0.fields)), hB 0 hc1, hP 4 (len_ok (Fld.rows p1.fields) (List.length p1.fields) (Fld.rowsLen p1.fields)), hB 0 h0, hB 3 h1] [] (by kernel_rfl)⟩
def Z_ref04_Compare_b1_4 (p0 : Val) (p1 : Val) (i1 : Nat) (_v1_1 : Int) (_x1 : Fld) : List PV :=
  [.un, .un, .un, .un, .un, .un, .un, .int .i64 (i1 : Int), .un, .un, .un, .un, .un, .un, .un, .un, .un, .un, .un, .un, .un, .un, .un, .un, .un, .un, .un, .un, .un, .un, .un, .un, .un, .un, .un, .un, .un, .un, .un, .un, .un, .un, .un, .un, .un, .un, .un, .un, .un, .un, .un, .un, .un, .un, .un, .un, .un, .un, .un, .un, .un, .un, .un, .un, .un, .un, .un, .un, .un, .un, .un, .un, .un, .un, .un, .un, .un, .un, .un, .un, .un, .un, .un, .un, .un, .un, .un, .un, .un, .un, .un, .int .i64 (i1 : Int), .bx 0 4, .sl (Fld.rows p0.fields), .int .i64 ((List.length p0.fields) : Int), .bool true, .bool true, .int .i64 (i1 : Int), .bx 1 4, .sl (Fld.rows p1.fields), .int .i64 ((List.length p1.fields) : Int), .bool false, .bool false, .bool false, .tup [], .tup [], .bool false]
def ZO_ref04_Compare_b1_4 (_p0 : Val) (_p1 : Val) (_i1 : Nat) (_v1_1 : Int) (_x1 : Fld) : List (Nat × List PV) :=
  []
theorem x_ref04_Compare_b1_4 (p0 : Val) (p1 : Val) (_H : H_ref04_Compare_b1 p0 p1) (_rec : Rec_ref04_Compare p0) (x1 : Fld) (i1 : Nat) (v1_1 : Int) (_hx1 : p0.fields[i1]? = some x1) (_hi1 : i1 < List.length p0.fields) (hc1 : (decide ((i1 : Int) < ((List.length p0.fields) : Int))) = true) (h0 : (decide ((i1 : Int) < ((List.length p1.fields) : Int))) = false) : P_ref04_Compare_b1 p0 p1 (E_ref04_Compare_b1 p0 p1 i1 v1_1) v1_1 := by
  exact ⟨(envF (Z_ref04_Compare_b1_4 p0 p1 i1 v1_1 x1)), (zoF (ZO_ref04_Compare_b1_4 p0 p1 i1 v1_1 x1)), tells_outVI VOK.nil (x := ((.exit 2), S_ref04_Compare_b1_0 p0 p1 v1_1 (envF (Z_ref04_Compare_b1_4 p0 p1 i1 v1_1 x1)) (zoF (ZO_ref04_Compare_b1_4 p0 p1 i1 v1_1 x1)))) [hP 3 (len_ok (Fld.rows p0.fields) (List.length p0.fields) (Fld.rowsLen p0.fields)), hB 0 hc1, hP 4 (len_ok (Fld.rows p1.fields) (List.length p1.fields) (Fld.rowsLen p1.fields)), hB 0 h0] [] (by kernel_rfl)⟩
theorem lt_ref04_Compare_b1 (p0 : Val) (p1 : Val) (H : H_ref04_Compare_b1 p0 p1) (rec : Rec_ref04_Compare p0) : ∀ (r1 : List Fld) (i1 : Nat) (v1_1 : Int), List.drop i1 p0.fields = r1 → P_ref04_Compare_b1 p0 p1 (E_ref04_Compare_b1 p0 p1 i1 v1_1) (l_ref04_Compare_b1 p0 p1 r1 i1 v1_1)
  | [], i1, v1_1, hd => by
    have hc1 : (decide ((i1 : Int) < ((List.length p0.fields) : Int))) = false := by have := drop_end hd; simp; omega
    rw [l_ref04_Compare_b1]
    exact x_ref04_Compare_b1_0 p0 p1 H rec i1 v1_1 hc1
  | x1 :: r1, i1, v1_1, hd => by
    obtain ⟨hx1, hi1, hd'⟩ := drop_get hd
    have hc1 : (decide ((i1 : Int) < ((List.length p0.fields) : Int))) = true := by simp; omega
    rw [l_ref04_Compare_b1]
    cases h0 : (decide ((i1 : Int) < ((List.length p1.fields) : Int))) with
    | true =>
     cases h1 : (v1_1 == 0) with
     | true =>
      cases h2 : ((s_ref04_order (sLt x1.name (List.getD p1.fields i1 (Fld.mk (⟨#[]⟩ : ByteArray) (Val.mk 0 0 (⟨#[]⟩ : ByteArray) [] []))).name) (!((sLt x1.name (List.getD p1.fields i1 (Fld.mk (⟨#[]⟩ : ByteArray) (Val.mk 0 0 (⟨#[]⟩ : ByteArray) [] []))).name) || (sEq x1.name (List.getD p1.fields i1 (Fld.mk (⟨#[]⟩ : ByteArray) (Val.mk 0 0 (⟨#[]⟩ : ByteArray) [] []))).name)))) == 0) with
      | true =>
       exact P_ref04_Compare_b1_mono p0 p1 (fun r hr => n_ref04_Compare_b1_1 p0 p1 H rec x1 i1 v1_1 hx1 hi1 hc1 h0 h1 h2 hr) _ (lt_ref04_Compare_b1 p0 p1 H rec r1 (i1 + 1) (s_ref04_Compare x1.v (List.getD p1.fields i1 (Fld.mk (⟨#[]⟩ : ByteArray) (Val.mk 0 0 (⟨#[]⟩ : ByteArray) [] []))).v) hd')
      | false =>
       exact P_ref04_Compare_b1_mono p0 p1 (fun r hr => n_ref04_Compare_b1_2 p0 p1 H rec x1 i1 v1_1 hx1 hi1 hc1 h0 h1 h2 hr) _ (lt_ref04_Compare_b1 p0 p1 H rec r1 (i1 + 1) (s_ref04_order (sLt x1.name (List.getD p1.fields i1 (Fld.mk (⟨#[]⟩ : ByteArray) (Val.mk 0 0 (⟨#[]⟩ : ByteArray) [] []))).name) (!((sLt x1.name (List.getD p1.fields i1 (Fld.mk (⟨#[]⟩ : ByteArray) (Val.mk 0 0 (⟨#[]⟩ : ByteArray) [] []))).name) || (sEq x1.name (List.getD p1.fields i1 (Fld.mk (⟨#[]⟩ : ByteArray) (Val.mk 0 0 (⟨#[]⟩ : ByteArray) [] []))).name)))) hd')
     | false =>
      exact x_ref04_Compare_b1_3 p0 p1 H rec x1 i1 v1_1 hx1 hi1 hc1 h0 h1
    | false =>
     exact x_ref04_Compare_b1_4 p0 p1 H rec x1 i1 v1_1 hx1 hi1 hc1 h0
theorem t_ref04_Compare_0 (p0 : Val) (p1 : Val) (_H : H_ref04_Compare p0) (_rec : Rec_ref04_Compare p0) (h0 : ((s_ref04_order (decide (p0.kind < p1.kind)) (decide (p1.kind < p0.kind))) == 0) = true) (h1 : ((s_ref04_order (decide (p0.n < p1.n)) (decide (p1.n < p0.n))) == 0) = true) (z2 : Nat → PV) (zo2 : Nat → List PV) (hl2 : Tells G (E_ref04_Compare_b0 p0 p1 0 (s_ref04_order (sLt p0.s p1.s) (!((sLt p0.s p1.s) || (sEq p0.s p1.s))))) (.st (.exit 0) (S_ref04_Compare_b0_0 p0 p1 (l_ref04_Compare_b0 p0 p1 p0.list 0 (s_ref04_order (sLt p0.s p1.s) (!((sLt p0.s p1.s) || (sEq p0.s p1.s))))) z2 zo2))) (h2 : ((l_ref04_Compare_b0 p0 p1 p0.list 0 (s_ref04_order (sLt p0.s p1.s) (!((sLt p0.s p1.s) || (sEq p0.s p1.s))))) == 0) = true) (z4 : Nat → PV) (zo4 : Nat → List PV) (hl4 : Tells G (E_ref04_Compare_b1 p0 p1 0 (s_ref04_order (decide (((List.length p0.list) : Int) < ((List.length p1.list) : Int))) (decide (((List.length p1.list) : Int) < ((List.length p0.list) : Int))))) (.st (.exit 2) (S_ref04_Compare_b1_0 p0 p1 (l_ref04_Compare_b1 p0 p1 p0.fields 0 (s_ref04_order (decide (((List.length p0.list) : Int) < ((List.length p1.list) : Int))) (decide (((List.length p1.list) : Int) < ((List.length p0.list) : Int))))) z4 zo4))) : Tells G (c_ref04_Compare p0 p1) (.ret (.int .i64 (bif ((l_ref04_Compare_b1 p0 p1 p0.fields 0 (s_ref04_order (decide (((List.length p0.list) : Int) < ((List.length p1.list) : Int))) (decide (((List.length p1.list) : Int) < ((List.length p0.list) : Int))))) == 0) then
    (s_ref04_order (decide (((List.length p0.fields) : Int) < ((List.length p1.fields) : Int))) (decide (((List.length p1.fields) : Int) < ((List.length p0.fields) : Int))))
  else
    (l_ref04_Compare_b1 p0 p1 p0.fields 0 (s_ref04_order (decide (((List.length p0.list) : Int) < ((List.length p1.list) : Int))) (decide (((List.length p1.list) : Int) < ((List.length p0.list) : Int))))))) []) := by
  cases h3 : ((l_ref04_Compare_b1 p0 p1 p0.fields 0 (s_ref04_order (decide (((List.length p0.list) : Int) < ((List.length p1.list) : Int))) (decide (((List.length p1.list) : Int) < ((List.length p0.list) : Int))))) == 0) with
  | true =>
   exact tells_VI (fn := Ir.ref04_Compare) rfl VOK.nil [hB 16 h0, hB 13 h1, hB 14 h2, hP 2 (len_ok (Val.rows p0.list) (List.length p0.list) (Val.rowsLen p0.list)), hP 2 (len_ok (Val.rows p1.list) (List.length p1.list) (Val.rowsLen p1.list)), hP 3 (len_ok (Val.rows p0.list) (List.length p0.list) (Val.rowsLen p0.list)), hP 2 (len_ok (Val.rows p1.list) (List.length p1.list) (Val.rowsLen p1.list)), hB 5 h3, hP 2 (len_ok (Fld.rows p0.fields) (List.length p0.fields) (Fld.rowsLen p0.fields)), hP 2 (len_ok (Fld.rows p1.fields) (List.length p1.fields) (Fld.rowsLen p1.fields)), hP 3 (len_ok (Fld.rows p0.fields) (List.length p0.fields) (Fld.rowsLen p0.fields)), hP 2 (len_ok (Fld.rows p1.fields) (List.length p1.fields) (Fld.rowsLen p1.fields))] [aN (t_ref04_order (decide (p0.kind < p1.kind)) (decide (p1.kind < p0.kind))), aN (t_ref04_order (decide (p0.n < p1.n)) (decide (p1.n < p0.n))), aN (t_ref04_order (sLt p0.s p1.s) (!((sLt p0.s p1.s) || (sEq p0.s p1.s)))), aN hl2, aN (t_ref04_order (decide (((List.length p0.list) : Int) < ((List.length p1.list) : Int))) (decide (((List.length p1.list) : Int) < ((List.length p0.list) : Int)))), aN hl4, aN (t_ref04_order (decide (((List.length p0.fields) : Int) < ((List.length p1.fields) : Int))) (decide (((List.length p1.fields) : Int) < ((List.length p0.fields) : Int))))] (by kernel_rfl)
  | false =>
   exact tells_VI (fn := Ir.ref04_Compare) rfl VOK.nil [hB 16 h0, hB 13 h1, hB 14 h2, hP 2 (len_ok (Val.rows p0.list) (List.length p0.list) (Val.rowsLen p0.list)), hP 2 (len_ok (Val.rows p1.list) (List.length p1.list) (Val.rowsLen p1.list)), hP 3 (len_ok (Val.rows p0.list) (List.length p0.list) (Val.rowsLen p0.list)), hP 2 (len_ok (Val.rows p1.list) (List.length p1.list) (Val.rowsLen p1.list)), hB 5 h3] [aN (t_ref04_order (decide (p0.kind < p1.kind)) (decide (p1.kind < p0.kind))), aN (t_ref04_order (decide (p0.n < p1.n)) (decide (p1.n < p0.n))), aN (t_ref04_order (sLt p0.s p1.s) (!((sLt p0.s p1.s) || (sEq p0.s p1.s)))), aN hl2, aN (t_ref04_order (decide (((List.length p0.list) : Int) < ((List.length p1.list) : Int))) (decide (((List.length p1.list) : Int) < ((List.length p0.list) : Int)))), aN hl4] (by kernel_rfl)
theorem t_ref04_Compare_1 (p0 : Val) (p1 : Val) (_H : H_ref04_Compare p0) (_rec : Rec_ref04_Compare p0) (h0 : ((s_ref04_order (decide (p0.kind < p1.kind)) (decide (p1.kind < p0.kind))) == 0) = true) (h1 : ((s_ref04_order (decide (p0.n < p1.n)) (decide (p1.n < p0.n))) == 0) = true) (z2 : Nat → PV) (zo2 : Nat → List PV) (hl2 : Tells G (E_ref04_Compare_b0 p0 p1 0 (s_ref04_order (sLt p0.s p1.s) (!((sLt p0.s p1.s) || (sEq p0.s p1.s))))) (.st (.exit 0) (S_ref04_Compare_b0_0 p0 p1 (l_ref04_Compare_b0 p0 p1 p0.list 0 (s_ref04_order (sLt p0.s p1.s) (!((sLt p0.s p1.s) || (sEq p0.s p1.s))))) z2 zo2))) (h2 : ((l_ref04_Compare_b0 p0 p1 p0.list 0 (s_ref04_order (sLt p0.s p1.s) (!((sLt p0.s p1.s) || (sEq p0.s p1.s))))) == 0) = false) (z4 : Nat → PV) (zo4 : Nat → List PV) (hl4 : Tells G (E_ref04_Compare_b1 p0 p1 0 (l_ref04_Compare_b0 p0 p1 p0.list 0 (s_ref04_order (sLt p0.s p1.s) (!((sLt p0.s p1.s) || (sEq p0.s p1.s)))))) (.st (.exit 2) (S_ref04_Compare_b1_0 p0 p1 (l_ref04_Compare_b1 p0 p1 p0.fields 0 (l_ref04_Compare_b0 p0 p1 p0.list 0 (s_ref04_order (sLt p0.s p1.s) (!((sLt p0.s p1.s) || (sEq p0.s p1.s)))))) z4 zo4))) : Tells G (c_ref04_Compare p0 p1) (.ret (.int .i64 (bif ((l_ref04_Compare_b1 p0 p1 p0.fields 0 (l_ref04_Compare_b0 p0 p1 p0.list 0 (s_ref04_order (sLt p0.s p1.s) (!((sLt p0.s p1.s) || (sEq p0.s p1.s)))))) == 0) then
    (s_ref04_order (decide (((List.length p0.fields) : Int) < ((List.length p1.fields) : Int))) (decide (((List.length p1.fields) : Int) < ((List.length p0.fields) : Int))))
  else
    (l_ref04_Compare_b1 p0 p1 p0.fields 0 (l_ref04_Compare_b0 p0 p1 p0.list 0 (s_ref04_order (sLt p0.s p1.s) (!((sLt p0.s p1.s) || (sEq p0.s p1.s)))))))) []) := by
  cases h3 : ((l_ref04_Compare_b1 p0 p1 p0.fields 0 (l_ref04_Compare_b0 p0 p1 p0.list 0 (s_ref04_order (sLt p0.s p1.s) (!((sLt p0.s p1.s) || (sEq p0.s p1.s)))))) == 0) with
  | true =>
   exact tells_VI (fn := Ir.ref04_Compare) rfl VOK.nil [hB 16 h0, hB 13 h1, hB 14 h2, hB 2 h3, hP 2 (len_ok (Fld.rows p0.fields) (List.length p0.fields) (Fld.rowsLen p0.fields)), hP 2 (len_ok (Fld.rows p1.fields) (List.length p1.fields) (Fld.rowsLen p1.fields)), hP 3 (len_ok (Fld.rows p0.fields) (List.length p0.fields) (Fld.rowsLen p0.fields)), hP 2 (len_ok (Fld.rows p1.fields) (List.length p1.fields) (Fld.rowsLen p1.fields))] [aN (t_ref04_order (decide (p0.kind < p1.kind)) (decide (p1.kind < p0.kind))), aN (t_ref04_order (decide (p0.n < p1.n)) (decide (p1.n < p0.n))), aN (t_ref04_order (sLt p0.s p1.s) (!((sLt p0.s p1.s) || (sEq p0.s p1.s)))), aN hl2, aN hl4, aN (t_ref04_order (decide (((List.length p0.fields) : Int) < ((List.length p1.fields) : Int))) (decide (((List.length p1.fields) : Int) < ((List.length p0.fields) : Int))))] (by kernel_rfl)
  | false =>
   exact tells_VI (fn := Ir.ref04_Compare) rfl VOK.nil [hB 16 h0, hB 13 h1, hB 14 h2, hB 2 h3] [aN (t_ref04_order (decide (p0.kind < p1.kind)) (decide (p1.kind < p0.kind))), aN (t_ref04_order (decide (p0.n < p1.n)) (decide (p1.n < p0.n))), aN (t_ref04_order (sLt p0.s p1.s) (!((sLt p0.s p1.s) || (sEq p0.s p1.s)))), aN hl2, aN hl4] (by kernel_rfl)
theorem t_ref04_Compare_2 (p0 : Val) (p1 : Val) (_H : H_ref04_Compare p0) (_rec : Rec_ref04_Compare p0) (h0 : ((s_ref04_order (decide (p0.kind < p1.kind)) (decide (p1.kind < p0.kind))) == 0) = true) (h1 : ((s_ref04_order (decide (p0.n < p1.n)) (decide (p1.n < p0.n))) == 0) = false) (z2 : Nat → PV) (zo2 : Nat → List PV) (hl2 : Tells G (E_ref04_Compare_b0 p0 p1 0 (s_ref04_order (decide (p0.n < p1.n)) (decide (p1.n < p0.n)))) (.st (.exit 0) (S_ref04_Compare_b0_0 p0 p1 (l_ref04_Compare_b0 p0 p1 p0.list 0 (s_ref04_order (decide (p0.n < p1.n)) (decide (p1.n < p0.n)))) z2 zo2))) (h2 : ((l_ref04_Compare_b0 p0 p1 p0.list 0 (s_ref04_order (decide (p0.n < p1.n)) (decide (p1.n < p0.n)))) == 0) = true) (z4 : Nat → PV) (zo4 : Nat → List PV) (hl4 : Tells G (E_ref04_Compare_b1 p0 p1 0 (s_ref04_order (decide (((List.length p0.list) : Int) < ((List.length p1.list) : Int))) (decide (((List.length p1.list) : Int) < ((List.length p0.list) : Int))))) (.st (.exit 2) (S_ref04_Compare_b1_0 p0 p1 (l_ref04_Compare_b1 p0 p1 p0.fields 0 (s_ref04_order (decide (((List.length p0.list) : Int) < ((List.length p1.list) : Int))) (decide (((List.length p1.list) : Int) < ((List.length p0.list) : Int))))) z4 zo4))) : Tells G (c_ref04_Compare p0 p1) (.ret (.int .i64 (bif ((l_ref04_Compare_b1 p0 p1 p0.fields 0 (s_ref04_order (decide (((List.length p0.list) : Int) < ((List.length p1.list) : Int))) (decide (((List.length p1.list) : Int) < ((List.length p0.list) : Int))))) == 0) then
    (s_ref04_order (decide (((List.length p0.fields) : Int) < ((List.length p1.fields) : Int))) (decide (((List.length p1.fields) : Int) < ((List.length p0.fields) : Int))))
  else
    (l_ref04_Compare_b1 p0 p1 p0.fields 0 (s_ref04_order (decide (((List.length p0.list) : Int) < ((List.length p1.list) : Int))) (decide (((List.length p1.list) : Int) < ((List.length p0.list) : Int))))))) []) := by
  cases h3 : ((l_ref04_Compare_b1 p0 p1 p0.fields 0 (s_ref04_order (decide (((List.length p0.list) : Int) < ((List.length p1.list) : Int))) (decide (((List.length p1.list) : Int) < ((List.length p0.list) : Int))))) == 0) with
  | true =>
   exact tells_VI (fn := Ir.ref04_Compare) rfl VOK.nil [hB 16 h0, hB 13 h1, hB 2 h2, hP 2 (len_ok (Val.rows p0.list) (List.length p0.list) (Val.rowsLen p0.list)), hP 2 (len_ok (Val.rows p1.list) (List.length p1.list) (Val.rowsLen p1.list)), hP 3 (len_ok (Val.rows p0.list) (List.length p0.list) (Val.rowsLen p0.list)), hP 2 (len_ok (Val.rows p1.list) (List.length p1.list) (Val.rowsLen p1.list)), hB 5 h3, hP 2 (len_ok (Fld.rows p0.fields) (List.length p0.fields) (Fld.rowsLen p0.fields)), hP 2 (len_ok (Fld.rows p1.fields) (List.length p1.fields) (Fld.rowsLen p1.fields)), hP 3 (len_ok (Fld.rows p0.fields) (List.length p0.fields) (Fld.rowsLen p0.fields)), hP 2 (len_ok (Fld.rows p1.fields) (List.length p1.fields) (Fld.rowsLen p1.fields))] [aN (t_ref04_order (decide (p0.kind < p1.kind)) (decide (p1.kind < p0.kind))), aN (t_ref04_order (decide (p0.n < p1.n)) (decide (p1.n < p0.n))), aN hl2, aN (t_ref04_order (decide (((List.length p0.list) : Int) < ((List.length p1.list) : Int))) (decide (((List.length p1.list) : Int) < ((List.length p0.list) : Int)))), aN hl4, aN (t_ref04_order (decide (((List.length p0.fields) : Int) < ((List.length p1.fields) : Int))) (decide (((List.length p1.fields) : Int) < ((List.length p0.fields) : Int))))] (by kernel_rfl)
  | false =>
   exact tells_VI (fn := Ir.ref04_Compare) rfl VOK.nil [hB 16 h0, hB 13 h1, hB 2 h2, hP 2 (len_ok (Val.rows p0.list) (List.length p0.list) (Val.rowsLen p0.list)), hP 2 (len_ok (Val.rows p1.list) (List.length p1.list) (Val.rowsLen p1.list)), hP 3 (len_ok (Val.rows p0.list) (List.length p0.list) (Val.rowsLen p0.list)), hP 2 (len_ok (Val.rows p1.list) (List.length p1.list) (Val.rowsLen p1.list)), hB 5 h3] [aN (t_ref04_order (decide (p0.kind < p1.kind)) (decide (p1.kind < p0.kind))), aN (t_ref04_order (decide (p0.n < p1.n)) (decide (p1.n < p0.n))), aN hl2, aN (t_ref04_order (decide (((List.length p0.list) : Int) < ((List.length p1.list) : Int))) (decide (((List.length p1.list) : Int) < ((List.length p0.list) : Int)))), aN hl4] (by kernel_rfl)
theorem t_ref04_Compare_3 (p0 : Val) (p1 : Val) (_H : H_ref04_Compare p0) (_rec : Rec_ref04_Compare p0) (h0 : ((s_ref04_order (decide (p0.kind < p1.kind)) (decide (p1.kind < p0.kind))) == 0) = true) (h1 : ((s_ref04_order (decide (p0.n < p1.n)) (decide (p1.n < p0.n))) == 0) = false) (z2 : Nat → PV) (zo2 : Nat → List PV) (hl2 : Tells G (E_ref04_Compare_b0 p0 p1 0 (s_ref04_order (decide (p0.n < p1.n)) (decide (p1.n < p0.n)))) (.st (.exit 0) (S_ref04_Compare_b0_0 p0 p1 (l_ref04_Compare_b0 p0 p1 p0.list 0 (s_ref04_order (decide (p0.n < p1.n)) (decide (p1.n < p0.n)))) z2 zo2))) (h2 : ((l_ref04_Compare_b0 p0 p1 p0.list 0 (s_ref04_order (decide (p0.n < p1.n)) (decide (p1.n < p0.n)))) == 0) = false) (z4 : Nat → PV) (zo4 : Nat → List PV) (hl4 : Tells G (E_ref04_Compare_b1 p0 p1 0 (l_ref04_Compare_b0 p0 p1 p0.list 0 (s_ref04_order (decide (p0.n < p1.n)) (decide (p1.n < p0.n))))) (.st (.exit 2) (S_ref04_Compare_b1_0 p0 p1 (l_ref04_Compare_b1 p0 p1 p0.fields 0 (l_ref04_Compare_b0 p0 p1 p0.list 0 (s_ref04_order (decide (p0.n < p1.n)) (decide (p1.n < p0.n))))) z4 zo4))) : Tells G (c_ref04_Compare p0 p1) (.ret (.int .i64 (bif ((l_ref04_Compare_b1 p0 p1 p0.fields 0 (l_ref04_Compare_b0 p0 p1 p0.list 0 (s_ref04_order (decide (p0.n < p1.n)) (decide (p1.n < p0.n))))) == 0) then
    (s_ref04_order (decide (((List.length p0.fields) : Int) < ((List.length p1.fields) : Int))) (decide (((List.length p1.fields) : Int) < ((List.length p0.fields) : Int))))
  else
    (l_ref04_Compare_b1 p0 p1 p0.fields 0 (l_ref04_Compare_b0 p0 p1 p0.list 0 (s_ref04_order (decide (p0.n < p1.n)) (decide (p1.n < p0.n))))))) []) := by
  cases h3 : ((l_ref04_Compare_b1 p0 p1 p0.fields 0 (l_ref04_Compare_b0 p0 p1 p0.list 0 (s_ref04_order (decide (p0.n < p1.n)) (decide (p1.n < p0.n))))) == 0) with
  | true =>
   exact tells_VI (fn := Ir.ref04_Compare) rfl VOK.nil [hB 16 h0, hB 13 h1, hB 2 h2, hB 2 h3, hP 2 (len_ok (Fld.rows p0.fields) (List.length p0.fields) (Fld.rowsLen p0.fields)), hP 2 (len_ok (Fld.rows p1.fields) (List.length p1.fields) (Fld.rowsLen p1.fields)), hP 3 (len_ok (Fld.rows p0.fields) (List.length p0.fields) (Fld.rowsLen p0.fields)), hP 2 (len_ok (Fld.rows p1.fields) (List.length p1.fields) (Fld.rowsLen p1.fields))] [aN (t_ref04_order (decide (p0.kind < p1.kind)) (decide (p1.kind < p0.kind))), aN (t_ref04_order (decide (p0.n < p1.n)) (decide (p1.n < p0.n))), aN hl2, aN hl4, aN (t_ref04_order (decide (((List.length p0.fields) : Int) < ((List.length p1.fields) : Int))) (decide (((List.length p1.fields) : Int) < ((List.length p0.fields) : Int))))] (by kernel_rfl)
  | false =>
   exact tells_VI (fn := Ir.ref04_Compare) rfl VOK.nil [hB 16 h0, hB 13 h1, hB 2 h2, hB 2 h3] [aN (t_ref04_order (decide (p0.kind < p1.kind)) (decide (p1.kind < p0.kind))), aN (t_ref04_order (decide (p0.n < p1.n)) (decide (p1.n < p0.n))), aN hl2, aN hl4] (by kernel_rfl)
theorem t_ref04_Compare_4 (p0 : Val) (p1 : Val) (_H : H_ref04_Compare p0) (_rec : Rec_ref04_Compare p0) (h0 : ((s_ref04_order (decide (p0.kind < p1.kind)) (decide (p1.kind < p0.kind))) == 0) = false) (z1 : Nat → PV) (zo1 : Nat → List PV) (hl1 : Tells G (E_ref04_Compare_b0 p0 p1 0 (s_ref04_order (decide (p0.kind < p1.kind)) (decide (p1.kind < p0.kind)))) (.st (.exit 0) (S_ref04_Compare_b0_0 p0 p1 (l_ref04_Compare_b0 p0 p1 p0.list 0 (s_ref04_order (decide (p0.kind < p1.kind)) (decide (p1.kind < p0.kind)))) z1 zo1))) (h1 : ((l_ref04_Compare_b0 p0 p1 p0.list 0 (s_ref04_order (decide (p0.kind < p1.kind)) (decide (p1.kind < p0.kind)))) == 0) = true) (z3 : Nat → PV) (zo3 : Nat → List PV) (hl3 : Tells G (E_ref04_Compare_b1 p0 p1 0 (s_ref04_order (decide (((List.length p0.list) : Int) < ((List.length p1.list) : Int))) (decide (((List.length p1.list) : Int) < ((List.length p0.list) : Int))))) (.st (.exit 2) (S_ref04_Compare_b1_0 p0 p1 (l_ref04_Compare_b1 p0 p1 p0.fields 0 (s_ref04_order (decide (((List.length p0.list) : Int) < ((List.length p1.list) : Int))) (decide (((List.length p1.list) : Int) < ((List.length p0.list) : Int))))) z3 zo3))) : Tells G (c_ref04_Compare p0 p1) (.ret (.int .i64 (bif ((l_ref04_Compare_b1 p0 p1 p0.fields 0 (s_ref04_order (decide (((List.length p0.list) : Int) < ((List.length p1.list) : Int))) (decide (((List.length p1.list) : Int) < ((List.length p0.list) : Int))))) == 0) then
    (s_ref04_order (decide (((List.length p0.fields) : Int) < ((List.length p1.fields) : Int))) (decide (((List.length p1.fields) : Int) < ((List.length p0.fields) : Int))))
  else
    (l_ref04_Compare_b1 p0 p1 p0.fields 0 (s_ref04_order (decide (((List.length p0.list) : Int) < ((List.length p1.list) : Int))) (decide (((List.length p1.list) : Int) < ((List.length p0.list) : Int))))))) []) := by
  cases h2 : ((l_ref04_Compare_b1 p0 p1 p0.fields 0 (s_ref04_order (decide (((List.length p0.list) : Int) < ((List.length p1.list) : Int))) (decide (((List.length p1.list) : Int) < ((List.length p0.list) : Int))))) == 0) with
  | true =>
   exact tells_VI (fn := Ir.ref04_Compare) rfl VOK.nil [hB 16 h0, hB 1 h0, hB 2 h1, hP 2 (len_ok (Val.rows p0.list) (List.length p0.list) (Val.rowsLen p0.list)), hP 2 (len_ok (Val.rows p1.list) (List.length p1.list) (Val.rowsLen p1.list)), hP 3 (len_ok (Val.rows p0.list) (List.length p0.list) (Val.rowsLen p0.list)), hP 2 (len_ok (Val.rows p1.list) (List.length p1.list) (Val.rowsLen p1.list)), hB 5 h2, hP 2 (len_ok (Fld.rows p0.fields) (List.length p0.fields) (Fld.rowsLen p0.fields)), hP 2 (len_ok (Fld.rows p1.fields) (List.length p1.fields) (Fld.rowsLen p1.fields)), hP 3 (len_ok (Fld.rows p0.fields) (List.length p0.fields) (Fld.rowsLen p0.fields)), hP 2 (len_ok (Fld.rows p1.fields) (List.length p1.fields) (Fld.rowsLen p1.fields))] [aN (t_ref04_order (decide (p0.kind < p1.kind)) (decide (p1.kind < p0.kind))), aN hl1, aN (t_ref04_order (decide (((List.length p0.list) : Int) < ((List.length p1.list) : Int))) (decide (((List.length p1.list) : Int) < ((List.length p0.list) : Int)))), aN hl3, aN (t_ref04_order (decide (((List.length p0.fields) : Int) < ((List.length p1.fields) : Int))) (decide (((List.length p1.fields) : Int) < ((List.length p0.fields) : Int))))] (by kernel_rfl)
  | false =>
   exact tells_VI (fn := Ir.ref04_Compare) rfl VOK.nil [hB 16 h0, hB 1 h0, hB 2 h1, hP 2 (len_ok (Val.rows p0.list) (List.length p0.list) (Val.rowsLen p0.list)), hP 2 (len_ok (Val.rows p1.list) (List.length p1.list) (Val.rowsLen p1.list)), hP 3 (len_ok (Val.rows p0.list) (List.length p0.list) (Val.rowsLen p0.list)), hP 2 (len_ok (Val.rows p1.list) (List.length p1.list) (Val.rowsLen p1.list)), hB 5 h2] [aN (t_ref04_order (decide (p0.kind < p1.kind)) (decide (p1.kind < p0.kind))), aN hl1, aN (t_ref04_order (decide (((List.length p0.list) : Int) < ((List.length p1.list) : Int))) (decide (((List.length p1.list) : Int) < ((List.length p0.list) : Int)))), aN hl3] (by kernel_rfl)
theorem t_ref04_Compare_5 (p0 : Val) (p1 : Val) (_H : H_ref04_Compare p0) (_rec : Rec_ref04_Compare p0) (h0 : ((s_ref04_order (decide (p0.kind < p1.kind)) (decide (p1.kind < p0.kind))) == 0) = false) (z1 : Nat → PV) (zo1 : Nat → List PV) (hl1 : Tells G (E_ref04_Compare_b0 p0 p1 0 (s_ref04_order (decide (p0.kind < p1.kind)) (decide (p1.kind < p0.kind)))) (.st (.exit 0) (S_ref04_Compare_b0_0 p0 p1 (l_ref04_Compare_b0 p0 p1 p0.list 0 (s_ref04_order (decide (p0.kind < p1.kind)) (decide (p1.kind < p0.kind)))) z1 zo1))) (h1 : ((l_ref04_Compare_b0 p0 p1 p0.list 0 (s_ref04_order (decide (p0.kind < p1.kind)) (decide (p1.kind < p0.kind)))) == 0) = false) (z3 : Nat → PV) (zo3 : Nat → List PV) (hl3 : Tells G (E_ref04_Compare_b1 p0 p1 0 (l_ref04_Compare_b0 p0 p1 p0.list 0 (s_ref04_order (decide (p0.kind < p1.kind)) (decide (p1.kind < p0.kind))))) (.st (.exit 2) (S_ref04_Compare_b1_0 p0 p1 (l_ref04_Compare_b1 p0 p1 p0.fields 0 (l_ref04_Compare_b0 p0 p1 p0.list 0 (s_ref04_order (decide (p0.kind < p1.kind)) (decide (p1.kind < p0.kind))))) z3 zo3))) : Tells G (c_ref04_Compare p0 p1) (.ret (.int .i64 (bif ((l_ref04_Compare_b1 p0 p1 p0.fields 0 (l_ref04_Compare_b0 p0 p1 p0.list 0 (s_ref04_order (decide (p0.kind < p1.kind)) (decide (p1.kind < p0.kind))))) == 0) then
    (s_ref04_order (decide (((List.length p0.fields) : Int) < ((List.length p1.fields) : Int))) (decide (((List.length p1.fields) : Int) < ((List.length p0.fields) : Int))))
  else
    (l_ref04_Compare_b1 p0 p1 p0.fields 0 (l_ref04_Compare_b0 p0 p1 p0.list 0 (s_ref04_order (decide (p0.kind < p1.kind)) (decide (p1.kind < p0.kind))))))) []) := by
  cases h2 : ((l_ref04_Compare_b1 p0 p1 p0.fields 0 (l_ref04_Compare_b0 p0 p1 p0.list 0 (s_ref04_order (decide (p0.kind < p1.kind)) (decide (p1.kind < p0.kind))))) == 0) with
  | true =>
   exact tells_VI (fn := Ir.ref04_Compare) rfl VOK.nil [hB 16 h0, hB 1 h0, hB 2 h1, hB 2 h2, hP 2 (len_ok (Fld.rows p0.fields) (List.length p0.fields) (Fld.rowsLen p0.fields)), hP 2 (len_ok (Fld.rows p1.fields) (List.length p1.fields) (Fld.rowsLen p1.fields)), hP 3 (len_ok (Fld.rows p0.fields) (List.length p0.fields) (Fld.rowsLen p0.fields)), hP 2 (len_ok (Fld.rows p1.fields) (List.length p1.fields) (Fld.rowsLen p1.fields))] [aN (t_ref04_order (decide (p0.kind < p1.kind)) (decide (p1.kind < p0.kind))), aN hl1, aN hl3, aN (t_ref04_order (decide (((List.length p0.fields) : Int) < ((List.length p1.fields) : Int))) (decide (((List.length p1.fields) : Int) < ((List.length p0.fields) : Int))))] (by kernel_rfl)
  | false =>
   exact tells_VI (fn := Ir.ref04_Compare) rfl VOK.nil [hB 16 h0, hB 1 h0, hB 2 h1, hB 2 h2] [aN (t_ref04_order (decide (p0.kind < p1.kind)) (decide (p1.kind < p0.kind))), aN hl1, aN hl3] (by kernel_rfl)
theorem r_ref04_Compare (p0 : Val) (p1 : Val) (H : H_ref04_Compare p0) (rec : Rec_ref04_Compare p0) : Tells G (c_ref04_Compare p0 p1) (a_ref04_Compare p0 p1) := by
  unfold a_ref04_Compare
  rw [s_ref04_Compare]
  cases h0 : ((s_ref04_order (decide (p0.kind < p1.kind)) (decide (p1.kind < p0.kind))) == 0) with
  | true =>
   cases h1 : ((s_ref04_order (decide (p0.n < p1.n)) (decide (p1.n < p0.n))) == 0) with
   | true =>
    have hl2 := lt_ref04_Compare_b0 p0 p1 ((give_ref04_Compare p0 p1 H).1) rec p0.list 0 (s_ref04_order (sLt p0.s p1.s) (!((sLt p0.s p1.s) || (sEq p0.s p1.s)))) (by simp)
    obtain ⟨z2, zo2, hl2⟩ := hl2
    cases h2 : ((l_ref04_Compare_b0 p0 p1 p0.list 0 (s_ref04_order (sLt p0.s p1.s) (!((sLt p0.s p1.s) || (sEq p0.s p1.s))))) == 0) with
    | true =>
     have hl4 := lt_ref04_Compare_b1 p0 p1 ((give_ref04_Compare p0 p1 H).2.1) rec p0.fields 0 (s_ref04_order (decide (((List.length p0.list) : Int) < ((List.length p1.list) : Int))) (decide (((List.length p1.list) : Int) < ((List.length p0.list) : Int)))) (by simp)
     obtain ⟨z4, zo4, hl4⟩ := hl4
     exact t_ref04_Compare_0 p0 p1 H rec h0 h1 z2 zo2 hl2 h2 z4 zo4 hl4
    | false =>
     have hl4 := lt_ref04_Compare_b1 p0 p1 ((give_ref04_Compare p0 p1 H).2.1) rec p0.fields 0 (l_ref04_Compare_b0 p0 p1 p0.list 0 (s_ref04_order (sLt p0.s p1.s) (!((sLt p0.s p1.s) || (sEq p0.s p1.s))))) (by simp)
     obtain ⟨z4, zo4, hl4⟩ := hl4
     exact t_ref04_Compare_1 p0 p1 H rec h0 h1 z2 zo2 hl2 h2 z4 zo4 hl4
   | false =>
    have hl2 := lt_ref04_Compare_b0 p0 p1 ((give_ref04_Compare p0 p1 H).1) rec p0.list 0 (s_ref04_order (decide (p0.n < p1.n)) (decide (p1.n < p0.n))) (by simp)
    obtain ⟨z2, zo2, hl2⟩ := hl2
    cases h2 : ((l_ref04_Compare_b0 p0 p1 p0.list 0 (s_ref04_order (decide (p0.n < p1.n)) (decide (p1.n < p0.n)))) == 0) with
    | true =>
     have hl4 := lt_ref04_Compare_b1 p0 p1 ((give_ref04_Compare p0 p1 H).2.1) rec p0.fields 0 (s_ref04_order (decide (((List.length p0.list) : Int) < ((List.length p1.list) : Int))) (decide (((List.length p1.list) : Int) < ((List.length p0.list) : Int)))) (by simp)
     obtain ⟨z4, zo4, hl4⟩ := hl4
     exact t_ref04_Compare_2 p0 p1 H rec h0 h1 z2 zo2 hl2 h2 z4 zo4 hl4
    | false =>
     have hl4 := lt_ref04_Compare_b1 p0 p1 ((give_ref04_Compare p0 p1 H).2.1) rec p0.fields 0 (l_ref04_Compare_b0 p0 p1 p0.list 0 (s_ref04_order (decide (p0.n < p1.n)) (decide (p1.n < p0.n)))) (by simp)
     obtain ⟨z4, zo4, hl4⟩ := hl4
     exact t_ref04_Compare_3 p0 p1 H rec h0 h1 z2 zo2 hl2 h2 z4 zo4 hl4
  | false =>
   have hl1 := lt_ref04_Compare_b0 p0 p1 ((give_ref04_Compare p0 p1 H).1) rec p0.list 0 (s_ref04_order (decide (p0.kind < p1.kind)) (decide (p1.kind < p0.kind))) (by simp)
   obtain ⟨z1, zo1, hl1⟩ := hl1
   cases h1 : ((l_ref04_Compare_b0 p0 p1 p0.list 0 (s_ref04_order (decide (p0.kind < p1.kind)) (decide (p1.kind < p0.kind)))) == 0) with
   | true =>
    have hl3 := lt_ref04_Compare_b1 p0 p1 ((give_ref04_Compare p0 p1 H).2.1) rec p0.fields 0 (s_ref04_order (decide (((List.length p0.list) : Int) < ((List.length p1.list) : Int))) (decide (((List.length p1.list) : Int) < ((List.length p0.list) : Int)))) (by simp)
    obtain ⟨z3, zo3, hl3⟩ := hl3
    exact t_ref04_Compare_4 p0 p1 H rec h0 z1 zo1 hl1 h1 z3 zo3 hl3
   | false =>
    have hl3 := lt_ref04_Compare_b1 p0 p1 ((give_ref04_Compare p0 p1 H).2.1) rec p0.fields 0 (l_ref04_Compare_b0 p0 p1 p0.list 0 (s_ref04_order (decide (p0.kind < p1.kind)) (decide (p1.kind < p0.kind)))) (by simp)
    obtain ⟨z3, zo3, hl3⟩ := hl3
    exact t_ref04_Compare_5 p0 p1 H rec h0 z1 zo1 hl1 h1 z3 zo3 hl3
theorem i_ref04_Compare : ∀ (k : Nat) (p0 : Val), SizeOf.sizeOf p0 < k → ∀ (p1 : Val), H_ref04_Compare p0 → Tells G (c_ref04_Compare p0 p1) (a_ref04_Compare p0 p1)
  | 0, _, h, _, _ => absurd h (Nat.not_lt_zero _)
  | k + 1, p0, h, p1, H => r_ref04_Compare p0 p1 H (fun q hq p1 hH => i_ref04_Compare k q (by omega) p1 hH)
theorem t_ref04_Compare (p0 : Val) (p1 : Val) (H : H_ref04_Compare p0) : Tells G (c_ref04_Compare p0 p1) (a_ref04_Compare p0 p1) := i_ref04_Compare _ p0 (Nat.lt_succ_self _) p1 H

/-- orchestrator/ orchestratorref04.Equal -/
def s_ref04_Equal (p0 : Val) (p1 : Val) : Bool :=
  ((s_ref04_Compare p0 p1) == 0)
def c_ref04_Equal (p0 : Val) (p1 : Val) : En := .call 20 [.agg (Val.cells p0), .agg (Val.cells p1)] []
def a_ref04_Equal (p0 : Val) (p1 : Val) : Rs := .ret (.bool (s_ref04_Equal p0 p1)) []
def H_ref04_Equal (p0 : Val) (_p1 : Val) : Prop := (H_ref04_Compare p0) ∧ True
theorem t_ref04_Equal (p0 : Val) (p1 : Val) (H : H_ref04_Equal p0 p1) : Tells G (c_ref04_Equal p0 p1) (a_ref04_Equal p0 p1) := by
  unfold a_ref04_Equal s_ref04_Equal
  exact tells_VI (fn := Ir.ref04_Equal) rfl VOK.nil [] [aN (t_ref04_Compare p0 p1 H.1)] (by kernel_rfl)

mutual
/-- orchestrator/ value.Compare -/
def s_value_Compare (p0 p1 : Val) : Int := s_cmp_Or [s_cmp_Compare p0.kind p1.kind, s_cmp_Compare p0.n p1.n, s_strings_Compare p0.s p1.s, lcV p0.list p1.list, lcF p0.fields p1.fields]
termination_by SizeOf.sizeOf p0
decreasing_by all_goals first | exact Val.lt_list _ | exact Val.lt_fields _
def lcV : List Val → List Val → Int
  | [], [] => 0
  | [], _ :: _ => -1
  | _ :: _, [] => 1
  | x :: l, y :: m => bif s_value_Compare x y == 0 then lcV l m else s_value_Compare x y
termination_by l => SizeOf.sizeOf l
decreasing_by all_goals first | exact lt_head _ _ | exact lt_tail _ _
def lcF : List Fld → List Fld → Int
  | [], [] => 0
  | [], _ :: _ => -1
  | _ :: _, [] => 1
  | x :: l, y :: m => bif s_cmp_Or [s_strings_Compare x.name y.name, s_value_Compare x.v y.v] == 0 then lcF l m else s_cmp_Or [s_strings_Compare x.name y.name, s_value_Compare x.v y.v]
termination_by l => SizeOf.sizeOf l
decreasing_by all_goals first | exact lt_headv _ _ | exact lt_tail _ _
end
def c_value_Compare (p0 : Val) (p1 : Val) : En := .call 17 [.agg (Val.cells p0), .agg (Val.cells p1)] []
def a_value_Compare (p0 : Val) (p1 : Val) : Rs := .ret (.int .i64 (s_value_Compare p0 p1)) []

/-- orchestrator/ value.Compare$1 -/
def s_value_Compare_1 (p0 : Fld) (p1 : Fld) : Int :=
  (s_cmp_Or ([(s_strings_Compare p0.name p1.name), (s_value_Compare p0.v p1.v)]))
def c_value_Compare_1 (p0 : Fld) (p1 : Fld) : En := .call 46 [.agg (Fld.cells p0), .agg (Fld.cells p1)] []
def a_value_Compare_1 (p0 : Fld) (p1 : Fld) : Rs := .ret (.int .i64 (s_value_Compare_1 p0 p1)) []
theorem t_value_Compare_1 (p0 : Fld) (p1 : Fld) (hc : Tells G (c_value_Compare p0.v p1.v) (a_value_Compare p0.v p1.v)) : Tells G (c_value_Compare_1 p0 p1) (a_value_Compare_1 p0 p1) := by
  unfold a_value_Compare_1 s_value_Compare_1
  exact tells_VI (fn := Ir.value_Compare_1) rfl VOK.nil [] [aN (t_strings_Compare p0.name p1.name), aN hc, aN (t_cmp_Or ([(s_strings_Compare p0.name p1.name), (s_value_Compare p0.v p1.v)]) (by simp [H_cmp_Or, H_cmp_Or_b0]))] (by kernel_rfl)

def Rec_slices_CompareFunc_f17 (g : Val → Val → Int) (p0 : List Val) : Prop := ∀ x ∈ p0, ∀ y : Val, Tells G (.call 17 [.agg (Val.cells x), .agg (Val.cells y)] []) (.ret (.int .i64 (g x y)) [])
inductive R_slices_CompareFunc_b0 where
  | k0
  | k1
  | k2 (q0 : Int)
def l_slices_CompareFunc_b0 (g : Val → Val → Int) (p0 : List Val) (p1 : List Val) : List Val → Nat → R_slices_CompareFunc_b0
  | [], _i0 =>
    (.k0)
  | x0 :: r0, i0 =>
    bif (decide (((List.length p1) : Int) ≤ (i0 : Int))) then
      (.k1)
    else
      bif ((g x0 (List.getD p1 i0 (Val.mk 0 0 (⟨#[]⟩ : ByteArray) [] []))) == 0) then
        l_slices_CompareFunc_b0 g p0 p1 r0 (i0 + 1)
      else
        (.k2 (g x0 (List.getD p1 i0 (Val.mk 0 0 (⟨#[]⟩ : ByteArray) [] []))))
def HE_slices_CompareFunc_b0 (_g : Val → Val → Int) (p0 : List Val) (p1 : List Val) (i0 : Nat) : List PV :=
  [.sl (Val.rows p0), .sl (Val.rows p1), .fn 17 [] [], .un, .un, .un, .un, .un, .un, .un, .un, .sl (Val.rows p0), .int .i64 ((List.length p0) : Int), .int .i64 (i0 : Int), .un, .un, .un, .un, .un, .un, .un, .un, .un, .un, .un, .un, .un, .un, .un, .un, .un, .un, .un, .un, .un, .un, .un, .un, .un]
def HO_slices_CompareFunc_b0 (_g : Val → Val → Int) (_p0 : List Val) (_p1 : List Val) (_i0 : Nat) : List Ob :=
  []
def E_slices_CompareFunc_b0 (g : Val → Val → Int) (p0 : List Val) (p1 : List Val) (i0 : Nat) : En := .loop 0 Ir.slices_CompareFunc_b0_live Ir.slices_CompareFunc_b0 (HE_slices_CompareFunc_b0 g p0 p1 i0) (HO_slices_CompareFunc_b0 g p0 p1 i0)
def S_slices_CompareFunc_b0_0 (_g : Val → Val → Int) (p0 : List Val) (p1 : List Val) (z : Nat → PV) (_zo : Nat → List PV) : St :=
  ⟨[.sl (Val.rows p0), .sl (Val.rows p1), z 2, z 3, z 4, z 5, z 6, z 7, z 8, z 9, z 10, z 11, z 12, z 13, z 14, z 15, z 16, z 17, z 18, z 19, z 20, z 21, z 22, z 23, z 24, z 25, z 26, z 27, z 28, z 29, z 30, z 31, z 32, z 33, z 34, z 35, z 36, z 37, z 38], [], 64⟩
def S_slices_CompareFunc_b0_1 (_g : Val → Val → Int) (_p0 : List Val) (_p1 : List Val) (z : Nat → PV) (zo : Nat → List PV) : St :=
  ⟨[z 0, z 1, z 2, z 3, z 4, z 5, .int .i64 1, z 7, z 8, z 9, z 10, z 11, z 12, z 13, z 14, z 15, z 16, z 17, z 18, z 19, z 20, z 21, z 22, z 23, z 24, z 25, z 26, z 27, z 28, z 29, z 30, z 31, z 32, z 33, z 34, z 35, z 36, z 37, z 38], [(256, ⟨5, 0, true, zo 256⟩)], 768⟩
def S_slices_CompareFunc_b0_2 (_g : Val → Val → Int) (_p0 : List Val) (_p1 : List Val) (q0 : Int) (z : Nat → PV) (zo : Nat → List PV) : St :=
  ⟨[z 0, z 1, z 2, z 3, z 4, z 5, .int .i64 q0, z 7, z 8, z 9, z 10, z 11, z 12, z 13, z 14, z 15, z 16, z 17, z 18, z 19, z 20, z 21, z 22, z 23, z 24, z 25, z 26, z 27, z 28, z 29, z 30, z 31, z 32, z 33, z 34, z 35, z 36, z 37, z 38], [(256, ⟨5, 0, true, zo 256⟩), (960, ⟨5, 0, true, zo 960⟩)], 1664⟩
def P_slices_CompareFunc_b0 (g : Val → Val → Int) (p0 : List Val) (p1 : List Val) (e : En) : R_slices_CompareFunc_b0 → Prop
  | .k0 => ∃ z zo, Tells G e (.st (.exit 0) (S_slices_CompareFunc_b0_0 g p0 p1 z zo))
  | .k1 => ∃ z zo, Tells G e (.st .ret (S_slices_CompareFunc_b0_1 g p0 p1 z zo))
  | .k2 q0 => ∃ z zo, Tells G e (.st .ret (S_slices_CompareFunc_b0_2 g p0 p1 q0 z zo))
theorem P_slices_CompareFunc_b0_mono (g : Val → Val → Int) (p0 : List Val) (p1 : List Val) {e e' : En} (h : ∀ r, Tells G e r → Tells G e' r) : ∀ q, P_slices_CompareFunc_b0 g p0 p1 e q → P_slices_CompareFunc_b0 g p0 p1 e' q
  | .k0, ⟨z, zo, hz⟩ => ⟨z, zo, h _ hz⟩
  | .k1, ⟨z, zo, hz⟩ => ⟨z, zo, h _ hz⟩
  | .k2 _, ⟨z, zo, hz⟩ => ⟨z, zo, h _ hz⟩
def H_slices_CompareFunc_b0 (_g : Val → Val → Int) (p0 : List Val) (_p1 : List Val) : Prop := (List.length p0 ≤ 4611686018427387904) ∧ True
def Z_slices_CompareFunc_b0_0 (_g : Val → Val → Int) (p0 : List Val) (_p1 : List Val) (i0 : Nat) : List PV :=
  [.un, .un, .fn 17 [] [], .un, .un, .un, .un, .un, .un, .un, .un, .sl (Val.rows p0), .int .i64 ((List.length p0) : Int), .int .i64 (i0 : Int), .bool false]
def ZO_slices_CompareFunc_b0_0 (_g : Val → Val → Int) (_p0 : List Val) (_p1 : List Val) (_i0 : Nat) : List (Nat × List PV) :=
  []
theorem x_slices_CompareFunc_b0_0 (g : Val → Val → Int) (p0 : List Val) (p1 : List Val) (_H : H_slices_CompareFunc_b0 g p0 p1) (_rec : Rec_slices_CompareFunc_f17 g p0) (i0 : Nat) (hc0 : (decide ((i0 : Int) < ((List.length p0) : Int))) = false) : P_slices_CompareFunc_b0 g p0 p1 (E_slices_CompareFunc_b0 g p0 p1 i0) (.k0) := by
  exact ⟨(envF (Z_slices_CompareFunc_b0_0 g p0 p1 i0)), (zoF (ZO_slices_CompareFunc_b0_0 g p0 p1 i0)), tells_outVI VOK.nil (x := ((.exit 0), S_slices_CompareFunc_b0_0 g p0 p1 (envF (Z_slices_CompareFunc_b0_0 g p0 p1 i0)) (zoF (ZO_slices_CompareFunc_b0_0 g p0 p1 i0)))) [hB 0 hc0] [] (by kernel_rfl)⟩
def Z_slices_CompareFunc_b0_1 (_g : Val → Val → Int) (p0 : List Val) (p1 : List Val) (i0 : Nat) (x0 : Val) : List PV :=
  [.sl (Val.rows p0), .sl (Val.rows p1), .fn 17 [] [], .un, .un, .un, .un, .int .i64 (i0 : Int), .bx 256 0, .un, .un, .sl (Val.rows p0), .int .i64 ((List.length p0) : Int), .int .i64 (i0 : Int), .bool true, .int .i64 (i0 : Int), .rf [.int .i64 x0.kind, .int .i64 x0.n, .str x0.s, .sl (Val.rows x0.list), .sl (Fld.rows x0.fields)], .agg [.int .i64 x0.kind, .int .i64 x0.n, .str x0.s, .sl (Val.rows x0.list), .sl (Fld.rows x0.fields)], .int .i64 (i0 : Int), .sl (Val.rows p1), .int .i64 ((List.length p1) : Int), .bool true]
def ZO_slices_CompareFunc_b0_1 (_g : Val → Val → Int) (_p0 : List Val) (_p1 : List Val) (_i0 : Nat) (x0 : Val) : List (Nat × List PV) :=
  [(256, [.int .i64 x0.kind, .int .i64 x0.n, .str x0.s, .sl (Val.rows x0.list), .sl (Fld.rows x0.fields)])]
theorem x_slices_CompareFunc_b0_1 (g : Val → Val → Int) (p0 : List Val) (p1 : List Val) (_H : H_slices_CompareFunc_b0 g p0 p1) (_rec : Rec_slices_CompareFunc_f17 g p0) (x0 : Val) (i0 : Nat) (hx0 : p0[i0]? = some x0) (_hi0 : i0 < List.length p0) (hc0 : (decide ((i0 : Int) < ((List.length p0) : Int))) = true) (h0 : (decide (((List.length p1) : Int) ≤ (i0 : Int))) = true) : P_slices_CompareFunc_b0 g p0 p1 (E_slices_CompareFunc_b0 g p0 p1 i0) (.k1) := by
  exact ⟨(envF (Z_slices_CompareFunc_b0_1 g p0 p1 i0 x0)), (zoF (ZO_slices_CompareFunc_b0_1 g p0 p1 i0 x0)), tells_outVI VOK.nil (x := (.ret, S_slices_CompareFunc_b0_1 g p0 p1 (envF (Z_slices_CompareFunc_b0_1 g p0 p1 i0 x0)) (zoF (ZO_slices_CompareFunc_b0_1 g p0 p1 i0 x0)))) [hB 0 hc0, hP 1 (ix_ok 5 (Val.rows p0) i0 _ (Val.rowsGet hx0) rfl), hP 6 (len_ok (Val.rows p1) (List.length p1) (Val.rowsLen p1)), hB 0 h0] [] (by kernel_rfl)⟩
theorem n_slices_CompareFunc_b0_2 (g : Val → Val → Int) (p0 : List Val) (p1 : List Val) (H : H_slices_CompareFunc_b0 g p0 p1) (rec : Rec_slices_CompareFunc_f17 g p0) (x0 : Val) (i0 : Nat) (hx0 : p0[i0]? = some x0) (hi0 : i0 < List.length p0) (hc0 : (decide ((i0 : Int) < ((List.length p0) : Int))) = true) (h0 : (decide (((List.length p1) : Int) ≤ (i0 : Int))) = false) (h1 : ((g x0 (List.getD p1 i0 (Val.mk 0 0 (⟨#[]⟩ : ByteArray) [] []))) == 0) = true) {r : Rs} (hr : Tells G (E_slices_CompareFunc_b0 g p0 p1 (i0 + 1)) r) : Tells G (E_slices_CompareFunc_b0 g p0 p1 i0) r := by
  have hB0 := H.1; have e0 := of_decide_eq_false h0
  exact tells_nextVI VOK.nil (y := (HE_slices_CompareFunc_b0 g p0 p1 (i0 + 1), HO_slices_CompareFunc_b0 g p0 p1 (i0 + 1))) [hB 0 hc0, hP 1 (ix_ok 5 (Val.rows p0) i0 _ (Val.rowsGet hx0) rfl), hP 6 (len_ok (Val.rows p1) (List.length p1) (Val.rowsLen p1)), hB 0 h0, hP 2 (ixI_ok 5 (Val.rows p1) (i0 : Int) _ (by omega) (Val.rowsGet (getD_ok p1 (Int.toNat (i0 : Int)) (Val.mk 0 0 (⟨#[]⟩ : ByteArray) [] []) (by omega))) rfl), hP 9 (dec (!((g x0 (List.getD p1 i0 (Val.mk 0 0 (⟨#[]⟩ : ByteArray) [] []))) == 0)) false (by rw [h1]; rfl)), hP 0 (inc_ok i0 (by omega))] [aN (rec x0 (mem_get hx0) (List.getD p1 i0 (Val.mk 0 0 (⟨#[]⟩ : ByteArray) [] [])))] (by kernel_rfl) hr
def Z_slices_CompareFunc_b0_3 (g : Val → Val → Int) (p0 : List Val) (p1 : List Val) (i0 : Nat) (x0 : Val) : List PV :=
  [.sl (Val.rows p0), .sl (Val.rows p1), .fn 17 [] [], .un, .un, .un, .un, .int .i64 (i0 : Int), .bx 256 0, .bx 960 0, .int .i64 (g x0 (List.getD p1 i0 (Val.mk 0 0 (⟨#[]⟩ : ByteArray) [] []))), .sl (Val.rows p0), .int .i64 ((List.length p0) : Int), .int .i64 (i0 : Int), .bool true, .int .i64 (i0 : Int), .rf [.int .i64 x0.kind, .int .i64 x0.n, .str x0.s, .sl (Val.rows x0.list), .sl (Fld.rows x0.fields)], .agg [.int .i64 x0.kind, .int .i64 x0.n, .str x0.s, .sl (Val.rows x0.list), .sl (Fld.rows x0.fields)], .int .i64 (i0 : Int), .sl (Val.rows p1), .int .i64 ((List.length p1) : Int), .bool false, .sl (Val.rows p1), .int .i64 (i0 : Int), .rf [.int .i64 (List.getD p1 i0 (Val.mk 0 0 (⟨#[]⟩ : ByteArray) [] [])).kind, .int .i64 (List.getD p1 i0 (Val.mk 0 0 (⟨#[]⟩ : ByteArray) [] [])).n, .str (List.getD p1 i0 (Val.mk 0 0 (⟨#[]⟩ : ByteArray) [] [])).s, .sl (Val.rows (List.getD p1 i0 (Val.mk 0 0 (⟨#[]⟩ : ByteArray) [] [])).list), .sl (Fld.rows (List.getD p1 i0 (Val.mk 0 0 (⟨#[]⟩ : ByteArray) [] [])).fields)], .agg [.int .i64 (List.getD p1 i0 (Val.mk 0 0 (⟨#[]⟩ : ByteArray) [] [])).kind, .int .i64 (List.getD p1 i0 (Val.mk 0 0 (⟨#[]⟩ : ByteArray) [] [])).n, .str (List.getD p1 i0 (Val.mk 0 0 (⟨#[]⟩ : ByteArray) [] [])).s, .sl (Val.rows (List.getD p1 i0 (Val.mk 0 0 (⟨#[]⟩ : ByteArray) [] [])).list), .sl (Fld.rows (List.getD p1 i0 (Val.mk 0 0 (⟨#[]⟩ : ByteArray) [] [])).fields)], .fn 17 [] [], .agg [.int .i64 x0.kind, .int .i64 x0.n, .str x0.s, .sl (Val.rows x0.list), .sl (Fld.rows x0.fields)], .agg [.int .i64 (List.getD p1 i0 (Val.mk 0 0 (⟨#[]⟩ : ByteArray) [] [])).kind, .int .i64 (List.getD p1 i0 (Val.mk 0 0 (⟨#[]⟩ : ByteArray) [] [])).n, .str (List.getD p1 i0 (Val.mk 0 0 (⟨#[]⟩ : ByteArray) [] [])).s, .sl (Val.rows (List.getD p1 i0 (Val.mk 0 0 (⟨#[]⟩ : ByteArray) [] [])).list), .sl (Fld.rows (List.getD p1 i0 (Val.mk 0 0 (⟨#[]⟩ : ByteArray) [] [])).fields)], .int .i64 (g x0 (List.getD p1 i0 (Val.mk 0 0 (⟨#[]⟩ : ByteArray) [] []))), .int .i64 (g x0 (List.getD p1 i0 (Val.mk 0 0 (⟨#[]⟩ : ByteArray) [] []))), .bool true, .int .i64 (g x0 (List.getD p1 i0 (Val.mk 0 0 (⟨#[]⟩ : ByteArray) [] [])))]
def ZO_slices_CompareFunc_b0_3 (_g : Val → Val → Int) (_p0 : List Val) (p1 : List Val) (i0 : Nat) (x0 : Val) : List (Nat × List PV) :=
  [(256, [.int .i64 x0.kind, .int .i64 x0.n, .str x0.s, .sl (Val.rows x0.list), .sl (Fld.rows x0.fields)]), (960, [.int .i64 (List.getD p1 i0 (Val.mk 0 0 (⟨#[]⟩ : ByteArray) [] [])).kind, .int .i64 (List.getD p1 i0 (Val.mk 0 0 (⟨#[]⟩ : ByteArray) [] [])).n, .str (List.getD p1 i0 (Val.mk 0 0 (⟨#[]⟩ : ByteArray) [] [])).s, .sl (Val.rows (List.getD p1 i0 (Val.mk 0 0 (⟨#[]⟩ : ByteArray) [] [])).list), .sl (Fld.rows (List.getD p1 i0 (Val.mk 0 0 (⟨#[]⟩ : ByteArray) [] [])).fields)])]
theorem x_slices_CompareFunc_b0_3 (g : Val → Val → Int) (p0 : List Val) (p1 : List Val) (H : H_slices_CompareFunc_b0 g p0 p1) (rec : Rec_slices_CompareFunc_f17 g p0) (x0 : Val) (i0 : Nat) (hx0 : p0[i0]? = some x0) (_hi0 : i0 < List.length p0) (hc0 : (decide ((i0 : Int) < ((List.length p0) : Int))) = true) (h0 : (decide (((List.length p1) : Int) ≤ (i0 : Int))) = false) (h1 : ((g x0 (List.getD p1 i0 (Val.mk 0 0 (⟨#[]⟩ : ByteArray) [] []))) == 0) = false) : P_slices_CompareFunc_b0 g p0 p1 (E_slices_CompareFunc_b0 g p0 p1 i0) (.k2 (g x0 (List.getD p1 i0 (Val.mk 0 0 (⟨#[]⟩ : ByteArray) [] [])))) := by
  have hB0 := H.1; have e0 := of_decide_eq_false h0
  exact ⟨(envF (Z_slices_CompareFunc_b0_3 g p0 p1 i0 x0)), (zoF (ZO_slices_CompareFunc_b0_3 g p0 p1 i0 x0)), tells_outVI VOK.nil (x := (.ret, S_slices_CompareFunc_b0_2 g p0 p1 (g x0 (List.getD p1 i0 (Val.mk 0 0 (⟨#[]⟩ : ByteArray) [] []))) (envF (Z_slices_CompareFunc_b0_3 g p0 p1 i0 x0)) (zoF (ZO_slices_CompareFunc_b0_3 g p0 p1 i0 x0)))) [hB 0 hc0, hP 1 (ix_ok 5 (Val.rows p0) i0 _ (Val.rowsGet hx0) rfl), hP 6 (len_ok (Val.rows p1) (List.length p1) (Val.rowsLen p1)), hB 0 h0, hP 2 (ixI_ok 5 (Val.rows p1) (i0 : Int) _ (by omega) (Val.rowsGet (getD_ok p1 (Int.toNat (i0 : Int)) (Val.mk 0 0 (⟨#[]⟩ : ByteArray) [] []) (by omega))) rfl), hP 9 (dec (!((g x0 (List.getD p1 i0 (Val.mk 0 0 (⟨#[]⟩ : ByteArray) [] []))) == 0)) true (by rw [h1]; rfl))] [aN (rec x0 (mem_get hx0) (List.getD p1 i0 (Val.mk 0 0 (⟨#[]⟩ : ByteArray) [] [])))] (by kernel_rfl)⟩
theorem lt_slices_CompareFunc_b0 (g : Val → Val → Int) (p0 : List Val) (p1 : List Val) (H : H_slices_CompareFunc_b0 g p0 p1) (rec : Rec_slices_CompareFunc_f17 g p0) : ∀ (r0 : List Val) (i0 : Nat), List.drop i0 p0 = r0 → P_slices_CompareFunc_b0 g p0 p1 (E_slices_CompareFunc_b0 g p0 p1 i0) (l_slices_CompareFunc_b0 g p0 p1 r0 i0)
  | [], i0, hd => by
    have hc0 : (decide ((i0 : Int) < ((List.length p0) : Int))) = false := by have := drop_end hd; simp; omega
    rw [l_slices_CompareFunc_b0]
    exact x_slices_CompareFunc_b0_0 g p0 p1 H rec i0 hc0
  | x0 :: r0, i0, hd => by
    obtain ⟨hx0, hi0, hd'⟩ := drop_get hd
    have hc0 : (decide ((i0 : Int) < ((List.length p0) : Int))) = true := by simp; omega
    rw [l_slices_CompareFunc_b0]
    cases h0 : (decide (((List.length p1) : Int) ≤ (i0 : Int))) with
    | true =>
     exact x_slices_CompareFunc_b0_1 g p0 p1 H rec x0 i0 hx0 hi0 hc0 h0
    | false =>
     cases h1 : ((g x0 (List.getD p1 i0 (Val.mk 0 0 (⟨#[]⟩ : ByteArray) [] []))) == 0) with
     | true =>
      exact P_slices_CompareFunc_b0_mono g p0 p1 (fun r hr => n_slices_CompareFunc_b0_2 g p0 p1 H rec x0 i0 hx0 hi0 hc0 h0 h1 hr) _ (lt_slices_CompareFunc_b0 g p0 p1 H rec r0 (i0 + 1) hd')
     | false =>
      exact x_slices_CompareFunc_b0_3 g p0 p1 H rec x0 i0 hx0 hi0 hc0 h0 h1
/-- slices.CompareFunc[[]orchestrator/ api.Value,[]orchestrator/ api.Value,orchestrator/ api.Value,orchestrator/ api.Value] -/
def s_slices_CompareFunc_f17 (g : Val → Val → Int) (p0 : List Val) (p1 : List Val) : Int :=
  (match (l_slices_CompareFunc_b0 g p0 p1 p0 0) with
  | .k0 => bif (decide (((List.length p0) : Int) < ((List.length p1) : Int))) then
      (-1)
    else
      0
  | .k1 => 1
  | .k2 y0_0 => y0_0)
def c_slices_CompareFunc_f17 (p0 : List Val) (p1 : List Val) : En := .call 44 [.sl (Val.rows p0), .sl (Val.rows p1), .fn 17 [] []] []
def a_slices_CompareFunc_f17 (g : Val → Val → Int) (p0 : List Val) (p1 : List Val) : Rs := .ret (.int .i64 (s_slices_CompareFunc_f17 g p0 p1)) []
def H_slices_CompareFunc_f17 (g : Val → Val → Int) (p0 : List Val) (p1 : List Val) : Prop := (H_slices_CompareFunc_b0 g p0 p1) ∧ True
theorem t_slices_CompareFunc_f17 (g : Val → Val → Int) (p0 : List Val) (p1 : List Val) (H : H_slices_CompareFunc_f17 g p0 p1) (rec : Rec_slices_CompareFunc_f17 g p0) : Tells G (c_slices_CompareFunc_f17 p0 p1) (a_slices_CompareFunc_f17 g p0 p1) := by
  unfold a_slices_CompareFunc_f17 s_slices_CompareFunc_f17
  have hl0 := lt_slices_CompareFunc_b0 g p0 p1 (H.1) rec p0 0 (by simp)
  cases hr0 : (l_slices_CompareFunc_b0 g p0 p1 p0 0) with
  | k0 =>
    rw [hr0] at hl0
    obtain ⟨z0, zo0, hl0⟩ := hl0
    try dsimp only
    cases h0 : (decide (((List.length p0) : Int) < ((List.length p1) : Int))) with
    | true =>
     exact tells_VI (fn := Ir.slices_CompareFunc) rfl VOK.nil [hP 2 (len_ok (Val.rows p0) (List.length p0) (Val.rowsLen p0)), hP 2 (len_ok (Val.rows p0) (List.length p0) (Val.rowsLen p0)), hP 1 (len_ok (Val.rows p1) (List.length p1) (Val.rowsLen p1)), hB 0 h0] [aN hl0] (by kernel_rfl)
    | false =>
     exact tells_VI (fn := Ir.slices_CompareFunc) rfl VOK.nil [hP 2 (len_ok (Val.rows p0) (List.length p0) (Val.rowsLen p0)), hP 2 (len_ok (Val.rows p0) (List.length p0) (Val.rowsLen p0)), hP 1 (len_ok (Val.rows p1) (List.length p1) (Val.rowsLen p1)), hB 0 h0] [aN hl0] (by kernel_rfl)
  | k1 =>
    rw [hr0] at hl0
    obtain ⟨z0, zo0, hl0⟩ := hl0
    exact tells_VI (fn := Ir.slices_CompareFunc) rfl VOK.nil [hP 2 (len_ok (Val.rows p0) (List.length p0) (Val.rowsLen p0))] [aN hl0] (by kernel_rfl)
  | k2 y0_0 =>
    rw [hr0] at hl0
    obtain ⟨z0, zo0, hl0⟩ := hl0
    exact tells_VI (fn := Ir.slices_CompareFunc) rfl VOK.nil [hP 2 (len_ok (Val.rows p0) (List.length p0) (Val.rowsLen p0))] [aN hl0] (by kernel_rfl)

def Rec_slices_CompareFunc_45_f46 (g : Fld → Fld → Int) (p0 : List Fld) : Prop := ∀ x ∈ p0, ∀ y : Fld, Tells G (.call 46 [.agg (Fld.cells x), .agg (Fld.cells y)] []) (.ret (.int .i64 (g x y)) [])
inductive R_slices_CompareFunc_45_b0 where
  | k0
  | k1
  | k2 (q0 : Int)
def l_slices_CompareFunc_45_b0 (g : Fld → Fld → Int) (p0 : List Fld) (p1 : List Fld) : List Fld → Nat → R_slices_CompareFunc_45_b0
  | [], _i0 =>
    (.k0)
  | x0 :: r0, i0 =>
    bif (decide (((List.length p1) : Int) ≤ (i0 : Int))) then
      (.k1)
    else
      bif ((g x0 (List.getD p1 i0 (Fld.mk (⟨#[]⟩ : ByteArray) (Val.mk 0 0 (⟨#[]⟩ : ByteArray) [] [])))) == 0) then
        l_slices_CompareFunc_45_b0 g p0 p1 r0 (i0 + 1)
      else
        (.k2 (g x0 (List.getD p1 i0 (Fld.mk (⟨#[]⟩ : ByteArray) (Val.mk 0 0 (⟨#[]⟩ : ByteArray) [] [])))))
def HE_slices_CompareFunc_45_b0 (_g : Fld → Fld → Int) (p0 : List Fld) (p1 : List Fld) (i0 : Nat) : List PV :=
  [.sl (Fld.rows p0), .sl (Fld.rows p1), .fn 46 [] [], .un, .un, .un, .un, .un, .un, .un, .un, .sl (Fld.rows p0), .int .i64 ((List.length p0) : Int), .int .i64 (i0 : Int), .un, .un, .un, .un, .un, .un, .un, .un, .un, .un, .un, .un, .un, .un, .un, .un, .un, .un, .un, .un, .un, .un, .un, .un, .un]
def HO_slices_CompareFunc_45_b0 (_g : Fld → Fld → Int) (_p0 : List Fld) (_p1 : List Fld) (_i0 : Nat) : List Ob :=
  []
def E_slices_CompareFunc_45_b0 (g : Fld → Fld → Int) (p0 : List Fld) (p1 : List Fld) (i0 : Nat) : En := .loop 0 Ir.slices_CompareFunc_45_b0_live Ir.slices_CompareFunc_45_b0 (HE_slices_CompareFunc_45_b0 g p0 p1 i0) (HO_slices_CompareFunc_45_b0 g p0 p1 i0)
def S_slices_CompareFunc_45_b0_0 (_g : Fld → Fld → Int) (p0 : List Fld) (p1 : List Fld) (z : Nat → PV) (_zo : Nat → List PV) : St :=
  ⟨[.sl (Fld.rows p0), .sl (Fld.rows p1), z 2, z 3, z 4, z 5, z 6, z 7, z 8, z 9, z 10, z 11, z 12, z 13, z 14, z 15, z 16, z 17, z 18, z 19, z 20, z 21, z 22, z 23, z 24, z 25, z 26, z 27, z 28, z 29, z 30, z 31, z 32, z 33, z 34, z 35, z 36, z 37, z 38], [], 64⟩
def S_slices_CompareFunc_45_b0_1 (_g : Fld → Fld → Int) (_p0 : List Fld) (_p1 : List Fld) (z : Nat → PV) (zo : Nat → List PV) : St :=
  ⟨[z 0, z 1, z 2, z 3, z 4, z 5, .int .i64 1, z 7, z 8, z 9, z 10, z 11, z 12, z 13, z 14, z 15, z 16, z 17, z 18, z 19, z 20, z 21, z 22, z 23, z 24, z 25, z 26, z 27, z 28, z 29, z 30, z 31, z 32, z 33, z 34, z 35, z 36, z 37, z 38], [(256, ⟨6, 0, true, zo 256⟩)], 768⟩
def S_slices_CompareFunc_45_b0_2 (_g : Fld → Fld → Int) (_p0 : List Fld) (_p1 : List Fld) (q0 : Int) (z : Nat → PV) (zo : Nat → List PV) : St :=
  ⟨[z 0, z 1, z 2, z 3, z 4, z 5, .int .i64 q0, z 7, z 8, z 9, z 10, z 11, z 12, z 13, z 14, z 15, z 16, z 17, z 18, z 19, z 20, z 21, z 22, z 23, z 24, z 25, z 26, z 27, z 28, z 29, z 30, z 31, z 32, z 33, z 34, z 35, z 36, z 37, z 38], [(256, ⟨6, 0, true, zo 256⟩), (960, ⟨6, 0, true, zo 960⟩)], 1664⟩
def P_slices_CompareFunc_45_b0 (g : Fld → Fld → Int) (p0 : List Fld) (p1 : List Fld) (e : En) : R_slices_CompareFunc_45_b0 → Prop
  | .k0 => ∃ z zo, Tells G e (.st (.exit 0) (S_slices_CompareFunc_45_b0_0 g p0 p1 z zo))
  | .k1 => ∃ z zo, Tells G e (.st .ret (S_slices_CompareFunc_45_b0_1 g p0 p1 z zo))
  | .k2 q0 => ∃ z zo, Tells G e (.st .ret (S_slices_CompareFunc_45_b0_2 g p0 p1 q0 z zo))
theorem P_slices_CompareFunc_45_b0_mono (g : Fld → Fld → Int) (p0 : List Fld) (p1 : List Fld) {e e' : En} (h : ∀ r, Tells G e r → Tells G e' r) : ∀ q, P_slices_CompareFunc_45_b0 g p0 p1 e q → P_slices_CompareFunc_45_b0 g p0 p1 e' q
  | .k0, ⟨z, zo, hz⟩ => ⟨z, zo, h _ hz⟩
  | .k1, ⟨z, zo, hz⟩ => ⟨z, zo, h _ hz⟩
  | .k2 _, ⟨z, zo, hz⟩ => ⟨z, zo, h _ hz⟩
def H_slices_CompareFunc_45_b0 (_g : Fld → Fld → Int) (p0 : List Fld) (_p1 : List Fld) : Prop := (List.length p0 ≤ 4611686018427387904) ∧ True
def Z_slices_CompareFunc_45_b0_0 (_g : Fld → Fld → Int) (p0 : List Fld) (_p1 : List Fld) (i0 : Nat) : List PV :=
  [.un, .un, .fn 46 [] [], .un, .un, .un, .un, .un, .un, .un, .un, .sl (Fld.rows p0), .int .i64 ((List.length p0) : Int), .int .i64 (i0 : Int), .bool false]
def ZO_slices_CompareFunc_45_b0_0 (_g : Fld → Fld → Int) (_p0 : List Fld) (_p1 : List Fld) (_i0 : Nat) : List (Nat × List PV) :=
  []
theorem x_slices_CompareFunc_45_b0_0 (g : Fld → Fld → Int) (p0 : List Fld) (p1 : List Fld) (_H : H_slices_CompareFunc_45_b0 g p0 p1) (_rec : Rec_slices_CompareFunc_45_f46 g p0) (i0 : Nat) (hc0 : (decide ((i0 : Int) < ((List.length p0) : Int))) = false) : P_slices_CompareFunc_45_b0 g p0 p1 (E_slices_CompareFunc_45_b0 g p0 p1 i0) (.k0) := by
  exact ⟨(envF (Z_slices_CompareFunc_45_b0_0 g p0 p1 i0)), (zoF (ZO_slices_CompareFunc_45_b0_0 g p0 p1 i0)), tells_outVI VOK.nil (x := ((.exit 0), S_slices_CompareFunc_45_b0_0 g p0 p1 (envF (Z_slices_CompareFunc_45_b0_0 g p0 p1 i0)) (zoF (ZO_slices_CompareFunc_45_b0_0 g p0 p1 i0)))) [hB 0 hc0] [] (by kernel_rfl)⟩
def Z_slices_CompareFunc_45_b0_1 (_g : Fld → Fld → Int) (p0 : List Fld) (p1 : List Fld) (i0 : Nat) (x0 : Fld) : List PV :=
  [.sl (Fld.rows p0), .sl (Fld.rows p1), .fn 46 [] [], .un, .un, .un, .un, .int .i64 (i0 : Int), .bx 256 0, .un, .un, .sl (Fld.rows p0), .int .i64 ((List.length p0) : Int), .int .i64 (i0 : Int), .bool true, .int .i64 (i0 : Int), .rf [.str x0.name, .int .i64 x0.v.kind, .int .i64 x0.v.n, .str x0.v.s, .sl (Val.rows x0.v.list), .sl (Fld.rows x0.v.fields)], .agg [.str x0.name, .int .i64 x0.v.kind, .int .i64 x0.v.n, .str x0.v.s, .sl (Val.rows x0.v.list), .sl (Fld.rows x0.v.fields)], .int .i64 (i0 : Int), .sl (Fld.rows p1), .int .i64 ((List.length p1) : Int), .bool true]
def ZO_slices_CompareFunc_45_b0_1 (_g : Fld → Fld → Int) (_p0 : List Fld) (_p1 : List Fld) (_i0 : Nat) (x0 : Fld) : List (Nat × List PV) :=
  [(256, [.str x0.name, .int .i64 x0.v.kind, .int .i64 x0.v.n, .str x0.v.s, .sl (Val.rows x0.v.list), .sl (Fld.rows x0.v.fields)])]
theorem x_slices_CompareFunc_45_b0_1 (g : Fld → Fld → Int) (p0 : List Fld) (p1 : List Fld) (_H : H_slices_CompareFunc_45_b0 g p0 p1) (_rec : Rec_slices_CompareFunc_45_f46 g p0) (x0 : Fld) (i0 : Nat) (hx0 : p0[i0]? = some x0) (_hi0 : i0 < List.length p0) (hc0 : (decide ((i0 : Int) < ((List.length p0) : Int))) = true) (h0 : (decide (((List.length p1) : Int) ≤ (i0 : Int))) = true) : P_slices_CompareFunc_45_b0 g p0 p1 (E_slices_CompareFunc_45_b0 g p0 p1 i0) (.k1) := by
  exact ⟨(envF (Z_slices_CompareFunc_45_b0_1 g p0 p1 i0 x0)), (zoF (ZO_slices_CompareFunc_45_b0_1 g p0 p1 i0 x0)), tells_outVI VOK.nil (x := (.ret, S_slices_CompareFunc_45_b0_1 g p0 p1 (envF (Z_slices_CompareFunc_45_b0_1 g p0 p1 i0 x0)) (zoF (ZO_slices_CompareFunc_45_b0_1 g p0 p1 i0 x0)))) [hB 0 hc0, hP 1 (ix_ok 6 (Fld.rows p0) i0 _ (Fld.rowsGet hx0) rfl), hP 6 (len_ok (Fld.rows p1) (List.length p1) (Fld.rowsLen p1)), hB 0 h0] [] (by kernel_rfl)⟩
theorem n_slices_CompareFunc_45_b0_2 (g : Fld → Fld → Int) (p0 : List Fld) (p1 : List Fld) (H : H_slices_CompareFunc_45_b0 g p0 p1) (rec : Rec_slices_CompareFunc_45_f46 g p0) (x0 : Fld) (i0 : Nat) (hx0 : p0[i0]? = some x0) (hi0 : i0 < List.length p0) (hc0 : (decide ((i0 : Int) < ((List.length p0) : Int))) = true) (h0 : (decide (((List.length p1) : Int) ≤ (i0 : Int))) = false) (h1 : ((g x0 (List.getD p1 i0 (Fld.mk (⟨#[]⟩ : ByteArray) (Val.mk 0 0 (⟨#[]⟩ : ByteArray) [] [])))) == 0) = true) {r : Rs} (hr : Tells G (E_slices_CompareFunc_45_b0 g p0 p1 (i0 + 1)) r) : Tells G (E_slices_CompareFunc_45_b0 g p0 p1 i0) r := by
  have hB0 := H.1; have e0 := of_decide_eq_false h0
  exact tells_nextVI VOK.nil (y := (HE_slices_CompareFunc_45_b0 g p0 p1 (i0 + 1), HO_slices_CompareFunc_45_b0 g p0 p1 (i0 + 1))) [hB 0 hc0, hP 1 (ix_ok 6 (Fld.rows p0) i0 _ (Fld.rowsGet hx0) rfl), hP 6 (len_ok (Fld.rows p1) (List.length p1) (Fld.rowsLen p1)), hB 0 h0, hP 2 (ixI_ok 6 (Fld.rows p1) (i0 : Int) _ (by omega) (Fld.rowsGet (getD_ok p1 (Int.toNat (i0 : Int)) (Fld.mk (⟨#[]⟩ : ByteArray) (Val.mk 0 0 (⟨#[]⟩ : ByteArray) [] [])) (by omega))) rfl), hP 9 (dec (!((g x0 (List.getD p1 i0 (Fld.mk (⟨#[]⟩ : ByteArray) (Val.mk 0 0 (⟨#[]⟩ : ByteArray) [] [])))) == 0)) false (by rw [h1]; rfl)), hP 0 (inc_ok i0 (by omega))] [aN (rec x0 (mem_get hx0) (List.getD p1 i0 (Fld.mk (⟨#[]⟩ : ByteArray) (Val.mk 0 0 (⟨#[]⟩ : ByteArray) [] []))))] (by kernel_rfl) hr
def Z_slices_CompareFunc_45_b0_3 (g : Fld → Fld → Int) (p0 : List Fld) (p1 : List Fld) (i0 : Nat) (x0 : Fld) : List PV :=
  [.sl (Fld.rows p0), .sl (Fld.rows p1), .fn 46 [] [], .un, .un, .un, .un, .int .i64 (i0 : Int), .bx 256 0, .bx 960 0, .int .i64 (g x0 (List.getD p1 i0 (Fld.mk (⟨#[]⟩ : ByteArray) (Val.mk 0 0 (⟨#[]⟩ : ByteArray) [] [])))), .sl (Fld.rows p0), .int .i64 ((List.length p0) : Int), .int .i64 (i0 : Int), .bool true, .int .i64 (i0 : Int), .rf [.str x0.name, .int .i64 x0.v.kind, .int .i64 x0.v.n, .str x0.v.s, .sl (Val.rows x0.v.list), .sl (Fld.rows x0.v.fields)], .agg [.str x0.name, .int .i64 x0.v.kind, .int .i64 x0.v.n, .str x0.v.s, .sl (Val.rows x0.v.list), .sl (Fld.rows x0.v.fields)], .int .i64 (i0 : Int), .sl (Fld.rows p1), .int .i64 ((List.length p1) : Int), .bool false, .sl (Fld.rows p1), .int .i64 (i0 : Int), .rf [.str (List.getD p1 i0 (Fld.mk (⟨#[]⟩ : ByteArray) (Val.mk 0 0 (⟨#[]⟩ : ByteArray) [] []))).name, .int .i64 (List.getD p1 i0 (Fld.mk (⟨#[]⟩ : ByteArray) (Val.mk 0 0 (⟨#[]⟩ : ByteArray) [] []))).v.kind, .int .i64 (List.getD p1 i0 (Fld.mk (⟨#[]⟩ : ByteArray) (Val.mk 0 0 (⟨#[]⟩ : ByteArray) [] []))).v.n, .str (List.getD p1 i0 (Fld.mk (⟨#[]⟩ : ByteArray) (Val.mk 0 0 (⟨#[]⟩ : ByteArray) [] []))).v.s, .sl (Val.rows (List.getD p1 i0 (Fld.mk (⟨#[]⟩ : ByteArray) (Val.mk 0 0 (⟨#[]⟩ : ByteArray) [] []))).v.list), .sl (Fld.rows (List.getD p1 i0 (Fld.mk (⟨#[]⟩ : ByteArray) (Val.mk 0 0 (⟨#[]⟩ : ByteArray) [] []))).v.fields)], .agg [.str (List.getD p1 i0 (Fld.mk (⟨#[]⟩ : ByteArray) (Val.mk 0 0 (⟨#[]⟩ : ByteArray) [] []))).name, .int .i64 (List.getD p1 i0 (Fld.mk (⟨#[]⟩ : ByteArray) (Val.mk 0 0 (⟨#[]⟩ : ByteArray) [] []))).v.kind, .int .i64 (List.getD p1 i0 (Fld.mk (⟨#[]⟩ : ByteArray) (Val.mk 0 0 (⟨#[]⟩ : ByteArray) [] []))).v.n, .str (List.getD p1 i0 (Fld.mk (⟨#[]⟩ : ByteArray) (Val.mk 0 0 (⟨#[]⟩ : ByteArray) [] []))).v.s, .sl (Val.rows (List.getD p1 i0 (Fld.mk (⟨#[]⟩ : ByteArray) (Val.mk 0 0 (⟨#[]⟩ : ByteArray) [] []))).v.list), .sl (Fld.rows (List.getD p1 i0 (Fld.mk (⟨#[]⟩ : ByteArray) (Val.mk 0 0 (⟨#[]⟩ : ByteArray) [] []))).v.fields)], .fn 46 [] [], .agg [.str x0.name, .int .i64 x0.v.kind, .int .i64 x0.v.n, .str x0.v.s, .sl (Val.rows x0.v.list), .sl (Fld.rows x0.v.fields)], .agg [.str (List.getD p1 i0 (Fld.mk (⟨#[]⟩ : ByteArray) (Val.mk 0 0 (⟨#[]⟩ : ByteArray) [] []))).name, .int .i64 (List.getD p1 i0 (Fld.mk (⟨#[]⟩ : ByteArray) (Val.mk 0 0 (⟨#[]⟩ : ByteArray) [] []))).v.kind, .int .i64 (List.getD p1 i0 (Fld.mk (⟨#[]⟩ : ByteArray) (Val.mk 0 0 (⟨#[]⟩ : ByteArray) [] []))).v.n, .str (List.getD p1 i0 (Fld.mk (⟨#[]⟩ : ByteArray) (Val.mk 0 0 (⟨#[]⟩ : ByteArray) [] []))).v.s, .sl (Val.rows (List.getD p1 i0 (Fld.mk (⟨#[]⟩ : ByteArray) (Val.mk 0 0 (⟨#[]⟩ : ByteArray) [] []))).v.list), .sl (Fld.rows (List.getD p1 i0 (Fld.mk (⟨#[]⟩ : ByteArray) (Val.mk 0 0 (⟨#[]⟩ : ByteArray) [] []))).v.fields)], .int .i64 (g x0 (List.getD p1 i0 (Fld.mk (⟨#[]⟩ : ByteArray) (Val.mk 0 0 (⟨#[]⟩ : ByteArray) [] [])))), .int .i64 (g x0 (List.getD p1 i0 (Fld.mk (⟨#[]⟩ : ByteArray) (Val.mk 0 0 (⟨#[]⟩ : ByteArray) [] [])))), .bool true, .int .i64 (g x0 (List.getD p1 i0 (Fld.mk (⟨#[]⟩ : ByteArray) (Val.mk 0 0 (⟨#[]⟩ : ByteArray) [] []))))]
def ZO_slices_CompareFunc_45_b0_3 (_g : Fld → Fld → Int) (_p0 : List Fld) (p1 : List Fld) (i0 : Nat) (x0 : Fld) : List (Nat × List PV) :=
  [(256, [.str x0.name, .int .i64 x0.v.kind, .int .i64 x0.v.n, .str x0.v.s, .sl (Val.rows x0.v.list), .sl (Fld.rows x0.v.fields)]), (960, [.str (List.getD p1 i0 (Fld.mk (⟨#[]⟩ : ByteArray) (Val.mk 0 0 (⟨#[]⟩ : ByteArray) [] []))).name, .int .i64 (List.getD p1 i0 (Fld.mk (⟨#[]⟩ : ByteArray) (Val.mk 0 0 (⟨#[]⟩ : ByteArray) [] []))).v.kind, .int .i64 (List.getD p1 i0 (Fld.mk (⟨#[]⟩ : ByteArray) (Val.mk 0 0 (⟨#[]⟩ : ByteArray) [] []))).v.n, .str (List.getD p1 i0 (Fld.mk (⟨#[]⟩ : ByteArray) (Val.mk 0 0 (⟨#[]⟩ : ByteArray) [] []))).v.s, .sl (Val.rows (List.getD p1 i0 (Fld.mk (⟨#[]⟩ : ByteArray) (Val.mk 0 0 (⟨#[]⟩ : ByteArray) [] []))).v.list), .sl (Fld.rows (List.getD p1 i0 (Fld.mk (⟨#[]⟩ : ByteArray) (Val.mk 0 0 (⟨#[]⟩ : ByteArray) [] []))).v.fields)])]
theorem x_slices_CompareFunc_45_b0_3 (g : Fld → Fld → Int) (p0 : List Fld) (p1 : List Fld) (H : H_slices_CompareFunc_45_b0 g p0 p1) (rec : Rec_slices_CompareFunc_45_f46 g p0) (x0 : Fld) (i0 : Nat) (hx0 : p0[i0]? = some x0) (_hi0 : i0 < List.length p0) (hc0 : (decide ((i0 : Int) < ((List.length p0) : Int))) = true) (h0 : (decide (((List.length p1) : Int) ≤ (i0 : Int))) = false) (h1 : ((g x0 (List.getD p1 i0 (Fld.mk (⟨#[]⟩ : ByteArray) (Val.mk 0 0 (⟨#[]⟩ : ByteArray) [] [])))) == 0) = false) : P_slices_CompareFunc_45_b0 g p0 p1 (E_slices_CompareFunc_45_b0 g p0 p1 i0) (.k2 (g x0 (List.getD p1 i0 (Fld.mk (⟨#[]⟩ : ByteArray) (Val.mk 0 0 (⟨#[]⟩ : ByteArray) [] []))))) := by
  have hB0 := H.1; have e0 := of_decide_eq_false h0
  exact ⟨(envF (Z_slices_CompareFunc_45_b0_3 g p0 p1 i0 x0)), (zoF (ZO_slices_CompareFunc_45_b0_3 g p0 p1 i0 x0)), tells_outVI VOK.nil (x := (.ret, S_slices_CompareFunc_45_b0_2 g p0 p1 (g x0 (List.getD p1 i0 (Fld.mk (⟨#[]⟩ : ByteArray) (Val.mk 0 0 (⟨#[]⟩ : ByteArray) [] [])))) (envF (Z_slices_CompareFunc_45_b0_3 g p0 p1 i0 x0)) (zoF (ZO_slices_CompareFunc_45_b0_3 g p0 p1 i0 x0)))) [hB 0 hc0, hP 1 (ix_ok 6 (Fld.rows p0) i0 _ (Fld.rowsGet hx0) rfl), hP 6 (len_ok (Fld.rows p1) (List.length p1) (Fld.rowsLen p1)), hB 0 h0, hP 2 (ixI_ok 6 (Fld.rows p1) (i0 : Int) _ (by omega) (Fld.rowsGet (getD_ok p1 (Int.toNat (i0 : Int)) (Fld.mk (⟨#[]⟩ : ByteArray) (Val.mk 0 0 (⟨#[]⟩ : ByteArray) [] [])) (by omega))) rfl), hP 9 (dec (!((g x0 (List.getD p1 i0 (Fld.mk (⟨#[]⟩ : ByteArray) (Val.mk 0 0 (⟨#[]⟩ : ByteArray) [] [])))) == 0)) true (by rw [h1]; rfl))] [aN (rec x0 (mem_get hx0) (List.getD p1 i0 (Fld.mk (⟨#[]⟩ : ByteArray) (Val.mk 0 0 (⟨#[]⟩ : ByteArray) [] []))))] (by kernel_rfl)⟩
theorem lt_slices_CompareFunc_45_b0 (g : Fld → Fld → Int) (p0 : List Fld) (p1 : List Fld) (H : H_slices_CompareFunc_45_b0 g p0 p1) (rec : Rec_slices_CompareFunc_45_f46 g p0) : ∀ (r0 : List Fld) (i0 : Nat), List.drop i0 p0 = r0 → P_slices_CompareFunc_45_b0 g p0 p1 (E_slices_CompareFunc_45_b0 g p0 p1 i0) (l_slices_CompareFunc_45_b0 g p0 p1 r0 i0)
  | [], i0, hd => by
    have hc0 : (decide ((i0 : Int) < ((List.length p0) : Int))) = false := by have := drop_end hd; simp; omega
    rw [l_slices_CompareFunc_45_b0]
    exact x_slices_CompareFunc_45_b0_0 g p0 p1 H rec i0 hc0
  | x0 :: r0, i0, hd => by
    obtain ⟨hx0, hi0, hd'⟩ := drop_get hd
    have hc0 : (decide ((i0 : Int) < ((List.length p0) : Int))) = true := by simp; omega
    rw [l_slices_CompareFunc_45_b0]
    cases h0 : (decide (((List.length p1) : Int) ≤ (i0 : Int))) with
    | true =>
     exact x_slices_CompareFunc_45_b0_1 g p0 p1 H rec x0 i0 hx0 hi0 hc0 h0
    | false =>
     cases h1 : ((g x0 (List.getD p1 i0 (Fld.mk (⟨#[]⟩ : ByteArray) (Val.mk 0 0 (⟨#[]⟩ : ByteArray) [] [])))) == 0) with
     | true =>
      exact P_slices_CompareFunc_45_b0_mono g p0 p1 (fun r hr => n_slices_CompareFunc_45_b0_2 g p0 p1 H rec x0 i0 hx0 hi0 hc0 h0 h1 hr) _ (lt_slices_CompareFunc_45_b0 g p0 p1 H rec r0 (i0 + 1) hd')
     | false =>
      exact x_slices_CompareFunc_45_b0_3 g p0 p1 H rec x0 i0 hx0 hi0 hc0 h0 h1
/-- slices.CompareFunc[[]orchestrator/ api.Field,[]orchestrator/ api.Field,orchestrator/ api.Field,orchestrator/ api.Field] -/
def s_slices_CompareFunc_45_f46 (g : Fld → Fld → Int) (p0 : List Fld) (p1 : List Fld) : Int :=
  (match (l_slices_CompareFunc_45_b0 g p0 p1 p0 0) with
  | .k0 => bif (decide (((List.length p0) : Int) < ((List.length p1) : Int))) then
      (-1)
    else
      0
  | .k1 => 1
  | .k2 y0_0 => y0_0)
def c_slices_CompareFunc_45_f46 (p0 : List Fld) (p1 : List Fld) : En := .call 45 [.sl (Fld.rows p0), .sl (Fld.rows p1), .fn 46 [] []] []
def a_slices_CompareFunc_45_f46 (g : Fld → Fld → Int) (p0 : List Fld) (p1 : List Fld) : Rs := .ret (.int .i64 (s_slices_CompareFunc_45_f46 g p0 p1)) []
def H_slices_CompareFunc_45_f46 (g : Fld → Fld → Int) (p0 : List Fld) (p1 : List Fld) : Prop := (H_slices_CompareFunc_45_b0 g p0 p1) ∧ True
theorem t_slices_CompareFunc_45_f46 (g : Fld → Fld → Int) (p0 : List Fld) (p1 : List Fld) (H : H_slices_CompareFunc_45_f46 g p0 p1) (rec : Rec_slices_CompareFunc_45_f46 g p0) : Tells G (c_slices_CompareFunc_45_f46 p0 p1) (a_slices_CompareFunc_45_f46 g p0 p1) := by
  unfold a_slices_CompareFunc_45_f46 s_slices_CompareFunc_45_f46
  have hl0 := lt_slices_CompareFunc_45_b0 g p0 p1 (H.1) rec p0 0 (by simp)
  cases hr0 : (l_slices_CompareFunc_45_b0 g p0 p1 p0 0) with
  | k0 =>
    rw [hr0] at hl0
    obtain ⟨z0, zo0, hl0⟩ := hl0
    try dsimp only
    cases h0 : (decide (((List.length p0) : Int) < ((List.length p1) : Int))) with
    | true =>
     exact tells_VI (fn := Ir.slices_CompareFunc_45) rfl VOK.nil [hP 2 (len_ok (Fld.rows p0) (List.length p0) (Fld.rowsLen p0)), hP 2 (len_ok (Fld.rows p0) (List.length p0) (Fld.rowsLen p0)), hP 1 (len_ok (Fld.rows p1) (List.length p1) (Fld.rowsLen p1)), hB 0 h0] [aN hl0] (by kernel_rfl)
    | false =>
     exact tells_VI (fn := Ir.slices_CompareFunc_45) rfl VOK.nil [hP 2 (len_ok (Fld.rows p0) (List.length p0) (Fld.rowsLen p0)), hP 2 (len_ok (Fld.rows p0) (List.length p0) (Fld.rowsLen p0)), hP 1 (len_ok (Fld.rows p1) (List.length p1) (Fld.rowsLen p1)), hB 0 h0] [aN hl0] (by kernel_rfl)
  | k1 =>
    rw [hr0] at hl0
    obtain ⟨z0, zo0, hl0⟩ := hl0
    exact tells_VI (fn := Ir.slices_CompareFunc_45) rfl VOK.nil [hP 2 (len_ok (Fld.rows p0) (List.length p0) (Fld.rowsLen p0))] [aN hl0] (by kernel_rfl)
  | k2 y0_0 =>
    rw [hr0] at hl0
    obtain ⟨z0, zo0, hl0⟩ := hl0
    exact tells_VI (fn := Ir.slices_CompareFunc_45) rfl VOK.nil [hP 2 (len_ok (Fld.rows p0) (List.length p0) (Fld.rowsLen p0))] [aN hl0] (by kernel_rfl)

end Go.Proofs.Ytedohmdgbilicaa
