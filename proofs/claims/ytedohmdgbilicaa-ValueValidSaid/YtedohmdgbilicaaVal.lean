/- What the functions of the chapter on values compute (printed by a program). -/
import Derived.Test.YtedohmdgbilicaaIr
import Derived.Test.YtedohmdgbilicaaPvX13
import Derived.Test.YtedohmdgbilicaaPvY
import Derived.Test.YtedohmdgbilicaaPvS2
namespace Go.Proofs.Ytedohmdgbilicaa
open Go.Pv

abbrev G : Nat → Option Fun := tabG Ir.table
abbrev Γ : Nat → Option Ty := gam 25


theorem t_cmpstr (a b : ByteArray) : Tells G (.call 62 [.str a, .str b] []) (.ret (.int .i64 (sCmp a b)) []) := ⟨1, by kernel_rfl⟩

inductive R_ref04_count_b1 where
  | k0 (q0 : Int)
  | k1
mutual
/-- orchestrator/ orchestratorref04.count -/
def s_ref04_count (p0 : Val) (p1 : Int) (p2 : Int) : Int :=
  bif (decide (p1 ≤ 0)) then
    (-1)
  else
    bif (decide (p2 ≤ 0)) then
      (-1)
    else
      bif (decide (1000 < (ByteArray.size p0.s : Int))) then
        (-1)
      else
        (match (l_ref04_count_b1 p0 p2 p0.fields 0 (l_ref04_count_b0 p0 p2 p0.list 0 (w64 (p1 - 1)))) with
        | .k0 y4_0 => y4_0
        | .k1 => (-1))
termination_by SizeOf.sizeOf p0
decreasing_by all_goals first | exact Val.lt_list _ | exact Val.lt_fields _ | exact lt_head _ _ | exact lt_tail _ _ | exact lt_headv _ _
def l_ref04_count_b0 (p0 : Val) (p2 : Int) : List Val → Nat → Int → Int
  | [], _i0, v0_1 =>
    v0_1
  | x0 :: r0, i0, v0_1 =>
    bif (decide (0 ≤ v0_1)) then
      l_ref04_count_b0 p0 p2 r0 (i0 + 1) (s_ref04_count x0 v0_1 (w64 (p2 - 1)))
    else
      v0_1
termination_by l => SizeOf.sizeOf l
decreasing_by all_goals first | exact Val.lt_list _ | exact Val.lt_fields _ | exact lt_head _ _ | exact lt_tail _ _ | exact lt_headv _ _
def l_ref04_count_b1 (p0 : Val) (p2 : Int) : List Fld → Nat → Int → R_ref04_count_b1
  | [], _i1, v1_1 =>
    (.k0 v1_1)
  | x1 :: r1, i1, v1_1 =>
    bif (decide (0 ≤ v1_1)) then
      bif (decide (1000 < (ByteArray.size x1.name : Int))) then
        (.k1)
      else
        l_ref04_count_b1 p0 p2 r1 (i1 + 1) (s_ref04_count x1.v v1_1 (w64 (p2 - 1)))
    else
      (.k0 v1_1)
termination_by l => SizeOf.sizeOf l
decreasing_by all_goals first | exact Val.lt_list _ | exact Val.lt_fields _ | exact lt_head _ _ | exact lt_tail _ _ | exact lt_headv _ _
end
def HE_ref04_count_b0 (_p0 : Val) (p2 : Int) (i0 : Nat) (v0_1 : Int) : List PV :=
  [.un, .int .i64 v0_1, .int .i64 p2, .bx 0 0, .un, .un, .un, .int .i64 (i0 : Int), .un, .un, .un, .un, .un, .un, .un, .un, .un, .un, .un, .un, .un, .un, .un, .un, .un, .un, .un, .un, .un, .un, .un, .un, .un, .un, .un, .un, .un, .un, .un, .un, .un, .un, .un, .un, .un, .un, .un, .un, .un, .un, .un, .un, .un, .un, .un, .un, .un, .un, .un, .un, .un, .un, .un, .un, .un, .un, .un, .un, .un, .un, .un, .un, .un]
def HO_ref04_count_b0 (p0 : Val) (_p2 : Int) (_i0 : Nat) (_v0_1 : Int) : List Ob :=
  [⟨5, 0, true, [.int .i64 p0.kind, .int .i64 p0.n, .str p0.s, .sl (Val.rows p0.list), .sl (Fld.rows p0.fields)]⟩]
def E_ref04_count_b0 (p0 : Val) (p2 : Int) (i0 : Nat) (v0_1 : Int) : En := .loop 0 Ir.ref04_count_b0_live Ir.ref04_count_b0 (HE_ref04_count_b0 p0 p2 i0 v0_1) (HO_ref04_count_b0 p0 p2 i0 v0_1)
def S_ref04_count_b0_0 (p0 : Val) (p2 : Int) (q0 : Int) (z : Nat → PV) (_zo : Nat → List PV) : St :=
  ⟨[z 0, .int .i64 q0, .int .i64 p2, .bx 0 0, z 4, z 5, z 6, z 7, z 8, z 9, z 10, z 11, z 12, z 13, z 14, z 15, z 16, z 17, z 18, z 19, z 20, z 21, z 22, z 23, z 24, z 25, z 26, z 27, z 28, z 29, z 30, z 31, z 32, z 33, z 34, z 35, z 36, z 37, z 38, z 39, z 40, z 41, z 42, z 43, z 44, z 45, z 46, z 47, z 48, z 49, z 50, z 51, z 52, z 53, z 54, z 55, z 56, z 57, z 58, z 59, z 60, z 61, z 62, z 63, z 64, z 65, z 66, z 67, z 68, z 69, z 70, z 71, z 72], [(0, ⟨5, 0, true, [.int .i64 p0.kind, .int .i64 p0.n, .str p0.s, .sl (Val.rows p0.list), .sl (Fld.rows p0.fields)]⟩)], 577⟩
def P_ref04_count_b0 (p0 : Val) (p2 : Int) (e : En) (q : Int) : Prop := ∃ z zo, Tells G e (.st (.exit 0) (S_ref04_count_b0_0 p0 p2 q z zo))
theorem P_ref04_count_b0_mono (p0 : Val) (p2 : Int) {e e' : En} (h : ∀ r, Tells G e r → Tells G e' r) : ∀ q, P_ref04_count_b0 p0 p2 e q → P_ref04_count_b0 p0 p2 e' q
  | _, ⟨z, zo, hz⟩ => ⟨z, zo, h _ hz⟩
def HE_ref04_count_b1 (_p0 : Val) (p2 : Int) (i1 : Nat) (v1_1 : Int) : List PV :=
  [.un, .int .i64 v1_1, .int .i64 p2, .bx 0 0, .un, .un, .un, .un, .int .i64 (i1 : Int), .un, .un, .un, .un, .un, .un, .un, .un, .un, .un, .un, .un, .un, .un, .un, .un, .un, .un, .un, .un, .un, .un, .un, .un, .un, .un, .un, .un, .un, .un, .un, .un, .un, .un, .un, .un, .un, .un, .un, .un, .un, .un, .un, .un, .un, .un, .un, .un, .un, .un, .un, .un, .un, .un, .un, .un, .un, .un, .un, .un, .un, .un, .un, .un]
def HO_ref04_count_b1 (p0 : Val) (_p2 : Int) (_i1 : Nat) (_v1_1 : Int) : List Ob :=
  [⟨5, 0, true, [.int .i64 p0.kind, .int .i64 p0.n, .str p0.s, .sl (Val.rows p0.list), .sl (Fld.rows p0.fields)]⟩]
def E_ref04_count_b1 (p0 : Val) (p2 : Int) (i1 : Nat) (v1_1 : Int) : En := .loop 0 Ir.ref04_count_b1_live Ir.ref04_count_b1 (HE_ref04_count_b1 p0 p2 i1 v1_1) (HO_ref04_count_b1 p0 p2 i1 v1_1)
def S_ref04_count_b1_0 (p0 : Val) (_p2 : Int) (q0 : Int) (z : Nat → PV) (_zo : Nat → List PV) : St :=
  ⟨[z 0, .int .i64 q0, z 2, z 3, z 4, z 5, z 6, z 7, z 8, z 9, z 10, z 11, z 12, z 13, z 14, z 15, z 16, z 17, z 18, z 19, z 20, z 21, z 22, z 23, z 24, z 25, z 26, z 27, z 28, z 29, z 30, z 31, z 32, z 33, z 34, z 35, z 36, z 37, z 38, z 39, z 40, z 41, z 42, z 43, z 44, z 45, z 46, z 47, z 48, z 49, z 50, z 51, z 52, z 53, z 54, z 55, z 56, z 57, z 58, z 59, z 60, z 61, z 62, z 63, z 64, z 65, z 66, z 67, z 68, z 69, z 70, z 71, z 72], [(0, ⟨5, 0, true, [.int .i64 p0.kind, .int .i64 p0.n, .str p0.s, .sl (Val.rows p0.list), .sl (Fld.rows p0.fields)]⟩)], 577⟩
def S_ref04_count_b1_1 (_p0 : Val) (_p2 : Int) (z : Nat → PV) (zo : Nat → List PV) : St :=
  ⟨[z 0, z 1, z 2, z 3, z 4, z 5, .int .i64 (-1), z 7, z 8, z 9, z 10, z 11, z 12, z 13, z 14, z 15, z 16, z 17, z 18, z 19, z 20, z 21, z 22, z 23, z 24, z 25, z 26, z 27, z 28, z 29, z 30, z 31, z 32, z 33, z 34, z 35, z 36, z 37, z 38, z 39, z 40, z 41, z 42, z 43, z 44, z 45, z 46, z 47, z 48, z 49, z 50, z 51, z 52, z 53, z 54, z 55, z 56, z 57, z 58, z 59, z 60, z 61, z 62, z 63, z 64, z 65, z 66, z 67, z 68, z 69, z 70, z 71, z 72], [(0, ⟨5, 0, true, zo 0⟩)], 1153⟩
def P_ref04_count_b1 (p0 : Val) (p2 : Int) (e : En) : R_ref04_count_b1 → Prop
  | .k0 q0 => ∃ z zo, Tells G e (.st (.exit 2) (S_ref04_count_b1_0 p0 p2 q0 z zo))
  | .k1 => ∃ z zo, Tells G e (.st .ret (S_ref04_count_b1_1 p0 p2 z zo))
theorem P_ref04_count_b1_mono (p0 : Val) (p2 : Int) {e e' : En} (h : ∀ r, Tells G e r → Tells G e' r) : ∀ q, P_ref04_count_b1 p0 p2 e q → P_ref04_count_b1 p0 p2 e' q
  | .k0 _, ⟨z, zo, hz⟩ => ⟨z, zo, h _ hz⟩
  | .k1, ⟨z, zo, hz⟩ => ⟨z, zo, h _ hz⟩
def c_ref04_count (p0 : Val) (p1 : Int) (p2 : Int) : En := .call 56 [.agg (Val.cells p0), .int .i64 p1, .int .i64 p2] []
def a_ref04_count (p0 : Val) (p1 : Int) (p2 : Int) : Rs := .ret (.int .i64 (s_ref04_count p0 p1 p2)) []
abbrev H_ref04_count (p0 : Val) : Prop := Val.Sm 4611686018427387904 p0
def Rec_ref04_count (p0 : Val) : Prop := ∀ (q : Val), SizeOf.sizeOf q < SizeOf.sizeOf p0 → ∀ (p1 : Int), ∀ (p2 : Int), H_ref04_count q → Tells G (c_ref04_count q p1 p2) (a_ref04_count q p1 p2)
def H_ref04_count_b0 (p0 : Val) (_p2 : Int) : Prop := (List.length p0.list ≤ 4611686018427387904) ∧ (∀ x0 ∈ p0.list, H_ref04_count x0) ∧ True
def H_ref04_count_b1 (p0 : Val) (_p2 : Int) : Prop := (List.length p0.fields ≤ 4611686018427387904) ∧ (∀ x1 ∈ p0.fields, H_ref04_count x1.v) ∧ True
theorem give_ref04_count (p0 : Val) (_p1 : Int) (p2 : Int) (H : H_ref04_count p0) : (H_ref04_count_b0 p0 p2) ∧ (H_ref04_count_b1 p0 p2) ∧ True := by
  obtain ⟨h1, h2, h3, h4⟩ := H.all
  simp only [H_ref04_count_b0, H_ref04_count_b1]
  exact ⟨⟨h1, h3, trivial⟩, ⟨h2, h4, trivial⟩, trivial⟩
def Z_ref04_count_b0_0 (p0 : Val) (_p2 : Int) (i0 : Nat) (_v0_1 : Int) : List PV :=
  [.un, .un, .un, .un, .un, .un, .un, .int .i64 (i0 : Int), .un, .un, .un, .un, .un, .un, .un, .un, .un, .un, .un, .un, .un, .un, .un, .int .i64 (i0 : Int), .bx 0 3, .sl (Val.rows p0.list), .int .i64 ((List.length p0.list) : Int), .bool false, .bool false, .tup [], .tup [], .bool false]
def ZO_ref04_count_b0_0 (_p0 : Val) (_p2 : Int) (_i0 : Nat) (_v0_1 : Int) : List (Nat × List PV) :=
  []
theorem x_ref04_count_b0_0 (p0 : Val) (p2 : Int) (_H : H_ref04_count_b0 p0 p2) (_rec : Rec_ref04_count p0) (i0 : Nat) (v0_1 : Int) (hc0 : (decide ((i0 : Int) < ((List.length p0.list) : Int))) = false) : P_ref04_count_b0 p0 p2 (E_ref04_count_b0 p0 p2 i0 v0_1) v0_1 := by
  exact ⟨(envF (Z_ref04_count_b0_0 p0 p2 i0 v0_1)), (zoF (ZO_ref04_count_b0_0 p0 p2 i0 v0_1)), tells_outVI VOK.nil (x := ((.exit 0), S_ref04_count_b0_0 p0 p2 v0_1 (envF (Z_ref04_count_b0_0 p0 p2 i0 v0_1)) (zoF (ZO_ref04_count_b0_0 p0 p2 i0 v0_1)))) [hP 3 (len_ok (Val.rows p0.list) (List.length p0.list) (Val.rowsLen p0.list)), hB 0 hc0] [] (by kernel_rfl)⟩
theorem n_ref04_count_b0_1 (p0 : Val) (p2 : Int) (H : H_ref04_count_b0 p0 p2) (rec : Rec_ref04_count p0) (x0 : Val) (i0 : Nat) (v0_1 : Int) (hx0 : p0.list[i0]? = some x0) (hi0 : i0 < List.length p0.list) (hc0 : (decide ((i0 : Int) < ((List.length p0.list) : Int))) = true) (h0 : (decide (0 ≤ v0_1)) = true) {r : Rs} (hr : Tells G (E_ref04_count_b0 p0 p2 (i0 + 1) (s_ref04_count x0 v0_1 (w64 (p2 - 1)))) r) : Tells G (E_ref04_count_b0 p0 p2 i0 v0_1) r := by
  have hB0 := H.1; have e0 := of_decide_eq_true h0
  exact tells_nextVI VOK.nil (y := (HE_ref04_count_b0 p0 p2 (i0 + 1) (s_ref04_count x0 v0_1 (w64 (p2 - 1))), HO_ref04_count_b0 p0 p2 (i0 + 1) (s_ref04_count x0 v0_1 (w64 (p2 - 1))))) [hP 3 (len_ok (Val.rows p0.list) (List.length p0.list) (Val.rowsLen p0.list)), hB 0 hc0, hB 2 h0, hP 4 (ix_ok 5 (Val.rows p0.list) i0 _ (Val.rowsGet hx0) rfl), hP 7 (inc_ok i0 (by omega))] [aN (rec x0 (szL hx0) v0_1 (w64 (p2 - 1)) (H.2.1 x0 (mem_get hx0)))] (by kernel_rfl) hr
def Z_ref04_count_b0_2 (p0 : Val) (_p2 : Int) (i0 : Nat) (v0_1 : Int) (_x0 : Val) : List PV :=
  [.un, .un, .un, .un, .un, .un, .un, .int .i64 (i0 : Int), .un, .un, .un, .un, .un, .un, .un, .un, .un, .un, .un, .un, .un, .un, .un, .int .i64 (i0 : Int), .bx 0 3, .sl (Val.rows p0.list), .int .i64 ((List.length p0.list) : Int), .bool true, .bool true, .int .i64 v0_1, .bool false, .bool false]
def ZO_ref04_count_b0_2 (_p0 : Val) (_p2 : Int) (_i0 : Nat) (_v0_1 : Int) (_x0 : Val) : List (Nat × List PV) :=
  []
theorem x_ref04_count_b0_2 (p0 : Val) (p2 : Int) (_H : H_ref04_count_b0 p0 p2) (_rec : Rec_ref04_count p0) (x0 : Val) (i0 : Nat) (v0_1 : Int) (_hx0 : p0.list[i0]? = some x0) (_hi0 : i0 < List.length p0.list) (hc0 : (decide ((i0 : Int) < ((List.length p0.list) : Int))) = true) (h0 : (decide (0 ≤ v0_1)) = false) : P_ref04_count_b0 p0 p2 (E_ref04_count_b0 p0 p2 i0 v0_1) v0_1 := by
  exact ⟨(envF (Z_ref04_count_b0_2 p0 p2 i0 v0_1 x0)), (zoF (ZO_ref04_count_b0_2 p0 p2 i0 v0_1 x0)), tells_outVI VOK.nil (x := ((.exit 0), S_ref04_count_b0_0 p0 p2 v0_1 (envF (Z_ref04_count_b0_2 p0 p2 i0 v0_1 x0)) (zoF (ZO_ref04_count_b0_2 p0 p2 i0 v0_1 x0)))) [hP 3 (len_ok (Val.rows p0.list) (List.length p0.list) (Val.rowsLen p0.list)), hB 0 hc0, hB 2 h0] [] (by kernel_rfl)⟩
theorem lt_ref04_count_b0 (p0 : Val) (p2 : Int) (H : H_ref04_count_b0 p0 p2) (rec : Rec_ref04_count p0) : ∀ (r0 : List Val) (i0 : Nat) (v0_1 : Int), List.drop i0 p0.list = r0 → P_ref04_count_b0 p0 p2 (E_ref04_count_b0 p0 p2 i0 v0_1) (l_ref04_count_b0 p0 p2 r0 i0 v0_1)
  | [], i0, v0_1, hd => by
    have hc0 : (decide ((i0 : Int) < ((List.length p0.list) : Int))) = false := by have := drop_end hd; simp; omega
    rw [l_ref04_count_b0]
    exact x_ref04_count_b0_0 p0 p2 H rec i0 v0_1 hc0
  | x0 :: r0, i0, v0_1, hd => by
    obtain ⟨hx0, hi0, hd'⟩ := drop_get hd
    have hc0 : (decide ((i0 : Int) < ((List.length p0.list) : Int))) = true := by simp; omega
    rw [l_ref04_count_b0]
    cases h0 : (decide (0 ≤ v0_1)) with
    | true =>
     exact P_ref04_count_b0_mono p0 p2 (fun r hr => n_ref04_count_b0_1 p0 p2 H rec x0 i0 v0_1 hx0 hi0 hc0 h0 hr) _ (lt_ref04_count_b0 p0 p2 H rec r0 (i0 + 1) (s_ref04_count x0 v0_1 (w64 (p2 - 1))) hd')
    | false =>
     exact x_ref04_count_b0_2 p0 p2 H rec x0 i0 v0_1 hx0 hi0 hc0 h0
def Z_ref04_count_b1_0 (p0 : Val) (p2 : Int) (i1 : Nat) (_v1_1 : Int) : List PV :=
  [.un, .un, .int .i64 p2, .bx 0 0, .un, .un, .un, .un, .int .i64 (i1 : Int), .un, .un, .un, .un, .un, .un, .un, .un, .un, .un, .un, .un, .un, .un, .un, .un, .un, .un, .un, .un, .un, .un, .un, .un, .un, .un, .un, .un, .un, .un, .un, .un, .un, .un, .int .i64 (i1 : Int), .bx 0 4, .sl (Fld.rows p0.fields), .int .i64 ((List.length p0.fields) : Int), .bool false, .bool false, .tup [], .tup [], .bool false]
def ZO_ref04_count_b1_0 (_p0 : Val) (_p2 : Int) (_i1 : Nat) (_v1_1 : Int) : List (Nat × List PV) :=
  []
theorem x_ref04_count_b1_0 (p0 : Val) (p2 : Int) (_H : H_ref04_count_b1 p0 p2) (_rec : Rec_ref04_count p0) (i1 : Nat) (v1_1 : Int) (hc1 : (decide ((i1 : Int) < ((List.length p0.fields) : Int))) = false) : P_ref04_count_b1 p0 p2 (E_ref04_count_b1 p0 p2 i1 v1_1) (.k0 v1_1) := by
  exact ⟨(envF (Z_ref04_count_b1_0 p0 p2 i1 v1_1)), (zoF (ZO_ref04_count_b1_0 p0 p2 i1 v1_1)), tells_outVI VOK.nil (x := ((.exit 2), S_ref04_count_b1_0 p0 p2 v1_1 (envF (Z_ref04_count_b1_0 p0 p2 i1 v1_1)) (zoF (ZO_ref04_count_b1_0 p0 p2 i1 v1_1)))) [hP 3 (len_ok (Fld.rows p0.fields) (List.length p0.fields) (Fld.rowsLen p0.fields)), hB 0 hc1] [] (by kernel_rfl)⟩
def Z_ref04_count_b1_1 (p0 : Val) (p2 : Int) (i1 : Nat) (v1_1 : Int) (x1 : Fld) : List PV :=
  [.un, .int .i64 v1_1, .int .i64 p2, .bx 0 0, .un, .un, .un, .un, .int .i64 (i1 : Int), .un, .un, .un, .un, .un, .un, .un, .un, .un, .un, .un, .un, .un, .un, .un, .un, .un, .un, .un, .un, .un, .un, .un, .un, .un, .un, .un, .un, .un, .un, .un, .un, .un, .un, .int .i64 (i1 : Int), .bx 0 4, .sl (Fld.rows p0.fields), .int .i64 ((List.length p0.fields) : Int), .bool true, .bool true, .int .i64 v1_1, .bool true, .bool true, .un, .un, .bx 0 4, .sl (Fld.rows p0.fields), .int .i64 (i1 : Int), .rf [.str x1.name, .int .i64 x1.v.kind, .int .i64 x1.v.n, .str x1.v.s, .sl (Val.rows x1.v.list), .sl (Fld.rows x1.v.fields)], .rf [.str x1.name, .int .i64 x1.v.kind, .int .i64 x1.v.n, .str x1.v.s, .sl (Val.rows x1.v.list), .sl (Fld.rows x1.v.fields)], .str x1.name, .int .i64 (ByteArray.size x1.name : Int), .bool true]
def ZO_ref04_count_b1_1 (p0 : Val) (_p2 : Int) (_i1 : Nat) (_v1_1 : Int) (_x1 : Fld) : List (Nat × List PV) :=
  [(0, [.int .i64 p0.kind, .int .i64 p0.n, .str p0.s, .sl (Val.rows p0.list), .sl (Fld.rows p0.fields)])]
theorem x_ref04_count_b1_1 (p0 : Val) (p2 : Int) (_H : H_ref04_count_b1 p0 p2) (_rec : Rec_ref04_count p0) (x1 : Fld) (i1 : Nat) (v1_1 : Int) (hx1 : p0.fields[i1]? = some x1) (_hi1 : i1 < List.length p0.fields) (hc1 : (decide ((i1 : Int) < ((List.length p0.fields) : Int))) = true) (h0 : (decide (0 ≤ v1_1)) = true) (h1 : (decide (1000 < (ByteArray.size x1.name : Int))) = true) : P_ref04_count_b1 p0 p2 (E_ref04_count_b1 p0 p2 i1 v1_1) (.k1) := by
  exact ⟨(envF (Z_ref04_count_b1_1 p0 p2 i1 v1_1 x1)), (zoF (ZO_ref04_count_b1_1 p0 p2 i1 v1_1 x1)), tells_outVI VOK.nil (x := (.ret, S_ref04_count_b1_1 p0 p2 (envF (Z_ref04_count_b1_1 p0 p2 i1 v1_1 x1)) (zoF (ZO_ref04_count_b1_1 p0 p2 i1 v1_1 x1)))) [hP 3 (len_ok (Fld.rows p0.fields) (List.length p0.fields) (Fld.rowsLen p0.fields)), hB 0 hc1, hB 2 h0, hP 4 (ix_ok 6 (Fld.rows p0.fields) i1 _ (Fld.rowsGet hx1) rfl), hB 3 h1] [] (by kernel_rfl)⟩
theorem n_ref04_count_b1_2 (p0 : Val) (p2 : Int) (H : H_ref04_count_b1 p0 p2) (rec : Rec_ref04_count p0) (x1 : Fld) (i1 : Nat) (v1_1 : Int) (hx1 : p0.fields[i1]? = some x1) (hi1 : i1 < List.length p0.fields) (hc1 : (decide ((i1 : Int) < ((List.length p0.fields) : Int))) = true) (h0 : (decide (0 ≤ v1_1)) = true) (h1 : (decide (1000 < (ByteArray.size x1.name : Int))) = false) {r : Rs} (hr : Tells G (E_ref04_count_b1 p0 p2 (i1 + 1) (s_ref04_count x1.v v1_1 (w64 (p2 - 1)))) r) : Tells G (E_ref04_count_b1 p0 p2 i1 v1_1) r := by
  have hB0 := H.1; have e0 := of_decide_eq_true h0; have e1 := of_decide_eq_false h1
  exact tells_nextVI VOK.nil (y := (HE_ref04_count_b1 p0 p2 (i1 + 1) (s_ref04_count x1.v v1_1 (w64 (p2 - 1))), HO_ref04_count_b1 p0 p2 (i1 + 1) (s_ref04_count x1.v v1_1 (w64 (p2 - 1))))) [hP 3 (len_ok (Fld.rows p0.fields) (List.length p0.fields) (Fld.rowsLen p0.fields)), hB 0 hc1, hB 2 h0, hP 4 (ix_ok 6 (Fld.rows p0.fields) i1 _ (Fld.rowsGet hx1) rfl), hB 3 h1, hP 3 (ix_ok 6 (Fld.rows p0.fields) i1 _ (Fld.rowsGet hx1) rfl), hP 8 (inc_ok i1 (by omega))] [aN (rec x1.v (szF hx1) v1_1 (w64 (p2 - 1)) (H.2.1 x1 (mem_get hx1)))] (by kernel_rfl) hr
def Z_ref04_count_b1_3 (p0 : Val) (p2 : Int) (i1 : Nat) (v1_1 : Int) (_x1 : Fld) : List PV :=
  [.un, .un, .int .i64 p2, .bx 0 0, .un, .un, .un, .un, .int .i64 (i1 : Int), .un, .un, .un, .un, .un, .un, .un, .un, .un, .un, .un, .un, .un, .un, .un, .un, .un, .un, .un, .un, .un, .un, .un, .un, .un, .un, .un, .un, .un, .un, .un, .un, .un, .un, .int .i64 (i1 : Int), .bx 0 4, .sl (Fld.rows p0.fields), .int .i64 ((List.length p0.fields) : Int), .bool true, .bool true, .int .i64 v1_1, .bool false, .bool false]
def ZO_ref04_count_b1_3 (_p0 : Val) (_p2 : Int) (_i1 : Nat) (_v1_1 : Int) (_x1 : Fld) : List (Nat × List PV) :=
  []
theorem x_ref04_count_b1_3 (p0 : Val) (p2 : Int) (_H : H_ref04_count_b1 p0 p2) (_rec : Rec_ref04_count p0) (x1 : Fld) (i1 : Nat) (v1_1 : Int) (_hx1 : p0.fields[i1]? = some x1) (_hi1 : i1 < List.length p0.fields) (hc1 : (decide ((i1 : Int) < ((List.length p0.fields) : Int))) = true) (h0 : (decide (0 ≤ v1_1)) = false) : P_ref04_count_b1 p0 p2 (E_ref04_count_b1 p0 p2 i1 v1_1) (.k0 v1_1) := by
  exact ⟨(envF (Z_ref04_count_b1_3 p0 p2 i1 v1_1 x1)), (zoF (ZO_ref04_count_b1_3 p0 p2 i1 v1_1 x1)), tells_outVI VOK.nil (x := ((.exit 2), S_ref04_count_b1_0 p0 p2 v1_1 (envF (Z_ref04_count_b1_3 p0 p2 i1 v1_1 x1)) (zoF (ZO_ref04_count_b1_3 p0 p2 i1 v1_1 x1)))) [hP 3 (len_ok (Fld.rows p0.fields) (List.length p0.fields) (Fld.rowsLen p0.fields)), hB 0 hc1, hB 2 h0] [] (by kernel_rfl)⟩
theorem lt_ref04_count_b1 (p0 : Val) (p2 : Int) (H : H_ref04_count_b1 p0 p2) (rec : Rec_ref04_count p0) : ∀ (r1 : List Fld) (i1 : Nat) (v1_1 : Int), List.drop i1 p0.fields = r1 → P_ref04_count_b1 p0 p2 (E_ref04_count_b1 p0 p2 i1 v1_1) (l_ref04_count_b1 p0 p2 r1 i1 v1_1)
  | [], i1, v1_1, hd => by
    have hc1 : (decide ((i1 : Int) < ((List.length p0.fields) : Int))) = false := by have := drop_end hd; simp; omega
    rw [l_ref04_count_b1]
    exact x_ref04_count_b1_0 p0 p2 H rec i1 v1_1 hc1
  | x1 :: r1, i1, v1_1, hd => by
    obtain ⟨hx1, hi1, hd'⟩ := drop_get hd
    have hc1 : (decide ((i1 : Int) < ((List.length p0.fields) : Int))) = true := by simp; omega
    rw [l_ref04_count_b1]
    cases h0 : (decide (0 ≤ v1_1)) with
    | true =>
     cases h1 : (decide (1000 < (ByteArray.size x1.name : Int))) with
     | true =>
      exact x_ref04_count_b1_1 p0 p2 H rec x1 i1 v1_1 hx1 hi1 hc1 h0 h1
     | false =>
      exact P_ref04_count_b1_mono p0 p2 (fun r hr => n_ref04_count_b1_2 p0 p2 H rec x1 i1 v1_1 hx1 hi1 hc1 h0 h1 hr) _ (lt_ref04_count_b1 p0 p2 H rec r1 (i1 + 1) (s_ref04_count x1.v v1_1 (w64 (p2 - 1))) hd')
    | false =>
     exact x_ref04_count_b1_3 p0 p2 H rec x1 i1 v1_1 hx1 hi1 hc1 h0
theorem r_ref04_count (p0 : Val) (p1 : Int) (p2 : Int) (H : H_ref04_count p0) (rec : Rec_ref04_count p0) : Tells G (c_ref04_count p0 p1 p2) (a_ref04_count p0 p1 p2) := by
  unfold a_ref04_count
  rw [s_ref04_count]
  cases h0 : (decide (p1 ≤ 0)) with
  | true =>
   exact tells_VI (fn := Ir.ref04_count) rfl VOK.nil [hB 3 h0] [] (by kernel_rfl)
  | false =>
   cases h1 : (decide (p2 ≤ 0)) with
   | true =>
    exact tells_VI (fn := Ir.ref04_count) rfl VOK.nil [hB 3 h0, hB 2 h1] [] (by kernel_rfl)
   | false =>
    cases h2 : (decide (1000 < (ByteArray.size p0.s : Int))) with
    | true =>
     exact tells_VI (fn := Ir.ref04_count) rfl VOK.nil [hB 3 h0, hB 2 h1, hB 5 h2] [] (by kernel_rfl)
    | false =>
     have hl3 := lt_ref04_count_b0 p0 p2 ((give_ref04_count p0 p1 p2 H).1) rec p0.list 0 (w64 (p1 - 1)) (by simp)
     obtain ⟨z3, zo3, hl3⟩ := hl3
     have hl4 := lt_ref04_count_b1 p0 p2 ((give_ref04_count p0 p1 p2 H).2.1) rec p0.fields 0 (l_ref04_count_b0 p0 p2 p0.list 0 (w64 (p1 - 1))) (by simp)
     cases hr4 : (l_ref04_count_b1 p0 p2 p0.fields 0 (l_ref04_count_b0 p0 p2 p0.list 0 (w64 (p1 - 1)))) with
     | k0 y4_0 =>
       rw [hr4] at hl4
       obtain ⟨z4, zo4, hl4⟩ := hl4
       exact tells_VI (fn := Ir.ref04_count) rfl VOK.nil [hB 3 h0, hB 2 h1, hB 5 h2] [aN hl3, aN hl4] (by kernel_rfl)
     | k1 =>
       rw [hr4] at hl4
       obtain ⟨z4, zo4, hl4⟩ := hl4
       exact tells_VI (fn := Ir.ref04_count) rfl VOK.nil [hB 3 h0, hB 2 h1, hB 5 h2] [aN hl3, aN hl4] (by kernel_rfl)
theorem i_ref04_count : ∀ (k : Nat) (p0 : Val), SizeOf.sizeOf p0 < k → ∀ (p1 : Int), ∀ (p2 : Int), H_ref04_count p0 → Tells G (c_ref04_count p0 p1 p2) (a_ref04_count p0 p1 p2)
  | 0, _, h, _, _, _ => absurd h (Nat.not_lt_zero _)
  | k + 1, p0, h, p1, p2, H => r_ref04_count p0 p1 p2 H (fun q hq p1 p2 hH => i_ref04_count k q (by omega) p1 p2 hH)
theorem t_ref04_count (p0 : Val) (p1 : Int) (p2 : Int) (H : H_ref04_count p0) : Tells G (c_ref04_count p0 p1 p2) (a_ref04_count p0 p1 p2) := i_ref04_count _ p0 (Nat.lt_succ_self _) p1 p2 H

/-- orchestrator/ orchestratorref04.Small -/
def s_ref04_Small (p0 : Val) (p1 : Int) : Bool :=
  (decide (0 ≤ (s_ref04_count p0 p1 p1)))
def c_ref04_Small (p0 : Val) (p1 : Int) : En := .call 37 [.agg (Val.cells p0), .int .i64 p1] []
def a_ref04_Small (p0 : Val) (p1 : Int) : Rs := .ret (.bool (s_ref04_Small p0 p1)) []
def H_ref04_Small (p0 : Val) (_p1 : Int) : Prop := (H_ref04_count p0) ∧ True
theorem t_ref04_Small (p0 : Val) (p1 : Int) (H : H_ref04_Small p0 p1) : Tells G (c_ref04_Small p0 p1) (a_ref04_Small p0 p1) := by
  unfold a_ref04_Small s_ref04_Small
  exact tells_VI (fn := Ir.ref04_Small) rfl VOK.nil [] [aN (t_ref04_count p0 p1 p1 H.1)] (by kernel_rfl)

/-- orchestrator/ orchestratorlaw04.small -/
def s_law04_small (p0 : Val) : Bool :=
  (s_ref04_Small p0 400)
def c_law04_small (p0 : Val) : En := .call 9 [.agg (Val.cells p0)] []
def a_law04_small (p0 : Val) : Rs := .ret (.bool (s_law04_small p0)) []
def H_law04_small (p0 : Val) : Prop := (H_ref04_Small p0 400) ∧ True
theorem t_law04_small (p0 : Val) (H : H_law04_small p0) : Tells G (c_law04_small p0) (a_law04_small p0) := by
  unfold a_law04_small s_law04_small
  exact tells_VI (fn := Ir.law04_small) rfl VOK.nil [] [aN (t_ref04_Small p0 400 H.1)] (by kernel_rfl)

mutual
/-- orchestrator/ value.Size -/
def s_value_Size (p0 : Val) : Int :=
  (l_value_Size_b1 p0 p0.fields 0 (l_value_Size_b0 p0 p0.list 0 1))
termination_by SizeOf.sizeOf p0
decreasing_by all_goals first | exact Val.lt_list _ | exact Val.lt_fields _ | exact lt_head _ _ | exact lt_tail _ _ | exact lt_headv _ _
def l_value_Size_b0 (p0 : Val) : List Val → Nat → Int → Int
  | [], _i0, v0_1 =>
    v0_1
  | x0 :: r0, i0, v0_1 =>
    l_value_Size_b0 p0 r0 (i0 + 1) (w64 (v0_1 + (s_value_Size x0)))
termination_by l => SizeOf.sizeOf l
decreasing_by all_goals first | exact Val.lt_list _ | exact Val.lt_fields _ | exact lt_head _ _ | exact lt_tail _ _ | exact lt_headv _ _
def l_value_Size_b1 (p0 : Val) : List Fld → Nat → Int → Int
  | [], _i1, v1_1 =>
    v1_1
  | x1 :: r1, i1, v1_1 =>
    l_value_Size_b1 p0 r1 (i1 + 1) (w64 (v1_1 + (s_value_Size x1.v)))
termination_by l => SizeOf.sizeOf l
decreasing_by all_goals first | exact Val.lt_list _ | exact Val.lt_fields _ | exact lt_head _ _ | exact lt_tail _ _ | exact lt_headv _ _
end
def HE_value_Size_b0 (p0 : Val) (i0 : Nat) (v0_1 : Int) : List PV :=
  [.un, .bx 0 0, .un, .int .i64 v0_1, .un, .un, .un, .un, .un, .sl (Val.rows p0.list), .int .i64 ((List.length p0.list) : Int), .int .i64 (i0 : Int), .un, .un, .un, .un, .un, .un, .un, .un, .un, .un, .un, .un, .un, .un, .un, .un, .un, .un, .un, .un, .un, .un]
def HO_value_Size_b0 (p0 : Val) (_i0 : Nat) (_v0_1 : Int) : List Ob :=
  [⟨5, 0, true, [.int .i64 p0.kind, .int .i64 p0.n, .str p0.s, .sl (Val.rows p0.list), .sl (Fld.rows p0.fields)]⟩]
def E_value_Size_b0 (p0 : Val) (i0 : Nat) (v0_1 : Int) : En := .loop 0 Ir.value_Size_b0_live Ir.value_Size_b0 (HE_value_Size_b0 p0 i0 v0_1) (HO_value_Size_b0 p0 i0 v0_1)
def S_value_Size_b0_0 (p0 : Val) (q0 : Int) (z : Nat → PV) (_zo : Nat → List PV) : St :=
  ⟨[z 0, .bx 0 0, z 2, .int .i64 q0, z 4, z 5, z 6, z 7, z 8, z 9, z 10, z 11, z 12, z 13, z 14, z 15, z 16, z 17, z 18, z 19, z 20, z 21, z 22, z 23, z 24, z 25, z 26, z 27, z 28, z 29, z 30, z 31, z 32, z 33], [(0, ⟨5, 0, true, [.int .i64 p0.kind, .int .i64 p0.n, .str p0.s, .sl (Val.rows p0.list), .sl (Fld.rows p0.fields)]⟩)], 65⟩
def P_value_Size_b0 (p0 : Val) (e : En) (q : Int) : Prop := ∃ z zo, Tells G e (.st (.exit 0) (S_value_Size_b0_0 p0 q z zo))
theorem P_value_Size_b0_mono (p0 : Val) {e e' : En} (h : ∀ r, Tells G e r → Tells G e' r) : ∀ q, P_value_Size_b0 p0 e q → P_value_Size_b0 p0 e' q
  | _, ⟨z, zo, hz⟩ => ⟨z, zo, h _ hz⟩
def HE_value_Size_b1 (p0 : Val) (i1 : Nat) (v1_1 : Int) : List PV :=
  [.un, .un, .un, .int .i64 v1_1, .un, .un, .un, .un, .un, .un, .un, .un, .un, .un, .un, .un, .un, .un, .un, .un, .un, .sl (Fld.rows p0.fields), .int .i64 ((List.length p0.fields) : Int), .int .i64 (i1 : Int), .un, .un, .un, .un, .un, .un, .un, .un, .un, .un]
def HO_value_Size_b1 (_p0 : Val) (_i1 : Nat) (_v1_1 : Int) : List Ob :=
  []
def E_value_Size_b1 (p0 : Val) (i1 : Nat) (v1_1 : Int) : En := .loop 0 Ir.value_Size_b1_live Ir.value_Size_b1 (HE_value_Size_b1 p0 i1 v1_1) (HO_value_Size_b1 p0 i1 v1_1)
def S_value_Size_b1_0 (_p0 : Val) (q0 : Int) (z : Nat → PV) (_zo : Nat → List PV) : St :=
  ⟨[z 0, z 1, z 2, .int .i64 q0, z 4, z 5, z 6, z 7, z 8, z 9, z 10, z 11, z 12, z 13, z 14, z 15, z 16, z 17, z 18, z 19, z 20, z 21, z 22, z 23, z 24, z 25, z 26, z 27, z 28, z 29, z 30, z 31, z 32, z 33], [], 64⟩
def P_value_Size_b1 (p0 : Val) (e : En) (q : Int) : Prop := ∃ z zo, Tells G e (.st (.exit 2) (S_value_Size_b1_0 p0 q z zo))
theorem P_value_Size_b1_mono (p0 : Val) {e e' : En} (h : ∀ r, Tells G e r → Tells G e' r) : ∀ q, P_value_Size_b1 p0 e q → P_value_Size_b1 p0 e' q
  | _, ⟨z, zo, hz⟩ => ⟨z, zo, h _ hz⟩
def c_value_Size (p0 : Val) : En := .call 13 [.agg (Val.cells p0)] []
def a_value_Size (p0 : Val) : Rs := .ret (.int .i64 (s_value_Size p0)) []
abbrev H_value_Size (p0 : Val) : Prop := Val.Sm 4611686018427387904 p0
def Rec_value_Size (p0 : Val) : Prop := ∀ (q : Val), SizeOf.sizeOf q < SizeOf.sizeOf p0 → H_value_Size q → Tells G (c_value_Size q) (a_value_Size q)
def H_value_Size_b0 (p0 : Val) : Prop := (List.length p0.list ≤ 4611686018427387904) ∧ (∀ x0 ∈ p0.list, H_value_Size x0) ∧ True
def H_value_Size_b1 (p0 : Val) : Prop := (List.length p0.fields ≤ 4611686018427387904) ∧ (∀ x1 ∈ p0.fields, H_value_Size x1.v) ∧ True
theorem give_value_Size (p0 : Val) (H : H_value_Size p0) : (H_value_Size_b0 p0) ∧ (H_value_Size_b1 p0) ∧ True := by
  obtain ⟨h1, h2, h3, h4⟩ := H.all
  simp only [H_value_Size_b0, H_value_Size_b1]
  exact ⟨⟨h1, h3, trivial⟩, ⟨h2, h4, trivial⟩, trivial⟩
def Z_value_Size_b0_0 (p0 : Val) (i0 : Nat) (_v0_1 : Int) : List PV :=
  [.un, .un, .un, .un, .un, .un, .un, .un, .un, .sl (Val.rows p0.list), .int .i64 ((List.length p0.list) : Int), .int .i64 (i0 : Int), .bool false]
def ZO_value_Size_b0_0 (_p0 : Val) (_i0 : Nat) (_v0_1 : Int) : List (Nat × List PV) :=
  []
theorem x_value_Size_b0_0 (p0 : Val) (_H : H_value_Size_b0 p0) (_rec : Rec_value_Size p0) (i0 : Nat) (v0_1 : Int) (hc0 : (decide ((i0 : Int) < ((List.length p0.list) : Int))) = false) : P_value_Size_b0 p0 (E_value_Size_b0 p0 i0 v0_1) v0_1 := by
  exact ⟨(envF (Z_value_Size_b0_0 p0 i0 v0_1)), (zoF (ZO_value_Size_b0_0 p0 i0 v0_1)), tells_outVI VOK.nil (x := ((.exit 0), S_value_Size_b0_0 p0 v0_1 (envF (Z_value_Size_b0_0 p0 i0 v0_1)) (zoF (ZO_value_Size_b0_0 p0 i0 v0_1)))) [hB 0 hc0] [] (by kernel_rfl)⟩
theorem n_value_Size_b0_1 (p0 : Val) (H : H_value_Size_b0 p0) (rec : Rec_value_Size p0) (x0 : Val) (i0 : Nat) (v0_1 : Int) (hx0 : p0.list[i0]? = some x0) (hi0 : i0 < List.length p0.list) (hc0 : (decide ((i0 : Int) < ((List.length p0.list) : Int))) = true) {r : Rs} (hr : Tells G (E_value_Size_b0 p0 (i0 + 1) (w64 (v0_1 + (s_value_Size x0)))) r) : Tells G (E_value_Size_b0 p0 i0 v0_1) r := by
  have hB0 := H.1
  exact tells_nextVI VOK.nil (y := (HE_value_Size_b0 p0 (i0 + 1) (w64 (v0_1 + (s_value_Size x0))), HO_value_Size_b0 p0 (i0 + 1) (w64 (v0_1 + (s_value_Size x0))))) [hB 0 hc0, hP 0 (ix_ok 5 (Val.rows p0.list) i0 _ (Val.rowsGet hx0) rfl), hP 8 (inc_ok i0 (by omega))] [aN (rec x0 (szL hx0) (H.2.1 x0 (mem_get hx0)))] (by kernel_rfl) hr
theorem lt_value_Size_b0 (p0 : Val) (H : H_value_Size_b0 p0) (rec : Rec_value_Size p0) : ∀ (r0 : List Val) (i0 : Nat) (v0_1 : Int), List.drop i0 p0.list = r0 → P_value_Size_b0 p0 (E_value_Size_b0 p0 i0 v0_1) (l_value_Size_b0 p0 r0 i0 v0_1)
  | [], i0, v0_1, hd => by
    have hc0 : (decide ((i0 : Int) < ((List.length p0.list) : Int))) = false := by have := drop_end hd; simp; omega
    rw [l_value_Size_b0]
    exact x_value_Size_b0_0 p0 H rec i0 v0_1 hc0
  | x0 :: r0, i0, v0_1, hd => by
    obtain ⟨hx0, hi0, hd'⟩ := drop_get hd
    have hc0 : (decide ((i0 : Int) < ((List.length p0.list) : Int))) = true := by simp; omega
    rw [l_value_Size_b0]
    exact P_value_Size_b0_mono p0 (fun r hr => n_value_Size_b0_1 p0 H rec x0 i0 v0_1 hx0 hi0 hc0 hr) _ (lt_value_Size_b0 p0 H rec r0 (i0 + 1) (w64 (v0_1 + (s_value_Size x0))) hd')
def Z_value_Size_b1_0 (p0 : Val) (i1 : Nat) (_v1_1 : Int) : List PV :=
  [.un, .un, .un, .un, .un, .un, .un, .un, .un, .un, .un, .un, .un, .un, .un, .un, .un, .un, .un, .un, .un, .sl (Fld.rows p0.fields), .int .i64 ((List.length p0.fields) : Int), .int .i64 (i1 : Int), .bool false]
def ZO_value_Size_b1_0 (_p0 : Val) (_i1 : Nat) (_v1_1 : Int) : List (Nat × List PV) :=
  []
theorem x_value_Size_b1_0 (p0 : Val) (_H : H_value_Size_b1 p0) (_rec : Rec_value_Size p0) (i1 : Nat) (v1_1 : Int) (hc1 : (decide ((i1 : Int) < ((List.length p0.fields) : Int))) = false) : P_value_Size_b1 p0 (E_value_Size_b1 p0 i1 v1_1) v1_1 := by
  exact ⟨(envF (Z_value_Size_b1_0 p0 i1 v1_1)), (zoF (ZO_value_Size_b1_0 p0 i1 v1_1)), tells_outVI VOK.nil (x := ((.exit 2), S_value_Size_b1_0 p0 v1_1 (envF (Z_value_Size_b1_0 p0 i1 v1_1)) (zoF (ZO_value_Size_b1_0 p0 i1 v1_1)))) [hB 0 hc1] [] (by kernel_rfl)⟩
theorem n_value_Size_b1_1 (p0 : Val) (H : H_value_Size_b1 p0) (rec : Rec_value_Size p0) (x1 : Fld) (i1 : Nat) (v1_1 : Int) (hx1 : p0.fields[i1]? = some x1) (hi1 : i1 < List.length p0.fields) (hc1 : (decide ((i1 : Int) < ((List.length p0.fields) : Int))) = true) {r : Rs} (hr : Tells G (E_value_Size_b1 p0 (i1 + 1) (w64 (v1_1 + (s_value_Size x1.v)))) r) : Tells G (E_value_Size_b1 p0 i1 v1_1) r := by
  have hB0 := H.1
  exact tells_nextVI VOK.nil (y := (HE_value_Size_b1 p0 (i1 + 1) (w64 (v1_1 + (s_value_Size x1.v))), HO_value_Size_b1 p0 (i1 + 1) (w64 (v1_1 + (s_value_Size x1.v))))) [hB 0 hc1, hP 0 (ix_ok 6 (Fld.rows p0.fields) i1 _ (Fld.rowsGet hx1) rfl), hP 9 (inc_ok i1 (by omega))] [aN (rec x1.v (szF hx1) (H.2.1 x1 (mem_get hx1)))] (by kernel_rfl) hr
theorem lt_value_Size_b1 (p0 : Val) (H : H_value_Size_b1 p0) (rec : Rec_value_Size p0) : ∀ (r1 : List Fld) (i1 : Nat) (v1_1 : Int), List.drop i1 p0.fields = r1 → P_value_Size_b1 p0 (E_value_Size_b1 p0 i1 v1_1) (l_value_Size_b1 p0 r1 i1 v1_1)
  | [], i1, v1_1, hd => by
    have hc1 : (decide ((i1 : Int) < ((List.length p0.fields) : Int))) = false := by have := drop_end hd; simp; omega
    rw [l_value_Size_b1]
    exact x_value_Size_b1_0 p0 H rec i1 v1_1 hc1
  | x1 :: r1, i1, v1_1, hd => by
    obtain ⟨hx1, hi1, hd'⟩ := drop_get hd
    have hc1 : (decide ((i1 : Int) < ((List.length p0.fields) : Int))) = true := by simp; omega
    rw [l_value_Size_b1]
    exact P_value_Size_b1_mono p0 (fun r hr => n_value_Size_b1_1 p0 H rec x1 i1 v1_1 hx1 hi1 hc1 hr) _ (lt_value_Size_b1 p0 H rec r1 (i1 + 1) (w64 (v1_1 + (s_value_Size x1.v))) hd')
theorem r_value_Size (p0 : Val) (H : H_value_Size p0) (rec : Rec_value_Size p0) : Tells G (c_value_Size p0) (a_value_Size p0) := by
  unfold a_value_Size
  rw [s_value_Size]
  have hl0 := lt_value_Size_b0 p0 ((give_value_Size p0 H).1) rec p0.list 0 1 (by simp)
  obtain ⟨z0, zo0, hl0⟩ := hl0
  have hl1 := lt_value_Size_b1 p0 ((give_value_Size p0 H).2.1) rec p0.fields 0 (l_value_Size_b0 p0 p0.list 0 1) (by simp)
  obtain ⟨z1, zo1, hl1⟩ := hl1
  exact tells_VI (fn := Ir.value_Size) rfl VOK.nil [hP 5 (len_ok (Val.rows p0.list) (List.length p0.list) (Val.rowsLen p0.list)), hP 3 (len_ok (Fld.rows p0.fields) (List.length p0.fields) (Fld.rowsLen p0.fields))] [aN hl0, aN hl1] (by kernel_rfl)
theorem i_value_Size : ∀ (k : Nat) (p0 : Val), SizeOf.sizeOf p0 < k → H_value_Size p0 → Tells G (c_value_Size p0) (a_value_Size p0)
  | 0, _, h, _ => absurd h (Nat.not_lt_zero _)
  | k + 1, p0, h, H => r_value_Size p0 H (fun q hq hH => i_value_Size k q (by omega) hH)
theorem t_value_Size (p0 : Val) (H : H_value_Size p0) : Tells G (c_value_Size p0) (a_value_Size p0) := i_value_Size _ p0 (Nat.lt_succ_self _) H

mutual
/-- orchestrator/ orchestratorref04.Size -/
def s_ref04_Size (p0 : Val) : Int :=
  (l_ref04_Size_b1 p0 p0.fields 0 (l_ref04_Size_b0 p0 p0.list 0 1))
termination_by SizeOf.sizeOf p0
decreasing_by all_goals first | exact Val.lt_list _ | exact Val.lt_fields _ | exact lt_head _ _ | exact lt_tail _ _ | exact lt_headv _ _
def l_ref04_Size_b0 (p0 : Val) : List Val → Nat → Int → Int
  | [], _i0, v0_1 =>
    v0_1
  | x0 :: r0, i0, v0_1 =>
    l_ref04_Size_b0 p0 r0 (i0 + 1) (w64 (v0_1 + (s_ref04_Size x0)))
termination_by l => SizeOf.sizeOf l
decreasing_by all_goals first | exact Val.lt_list _ | exact Val.lt_fields _ | exact lt_head _ _ | exact lt_tail _ _ | exact lt_headv _ _
def l_ref04_Size_b1 (p0 : Val) : List Fld → Nat → Int → Int
  | [], _i1, v1_1 =>
    v1_1
  | x1 :: r1, i1, v1_1 =>
    l_ref04_Size_b1 p0 r1 (i1 + 1) (w64 (v1_1 + (s_ref04_Size x1.v)))
termination_by l => SizeOf.sizeOf l
decreasing_by all_goals first | exact Val.lt_list _ | exact Val.lt_fields _ | exact lt_head _ _ | exact lt_tail _ _ | exact lt_headv _ _
end
def HE_ref04_Size_b0 (_p0 : Val) (i0 : Nat) (v0_1 : Int) : List PV :=
  [.un, .bx 0 0, .un, .int .i64 v0_1, .int .i64 (i0 : Int), .un, .un, .un, .un, .un, .un, .un, .un, .un, .un, .un, .un, .un, .un, .un, .un, .un, .un, .un, .un, .un, .un, .un, .un, .un, .un, .un, .un, .un, .un, .un, .un, .un]
def HO_ref04_Size_b0 (p0 : Val) (_i0 : Nat) (_v0_1 : Int) : List Ob :=
  [⟨5, 0, true, [.int .i64 p0.kind, .int .i64 p0.n, .str p0.s, .sl (Val.rows p0.list), .sl (Fld.rows p0.fields)]⟩]
def E_ref04_Size_b0 (p0 : Val) (i0 : Nat) (v0_1 : Int) : En := .loop 0 Ir.ref04_Size_b0_live Ir.ref04_Size_b0 (HE_ref04_Size_b0 p0 i0 v0_1) (HO_ref04_Size_b0 p0 i0 v0_1)
def S_ref04_Size_b0_0 (p0 : Val) (q0 : Int) (z : Nat → PV) (_zo : Nat → List PV) : St :=
  ⟨[z 0, .bx 0 0, z 2, .int .i64 q0, z 4, z 5, z 6, z 7, z 8, z 9, z 10, z 11, z 12, z 13, z 14, z 15, z 16, z 17, z 18, z 19, z 20, z 21, z 22, z 23, z 24, z 25, z 26, z 27, z 28, z 29, z 30, z 31, z 32, z 33, z 34, z 35, z 36, z 37], [(0, ⟨5, 0, true, [.int .i64 p0.kind, .int .i64 p0.n, .str p0.s, .sl (Val.rows p0.list), .sl (Fld.rows p0.fields)]⟩)], 321⟩
def P_ref04_Size_b0 (p0 : Val) (e : En) (q : Int) : Prop := ∃ z zo, Tells G e (.st (.exit 0) (S_ref04_Size_b0_0 p0 q z zo))
theorem P_ref04_Size_b0_mono (p0 : Val) {e e' : En} (h : ∀ r, Tells G e r → Tells G e' r) : ∀ q, P_ref04_Size_b0 p0 e q → P_ref04_Size_b0 p0 e' q
  | _, ⟨z, zo, hz⟩ => ⟨z, zo, h _ hz⟩
def HE_ref04_Size_b1 (_p0 : Val) (i1 : Nat) (v1_1 : Int) : List PV :=
  [.un, .bx 0 0, .un, .int .i64 v1_1, .un, .int .i64 (i1 : Int), .un, .un, .un, .un, .un, .un, .un, .un, .un, .un, .un, .un, .un, .un, .un, .un, .un, .un, .un, .un, .un, .un, .un, .un, .un, .un, .un, .un, .un, .un, .un, .un]
def HO_ref04_Size_b1 (p0 : Val) (_i1 : Nat) (_v1_1 : Int) : List Ob :=
  [⟨5, 0, true, [.int .i64 p0.kind, .int .i64 p0.n, .str p0.s, .sl (Val.rows p0.list), .sl (Fld.rows p0.fields)]⟩]
def E_ref04_Size_b1 (p0 : Val) (i1 : Nat) (v1_1 : Int) : En := .loop 0 Ir.ref04_Size_b1_live Ir.ref04_Size_b1 (HE_ref04_Size_b1 p0 i1 v1_1) (HO_ref04_Size_b1 p0 i1 v1_1)
def S_ref04_Size_b1_0 (p0 : Val) (q0 : Int) (z : Nat → PV) (_zo : Nat → List PV) : St :=
  ⟨[z 0, z 1, z 2, .int .i64 q0, z 4, z 5, z 6, z 7, z 8, z 9, z 10, z 11, z 12, z 13, z 14, z 15, z 16, z 17, z 18, z 19, z 20, z 21, z 22, z 23, z 24, z 25, z 26, z 27, z 28, z 29, z 30, z 31, z 32, z 33, z 34, z 35, z 36, z 37], [(0, ⟨5, 0, true, [.int .i64 p0.kind, .int .i64 p0.n, .str p0.s, .sl (Val.rows p0.list), .sl (Fld.rows p0.fields)]⟩)], 321⟩
def P_ref04_Size_b1 (p0 : Val) (e : En) (q : Int) : Prop := ∃ z zo, Tells G e (.st (.exit 2) (S_ref04_Size_b1_0 p0 q z zo))
theorem P_ref04_Size_b1_mono (p0 : Val) {e e' : En} (h : ∀ r, Tells G e r → Tells G e' r) : ∀ q, P_ref04_Size_b1 p0 e q → P_ref04_Size_b1 p0 e' q
  | _, ⟨z, zo, hz⟩ => ⟨z, zo, h _ hz⟩
def c_ref04_Size (p0 : Val) : En := .call 14 [.agg (Val.cells p0)] []
def a_ref04_Size (p0 : Val) : Rs := .ret (.int .i64 (s_ref04_Size p0)) []
abbrev H_ref04_Size (p0 : Val) : Prop := Val.Sm 4611686018427387904 p0
def Rec_ref04_Size (p0 : Val) : Prop := ∀ (q : Val), SizeOf.sizeOf q < SizeOf.sizeOf p0 → H_ref04_Size q → Tells G (c_ref04_Size q) (a_ref04_Size q)
def H_ref04_Size_b0 (p0 : Val) : Prop := (List.length p0.list ≤ 4611686018427387904) ∧ (∀ x0 ∈ p0.list, H_ref04_Size x0) ∧ True
def H_ref04_Size_b1 (p0 : Val) : Prop := (List.length p0.fields ≤ 4611686018427387904) ∧ (∀ x1 ∈ p0.fields, H_ref04_Size x1.v) ∧ True
theorem give_ref04_Size (p0 : Val) (H : H_ref04_Size p0) : (H_ref04_Size_b0 p0) ∧ (H_ref04_Size_b1 p0) ∧ True := by
  obtain ⟨h1, h2, h3, h4⟩ := H.all
  simp only [H_ref04_Size_b0, H_ref04_Size_b1]
  exact ⟨⟨h1, h3, trivial⟩, ⟨h2, h4, trivial⟩, trivial⟩
def Z_ref04_Size_b0_0 (p0 : Val) (i0 : Nat) (_v0_1 : Int) : List PV :=
  [.un, .un, .un, .un, .int .i64 (i0 : Int), .un, .int .i64 (i0 : Int), .bx 0 3, .sl (Val.rows p0.list), .int .i64 ((List.length p0.list) : Int), .bool false]
def ZO_ref04_Size_b0_0 (_p0 : Val) (_i0 : Nat) (_v0_1 : Int) : List (Nat × List PV) :=
  []
theorem x_ref04_Size_b0_0 (p0 : Val) (_H : H_ref04_Size_b0 p0) (_rec : Rec_ref04_Size p0) (i0 : Nat) (v0_1 : Int) (hc0 : (decide ((i0 : Int) < ((List.length p0.list) : Int))) = false) : P_ref04_Size_b0 p0 (E_ref04_Size_b0 p0 i0 v0_1) v0_1 := by
  exact ⟨(envF (Z_ref04_Size_b0_0 p0 i0 v0_1)), (zoF (ZO_ref04_Size_b0_0 p0 i0 v0_1)), tells_outVI VOK.nil (x := ((.exit 0), S_ref04_Size_b0_0 p0 v0_1 (envF (Z_ref04_Size_b0_0 p0 i0 v0_1)) (zoF (ZO_ref04_Size_b0_0 p0 i0 v0_1)))) [hP 3 (len_ok (Val.rows p0.list) (List.length p0.list) (Val.rowsLen p0.list)), hB 0 hc0] [] (by kernel_rfl)⟩
theorem n_ref04_Size_b0_1 (p0 : Val) (H : H_ref04_Size_b0 p0) (rec : Rec_ref04_Size p0) (x0 : Val) (i0 : Nat) (v0_1 : Int) (hx0 : p0.list[i0]? = some x0) (hi0 : i0 < List.length p0.list) (hc0 : (decide ((i0 : Int) < ((List.length p0.list) : Int))) = true) {r : Rs} (hr : Tells G (E_ref04_Size_b0 p0 (i0 + 1) (w64 (v0_1 + (s_ref04_Size x0)))) r) : Tells G (E_ref04_Size_b0 p0 i0 v0_1) r := by
  have hB0 := H.1
  exact tells_nextVI VOK.nil (y := (HE_ref04_Size_b0 p0 (i0 + 1) (w64 (v0_1 + (s_ref04_Size x0))), HO_ref04_Size_b0 p0 (i0 + 1) (w64 (v0_1 + (s_ref04_Size x0))))) [hP 3 (len_ok (Val.rows p0.list) (List.length p0.list) (Val.rowsLen p0.list)), hB 0 hc0, hP 4 (ix_ok 5 (Val.rows p0.list) i0 _ (Val.rowsGet hx0) rfl), hP 5 (inc_ok i0 (by omega))] [aN (rec x0 (szL hx0) (H.2.1 x0 (mem_get hx0)))] (by kernel_rfl) hr
theorem lt_ref04_Size_b0 (p0 : Val) (H : H_ref04_Size_b0 p0) (rec : Rec_ref04_Size p0) : ∀ (r0 : List Val) (i0 : Nat) (v0_1 : Int), List.drop i0 p0.list = r0 → P_ref04_Size_b0 p0 (E_ref04_Size_b0 p0 i0 v0_1) (l_ref04_Size_b0 p0 r0 i0 v0_1)
  | [], i0, v0_1, hd => by
    have hc0 : (decide ((i0 : Int) < ((List.length p0.list) : Int))) = false := by have := drop_end hd; simp; omega
    rw [l_ref04_Size_b0]
    exact x_ref04_Size_b0_0 p0 H rec i0 v0_1 hc0
  | x0 :: r0, i0, v0_1, hd => by
    obtain ⟨hx0, hi0, hd'⟩ := drop_get hd
    have hc0 : (decide ((i0 : Int) < ((List.length p0.list) : Int))) = true := by simp; omega
    rw [l_ref04_Size_b0]
    exact P_ref04_Size_b0_mono p0 (fun r hr => n_ref04_Size_b0_1 p0 H rec x0 i0 v0_1 hx0 hi0 hc0 hr) _ (lt_ref04_Size_b0 p0 H rec r0 (i0 + 1) (w64 (v0_1 + (s_ref04_Size x0))) hd')
def Z_ref04_Size_b1_0 (p0 : Val) (i1 : Nat) (_v1_1 : Int) : List PV :=
  [.un, .bx 0 0, .un, .un, .un, .int .i64 (i1 : Int), .un, .un, .un, .un, .un, .un, .un, .un, .un, .un, .un, .un, .un, .un, .un, .int .i64 (i1 : Int), .bx 0 4, .sl (Fld.rows p0.fields), .int .i64 ((List.length p0.fields) : Int), .bool false]
def ZO_ref04_Size_b1_0 (_p0 : Val) (_i1 : Nat) (_v1_1 : Int) : List (Nat × List PV) :=
  []
theorem x_ref04_Size_b1_0 (p0 : Val) (_H : H_ref04_Size_b1 p0) (_rec : Rec_ref04_Size p0) (i1 : Nat) (v1_1 : Int) (hc1 : (decide ((i1 : Int) < ((List.length p0.fields) : Int))) = false) : P_ref04_Size_b1 p0 (E_ref04_Size_b1 p0 i1 v1_1) v1_1 := by
  exact ⟨(envF (Z_ref04_Size_b1_0 p0 i1 v1_1)), (zoF (ZO_ref04_Size_b1_0 p0 i1 v1_1)), tells_outVI VOK.nil (x := ((.exit 2), S_ref04_Size_b1_0 p0 v1_1 (envF (Z_ref04_Size_b1_0 p0 i1 v1_1)) (zoF (ZO_ref04_Size_b1_0 p0 i1 v1_1)))) [hP 3 (len_ok (Fld.rows p0.fields) (List.length p0.fields) (Fld.rowsLen p0.fields)), hB 0 hc1] [] (by kernel_rfl)⟩
theorem n_ref04_Size_b1_1 (p0 : Val) (H : H_ref04_Size_b1 p0) (rec : Rec_ref04_Size p0) (x1 : Fld) (i1 : Nat) (v1_1 : Int) (hx1 : p0.fields[i1]? = some x1) (hi1 : i1 < List.length p0.fields) (hc1 : (decide ((i1 : Int) < ((List.length p0.fields) : Int))) = true) {r : Rs} (hr : Tells G (E_ref04_Size_b1 p0 (i1 + 1) (w64 (v1_1 + (s_ref04_Size x1.v)))) r) : Tells G (E_ref04_Size_b1 p0 i1 v1_1) r := by
  have hB0 := H.1
  exact tells_nextVI VOK.nil (y := (HE_ref04_Size_b1 p0 (i1 + 1) (w64 (v1_1 + (s_ref04_Size x1.v))), HO_ref04_Size_b1 p0 (i1 + 1) (w64 (v1_1 + (s_ref04_Size x1.v))))) [hP 3 (len_ok (Fld.rows p0.fields) (List.length p0.fields) (Fld.rowsLen p0.fields)), hB 0 hc1, hP 4 (ix_ok 6 (Fld.rows p0.fields) i1 _ (Fld.rowsGet hx1) rfl), hP 6 (inc_ok i1 (by omega))] [aN (rec x1.v (szF hx1) (H.2.1 x1 (mem_get hx1)))] (by kernel_rfl) hr
theorem lt_ref04_Size_b1 (p0 : Val) (H : H_ref04_Size_b1 p0) (rec : Rec_ref04_Size p0) : ∀ (r1 : List Fld) (i1 : Nat) (v1_1 : Int), List.drop i1 p0.fields = r1 → P_ref04_Size_b1 p0 (E_ref04_Size_b1 p0 i1 v1_1) (l_ref04_Size_b1 p0 r1 i1 v1_1)
  | [], i1, v1_1, hd => by
    have hc1 : (decide ((i1 : Int) < ((List.length p0.fields) : Int))) = false := by have := drop_end hd; simp; omega
    rw [l_ref04_Size_b1]
    exact x_ref04_Size_b1_0 p0 H rec i1 v1_1 hc1
  | x1 :: r1, i1, v1_1, hd => by
    obtain ⟨hx1, hi1, hd'⟩ := drop_get hd
    have hc1 : (decide ((i1 : Int) < ((List.length p0.fields) : Int))) = true := by simp; omega
    rw [l_ref04_Size_b1]
    exact P_ref04_Size_b1_mono p0 (fun r hr => n_ref04_Size_b1_1 p0 H rec x1 i1 v1_1 hx1 hi1 hc1 hr) _ (lt_ref04_Size_b1 p0 H rec r1 (i1 + 1) (w64 (v1_1 + (s_ref04_Size x1.v))) hd')
theorem r_ref04_Size (p0 : Val) (H : H_ref04_Size p0) (rec : Rec_ref04_Size p0) : Tells G (c_ref04_Size p0) (a_ref04_Size p0) := by
  unfold a_ref04_Size
  rw [s_ref04_Size]
  have hl0 := lt_ref04_Size_b0 p0 ((give_ref04_Size p0 H).1) rec p0.list 0 1 (by simp)
  obtain ⟨z0, zo0, hl0⟩ := hl0
  have hl1 := lt_ref04_Size_b1 p0 ((give_ref04_Size p0 H).2.1) rec p0.fields 0 (l_ref04_Size_b0 p0 p0.list 0 1) (by simp)
  obtain ⟨z1, zo1, hl1⟩ := hl1
  exact tells_VI (fn := Ir.ref04_Size) rfl VOK.nil [] [aN hl0, aN hl1] (by kernel_rfl)
theorem i_ref04_Size : ∀ (k : Nat) (p0 : Val), SizeOf.sizeOf p0 < k → H_ref04_Size p0 → Tells G (c_ref04_Size p0) (a_ref04_Size p0)
  | 0, _, h, _ => absurd h (Nat.not_lt_zero _)
  | k + 1, p0, h, H => r_ref04_Size p0 H (fun q hq hH => i_ref04_Size k q (by omega) hH)
theorem t_ref04_Size (p0 : Val) (H : H_ref04_Size p0) : Tells G (c_ref04_Size p0) (a_ref04_Size p0) := i_ref04_Size _ p0 (Nat.lt_succ_self _) H

mutual
/-- orchestrator/ value.Depth -/
def s_value_Depth (p0 : Val) : Int :=
  (w64 ((l_value_Depth_b1 p0 p0.fields 0 (l_value_Depth_b0 p0 p0.list 0 0)) + 1))
termination_by SizeOf.sizeOf p0
decreasing_by all_goals first | exact Val.lt_list _ | exact Val.lt_fields _ | exact lt_head _ _ | exact lt_tail _ _ | exact lt_headv _ _
def l_value_Depth_b0 (p0 : Val) : List Val → Nat → Int → Int
  | [], _i0, v0_1 =>
    v0_1
  | x0 :: r0, i0, v0_1 =>
    l_value_Depth_b0 p0 r0 (i0 + 1) (mx v0_1 (s_value_Depth x0))
termination_by l => SizeOf.sizeOf l
decreasing_by all_goals first | exact Val.lt_list _ | exact Val.lt_fields _ | exact lt_head _ _ | exact lt_tail _ _ | exact lt_headv _ _
def l_value_Depth_b1 (p0 : Val) : List Fld → Nat → Int → Int
  | [], _i1, v1_1 =>
    v1_1
  | x1 :: r1, i1, v1_1 =>
    l_value_Depth_b1 p0 r1 (i1 + 1) (mx v1_1 (s_value_Depth x1.v))
termination_by l => SizeOf.sizeOf l
decreasing_by all_goals first | exact Val.lt_list _ | exact Val.lt_fields _ | exact lt_head _ _ | exact lt_tail _ _ | exact lt_headv _ _
end
def HE_value_Depth_b0 (p0 : Val) (i0 : Nat) (v0_1 : Int) : List PV :=
  [.un, .bx 0 0, .un, .int .i64 v0_1, .un, .un, .un, .un, .un, .sl (Val.rows p0.list), .int .i64 ((List.length p0.list) : Int), .int .i64 (i0 : Int), .un, .un, .un, .un, .un, .un, .un, .un, .un, .un, .un, .un, .un, .un, .un, .un, .un, .un, .un, .un, .un, .un, .un]
def HO_value_Depth_b0 (p0 : Val) (_i0 : Nat) (_v0_1 : Int) : List Ob :=
  [⟨5, 0, true, [.int .i64 p0.kind, .int .i64 p0.n, .str p0.s, .sl (Val.rows p0.list), .sl (Fld.rows p0.fields)]⟩]
def E_value_Depth_b0 (p0 : Val) (i0 : Nat) (v0_1 : Int) : En := .loop 0 Ir.value_Depth_b0_live Ir.value_Depth_b0 (HE_value_Depth_b0 p0 i0 v0_1) (HO_value_Depth_b0 p0 i0 v0_1)
def S_value_Depth_b0_0 (p0 : Val) (q0 : Int) (z : Nat → PV) (_zo : Nat → List PV) : St :=
  ⟨[z 0, .bx 0 0, z 2, .int .i64 q0, z 4, z 5, z 6, z 7, z 8, z 9, z 10, z 11, z 12, z 13, z 14, z 15, z 16, z 17, z 18, z 19, z 20, z 21, z 22, z 23, z 24, z 25, z 26, z 27, z 28, z 29, z 30, z 31, z 32, z 33, z 34], [(0, ⟨5, 0, true, [.int .i64 p0.kind, .int .i64 p0.n, .str p0.s, .sl (Val.rows p0.list), .sl (Fld.rows p0.fields)]⟩)], 65⟩
def P_value_Depth_b0 (p0 : Val) (e : En) (q : Int) : Prop := ∃ z zo, Tells G e (.st (.exit 0) (S_value_Depth_b0_0 p0 q z zo))
theorem P_value_Depth_b0_mono (p0 : Val) {e e' : En} (h : ∀ r, Tells G e r → Tells G e' r) : ∀ q, P_value_Depth_b0 p0 e q → P_value_Depth_b0 p0 e' q
  | _, ⟨z, zo, hz⟩ => ⟨z, zo, h _ hz⟩
def HE_value_Depth_b1 (p0 : Val) (i1 : Nat) (v1_1 : Int) : List PV :=
  [.un, .un, .un, .int .i64 v1_1, .un, .un, .un, .un, .un, .un, .un, .un, .un, .un, .un, .un, .un, .un, .un, .un, .un, .sl (Fld.rows p0.fields), .int .i64 ((List.length p0.fields) : Int), .int .i64 (i1 : Int), .un, .un, .un, .un, .un, .un, .un, .un, .un, .un, .un]
def HO_value_Depth_b1 (_p0 : Val) (_i1 : Nat) (_v1_1 : Int) : List Ob :=
  []
def E_value_Depth_b1 (p0 : Val) (i1 : Nat) (v1_1 : Int) : En := .loop 0 Ir.value_Depth_b1_live Ir.value_Depth_b1 (HE_value_Depth_b1 p0 i1 v1_1) (HO_value_Depth_b1 p0 i1 v1_1)
def S_value_Depth_b1_0 (_p0 : Val) (q0 : Int) (z : Nat → PV) (_zo : Nat → List PV) : St :=
  ⟨[z 0, z 1, z 2, .int .i64 q0, z 4, z 5, z 6, z 7, z 8, z 9, z 10, z 11, z 12, z 13, z 14, z 15, z 16, z 17, z 18, z 19, z 20, z 21, z 22, z 23, z 24, z 25, z 26, z 27, z 28, z 29, z 30, z 31, z 32, z 33, z 34], [], 64⟩
def P_value_Depth_b1 (p0 : Val) (e : En) (q : Int) : Prop := ∃ z zo, Tells G e (.st (.exit 2) (S_value_Depth_b1_0 p0 q z zo))
theorem P_value_Depth_b1_mono (p0 : Val) {e e' : En} (h : ∀ r, Tells G e r → Tells G e' r) : ∀ q, P_value_Depth_b1 p0 e q → P_value_Depth_b1 p0 e' q
  | _, ⟨z, zo, hz⟩ => ⟨z, zo, h _ hz⟩
def c_value_Depth (p0 : Val) : En := .call 15 [.agg (Val.cells p0)] []
def a_value_Depth (p0 : Val) : Rs := .ret (.int .i64 (s_value_Depth p0)) []
abbrev H_value_Depth (p0 : Val) : Prop := Val.Sm 4611686018427387904 p0
def Rec_value_Depth (p0 : Val) : Prop := ∀ (q : Val), SizeOf.sizeOf q < SizeOf.sizeOf p0 → H_value_Depth q → Tells G (c_value_Depth q) (a_value_Depth q)
def H_value_Depth_b0 (p0 : Val) : Prop := (List.length p0.list ≤ 4611686018427387904) ∧ (∀ x0 ∈ p0.list, H_value_Depth x0) ∧ True
def H_value_Depth_b1 (p0 : Val) : Prop := (List.length p0.fields ≤ 4611686018427387904) ∧ (∀ x1 ∈ p0.fields, H_value_Depth x1.v) ∧ True
theorem give_value_Depth (p0 : Val) (H : H_value_Depth p0) : (H_value_Depth_b0 p0) ∧ (H_value_Depth_b1 p0) ∧ True := by
  obtain ⟨h1, h2, h3, h4⟩ := H.all
  simp only [H_value_Depth_b0, H_value_Depth_b1]
  exact ⟨⟨h1, h3, trivial⟩, ⟨h2, h4, trivial⟩, trivial⟩
def Z_value_Depth_b0_0 (p0 : Val) (i0 : Nat) (_v0_1 : Int) : List PV :=
  [.un, .un, .un, .un, .un, .un, .un, .un, .un, .sl (Val.rows p0.list), .int .i64 ((List.length p0.list) : Int), .int .i64 (i0 : Int), .bool false]
def ZO_value_Depth_b0_0 (_p0 : Val) (_i0 : Nat) (_v0_1 : Int) : List (Nat × List PV) :=
  []
theorem x_value_Depth_b0_0 (p0 : Val) (_H : H_value_Depth_b0 p0) (_rec : Rec_value_Depth p0) (i0 : Nat) (v0_1 : Int) (hc0 : (decide ((i0 : Int) < ((List.length p0.list) : Int))) = false) : P_value_Depth_b0 p0 (E_value_Depth_b0 p0 i0 v0_1) v0_1 := by
  exact ⟨(envF (Z_value_Depth_b0_0 p0 i0 v0_1)), (zoF (ZO_value_Depth_b0_0 p0 i0 v0_1)), tells_outVI VOK.nil (x := ((.exit 0), S_value_Depth_b0_0 p0 v0_1 (envF (Z_value_Depth_b0_0 p0 i0 v0_1)) (zoF (ZO_value_Depth_b0_0 p0 i0 v0_1)))) [hB 0 hc0] [] (by kernel_rfl)⟩
theorem n_value_Depth_b0_1 (p0 : Val) (H : H_value_Depth_b0 p0) (rec : Rec_value_Depth p0) (x0 : Val) (i0 : Nat) (v0_1 : Int) (hx0 : p0.list[i0]? = some x0) (hi0 : i0 < List.length p0.list) (hc0 : (decide ((i0 : Int) < ((List.length p0.list) : Int))) = true) {r : Rs} (hr : Tells G (E_value_Depth_b0 p0 (i0 + 1) (mx v0_1 (s_value_Depth x0))) r) : Tells G (E_value_Depth_b0 p0 i0 v0_1) r := by
  have hB0 := H.1
  exact tells_nextVI VOK.nil (y := (HE_value_Depth_b0 p0 (i0 + 1) (mx v0_1 (s_value_Depth x0)), HO_value_Depth_b0 p0 (i0 + 1) (mx v0_1 (s_value_Depth x0)))) [hB 0 hc0, hP 0 (ix_ok 5 (Val.rows p0.list) i0 _ (Val.rowsGet hx0) rfl), hP 8 (inc_ok i0 (by omega))] [aN (rec x0 (szL hx0) (H.2.1 x0 (mem_get hx0)))] (by kernel_rfl) hr
theorem lt_value_Depth_b0 (p0 : Val) (H : H_value_Depth_b0 p0) (rec : Rec_value_Depth p0) : ∀ (r0 : List Val) (i0 : Nat) (v0_1 : Int), List.drop i0 p0.list = r0 → P_value_Depth_b0 p0 (E_value_Depth_b0 p0 i0 v0_1) (l_value_Depth_b0 p0 r0 i0 v0_1)
  | [], i0, v0_1, hd => by
    have hc0 : (decide ((i0 : Int) < ((List.length p0.list) : Int))) = false := by have := drop_end hd; simp; omega
    rw [l_value_Depth_b0]
    exact x_value_Depth_b0_0 p0 H rec i0 v0_1 hc0
  | x0 :: r0, i0, v0_1, hd => by
    obtain ⟨hx0, hi0, hd'⟩ := drop_get hd
    have hc0 : (decide ((i0 : Int) < ((List.length p0.list) : Int))) = true := by simp; omega
    rw [l_value_Depth_b0]
    exact P_value_Depth_b0_mono p0 (fun r hr => n_value_Depth_b0_1 p0 H rec x0 i0 v0_1 hx0 hi0 hc0 hr) _ (lt_value_Depth_b0 p0 H rec r0 (i0 + 1) (mx v0_1 (s_value_Depth x0)) hd')
def Z_value_Depth_b1_0 (p0 : Val) (i1 : Nat) (_v1_1 : Int) : List PV :=
  [.un, .un, .un, .un, .un, .un, .un, .un, .un, .un, .un, .un, .un, .un, .un, .un, .un, .un, .un, .un, .un, .sl (Fld.rows p0.fields), .int .i64 ((List.length p0.fields) : Int), .int .i64 (i1 : Int), .bool false]
def ZO_value_Depth_b1_0 (_p0 : Val) (_i1 : Nat) (_v1_1 : Int) : List (Nat × List PV) :=
  []
theorem x_value_Depth_b1_0 (p0 : Val) (_H : H_value_Depth_b1 p0) (_rec : Rec_value_Depth p0) (i1 : Nat) (v1_1 : Int) (hc1 : (decide ((i1 : Int) < ((List.length p0.fields) : Int))) = false) : P_value_Depth_b1 p0 (E_value_Depth_b1 p0 i1 v1_1) v1_1 := by
  exact ⟨(envF (Z_value_Depth_b1_0 p0 i1 v1_1)), (zoF (ZO_value_Depth_b1_0 p0 i1 v1_1)), tells_outVI VOK.nil (x := ((.exit 2), S_value_Depth_b1_0 p0 v1_1 (envF (Z_value_Depth_b1_0 p0 i1 v1_1)) (zoF (ZO_value_Depth_b1_0 p0 i1 v1_1)))) [hB 0 hc1] [] (by kernel_rfl)⟩
theorem n_value_Depth_b1_1 (p0 : Val) (H : H_value_Depth_b1 p0) (rec : Rec_value_Depth p0) (x1 : Fld) (i1 : Nat) (v1_1 : Int) (hx1 : p0.fields[i1]? = some x1) (hi1 : i1 < List.length p0.fields) (hc1 : (decide ((i1 : Int) < ((List.length p0.fields) : Int))) = true) {r : Rs} (hr : Tells G (E_value_Depth_b1 p0 (i1 + 1) (mx v1_1 (s_value_Depth x1.v))) r) : Tells G (E_value_Depth_b1 p0 i1 v1_1) r := by
  have hB0 := H.1
  exact tells_nextVI VOK.nil (y := (HE_value_Depth_b1 p0 (i1 + 1) (mx v1_1 (s_value_Depth x1.v)), HO_value_Depth_b1 p0 (i1 + 1) (mx v1_1 (s_value_Depth x1.v)))) [hB 0 hc1, hP 0 (ix_ok 6 (Fld.rows p0.fields) i1 _ (Fld.rowsGet hx1) rfl), hP 9 (inc_ok i1 (by omega))] [aN (rec x1.v (szF hx1) (H.2.1 x1 (mem_get hx1)))] (by kernel_rfl) hr
theorem lt_value_Depth_b1 (p0 : Val) (H : H_value_Depth_b1 p0) (rec : Rec_value_Depth p0) : ∀ (r1 : List Fld) (i1 : Nat) (v1_1 : Int), List.drop i1 p0.fields = r1 → P_value_Depth_b1 p0 (E_value_Depth_b1 p0 i1 v1_1) (l_value_Depth_b1 p0 r1 i1 v1_1)
  | [], i1, v1_1, hd => by
    have hc1 : (decide ((i1 : Int) < ((List.length p0.fields) : Int))) = false := by have := drop_end hd; simp; omega
    rw [l_value_Depth_b1]
    exact x_value_Depth_b1_0 p0 H rec i1 v1_1 hc1
  | x1 :: r1, i1, v1_1, hd => by
    obtain ⟨hx1, hi1, hd'⟩ := drop_get hd
    have hc1 : (decide ((i1 : Int) < ((List.length p0.fields) : Int))) = true := by simp; omega
    rw [l_value_Depth_b1]
    exact P_value_Depth_b1_mono p0 (fun r hr => n_value_Depth_b1_1 p0 H rec x1 i1 v1_1 hx1 hi1 hc1 hr) _ (lt_value_Depth_b1 p0 H rec r1 (i1 + 1) (mx v1_1 (s_value_Depth x1.v)) hd')
theorem r_value_Depth (p0 : Val) (H : H_value_Depth p0) (rec : Rec_value_Depth p0) : Tells G (c_value_Depth p0) (a_value_Depth p0) := by
  unfold a_value_Depth
  rw [s_value_Depth]
  have hl0 := lt_value_Depth_b0 p0 ((give_value_Depth p0 H).1) rec p0.list 0 0 (by simp)
  obtain ⟨z0, zo0, hl0⟩ := hl0
  have hl1 := lt_value_Depth_b1 p0 ((give_value_Depth p0 H).2.1) rec p0.fields 0 (l_value_Depth_b0 p0 p0.list 0 0) (by simp)
  obtain ⟨z1, zo1, hl1⟩ := hl1
  exact tells_VI (fn := Ir.value_Depth) rfl VOK.nil [hP 5 (len_ok (Val.rows p0.list) (List.length p0.list) (Val.rowsLen p0.list)), hP 3 (len_ok (Fld.rows p0.fields) (List.length p0.fields) (Fld.rowsLen p0.fields))] [aN hl0, aN hl1] (by kernel_rfl)
theorem i_value_Depth : ∀ (k : Nat) (p0 : Val), SizeOf.sizeOf p0 < k → H_value_Depth p0 → Tells G (c_value_Depth p0) (a_value_Depth p0)
  | 0, _, h, _ => absurd h (Nat.not_lt_zero _)
  | k + 1, p0, h, H => r_value_Depth p0 H (fun q hq hH => i_value_Depth k q (by omega) hH)
theorem t_value_Depth (p0 : Val) (H : H_value_Depth p0) : Tells G (c_value_Depth p0) (a_value_Depth p0) := i_value_Depth _ p0 (Nat.lt_succ_self _) H

mutual
/-- orchestrator/ orchestratorref04.Depth -/
def s_ref04_Depth (p0 : Val) : Int :=
  (w64 ((l_ref04_Depth_b1 p0 p0.fields 0 (l_ref04_Depth_b0 p0 p0.list 0 0)) + 1))
termination_by SizeOf.sizeOf p0
decreasing_by all_goals first | exact Val.lt_list _ | exact Val.lt_fields _ | exact lt_head _ _ | exact lt_tail _ _ | exact lt_headv _ _
def l_ref04_Depth_b0 (p0 : Val) : List Val → Nat → Int → Int
  | [], _i0, v0_1 =>
    v0_1
  | x0 :: r0, i0, v0_1 =>
    l_ref04_Depth_b0 p0 r0 (i0 + 1) (mx v0_1 (s_ref04_Depth x0))
termination_by l => SizeOf.sizeOf l
decreasing_by all_goals first | exact Val.lt_list _ | exact Val.lt_fields _ | exact lt_head _ _ | exact lt_tail _ _ | exact lt_headv _ _
def l_ref04_Depth_b1 (p0 : Val) : List Fld → Nat → Int → Int
  | [], _i1, v1_1 =>
    v1_1
  | x1 :: r1, i1, v1_1 =>
    l_ref04_Depth_b1 p0 r1 (i1 + 1) (mx v1_1 (s_ref04_Depth x1.v))
termination_by l => SizeOf.sizeOf l
decreasing_by all_goals first | exact Val.lt_list _ | exact Val.lt_fields _ | exact lt_head _ _ | exact lt_tail _ _ | exact lt_headv _ _
end
def HE_ref04_Depth_b0 (_p0 : Val) (i0 : Nat) (v0_1 : Int) : List PV :=
  [.un, .bx 0 0, .un, .int .i64 v0_1, .int .i64 (i0 : Int), .un, .un, .un, .un, .un, .un, .un, .un, .un, .un, .un, .un, .un, .un, .un, .un, .un, .un, .un, .un, .un, .un, .un, .un, .un, .un, .un, .un, .un, .un, .un, .un, .un, .un]
def HO_ref04_Depth_b0 (p0 : Val) (_i0 : Nat) (_v0_1 : Int) : List Ob :=
  [⟨5, 0, true, [.int .i64 p0.kind, .int .i64 p0.n, .str p0.s, .sl (Val.rows p0.list), .sl (Fld.rows p0.fields)]⟩]
def E_ref04_Depth_b0 (p0 : Val) (i0 : Nat) (v0_1 : Int) : En := .loop 0 Ir.ref04_Depth_b0_live Ir.ref04_Depth_b0 (HE_ref04_Depth_b0 p0 i0 v0_1) (HO_ref04_Depth_b0 p0 i0 v0_1)
def S_ref04_Depth_b0_0 (p0 : Val) (q0 : Int) (z : Nat → PV) (_zo : Nat → List PV) : St :=
  ⟨[z 0, .bx 0 0, z 2, .int .i64 q0, z 4, z 5, z 6, z 7, z 8, z 9, z 10, z 11, z 12, z 13, z 14, z 15, z 16, z 17, z 18, z 19, z 20, z 21, z 22, z 23, z 24, z 25, z 26, z 27, z 28, z 29, z 30, z 31, z 32, z 33, z 34, z 35, z 36, z 37, z 38], [(0, ⟨5, 0, true, [.int .i64 p0.kind, .int .i64 p0.n, .str p0.s, .sl (Val.rows p0.list), .sl (Fld.rows p0.fields)]⟩)], 321⟩
def P_ref04_Depth_b0 (p0 : Val) (e : En) (q : Int) : Prop := ∃ z zo, Tells G e (.st (.exit 0) (S_ref04_Depth_b0_0 p0 q z zo))
theorem P_ref04_Depth_b0_mono (p0 : Val) {e e' : En} (h : ∀ r, Tells G e r → Tells G e' r) : ∀ q, P_ref04_Depth_b0 p0 e q → P_ref04_Depth_b0 p0 e' q
  | _, ⟨z, zo, hz⟩ => ⟨z, zo, h _ hz⟩
def HE_ref04_Depth_b1 (_p0 : Val) (i1 : Nat) (v1_1 : Int) : List PV :=
  [.un, .bx 0 0, .un, .int .i64 v1_1, .un, .int .i64 (i1 : Int), .un, .un, .un, .un, .un, .un, .un, .un, .un, .un, .un, .un, .un, .un, .un, .un, .un, .un, .un, .un, .un, .un, .un, .un, .un, .un, .un, .un, .un, .un, .un, .un, .un]
def HO_ref04_Depth_b1 (p0 : Val) (_i1 : Nat) (_v1_1 : Int) : List Ob :=
  [⟨5, 0, true, [.int .i64 p0.kind, .int .i64 p0.n, .str p0.s, .sl (Val.rows p0.list), .sl (Fld.rows p0.fields)]⟩]
def E_ref04_Depth_b1 (p0 : Val) (i1 : Nat) (v1_1 : Int) : En := .loop 0 Ir.ref04_Depth_b1_live Ir.ref04_Depth_b1 (HE_ref04_Depth_b1 p0 i1 v1_1) (HO_ref04_Depth_b1 p0 i1 v1_1)
def S_ref04_Depth_b1_0 (p0 : Val) (q0 : Int) (z : Nat → PV) (_zo : Nat → List PV) : St :=
  ⟨[z 0, z 1, z 2, .int .i64 q0, z 4, z 5, z 6, z 7, z 8, z 9, z 10, z 11, z 12, z 13, z 14, z 15, z 16, z 17, z 18, z 19, z 20, z 21, z 22, z 23, z 24, z 25, z 26, z 27, z 28, z 29, z 30, z 31, z 32, z 33, z 34, z 35, z 36, z 37, z 38], [(0, ⟨5, 0, true, [.int .i64 p0.kind, .int .i64 p0.n, .str p0.s, .sl (Val.rows p0.list), .sl (Fld.rows p0.fields)]⟩)], 321⟩
def P_ref04_Depth_b1 (p0 : Val) (e : En) (q : Int) : Prop := ∃ z zo, Tells G e (.st (.exit 2) (S_ref04_Depth_b1_0 p0 q z zo))
theorem P_ref04_Depth_b1_mono (p0 : Val) {e e' : En} (h : ∀ r, Tells G e r → Tells G e' r) : ∀ q, P_ref04_Depth_b1 p0 e q → P_ref04_Depth_b1 p0 e' q
  | _, ⟨z, zo, hz⟩ => ⟨z, zo, h _ hz⟩
def c_ref04_Depth (p0 : Val) : En := .call 16 [.agg (Val.cells p0)] []
def a_ref04_Depth (p0 : Val) : Rs := .ret (.int .i64 (s_ref04_Depth p0)) []
abbrev H_ref04_Depth (p0 : Val) : Prop := Val.Sm 4611686018427387904 p0
def Rec_ref04_Depth (p0 : Val) : Prop := ∀ (q : Val), SizeOf.sizeOf q < SizeOf.sizeOf p0 → H_ref04_Depth q → Tells G (c_ref04_Depth q) (a_ref04_Depth q)
def H_ref04_Depth_b0 (p0 : Val) : Prop := (List.length p0.list ≤ 4611686018427387904) ∧ (∀ x0 ∈ p0.list, H_ref04_Depth x0) ∧ True
def H_ref04_Depth_b1 (p0 : Val) : Prop := (List.length p0.fields ≤ 4611686018427387904) ∧ (∀ x1 ∈ p0.fields, H_ref04_Depth x1.v) ∧ True
theorem give_ref04_Depth (p0 : Val) (H : H_ref04_Depth p0) : (H_ref04_Depth_b0 p0) ∧ (H_ref04_Depth_b1 p0) ∧ True := by
  obtain ⟨h1, h2, h3, h4⟩ := H.all
  simp only [H_ref04_Depth_b0, H_ref04_Depth_b1]
  exact ⟨⟨h1, h3, trivial⟩, ⟨h2, h4, trivial⟩, trivial⟩
def Z_ref04_Depth_b0_0 (p0 : Val) (i0 : Nat) (_v0_1 : Int) : List PV :=
  [.un, .un, .un, .un, .int .i64 (i0 : Int), .un, .int .i64 (i0 : Int), .bx 0 3, .sl (Val.rows p0.list), .int .i64 ((List.length p0.list) : Int), .bool false]
def ZO_ref04_Depth_b0_0 (_p0 : Val) (_i0 : Nat) (_v0_1 : Int) : List (Nat × List PV) :=
  []
theorem x_ref04_Depth_b0_0 (p0 : Val) (_H : H_ref04_Depth_b0 p0) (_rec : Rec_ref04_Depth p0) (i0 : Nat) (v0_1 : Int) (hc0 : (decide ((i0 : Int) < ((List.length p0.list) : Int))) = false) : P_ref04_Depth_b0 p0 (E_ref04_Depth_b0 p0 i0 v0_1) v0_1 := by
  exact ⟨(envF (Z_ref04_Depth_b0_0 p0 i0 v0_1)), (zoF (ZO_ref04_Depth_b0_0 p0 i0 v0_1)), tells_outVI VOK.nil (x := ((.exit 0), S_ref04_Depth_b0_0 p0 v0_1 (envF (Z_ref04_Depth_b0_0 p0 i0 v0_1)) (zoF (ZO_ref04_Depth_b0_0 p0 i0 v0_1)))) [hP 3 (len_ok (Val.rows p0.list) (List.length p0.list) (Val.rowsLen p0.list)), hB 0 hc0] [] (by kernel_rfl)⟩
theorem n_ref04_Depth_b0_1 (p0 : Val) (H : H_ref04_Depth_b0 p0) (rec : Rec_ref04_Depth p0) (x0 : Val) (i0 : Nat) (v0_1 : Int) (hx0 : p0.list[i0]? = some x0) (hi0 : i0 < List.length p0.list) (hc0 : (decide ((i0 : Int) < ((List.length p0.list) : Int))) = true) {r : Rs} (hr : Tells G (E_ref04_Depth_b0 p0 (i0 + 1) (mx v0_1 (s_ref04_Depth x0))) r) : Tells G (E_ref04_Depth_b0 p0 i0 v0_1) r := by
  have hB0 := H.1
  exact tells_nextVI VOK.nil (y := (HE_ref04_Depth_b0 p0 (i0 + 1) (mx v0_1 (s_ref04_Depth x0)), HO_ref04_Depth_b0 p0 (i0 + 1) (mx v0_1 (s_ref04_Depth x0)))) [hP 3 (len_ok (Val.rows p0.list) (List.length p0.list) (Val.rowsLen p0.list)), hB 0 hc0, hP 4 (ix_ok 5 (Val.rows p0.list) i0 _ (Val.rowsGet hx0) rfl), hP 5 (inc_ok i0 (by omega))] [aN (rec x0 (szL hx0) (H.2.1 x0 (mem_get hx0)))] (by kernel_rfl) hr
theorem lt_ref04_Depth_b0 (p0 : Val) (H : H_ref04_Depth_b0 p0) (rec : Rec_ref04_Depth p0) : ∀ (r0 : List Val) (i0 : Nat) (v0_1 : Int), List.drop i0 p0.list = r0 → P_ref04_Depth_b0 p0 (E_ref04_Depth_b0 p0 i0 v0_1) (l_ref04_Depth_b0 p0 r0 i0 v0_1)
  | [], i0, v0_1, hd => by
    have hc0 : (decide ((i0 : Int) < ((List.length p0.list) : Int))) = false := by have := drop_end hd; simp; omega
    rw [l_ref04_Depth_b0]
    exact x_ref04_Depth_b0_0 p0 H rec i0 v0_1 hc0
  | x0 :: r0, i0, v0_1, hd => by
    obtain ⟨hx0, hi0, hd'⟩ := drop_get hd
    have hc0 : (decide ((i0 : Int) < ((List.length p0.list) : Int))) = true := by simp; omega
    rw [l_ref04_Depth_b0]
    exact P_ref04_Depth_b0_mono p0 (fun r hr => n_ref04_Depth_b0_1 p0 H rec x0 i0 v0_1 hx0 hi0 hc0 hr) _ (lt_ref04_Depth_b0 p0 H rec r0 (i0 + 1) (mx v0_1 (s_ref04_Depth x0)) hd')
def Z_ref04_Depth_b1_0 (p0 : Val) (i1 : Nat) (_v1_1 : Int) : List PV :=
  [.un, .bx 0 0, .un, .un, .un, .int .i64 (i1 : Int), .un, .un, .un, .un, .un, .un, .un, .un, .un, .un, .un, .un, .un, .un, .un, .int .i64 (i1 : Int), .bx 0 4, .sl (Fld.rows p0.fields), .int .i64 ((List.length p0.fields) : Int), .bool false]
def ZO_ref04_Depth_b1_0 (_p0 : Val) (_i1 : Nat) (_v1_1 : Int) : List (Nat × List PV) :=
  []
theorem x_ref04_Depth_b1_0 (p0 : Val) (_H : H_ref04_Depth_b1 p0) (_rec : Rec_ref04_Depth p0) (i1 : Nat) (v1_1 : Int) (hc1 : (decide ((i1 : Int) < ((List.length p0.fields) : Int))) = false) : P_ref04_Depth_b1 p0 (E_ref04_Depth_b1 p0 i1 v1_1) v1_1 := by
  exact ⟨(envF (Z_ref04_Depth_b1_0 p0 i1 v1_1)), (zoF (ZO_ref04_Depth_b1_0 p0 i1 v1_1)), tells_outVI VOK.nil (x := ((.exit 2), S_ref04_Depth_b1_0 p0 v1_1 (envF (Z_ref04_Depth_b1_0 p0 i1 v1_1)) (zoF (ZO_ref04_Depth_b1_0 p0 i1 v1_1)))) [hP 3 (len_ok (Fld.rows p0.fields) (List.length p0.fields) (Fld.rowsLen p0.fields)), hB 0 hc1] [] (by kernel_rfl)⟩
theorem n_ref04_Depth_b1_1 (p0 : Val) (H : H_ref04_Depth_b1 p0) (rec : Rec_ref04_Depth p0) (x1 : Fld) (i1 : Nat) (v1_1 : Int) (hx1 : p0.fields[i1]? = some x1) (hi1 : i1 < List.length p0.fields) (hc1 : (decide ((i1 : Int) < ((List.length p0.fields) : Int))) = true) {r : Rs} (hr : Tells G (E_ref04_Depth_b1 p0 (i1 + 1) (mx v1_1 (s_ref04_Depth x1.v))) r) : Tells G (E_ref04_Depth_b1 p0 i1 v1_1) r := by
  have hB0 := H.1
  exact tells_nextVI VOK.nil (y := (HE_ref04_Depth_b1 p0 (i1 + 1) (mx v1_1 (s_ref04_Depth x1.v)), HO_ref04_Depth_b1 p0 (i1 + 1) (mx v1_1 (s_ref04_Depth x1.v)))) [hP 3 (len_ok (Fld.rows p0.fields) (List.length p0.fields) (Fld.rowsLen p0.fields)), hB 0 hc1, hP 4 (ix_ok 6 (Fld.rows p0.fields) i1 _ (Fld.rowsGet hx1) rfl), hP 6 (inc_ok i1 (by omega))] [aN (rec x1.v (szF hx1) (H.2.1 x1 (mem_get hx1)))] (by kernel_rfl) hr
theorem lt_ref04_Depth_b1 (p0 : Val) (H : H_ref04_Depth_b1 p0) (rec : Rec_ref04_Depth p0) : ∀ (r1 : List Fld) (i1 : Nat) (v1_1 : Int), List.drop i1 p0.fields = r1 → P_ref04_Depth_b1 p0 (E_ref04_Depth_b1 p0 i1 v1_1) (l_ref04_Depth_b1 p0 r1 i1 v1_1)
  | [], i1, v1_1, hd => by
    have hc1 : (decide ((i1 : Int) < ((List.length p0.fields) : Int))) = false := by have := drop_end hd; simp; omega
    rw [l_ref04_Depth_b1]
    exact x_ref04_Depth_b1_0 p0 H rec i1 v1_1 hc1
  | x1 :: r1, i1, v1_1, hd => by
    obtain ⟨hx1, hi1, hd'⟩ := drop_get hd
    have hc1 : (decide ((i1 : Int) < ((List.length p0.fields) : Int))) = true := by simp; omega
    rw [l_ref04_Depth_b1]
    exact P_ref04_Depth_b1_mono p0 (fun r hr => n_ref04_Depth_b1_1 p0 H rec x1 i1 v1_1 hx1 hi1 hc1 hr) _ (lt_ref04_Depth_b1 p0 H rec r1 (i1 + 1) (mx v1_1 (s_ref04_Depth x1.v)) hd')
theorem r_ref04_Depth (p0 : Val) (H : H_ref04_Depth p0) (rec : Rec_ref04_Depth p0) : Tells G (c_ref04_Depth p0) (a_ref04_Depth p0) := by
  unfold a_ref04_Depth
  rw [s_ref04_Depth]
  have hl0 := lt_ref04_Depth_b0 p0 ((give_ref04_Depth p0 H).1) rec p0.list 0 0 (by simp)
  obtain ⟨z0, zo0, hl0⟩ := hl0
  have hl1 := lt_ref04_Depth_b1 p0 ((give_ref04_Depth p0 H).2.1) rec p0.fields 0 (l_ref04_Depth_b0 p0 p0.list 0 0) (by simp)
  obtain ⟨z1, zo1, hl1⟩ := hl1
  exact tells_VI (fn := Ir.ref04_Depth) rfl VOK.nil [] [aN hl0, aN hl1] (by kernel_rfl)
theorem i_ref04_Depth : ∀ (k : Nat) (p0 : Val), SizeOf.sizeOf p0 < k → H_ref04_Depth p0 → Tells G (c_ref04_Depth p0) (a_ref04_Depth p0)
  | 0, _, h, _ => absurd h (Nat.not_lt_zero _)
  | k + 1, p0, h, H => r_ref04_Depth p0 H (fun q hq hH => i_ref04_Depth k q (by omega) hH)
theorem t_ref04_Depth (p0 : Val) (H : H_ref04_Depth p0) : Tells G (c_ref04_Depth p0) (a_ref04_Depth p0) := i_ref04_Depth _ p0 (Nat.lt_succ_self _) H

inductive R_value_text_b0 where
  | k0
  | k1
def l_value_text_b0 (p0 : ByteArray) : List Int → Nat → R_value_text_b0
  | [], _i0 =>
    (.k0)
  | x0 :: r0, i0 =>
    bif (x0 == 10) then
      l_value_text_b0 p0 r0 (i0 + 1)
    else
      bif (decide (x0 < 32)) then
        (.k1)
      else
        bif (decide (126 < x0)) then
          (.k1)
        else
          l_value_text_b0 p0 r0 (i0 + 1)
def HE_value_text_b0 (p0 : ByteArray) (i0 : Nat) : List PV :=
  [.str p0, .un, .un, .un, .un, .int .i64 (ByteArray.size p0 : Int), .int .i64 (i0 : Int), .un, .un, .un, .un, .un, .un, .un, .un, .un, .un, .un, .un, .un, .un, .un, .un, .un, .un, .un, .un, .un, .un]
def HO_value_text_b0 (_p0 : ByteArray) (_i0 : Nat) : List Ob :=
  []
def E_value_text_b0 (p0 : ByteArray) (i0 : Nat) : En := .loop 0 Ir.value_text_b0_live Ir.value_text_b0 (HE_value_text_b0 p0 i0) (HO_value_text_b0 p0 i0)
def S_value_text_b0_0 (p0 : ByteArray) (z : Nat → PV) (_zo : Nat → List PV) : St :=
  ⟨[.str p0, z 1, z 2, z 3, z 4, z 5, z 6, z 7, z 8, z 9, z 10, z 11, z 12, z 13, z 14, z 15, z 16, z 17, z 18, z 19, z 20, z 21, z 22, z 23, z 24, z 25, z 26, z 27, z 28], [], 64⟩
def S_value_text_b0_1 (_p0 : ByteArray) (z : Nat → PV) (_zo : Nat → List PV) : St :=
  ⟨[z 0, z 1, .bool false, z 3, z 4, z 5, z 6, z 7, z 8, z 9, z 10, z 11, z 12, z 13, z 14, z 15, z 16, z 17, z 18, z 19, z 20, z 21, z 22, z 23, z 24, z 25, z 26, z 27, z 28], [], 1280⟩
def P_value_text_b0 (p0 : ByteArray) (e : En) : R_value_text_b0 → Prop
  | .k0 => ∃ z zo, Tells G e (.st (.exit 0) (S_value_text_b0_0 p0 z zo))
  | .k1 => ∃ z zo, Tells G e (.st .ret (S_value_text_b0_1 p0 z zo))
theorem P_value_text_b0_mono (p0 : ByteArray) {e e' : En} (h : ∀ r, Tells G e r → Tells G e' r) : ∀ q, P_value_text_b0 p0 e q → P_value_text_b0 p0 e' q
  | .k0, ⟨z, zo, hz⟩ => ⟨z, zo, h _ hz⟩
  | .k1, ⟨z, zo, hz⟩ => ⟨z, zo, h _ hz⟩
def H_value_text_b0 (p0 : ByteArray) : Prop := (List.length (letters p0) ≤ 4611686018427387904) ∧ True
def Z_value_text_b0_0 (p0 : ByteArray) (i0 : Nat) : List PV :=
  [.un, .un, .un, .un, .un, .int .i64 (ByteArray.size p0 : Int), .int .i64 (i0 : Int), .bool false]
def ZO_value_text_b0_0 (_p0 : ByteArray) (_i0 : Nat) : List (Nat × List PV) :=
  []
theorem x_value_text_b0_0 (p0 : ByteArray) (_H : H_value_text_b0 p0) (i0 : Nat) (hc0 : (decide ((i0 : Int) < (ByteArray.size p0 : Int))) = false) : P_value_text_b0 p0 (E_value_text_b0 p0 i0) (.k0) := by
  exact ⟨(envF (Z_value_text_b0_0 p0 i0)), (zoF (ZO_value_text_b0_0 p0 i0)), tells_outVI VOK.nil (x := ((.exit 0), S_value_text_b0_0 p0 (envF (Z_value_text_b0_0 p0 i0)) (zoF (ZO_value_text_b0_0 p0 i0)))) [hB 0 hc0] [] (by kernel_rfl)⟩
theorem n_value_text_b0_1 (p0 : ByteArray) (H : H_value_text_b0 p0) (x0 : Int) (i0 : Nat) (hx0 : (letters p0)[i0]? = some x0) (hi0 : i0 < List.length (letters p0)) (hc0 : (decide ((i0 : Int) < (ByteArray.size p0 : Int))) = true) (h0 : (x0 == 10) = true) {r : Rs} (hr : Tells G (E_value_text_b0 p0 (i0 + 1)) r) : Tells G (E_value_text_b0 p0 i0) r := by
  have hB0 := H.1; have e0 := eq_of_beq h0
  exact tells_nextVI VOK.nil (y := (HE_value_text_b0 p0 (i0 + 1), HO_value_text_b0 p0 (i0 + 1))) [hB 0 hc0, hP 4 (six_ok p0 i0 x0 hx0), hP 0 (dec (!(x0 == 10)) false (by rw [h0]; rfl)), hP 12 (inc_ok i0 (by omega))] [] (by kernel_rfl) hr
def Z_value_text_b0_2 (p0 : ByteArray) (i0 : Nat) (x0 : Int) : List PV :=
  [.str p0, .un, .un, .int .i64 (i0 : Int), .un, .int .i64 (ByteArray.size p0 : Int), .int .i64 (i0 : Int), .bool true, .int .i64 (i0 : Int), .str p0, .int .i64 (i0 : Int), .int .u8 x0, .bool true, .bool true, .str p0, .int .i64 (i0 : Int), .int .u8 x0, .bool true, .bool true, .tup [], .tup [], .tup [], .tup [], .bool true, .bool true]
def ZO_value_text_b0_2 (_p0 : ByteArray) (_i0 : Nat) (_x0 : Int) : List (Nat × List PV) :=
  []
theorem x_value_text_b0_2 (p0 : ByteArray) (_H : H_value_text_b0 p0) (x0 : Int) (i0 : Nat) (hx0 : (letters p0)[i0]? = some x0) (_hi0 : i0 < List.length (letters p0)) (hc0 : (decide ((i0 : Int) < (ByteArray.size p0 : Int))) = true) (h0 : (x0 == 10) = false) (h1 : (decide (x0 < 32)) = true) : P_value_text_b0 p0 (E_value_text_b0 p0 i0) (.k1) := by
  exact ⟨(envF (Z_value_text_b0_2 p0 i0 x0)), (zoF (ZO_value_text_b0_2 p0 i0 x0)), tells_outVI VOK.nil (x := (.ret, S_value_text_b0_1 p0 (envF (Z_value_text_b0_2 p0 i0 x0)) (zoF (ZO_value_text_b0_2 p0 i0 x0)))) [hB 0 hc0, hP 4 (six_ok p0 i0 x0 hx0), hP 0 (dec (!(x0 == 10)) true (by rw [h0]; rfl)), hP 3 (six_ok p0 i0 x0 hx0), hB 0 h1] [] (by kernel_rfl)⟩
def Z_value_text_b0_3 (p0 : ByteArray) (i0 : Nat) (x0 : Int) : List PV :=
  [.str p0, .un, .un, .int .i64 (i0 : Int), .un, .int .i64 (ByteArray.size p0 : Int), .int .i64 (i0 : Int), .bool true, .int .i64 (i0 : Int), .str p0, .int .i64 (i0 : Int), .int .u8 x0, .bool true, .bool true, .str p0, .int .i64 (i0 : Int), .int .u8 x0, .bool false, .bool false, .str p0, .int .i64 (i0 : Int), .int .u8 x0, .bool true, .bool true, .bool true]
def ZO_value_text_b0_3 (_p0 : ByteArray) (_i0 : Nat) (_x0 : Int) : List (Nat × List PV) :=
  []
theorem x_value_text_b0_3 (p0 : ByteArray) (_H : H_value_text_b0 p0) (x0 : Int) (i0 : Nat) (hx0 : (letters p0)[i0]? = some x0) (_hi0 : i0 < List.length (letters p0)) (hc0 : (decide ((i0 : Int) < (ByteArray.size p0 : Int))) = true) (h0 : (x0 == 10) = false) (h1 : (decide (x0 < 32)) = false) (h2 : (decide (126 < x0)) = true) : P_value_text_b0 p0 (E_value_text_b0 p0 i0) (.k1) := by
  exact ⟨(envF (Z_value_text_b0_3 p0 i0 x0)), (zoF (ZO_value_text_b0_3 p0 i0 x0)), tells_outVI VOK.nil (x := (.ret, S_value_text_b0_1 p0 (envF (Z_value_text_b0_3 p0 i0 x0)) (zoF (ZO_value_text_b0_3 p0 i0 x0)))) [hB 0 hc0, hP 4 (six_ok p0 i0 x0 hx0), hP 0 (dec (!(x0 == 10)) true (by rw [h0]; rfl)), hP 3 (six_ok p0 i0 x0 hx0), hB 0 h1, hP 3 (six_ok p0 i0 x0 hx0), hB 0 h2] [] (by kernel_rfl)⟩
theorem n_value_text_b0_4 (p0 : ByteArray) (H : H_value_text_b0 p0) (x0 : Int) (i0 : Nat) (hx0 : (letters p0)[i0]? = some x0) (hi0 : i0 < List.length (letters p0)) (hc0 : (decide ((i0 : Int) < (ByteArray.size p0 : Int))) = true) (h0 : (x0 == 10) = false) (h1 : (decide (x0 < 32)) = false) (h2 : (decide (126 < x0)) = false) {r : Rs} (hr : Tells G (E_value_text_b0 p0 (i0 + 1)) r) : Tells G (E_value_text_b0 p0 i0) r := by
  have hB0 := H.1; have e0 := beq_eq_false_iff_ne.1 h0; have e1 := of_decide_eq_false h1; have e2 := of_decide_eq_false h2
  exact tells_nextVI VOK.nil (y := (HE_value_text_b0 p0 (i0 + 1), HO_value_text_b0 p0 (i0 + 1))) [hB 0 hc0, hP 4 (six_ok p0 i0 x0 hx0), hP 0 (dec (!(x0 == 10)) true (by rw [h0]; rfl)), hP 3 (six_ok p0 i0 x0 hx0), hB 0 h1, hP 3 (six_ok p0 i0 x0 hx0), hB 0 h2, hP 2 (inc_ok i0 (by omega))] [] (by kernel_rfl) hr
theorem lt_value_text_b0 (p0 : ByteArray) (H : H_value_text_b0 p0) : ∀ (r0 : List Int) (i0 : Nat), List.drop i0 (letters p0) = r0 → P_value_text_b0 p0 (E_value_text_b0 p0 i0) (l_value_text_b0 p0 r0 i0)
  | [], i0, hd => by
    have hc0 : (decide ((i0 : Int) < (ByteArray.size p0 : Int))) = false := by have hL := lettersLen p0; have := drop_end hd; simp; omega
    rw [l_value_text_b0]
    exact x_value_text_b0_0 p0 H i0 hc0
  | x0 :: r0, i0, hd => by
    obtain ⟨hx0, hi0, hd'⟩ := drop_get hd
    have hc0 : (decide ((i0 : Int) < (ByteArray.size p0 : Int))) = true := by have hL := lettersLen p0; simp; omega
    rw [l_value_text_b0]
    cases h0 : (x0 == 10) with
    | true =>
     exact P_value_text_b0_mono p0 (fun r hr => n_value_text_b0_1 p0 H x0 i0 hx0 hi0 hc0 h0 hr) _ (lt_value_text_b0 p0 H r0 (i0 + 1) hd')
    | false =>
     cases h1 : (decide (x0 < 32)) with
     | true =>
      exact x_value_text_b0_2 p0 H x0 i0 hx0 hi0 hc0 h0 h1
     | false =>
      cases h2 : (decide (126 < x0)) with
      | true =>
       exact x_value_text_b0_3 p0 H x0 i0 hx0 hi0 hc0 h0 h1 h2
      | false =>
       exact P_value_text_b0_mono p0 (fun r hr => n_value_text_b0_4 p0 H x0 i0 hx0 hi0 hc0 h0 h1 h2 hr) _ (lt_value_text_b0 p0 H r0 (i0 + 1) hd')
/-- orchestrator/ value.text -/
def s_value_text (p0 : ByteArray) : Bool :=
  (match (l_value_text_b0 p0 (letters p0) 0) with
  | .k0 => (decide ((ByteArray.size p0 : Int) ≤ 200))
  | .k1 => false)
def c_value_text (p0 : ByteArray) : En := .call 67 [.str p0] []
def a_value_text (p0 : ByteArray) : Rs := .ret (.bool (s_value_text p0)) []
def H_value_text (p0 : ByteArray) : Prop := (H_value_text_b0 p0) ∧ True
theorem t_value_text (p0 : ByteArray) (H : H_value_text p0) : Tells G (c_value_text p0) (a_value_text p0) := by
  unfold a_value_text s_value_text
  have hl0 := lt_value_text_b0 p0 (H.1) (letters p0) 0 (by simp)
  cases hr0 : (l_value_text_b0 p0 (letters p0) 0) with
  | k0 =>
    rw [hr0] at hl0
    obtain ⟨z0, zo0, hl0⟩ := hl0
    exact tells_VI (fn := Ir.value_text) rfl VOK.nil [] [aN hl0] (by kernel_rfl)
  | k1 =>
    rw [hr0] at hl0
    obtain ⟨z0, zo0, hl0⟩ := hl0
    exact tells_VI (fn := Ir.value_text) rfl VOK.nil [] [aN hl0] (by kernel_rfl)

/-- orchestrator/ value.scalar -/
def s_value_scalar (p0 : Val) : Bool :=
  bif (p0.kind == 1) then
    bif (sEq p0.s (⟨#[]⟩ : ByteArray)) then
      bif (p0.n == 0) then
        true
      else
        (p0.n == 1)
    else
      false
  else
    bif (p0.kind == 2) then
      bif (sEq p0.s (⟨#[]⟩ : ByteArray)) then
        bif (decide ((-1000000000000000) ≤ p0.n)) then
          (decide (p0.n ≤ 1000000000000000))
        else
          false
      else
        false
    else
      bif (p0.kind == 3) then
        bif (p0.n == 0) then
          (s_value_text p0.s)
        else
          false
      else
        bif (p0.kind == 0) then
          bif (p0.n == 0) then
            bif (sEq p0.s (⟨#[]⟩ : ByteArray)) then
              true
            else
              false
          else
            false
        else
          bif (p0.kind == 4) then
            bif (p0.n == 0) then
              bif (sEq p0.s (⟨#[]⟩ : ByteArray)) then
                true
              else
                false
            else
              false
          else
            bif (p0.kind == 5) then
              bif (p0.n == 0) then
                bif (sEq p0.s (⟨#[]⟩ : ByteArray)) then
                  true
                else
                  false
              else
                false
            else
              false
def c_value_scalar (p0 : Val) : En := .call 57 [.agg (Val.cells p0)] []
def a_value_scalar (p0 : Val) : Rs := .ret (.bool (s_value_scalar p0)) []
def H_value_scalar (p0 : Val) : Prop := (H_value_text p0.s) ∧ True
theorem t_value_scalar_0 (p0 : Val) (_H : H_value_scalar p0) (h0 : (p0.kind == 1) = true) : Tells G (c_value_scalar p0) (.ret (.bool (bif (sEq p0.s (⟨#[]⟩ : ByteArray)) then
    bif (p0.n == 0) then
      true
    else
      (p0.n == 1)
  else
    false)) []) := by
  cases h1 : (sEq p0.s (⟨#[]⟩ : ByteArray)) with
  | true =>
   cases h2 : (p0.n == 0) with
   | true =>
    exact tells_VI (fn := Ir.value_scalar) rfl VOK.nil [hB 4 h0, hB 3 h1, hB 3 h2] [] (by kernel_rfl)
   | false =>
    exact tells_VI (fn := Ir.value_scalar) rfl VOK.nil [hB 4 h0, hB 3 h1, hB 3 h2] [] (by kernel_rfl)
  | false =>
   exact tells_VI (fn := Ir.value_scalar) rfl VOK.nil [hB 4 h0, hB 3 h1] [] (by kernel_rfl)
theorem t_value_scalar_1 (p0 : Val) (_H : H_value_scalar p0) (h0 : (p0.kind == 1) = false) (h1 : (p0.kind == 2) = true) : Tells G (c_value_scalar p0) (.ret (.bool (bif (sEq p0.s (⟨#[]⟩ : ByteArray)) then
    bif (decide ((-1000000000000000) ≤ p0.n)) then
      (decide (p0.n ≤ 1000000000000000))
    else
      false
  else
    false)) []) := by
  cases h2 : (sEq p0.s (⟨#[]⟩ : ByteArray)) with
  | true =>
   cases h3 : (decide ((-1000000000000000) ≤ p0.n)) with
   | true =>
    exact tells_VI (fn := Ir.value_scalar) rfl VOK.nil [hB 4 h0, hB 1 h1, hB 3 h2, hB 3 h3] [] (by kernel_rfl)
   | false =>
    exact tells_VI (fn := Ir.value_scalar) rfl VOK.nil [hB 4 h0, hB 1 h1, hB 3 h2, hB 3 h3] [] (by kernel_rfl)
  | false =>
   exact tells_VI (fn := Ir.value_scalar) rfl VOK.nil [hB 4 h0, hB 1 h1, hB 3 h2] [] (by kernel_rfl)
theorem t_value_scalar_2 (p0 : Val) (H : H_value_scalar p0) (h0 : (p0.kind == 1) = false) (h1 : (p0.kind == 2) = false) (h2 : (p0.kind == 3) = true) : Tells G (c_value_scalar p0) (.ret (.bool (bif (p0.n == 0) then
    (s_value_text p0.s)
  else
    false)) []) := by
  cases h3 : (p0.n == 0) with
  | true =>
   exact tells_VI (fn := Ir.value_scalar) rfl VOK.nil [hB 4 h0, hB 1 h1, hB 1 h2, hB 3 h3] [aN (t_value_text p0.s H.1)] (by kernel_rfl)
  | false =>
   exact tells_VI (fn := Ir.value_scalar) rfl VOK.nil [hB 4 h0, hB 1 h1, hB 1 h2, hB 3 h3] [] (by kernel_rfl)
theorem t_value_scalar_3 (p0 : Val) (_H : H_value_scalar p0) (h0 : (p0.kind == 1) = false) (h1 : (p0.kind == 2) = false) (h2 : (p0.kind == 3) = false) (h3 : (p0.kind == 0) = true) : Tells G (c_value_scalar p0) (.ret (.bool (bif (p0.n == 0) then
    bif (sEq p0.s (⟨#[]⟩ : ByteArray)) then
      true
    else
      false
  else
    false)) []) := by
  cases h4 : (p0.n == 0) with
  | true =>
   cases h5 : (sEq p0.s (⟨#[]⟩ : ByteArray)) with
   | true =>
    exact tells_VI (fn := Ir.value_scalar) rfl VOK.nil [hB 4 h0, hB 1 h1, hB 1 h2, hB 1 h3, hB 3 h4, hB 3 h5] [] (by kernel_rfl)
   | false =>
    exact tells_VI (fn := Ir.value_scalar) rfl VOK.nil [hB 4 h0, hB 1 h1, hB 1 h2, hB 1 h3, hB 3 h4, hB 3 h5] [] (by kernel_rfl)
  | false =>
   exact tells_VI (fn := Ir.value_scalar) rfl VOK.nil [hB 4 h0, hB 1 h1, hB 1 h2, hB 1 h3, hB 3 h4] [] (by kernel_rfl)
theorem t_value_scalar_4 (p0 : Val) (_H : H_value_scalar p0) (h0 : (p0.kind == 1) = false) (h1 : (p0.kind == 2) = false) (h2 : (p0.kind == 3) = false) (h3 : (p0.kind == 0) = false) (h4 : (p0.kind == 4) = true) : Tells G (c_value_scalar p0) (.ret (.bool (bif (p0.n == 0) then
    bif (sEq p0.s (⟨#[]⟩ : ByteArray)) then
      true
    else
      false
  else
    false)) []) := by
  cases h5 : (p0.n == 0) with
  | true =>
   cases h6 : (sEq p0.s (⟨#[]⟩ : ByteArray)) with
   | true =>
    exact tells_VI (fn := Ir.value_scalar) rfl VOK.nil [hB 4 h0, hB 1 h1, hB 1 h2, hB 1 h3, hB 1 h4, hB 3 h5, hB 3 h6] [] (by kernel_rfl)
   | false =>
    exact tells_VI (fn := Ir.value_scalar) rfl VOK.nil [hB 4 h0, hB 1 h1, hB 1 h2, hB 1 h3, hB 1 h4, hB 3 h5, hB 3 h6] [] (by kernel_rfl)
  | false =>
   exact tells_VI (fn := Ir.value_scalar) rfl VOK.nil [hB 4 h0, hB 1 h1, hB 1 h2, hB 1 h3, hB 1 h4, hB 3 h5] [] (by kernel_rfl)
theorem t_value_scalar_5 (p0 : Val) (_H : H_value_scalar p0) (h0 : (p0.kind == 1) = false) (h1 : (p0.kind == 2) = false) (h2 : (p0.kind == 3) = false) (h3 : (p0.kind == 0) = false) (h4 : (p0.kind == 4) = false) : Tells G (c_value_scalar p0) (.ret (.bool (bif (p0.kind == 5) then
    bif (p0.n == 0) then
      bif (sEq p0.s (⟨#[]⟩ : ByteArray)) then
        true
      else
        false
    else
      false
  else
    false)) []) := by
  cases h5 : (p0.kind == 5) with
  | true =>
   cases h6 : (p0.n == 0) with
   | true =>
    cases h7 : (sEq p0.s (⟨#[]⟩ : ByteArray)) with
    | true =>
     exact tells_VI (fn := Ir.value_scalar) rfl VOK.nil [hB 4 h0, hB 1 h1, hB 1 h2, hB 1 h3, hB 1 h4, hB 1 h5, hB 3 h6, hB 3 h7] [] (by kernel_rfl)
    | false =>
     exact tells_VI (fn := Ir.value_scalar) rfl VOK.nil [hB 4 h0, hB 1 h1, hB 1 h2, hB 1 h3, hB 1 h4, hB 1 h5, hB 3 h6, hB 3 h7] [] (by kernel_rfl)
   | false =>
    exact tells_VI (fn := Ir.value_scalar) rfl VOK.nil [hB 4 h0, hB 1 h1, hB 1 h2, hB 1 h3, hB 1 h4, hB 1 h5, hB 3 h6] [] (by kernel_rfl)
  | false =>
   exact tells_VI (fn := Ir.value_scalar) rfl VOK.nil [hB 4 h0, hB 1 h1, hB 1 h2, hB 1 h3, hB 1 h4, hB 1 h5] [] (by kernel_rfl)
theorem t_value_scalar (p0 : Val) (H : H_value_scalar p0) : Tells G (c_value_scalar p0) (a_value_scalar p0) := by
  unfold a_value_scalar s_value_scalar
  cases h0 : (p0.kind == 1) with
  | true =>
   exact t_value_scalar_0 p0 H h0
  | false =>
   cases h1 : (p0.kind == 2) with
   | true =>
    exact t_value_scalar_1 p0 H h0 h1
   | false =>
    cases h2 : (p0.kind == 3) with
    | true =>
     exact t_value_scalar_2 p0 H h0 h1 h2
    | false =>
     cases h3 : (p0.kind == 0) with
     | true =>
      exact t_value_scalar_3 p0 H h0 h1 h2 h3
     | false =>
      cases h4 : (p0.kind == 4) with
      | true =>
       exact t_value_scalar_4 p0 H h0 h1 h2 h3 h4
      | false =>
       exact t_value_scalar_5 p0 H h0 h1 h2 h3 h4

inductive R_value_name_b0 where
  | k0
  | k1
def l_value_name_b0 (p0 : ByteArray) : List Int → Nat → R_value_name_b0
  | [], _i0 =>
    (.k0)
  | x0 :: r0, i0 =>
    bif (decide (97 ≤ x0)) then
      bif (decide (x0 ≤ 122)) then
        l_value_name_b0 p0 r0 (i0 + 1)
      else
        bif (decide (65 ≤ x0)) then
          bif (decide (x0 ≤ 90)) then
            l_value_name_b0 p0 r0 (i0 + 1)
          else
            bif (decide (48 ≤ x0)) then
              bif (decide (x0 ≤ 57)) then
                l_value_name_b0 p0 r0 (i0 + 1)
              else
                bif (x0 == 45) then
                  l_value_name_b0 p0 r0 (i0 + 1)
                else
                  bif (x0 == 95) then
                    l_value_name_b0 p0 r0 (i0 + 1)
                  else
                    bif (x0 == 47) then
                      l_value_name_b0 p0 r0 (i0 + 1)
                    else
                      (.k1)
            else
              bif (x0 == 45) then
                l_value_name_b0 p0 r0 (i0 + 1)
              else
                bif (x0 == 95) then
                  l_value_name_b0 p0 r0 (i0 + 1)
                else
                  bif (x0 == 47) then
                    l_value_name_b0 p0 r0 (i0 + 1)
                  else
                    (.k1)
        else
          bif (decide (48 ≤ x0)) then
            bif (decide (x0 ≤ 57)) then
              l_value_name_b0 p0 r0 (i0 + 1)
            else
              bif (x0 == 45) then
                l_value_name_b0 p0 r0 (i0 + 1)
              else
                bif (x0 == 95) then
                  l_value_name_b0 p0 r0 (i0 + 1)
                else
                  bif (x0 == 47) then
                    l_value_name_b0 p0 r0 (i0 + 1)
                  else
                    (.k1)
          else
            bif (x0 == 45) then
              l_value_name_b0 p0 r0 (i0 + 1)
            else
              bif (x0 == 95) then
                l_value_name_b0 p0 r0 (i0 + 1)
              else
                bif (x0 == 47) then
                  l_value_name_b0 p0 r0 (i0 + 1)
                else
                  (.k1)
    else
      bif (decide (65 ≤ x0)) then
        bif (decide (x0 ≤ 90)) then
          l_value_name_b0 p0 r0 (i0 + 1)
        else
          bif (decide (48 ≤ x0)) then
            bif (decide (x0 ≤ 57)) then
              l_value_name_b0 p0 r0 (i0 + 1)
            else
              bif (x0 == 45) then
                l_value_name_b0 p0 r0 (i0 + 1)
              else
                bif (x0 == 95) then
                  l_value_name_b0 p0 r0 (i0 + 1)
                else
                  bif (x0 == 47) then
                    l_value_name_b0 p0 r0 (i0 + 1)
                  else
                    (.k1)
          else
            bif (x0 == 45) then
              l_value_name_b0 p0 r0 (i0 + 1)
            else
              bif (x0 == 95) then
                l_value_name_b0 p0 r0 (i0 + 1)
              else
                bif (x0 == 47) then
                  l_value_name_b0 p0 r0 (i0 + 1)
                else
                  (.k1)
      else
        bif (decide (48 ≤ x0)) then
          bif (decide (x0 ≤ 57)) then
            l_value_name_b0 p0 r0 (i0 + 1)
          else
            bif (x0 == 45) then
              l_value_name_b0 p0 r0 (i0 + 1)
            else
              bif (x0 == 95) then
                l_value_name_b0 p0 r0 (i0 + 1)
              else
                bif (x0 == 47) then
                  l_value_name_b0 p0 r0 (i0 + 1)
                else
                  (.k1)
        else
          bif (x0 == 45) then
            l_value_name_b0 p0 r0 (i0 + 1)
          else
            bif (x0 == 95) then
              l_value_name_b0 p0 r0 (i0 + 1)
            else
              bif (x0 == 47) then
                l_value_name_b0 p0 r0 (i0 + 1)
              else
                (.k1)
def HE_value_name_b0 (p0 : ByteArray) (i0 : Nat) : List PV :=
  [.str p0, .un, .un, .un, .un, .un, .int .i64 (ByteArray.size p0 : Int), .int .i64 (i0 : Int), .un, .un, .un, .un, .un, .un, .un, .un, .un, .un, .un, .un, .un, .un, .un, .un, .un, .un, .un, .un, .un, .un, .un, .un, .un, .un, .un, .un, .un, .un, .un, .un, .un, .un, .un, .un, .un, .un, .un, .un, .un, .un, .un, .un, .un, .un, .un, .un, .un]
def HO_value_name_b0 (_p0 : ByteArray) (_i0 : Nat) : List Ob :=
  []
def E_value_name_b0 (p0 : ByteArray) (i0 : Nat) : En := .loop 0 Ir.value_name_b0_live Ir.value_name_b0 (HE_value_name_b0 p0 i0) (HO_value_name_b0 p0 i0)
def S_value_name_b0_0 (p0 : ByteArray) (z : Nat → PV) (_zo : Nat → List PV) : St :=
  ⟨[.str p0, z 1, z 2, z 3, z 4, z 5, z 6, z 7, z 8, z 9, z 10, z 11, z 12, z 13, z 14, z 15, z 16, z 17, z 18, z 19, z 20, z 21, z 22, z 23, z 24, z 25, z 26, z 27, z 28, z 29, z 30, z 31, z 32, z 33, z 34, z 35, z 36, z 37, z 38, z 39, z 40, z 41, z 42, z 43, z 44, z 45, z 46, z 47, z 48, z 49, z 50, z 51, z 52, z 53, z 54, z 55, z 56], [], 64⟩
def S_value_name_b0_1 (_p0 : ByteArray) (z : Nat → PV) (_zo : Nat → List PV) : St :=
  ⟨[z 0, z 1, .bool false, z 3, z 4, z 5, z 6, z 7, z 8, z 9, z 10, z 11, z 12, z 13, z 14, z 15, z 16, z 17, z 18, z 19, z 20, z 21, z 22, z 23, z 24, z 25, z 26, z 27, z 28, z 29, z 30, z 31, z 32, z 33, z 34, z 35, z 36, z 37, z 38, z 39, z 40, z 41, z 42, z 43, z 44, z 45, z 46, z 47, z 48, z 49, z 50, z 51, z 52, z 53, z 54, z 55, z 56], [], 2752⟩
def P_value_name_b0 (p0 : ByteArray) (e : En) : R_value_name_b0 → Prop
  | .k0 => ∃ z zo, Tells G e (.st (.exit 0) (S_value_name_b0_0 p0 z zo))
  | .k1 => ∃ z zo, Tells G e (.st .ret (S_value_name_b0_1 p0 z zo))
theorem P_value_name_b0_mono (p0 : ByteArray) {e e' : En} (h : ∀ r, Tells G e r → Tells G e' r) : ∀ q, P_value_name_b0 p0 e q → P_value_name_b0 p0 e' q
  | .k0, ⟨z, zo, hz⟩ => ⟨z, zo, h _ hz⟩
  | .k1, ⟨z, zo, hz⟩ => ⟨z, zo, h _ hz⟩
def H_value_name_b0 (p0 : ByteArray) : Prop := (List.length (letters p0) ≤ 4611686018427387904) ∧ True
def Z_value_name_b0_0 (p0 : ByteArray) (i0 : Nat) : List PV :=
  [.un, .un, .un, .un, .un, .un, .int .i64 (ByteArray.size p0 : Int), .int .i64 (i0 : Int), .bool false]
def ZO_value_name_b0_0 (_p0 : ByteArray) (_i0 : Nat) : List (Nat × List PV) :=
  []
theorem x_value_name_b0_0 (p0 : ByteArray) (_H : H_value_name_b0 p0) (i0 : Nat) (hc0 : (decide ((i0 : Int) < (ByteArray.size p0 : Int))) = false) : P_value_name_b0 p0 (E_value_name_b0 p0 i0) (.k0) := by
  exact ⟨(envF (Z_value_name_b0_0 p0 i0)), (zoF (ZO_value_name_b0_0 p0 i0)), tells_outVI VOK.nil (x := ((.exit 0), S_value_name_b0_0 p0 (envF (Z_value_name_b0_0 p0 i0)) (zoF (ZO_value_name_b0_0 p0 i0)))) [hB 0 hc0] [] (by kernel_rfl)⟩
theorem n_value_name_b0_1 (p0 : ByteArray) (H : H_value_name_b0 p0) (x0 : Int) (i0 : Nat) (hx0 : (letters p0)[i0]? = some x0) (hi0 : i0 < List.length (letters p0)) (hc0 : (decide ((i0 : Int) < (ByteArray.size p0 : Int))) = true) (h0 : (decide (97 ≤ x0)) = true) (h1 : (decide (x0 ≤ 122)) = true) {r : Rs} (hr : Tells G (E_value_name_b0 p0 (i0 + 1)) r) : Tells G (E_value_name_b0 p0 i0) r := by
  have hB0 := H.1; have e0 := of_decide_eq_true h0; have e1 := of_decide_eq_true h1
  exact tells_nextVI VOK.nil (y := (HE_value_name_b0 p0 (i0 + 1), HO_value_name_b0 p0 (i0 + 1))) [hB 0 hc0, hP 4 (six_ok p0 i0 x0 hx0), hB 2 h0, hB 2 h1, hP 30 (inc_ok i0 (by omega))] [] (by kernel_rfl) hr
theorem n_value_name_b0_2 (p0 : ByteArray) (H : H_value_name_b0 p0) (x0 : Int) (i0 : Nat) (hx0 : (letters p0)[i0]? = some x0) (_hi0 : i0 < List.length (letters p0)) (hc0 : (decide ((i0 : Int) < (ByteArray.size p0 : Int))) = true) (h0 : (decide (97 ≤ x0)) = true) (h1 : (decide (x0 ≤ 122)) = false) (h2 : (decide (65 ≤ x0)) = true) (h3 : (decide (x0 ≤ 90)) = true) {r : Rs} (hr : Tells G (E_value_name_b0 p0 (i0 + 1)) r) : Tells G (E_value_name_b0 p0 i0) r := by
  have hB0 := H.1; have e0 := of_decide_eq_true h0; have e1 := of_decide_eq_false h1; have e2 := of_decide_eq_true h2; have e3 := of_decide_eq_true h3
  exact tells_nextVI VOK.nil (y := (HE_value_name_b0 p0 (i0 + 1), HO_value_name_b0 p0 (i0 + 1))) [hB 0 hc0, hP 4 (six_ok p0 i0 x0 hx0), hB 2 h0, hB 2 h1, hB 3 h2, hB 2 h3, hP 23 (inc_ok i0 (by omega))] [] (by kernel_rfl) hr
theorem n_value_name_b0_3 (p0 : ByteArray) (H : H_value_name_b0 p0) (x0 : Int) (i0 : Nat) (hx0 : (letters p0)[i0]? = some x0) (_hi0 : i0 < List.length (letters p0)) (hc0 : (decide ((i0 : Int) < (ByteArray.size p0 : Int))) = true) (h0 : (decide (97 ≤ x0)) = true) (h1 : (decide (x0 ≤ 122)) = false) (h2 : (decide (65 ≤ x0)) = true) (h3 : (decide (x0 ≤ 90)) = false) (h4 : (decide (48 ≤ x0)) = true) (h5 : (decide (x0 ≤ 57)) = true) {r : Rs} (hr : Tells G (E_value_name_b0 p0 (i0 + 1)) r) : Tells G (E_value_name_b0 p0 i0) r := by
  have hB0 := H.1; have e0 := of_decide_eq_true h0; have e1 := of_decide_eq_false h1; have e2 := of_decide_eq_true h2; have e3 := of_decide_eq_false h3; have e4 := of_decide_eq_true h4; have e5 := of_decide_eq_true h5
  exact tells_nextVI VOK.nil (y := (HE_value_name_b0 p0 (i0 + 1), HO_value_name_b0 p0 (i0 + 1))) [hB 0 hc0, hP 4 (six_ok p0 i0 x0 hx0), hB 2 h0, hB 2 h1, hB 3 h2, hB 2 h3, hB 4 h4, hB 2 h5, hP 15 (inc_ok i0 (by omega))] [] (by kernel_rfl) hr
theorem n_value_name_b0_4 (p0 : ByteArray) (H : H_value_name_b0 p0) (x0 : Int) (i0 : Nat) (hx0 : (letters p0)[i0]? = some x0) (_hi0 : i0 < List.length (letters p0)) (hc0 : (decide ((i0 : Int) < (ByteArray.size p0 : Int))) = true) (h0 : (decide (97 ≤ x0)) = true) (h1 : (decide (x0 ≤ 122)) = false) (h2 : (decide (65 ≤ x0)) = true) (h3 : (decide (x0 ≤ 90)) = false) (h4 : (decide (48 ≤ x0)) = true) (h5 : (decide (x0 ≤ 57)) = false) (h6 : (x0 == 45) = true) {r : Rs} (hr : Tells G (E_value_name_b0 p0 (i0 + 1)) r) : Tells G (E_value_name_b0 p0 i0) r := by
  have hB0 := H.1; have e0 := of_decide_eq_true h0; have e1 := of_decide_eq_false h1; have e2 := of_decide_eq_true h2; have e3 := of_decide_eq_false h3; have e4 := of_decide_eq_true h4; have e5 := of_decide_eq_false h5; have e6 := eq_of_beq h6
  exact tells_nextVI VOK.nil (y := (HE_value_name_b0 p0 (i0 + 1), HO_value_name_b0 p0 (i0 + 1))) [hB 0 hc0, hP 4 (six_ok p0 i0 x0 hx0), hB 2 h0, hB 2 h1, hB 3 h2, hB 2 h3, hB 4 h4, hB 2 h5, hB 4 h6, hP 10 (inc_ok i0 (by omega))] [] (by kernel_rfl) hr
theorem n_value_name_b0_5 (p0 : ByteArray) (H : H_value_name_b0 p0) (x0 : Int) (i0 : Nat) (hx0 : (letters p0)[i0]? = some x0) (_hi0 : i0 < List.length (letters p0)) (hc0 : (decide ((i0 : Int) < (ByteArray.size p0 : Int))) = true) (h0 : (decide (97 ≤ x0)) = true) (h1 : (decide (x0 ≤ 122)) = false) (h2 : (decide (65 ≤ x0)) = true) (h3 : (decide (x0 ≤ 90)) = false) (h4 : (decide (48 ≤ x0)) = true) (h5 : (decide (x0 ≤ 57)) = false) (h6 : (x0 == 45) = false) (h7 : (x0 == 95) = true) {r : Rs} (hr : Tells G (E_value_name_b0 p0 (i0 + 1)) r) : Tells G (E_value_name_b0 p0 i0) r := by
  have hB0 := H.1; have e0 := of_decide_eq_true h0; have e1 := of_decide_eq_false h1; have e2 := of_decide_eq_true h2; have e3 := of_decide_eq_false h3; have e4 := of_decide_eq_true h4; have e5 := of_decide_eq_false h5; have e6 := beq_eq_false_iff_ne.1 h6; have e7 := eq_of_beq h7
  exact tells_nextVI VOK.nil (y := (HE_value_name_b0 p0 (i0 + 1), HO_value_name_b0 p0 (i0 + 1))) [hB 0 hc0, hP 4 (six_ok p0 i0 x0 hx0), hB 2 h0, hB 2 h1, hB 3 h2, hB 2 h3, hB 4 h4, hB 2 h5, hB 4 h6, hB 3 h7, hP 6 (inc_ok i0 (by omega))] [] (by kernel_rfl) hr
theorem n_value_name_b0_6 (p0 : ByteArray) (H : H_value_name_b0 p0) (x0 : Int) (i0 : Nat) (hx0 : (letters p0)[i0]? = some x0) (_hi0 : i0 < List.length (letters p0)) (hc0 : (decide ((i0 : Int) < (ByteArray.size p0 : Int))) = true) (h0 : (decide (97 ≤ x0)) = true) (h1 : (decide (x0 ≤ 122)) = false) (h2 : (decide (65 ≤ x0)) = true) (h3 : (decide (x0 ≤ 90)) = false) (h4 : (decide (48 ≤ x0)) = true) (h5 : (decide (x0 ≤ 57)) = false) (h6 : (x0 == 45) = false) (h7 : (x0 == 95) = false) (h8 : (x0 == 47) = true) {r : Rs} (hr : Tells G (E_value_name_b0 p0 (i0 + 1)) r) : Tells G (E_value_name_b0 p0 i0) r := by
  have hB0 := H.1; have e0 := of_decide_eq_true h0; have e1 := of_decide_eq_false h1; have e2 := of_decide_eq_true h2; have e3 := of_decide_eq_false h3; have e4 := of_decide_eq_true h4; have e5 := of_decide_eq_false h5; have e6 := beq_eq_false_iff_ne.1 h6; have e7 := beq_eq_false_iff_ne.1 h7; have e8 := eq_of_beq h8
  exact tells_nextVI VOK.nil (y := (HE_value_name_b0 p0 (i0 + 1), HO_value_name_b0 p0 (i0 + 1))) [hB 0 hc0, hP 4 (six_ok p0 i0 x0 hx0), hB 2 h0, hB 2 h1, hB 3 h2, hB 2 h3, hB 4 h4, hB 2 h5, hB 4 h6, hB 3 h7, hB 3 h8, hP 2 (inc_ok i0 (by omega))] [] (by kernel_rfl) hr
def Z_value_name_b0_7 (p0 : ByteArray) (i0 : Nat) (x0 : Int) : List PV :=
  [.str p0, .un, .un, .int .i64 (i0 : Int), .int .u8 x0, .un, .int .i64 (ByteArray.size p0 : Int), .int .i64 (i0 : Int), .bool true, .int .i64 (i0 : Int), .str p0, .int .i64 (i0 : Int), .int .u8 x0, .int .u8 x0, .bool true, .bool true, .int .u8 x0, .bool false, .bool false, .bool false, .int .u8 x0, .bool true, .bool true, .int .u8 x0, .bool false, .bool false, .bool false, .bool false, .int .u8 x0, .bool true, .bool true, .int .u8 x0, .bool false, .bool false, .bool false, .bool false, .int .u8 x0, .bool false, .bool false, .bool false, .int .u8 x0, .bool false, .bool false, .bool false, .int .u8 x0, .bool false, .bool false, .bool true]
def ZO_value_name_b0_7 (_p0 : ByteArray) (_i0 : Nat) (_x0 : Int) : List (Nat × List PV) :=
  []
theorem x_value_name_b0_7 (p0 : ByteArray) (_H : H_value_name_b0 p0) (x0 : Int) (i0 : Nat) (hx0 : (letters p0)[i0]? = some x0) (_hi0 : i0 < List.length (letters p0)) (hc0 : (decide ((i0 : Int) < (ByteArray.size p0 : Int))) = true) (h0 : (decide (97 ≤ x0)) = true) (h1 : (decide (x0 ≤ 122)) = false) (h2 : (decide (65 ≤ x0)) = true) (h3 : (decide (x0 ≤ 90)) = false) (h4 : (decide (48 ≤ x0)) = true) (h5 : (decide (x0 ≤ 57)) = false) (h6 : (x0 == 45) = false) (h7 : (x0 == 95) = false) (h8 : (x0 == 47) = false) : P_value_name_b0 p0 (E_value_name_b0 p0 i0) (.k1) := by
  exact ⟨(envF (Z_value_name_b0_7 p0 i0 x0)), (zoF (ZO_value_name_b0_7 p0 i0 x0)), tells_outVI VOK.nil (x := (.ret, S_value_name_b0_1 p0 (envF (Z_value_name_b0_7 p0 i0 x0)) (zoF (ZO_value_name_b0_7 p0 i0 x0)))) [hB 0 hc0, hP 4 (six_ok p0 i0 x0 hx0), hB 2 h0, hB 2 h1, hB 3 h2, hB 2 h3, hB 4 h4, hB 2 h5, hB 4 h6, hB 3 h7, hB 3 h8] [] (by kernel_rfl)⟩
theorem n_value_name_b0_8 (p0 : ByteArray) (H : H_value_name_b0 p0) (x0 : Int) (i0 : Nat) (hx0 : (letters p0)[i0]? = some x0) (_hi0 : i0 < List.length (letters p0)) (hc0 : (decide ((i0 : Int) < (ByteArray.size p0 : Int))) = true) (h0 : (decide (97 ≤ x0)) = true) (h1 : (decide (x0 ≤ 122)) = false) (h2 : (decide (65 ≤ x0)) = true) (h3 : (decide (x0 ≤ 90)) = false) (h4 : (decide (48 ≤ x0)) = false) (h5 : (x0 == 45) = true) {r : Rs} (hr : Tells G (E_value_name_b0 p0 (i0 + 1)) r) : Tells G (E_value_name_b0 p0 i0) r := by
  have hB0 := H.1; have e0 := of_decide_eq_true h0; have e1 := of_decide_eq_false h1; have e2 := of_decide_eq_true h2; have e3 := of_decide_eq_false h3; have e4 := of_decide_eq_false h4; have e5 := eq_of_beq h5
  exact tells_nextVI VOK.nil (y := (HE_value_name_b0 p0 (i0 + 1), HO_value_name_b0 p0 (i0 + 1))) [hB 0 hc0, hP 4 (six_ok p0 i0 x0 hx0), hB 2 h0, hB 2 h1, hB 3 h2, hB 2 h3, hB 4 h4, hB 7 h5, hP 10 (inc_ok i0 (by omega))] [] (by kernel_rfl) hr
theorem n_value_name_b0_9 (p0 : ByteArray) (H : H_value_name_b0 p0) (x0 : Int) (i0 : Nat) (hx0 : (letters p0)[i0]? = some x0) (_hi0 : i0 < List.length (letters p0)) (hc0 : (decide ((i0 : Int) < (ByteArray.size p0 : Int))) = true) (h0 : (decide (97 ≤ x0)) = true) (h1 : (decide (x0 ≤ 122)) = false) (h2 : (decide (65 ≤ x0)) = true) (h3 : (decide (x0 ≤ 90)) = false) (h4 : (decide (48 ≤ x0)) = false) (h5 : (x0 == 45) = false) (h6 : (x0 == 95) = true) {r : Rs} (hr : Tells G (E_value_name_b0 p0 (i0 + 1)) r) : Tells G (E_value_name_b0 p0 i0) r := by
  have hB0 := H.1; have e0 := of_decide_eq_true h0; have e1 := of_decide_eq_false h1; have e2 := of_decide_eq_true h2; have e3 := of_decide_eq_false h3; have e4 := of_decide_eq_false h4; have e5 := beq_eq_false_iff_ne.1 h5; have e6 := eq_of_beq h6
  exact tells_nextVI VOK.nil (y := (HE_value_name_b0 p0 (i0 + 1), HO_value_name_b0 p0 (i0 + 1))) [hB 0 hc0, hP 4 (six_ok p0 i0 x0 hx0), hB 2 h0, hB 2 h1, hB 3 h2, hB 2 h3, hB 4 h4, hB 7 h5, hB 3 h6, hP 6 (inc_ok i0 (by omega))] [] (by kernel_rfl) hr
theorem n_value_name_b0_10 (p0 : ByteArray) (H : H_value_name_b0 p0) (x0 : Int) (i0 : Nat) (hx0 : (letters p0)[i0]? = some x0) (_hi0 : i0 < List.length (letters p0)) (hc0 : (decide ((i0 : Int) < (ByteArray.size p0 : Int))) = true) (h0 : (decide (97 ≤ x0)) = true) (h1 : (decide (x0 ≤ 122)) = false) (h2 : (decide (65 ≤ x0)) = true) (h3 : (decide (x0 ≤ 90)) = false) (h4 : (decide (48 ≤ x0)) = false) (h5 : (x0 == 45) = false) (h6 : (x0 == 95) = false) (h7 : (x0 == 47) = true) {r : Rs} (hr : Tells G (E_value_name_b0 p0 (i0 + 1)) r) : Tells G (E_value_name_b0 p0 i0) r := by
  have hB0 := H.1; have e0 := of_decide_eq_true h0; have e1 := of_decide_eq_false h1; have e2 := of_decide_eq_true h2; have e3 := of_decide_eq_false h3; have e4 := of_decide_eq_false h4; have e5 := beq_eq_false_iff_ne.1 h5; have e6 := beq_eq_false_iff_ne.1 h6; have e7 := eq_of_beq h7
  exact tells_nextVI VOK.nil (y := (HE_value_name_b0 p0 (i0 + 1), HO_value_name_b0 p0 (i0 + 1))) [hB 0 hc0, hP 4 (six_ok p0 i0 x0 hx0), hB 2 h0, hB 2 h1, hB 3 h2, hB 2 h3, hB 4 h4, hB 7 h5, hB 3 h6, hB 3 h7, hP 2 (inc_ok i0 (by omega))] [] (by kernel_rfl) hr
def Z_value_name_b0_11 (p0 : ByteArray) (i0 : Nat) (x0 : Int) : List PV :=
  [.str p0, .un, .un, .int .i64 (i0 : Int), .int .u8 x0, .un, .int .i64 (ByteArray.size p0 : Int), .int .i64 (i0 : Int), .bool true, .int .i64 (i0 : Int), .str p0, .int .i64 (i0 : Int), .int .u8 x0, .int .u8 x0, .bool true, .bool true, .int .u8 x0, .bool false, .bool false, .bool false, .int .u8 x0, .bool true, .bool true, .int .u8 x0, .bool false, .bool false, .bool false, .bool false, .int .u8 x0, .bool false, .bool false, .tup [], .tup [], .bool false, .bool false, .bool false, .int .u8 x0, .bool false, .bool false, .bool false, .int .u8 x0, .bool false, .bool false, .bool false, .int .u8 x0, .bool false, .bool false, .bool true]
def ZO_value_name_b0_11 (_p0 : ByteArray) (_i0 : Nat) (_x0 : Int) : List (Nat × List PV) :=
  []
theorem x_value_name_b0_11 (p0 : ByteArray) (_H : H_value_name_b0 p0) (x0 : Int) (i0 : Nat) (hx0 : (letters p0)[i0]? = some x0) (_hi0 : i0 < List.length (letters p0)) (hc0 : (decide ((i0 : Int) < (ByteArray.size p0 : Int))) = true) (h0 : (decide (97 ≤ x0)) = true) (h1 : (decide (x0 ≤ 122)) = false) (h2 : (decide (65 ≤ x0)) = true) (h3 : (decide (x0 ≤ 90)) = false) (h4 : (decide (48 ≤ x0)) = false) (h5 : (x0 == 45) = false) (h6 : (x0 == 95) = false) (h7 : (x0 == 47) = false) : P_value_name_b0 p0 (E_value_name_b0 p0 i0) (.k1) := by
  exact ⟨(envF (Z_value_name_b0_11 p0 i0 x0)), (zoF (ZO_value_name_b0_11 p0 i0 x0)), tells_outVI VOK.nil (x := (.ret, S_value_name_b0_1 p0 (envF (Z_value_name_b0_11 p0 i0 x0)) (zoF (ZO_value_name_b0_11 p0 i0 x0)))) [hB 0 hc0, hP 4 (six_ok p0 i0 x0 hx0), hB 2 h0, hB 2 h1, hB 3 h2, hB 2 h3, hB 4 h4, hB 7 h5, hB 3 h6, hB 3 h7] [] (by kernel_rfl)⟩
theorem n_value_name_b0_12 (p0 : ByteArray) (H : H_value_name_b0 p0) (x0 : Int) (i0 : Nat) (hx0 : (letters p0)[i0]? = some x0) (_hi0 : i0 < List.length (letters p0)) (hc0 : (decide ((i0 : Int) < (ByteArray.size p0 : Int))) = true) (h0 : (decide (97 ≤ x0)) = true) (h1 : (decide (x0 ≤ 122)) = false) (h2 : (decide (65 ≤ x0)) = false) (h3 : (decide (48 ≤ x0)) = true) (h4 : (decide (x0 ≤ 57)) = true) {r : Rs} (hr : Tells G (E_value_name_b0 p0 (i0 + 1)) r) : Tells G (E_value_name_b0 p0 i0) r := by
  have hB0 := H.1; have e0 := of_decide_eq_true h0; have e1 := of_decide_eq_false h1; have e2 := of_decide_eq_false h2; have e3 := of_decide_eq_true h3; have e4 := of_decide_eq_true h4
  exact tells_nextVI VOK.nil (y := (HE_value_name_b0 p0 (i0 + 1), HO_value_name_b0 p0 (i0 + 1))) [hB 0 hc0, hP 4 (six_ok p0 i0 x0 hx0), hB 2 h0, hB 2 h1, hB 3 h2, hB 7 h3, hB 2 h4, hP 15 (inc_ok i0 (by omega))] [] (by kernel_rfl) hr
theorem n_value_name_b0_13 (p0 : ByteArray) (H : H_value_name_b0 p0) (x0 : Int) (i0 : Nat) (hx0 : (letters p0)[i0]? = some x0) (_hi0 : i0 < List.length (letters p0)) (hc0 : (decide ((i0 : Int) < (ByteArray.size p0 : Int))) = true) (h0 : (decide (97 ≤ x0)) = true) (h1 : (decide (x0 ≤ 122)) = false) (h2 : (decide (65 ≤ x0)) = false) (h3 : (decide (48 ≤ x0)) = true) (h4 : (decide (x0 ≤ 57)) = false) (h5 : (x0 == 45) = true) {r : Rs} (hr : Tells G (E_value_name_b0 p0 (i0 + 1)) r) : Tells G (E_value_name_b0 p0 i0) r := by
  have hB0 := H.1; have e0 := of_decide_eq_true h0; have e1 := of_decide_eq_false h1; have e2 := of_decide_eq_false h2; have e3 := of_decide_eq_true h3; have e4 := of_decide_eq_false h4; have e5 := eq_of_beq h5
  exact tells_nextVI VOK.nil (y := (HE_value_name_b0 p0 (i0 + 1), HO_value_name_b0 p0 (i0 + 1))) [hB 0 hc0, hP 4 (six_ok p0 i0 x0 hx0), hB 2 h0, hB 2 h1, hB 3 h2, hB 7 h3, hB 2 h4, hB 4 h5, hP 10 (inc_ok i0 (by omega))] [] (by kernel_rfl) hr
theorem n_value_name_b0_14 (p0 : ByteArray) (H : H_value_name_b0 p0) (x0 : Int) (i0 : Nat) (hx0 : (letters p0)[i0]? = some x0) (_hi0 : i0 < List.length (letters p0)) (hc0 : (decide ((i0 : Int) < (ByteArray.size p0 : Int))) = true) (h0 : (decide (97 ≤ x0)) = true) (h1 : (decide (x0 ≤ 122)) = false) (h2 : (decide (65 ≤ x0)) = false) (h3 : (decide (48 ≤ x0)) = true) (h4 : (decide (x0 ≤ 57)) = false) (h5 : (x0 == 45) = false) (h6 : (x0 == 95) = true) {r : Rs} (hr : Tells G (E_value_name_b0 p0 (i0 + 1)) r) : Tells G (E_value_name_b0 p0 i0) r := by
  have hB0 := H.1; have e0 := of_decide_eq_true h0; have e1 := of_decide_eq_false h1; have e2 := of_decide_eq_false h2; have e3 := of_decide_eq_true h3; have e4 := of_decide_eq_false h4; have e5 := beq_eq_false_iff_ne.1 h5; have e6 := eq_of_beq h6
  exact tells_nextVI VOK.nil (y := (HE_value_name_b0 p0 (i0 + 1), HO_value_name_b0 p0 (i0 + 1))) [hB 0 hc0, hP 4 (six_ok p0 i0 x0 hx0), hB 2 h0, hB 2 h1, hB 3 h2, hB 7 h3, hB 2 h4, hB 4 h5, hB 3 h6, hP 6 (inc_ok i0 (by omega))] [] (by kernel_rfl) hr
theorem n_value_name_b0_15 (p0 : ByteArray) (H : H_value_name_b0 p0) (x0 : Int) (i0 : Nat) (hx0 : (letters p0)[i0]? = some x0) (_hi0 : i0 < List.length (letters p0)) (hc0 : (decide ((i0 : Int) < (ByteArray.size p0 : Int))) = true) (h0 : (decide (97 ≤ x0)) = true) (h1 : (decide (x0 ≤ 122)) = false) (h2 : (decide (65 ≤ x0)) = false) (h3 : (decide (48 ≤ x0)) = true) (h4 : (decide (x0 ≤ 57)) = false) (h5 : (x0 == 45) = false) (h6 : (x0 == 95) = false) (h7 : (x0 == 47) = true) {r : Rs} (hr : Tells G (E_value_name_b0 p0 (i0 + 1)) r) : Tells G (E_value_name_b0 p0 i0) r := by
  have hB0 := H.1; have e0 := of_decide_eq_true h0; have e1 := of_decide_eq_false h1; have e2 := of_decide_eq_false h2; have e3 := of_decide_eq_true h3; have e4 := of_decide_eq_false h4; have e5 := beq_eq_false_iff_ne.1 h5; have e6 := beq_eq_false_iff_ne.1 h6; have e7 := eq_of_beq h7
  exact tells_nextVI VOK.nil (y := (HE_value_name_b0 p0 (i0 + 1), HO_value_name_b0 p0 (i0 + 1))) [hB 0 hc0, hP 4 (six_ok p0 i0 x0 hx0), hB 2 h0, hB 2 h1, hB 3 h2, hB 7 h3, hB 2 h4, hB 4 h5, hB 3 h6, hB 3 h7, hP 2 (inc_ok i0 (by omega))] [] (by kernel_rfl) hr
def Z_value_name_b0_16 (p0 : ByteArray) (i0 : Nat) (x0 : Int) : List PV :=
  [.str p0, .un, .un, .int .i64 (i0 : Int), .int .u8 x0, .un, .int .i64 (ByteArray.size p0 : Int), .int .i64 (i0 : Int), .bool true, .int .i64 (i0 : Int), .str p0, .int .i64 (i0 : Int), .int .u8 x0, .int .u8 x0, .bool true, .bool true, .int .u8 x0, .bool false, .bool false, .bool false, .int .u8 x0, .bool false, .bool false, .tup [], .tup [], .bool false, .bool false, .bool false, .int .u8 x0, .bool true, .bool true, .int .u8 x0, .bool false, .bool false, .bool false, .bool false, .int .u8 x0, .bool false, .bool false, .bool false, .int .u8 x0, .bool false, .bool false, .bool false, .int .u8 x0, .bool false, .bool false, .bool true]
def ZO_value_name_b0_16 (_p0 : ByteArray) (_i0 : Nat) (_x0 : Int) : List (Nat × List PV) :=
  []
theorem x_value_name_b0_16 (p0 : ByteArray) (_H : H_value_name_b0 p0) (x0 : Int) (i0 : Nat) (hx0 : (letters p0)[i0]? = some x0) (_hi0 : i0 < List.length (letters p0)) (hc0 : (decide ((i0 : Int) < (ByteArray.size p0 : Int))) = true) (h0 : (decide (97 ≤ x0)) = true) (h1 : (decide (x0 ≤ 122)) = false) (h2 : (decide (65 ≤ x0)) = false) (h3 : (decide (48 ≤ x0)) = true) (h4 : (decide (x0 ≤ 57)) = false) (h5 : (x0 == 45) = false) (h6 : (x0 == 95) = false) (h7 : (x0 == 47) = false) : P_value_name_b0 p0 (E_value_name_b0 p0 i0) (.k1) := by
  exact ⟨(envF (Z_value_name_b0_16 p0 i0 x0)), (zoF (ZO_value_name_b0_16 p0 i0 x0)), tells_outVI VOK.nil (x := (.ret, S_value_name_b0_1 p0 (envF (Z_value_name_b0_16 p0 i0 x0)) (zoF (ZO_value_name_b0_16 p0 i0 x0)))) [hB 0 hc0, hP 4 (six_ok p0 i0 x0 hx0), hB 2 h0, hB 2 h1, hB 3 h2, hB 7 h3, hB 2 h4, hB 4 h5, hB 3 h6, hB 3 h7] [] (by kernel_rfl)⟩
theorem n_value_name_b0_17 (p0 : ByteArray) (H : H_value_name_b0 p0) (x0 : Int) (i0 : Nat) (hx0 : (letters p0)[i0]? = some x0) (_hi0 : i0 < List.length (letters p0)) (hc0 : (decide ((i0 : Int) < (ByteArray.size p0 : Int))) = true) (h0 : (decide (97 ≤ x0)) = true) (h1 : (decide (x0 ≤ 122)) = false) (h2 : (decide (65 ≤ x0)) = false) (h3 : (decide (48 ≤ x0)) = false) (h4 : (x0 == 45) = true) {r : Rs} (hr : Tells G (E_value_name_b0 p0 (i0 + 1)) r) : Tells G (E_value_name_b0 p0 i0) r := by
  have hB0 := H.1; have e0 := of_decide_eq_true h0; have e1 := of_decide_eq_false h1; have e2 := of_decide_eq_false h2; have e3 := of_decide_eq_false h3; have e4 := eq_of_beq h4
  exact tells_nextVI VOK.nil (y := (HE_value_name_b0 p0 (i0 + 1), HO_value_name_b0 p0 (i0 + 1))) [hB 0 hc0, hP 4 (six_ok p0 i0 x0 hx0), hB 2 h0, hB 2 h1, hB 3 h2, hB 7 h3, hB 7 h4, hP 10 (inc_ok i0 (by omega))] [] (by kernel_rfl) hr
theorem n_value_name_b0_18 (p0 : ByteArray) (H : H_value_name_b0 p0) (x0 : Int) (i0 : Nat) (hx0 : (letters p0)[i0]? = some x0) (_hi0 : i0 < List.length (letters p0)) (hc0 : (decide ((i0 : Int) < (ByteArray.size p0 : Int))) = true) (h0 : (decide (97 ≤ x0)) = true) (h1 : (decide (x0 ≤ 122)) = false) (h2 : (decide (65 ≤ x0)) = false) (h3 : (decide (48 ≤ x0)) = false) (h4 : (x0 == 45) = false) (h5 : (x0 == 95) = true) {r : Rs} (hr : Tells G (E_value_name_b0 p0 (i0 + 1)) r) : Tells G (E_value_name_b0 p0 i0) r := by
  have hB0 := H.1; have e0 := of_decide_eq_true h0; have e1 := of_decide_eq_false h1; have e2 := of_decide_eq_false h2; have e3 := of_decide_eq_false h3; have e4 := beq_eq_false_iff_ne.1 h4; have e5 := eq_of_beq h5
  exact tells_nextVI VOK.nil (y := (HE_value_name_b0 p0 (i0 + 1), HO_value_name_b0 p0 (i0 + 1))) [hB 0 hc0, hP 4 (six_ok p0 i0 x0 hx0), hB 2 h0, hB 2 h1, hB 3 h2, hB 7 h3, hB 7 h4, hB 3 h5, hP 6 (inc_ok i0 (by omega))] [] (by kernel_rfl) hr
theorem n_value_name_b0_19 (p0 : ByteArray) (H : H_value_name_b0 p0) (x0 : Int) (i0 : Nat) (hx0 : (letters p0)[i0]? = some x0) (_hi0 : i0 < List.length (letters p0)) (hc0 : (decide ((i0 : Int) < (ByteArray.size p0 : Int))) = true) (h0 : (decide (97 ≤ x0)) = true) (h1 : (decide (x0 ≤ 122)) = false) (h2 : (decide (65 ≤ x0)) = false) (h3 : (decide (48 ≤ x0)) = false) (h4 : (x0 == 45) = false) (h5 : (x0 == 95) = false) (h6 : (x0 == 47) = true) {r : Rs} (hr : Tells G (E_value_name_b0 p0 (i0 + 1)) r) : Tells G (E_value_name_b0 p0 i0) r := by
  have hB0 := H.1; have e0 := of_decide_eq_true h0; have e1 := of_decide_eq_false h1; have e2 := of_decide_eq_false h2; have e3 := of_decide_eq_false h3; have e4 := beq_eq_false_iff_ne.1 h4; have e5 := beq_eq_false_iff_ne.1 h5; have e6 := eq_of_beq h6
  exact tells_nextVI VOK.nil (y := (HE_value_name_b0 p0 (i0 + 1), HO_value_name_b0 p0 (i0 + 1))) [hB 0 hc0, hP 4 (six_ok p0 i0 x0 hx0), hB 2 h0, hB 2 h1, hB 3 h2, hB 7 h3, hB 7 h4, hB 3 h5, hB 3 h6, hP 2 (inc_ok i0 (by omega))] [] (by kernel_rfl) hr
def Z_value_name_b0_20 (p0 : ByteArray) (i0 : Nat) (x0 : Int) : List PV :=
  [.str p0, .un, .un, .int .i64 (i0 : Int), .int .u8 x0, .un, .int .i64 (ByteArray.size p0 : Int), .int .i64 (i0 : Int), .bool true, .int .i64 (i0 : Int), .str p0, .int .i64 (i0 : Int), .int .u8 x0, .int .u8 x0, .bool true, .bool true, .int .u8 x0, .bool false, .bool false, .bool false, .int .u8 x0, .bool false, .bool false, .tup [], .tup [], .bool false, .bool false, .bool false, .int .u8 x0, .bool false, .bool false, .tup [], .tup [], .bool false, .bool false, .bool false, .int .u8 x0, .bool false, .bool false, .bool false, .int .u8 x0, .bool false, .bool false, .bool false, .int .u8 x0, .bool false, .bool false, .bool true]
def ZO_value_name_b0_20 (_p0 : ByteArray) (_i0 : Nat) (_x0 : Int) : List (Nat × List PV) :=
  []
theorem x_value_name_b0_20 (p0 : ByteArray) (_H : H_value_name_b0 p0) (x0 : Int) (i0 : Nat) (hx0 : (letters p0)[i0]? = some x0) (_hi0 : i0 < List.length (letters p0)) (hc0 : (decide ((i0 : Int) < (ByteArray.size p0 : Int))) = true) (h0 : (decide (97 ≤ x0)) = true) (h1 : (decide (x0 ≤ 122)) = false) (h2 : (decide (65 ≤ x0)) = false) (h3 : (decide (48 ≤ x0)) = false) (h4 : (x0 == 45) = false) (h5 : (x0 == 95) = false) (h6 : (x0 == 47) = false) : P_value_name_b0 p0 (E_value_name_b0 p0 i0) (.k1) := by
  exact ⟨(envF (Z_value_name_b0_20 p0 i0 x0)), (zoF (ZO_value_name_b0_20 p0 i0 x0)), tells_outVI VOK.nil (x := (.ret, S_value_name_b0_1 p0 (envF (Z_value_name_b0_20 p0 i0 x0)) (zoF (ZO_value_name_b0_20 p0 i0 x0)))) [hB 0 hc0, hP 4 (six_ok p0 i0 x0 hx0), hB 2 h0, hB 2 h1, hB 3 h2, hB 7 h3, hB 7 h4, hB 3 h5, hB 3 h6] [] (by kernel_rfl)⟩
theorem n_value_name_b0_21 (p0 : ByteArray) (H : H_value_name_b0 p0) (x0 : Int) (i0 : Nat) (hx0 : (letters p0)[i0]? = some x0) (hi0 : i0 < List.length (letters p0)) (hc0 : (decide ((i0 : Int) < (ByteArray.size p0 : Int))) = true) (h0 : (decide (97 ≤ x0)) = false) (h1 : (decide (65 ≤ x0)) = true) (h2 : (decide (x0 ≤ 90)) = true) {r : Rs} (hr : Tells G (E_value_name_b0 p0 (i0 + 1)) r) : Tells G (E_value_name_b0 p0 i0) r := by
  have hB0 := H.1; have e0 := of_decide_eq_false h0; have e1 := of_decide_eq_true h1; have e2 := of_decide_eq_true h2
  exact tells_nextVI VOK.nil (y := (HE_value_name_b0 p0 (i0 + 1), HO_value_name_b0 p0 (i0 + 1))) [hB 0 hc0, hP 4 (six_ok p0 i0 x0 hx0), hB 2 h0, hB 6 h1, hB 2 h2, hP 23 (inc_ok i0 (by omega))] [] (by kernel_rfl) hr
theorem n_value_name_b0_22 (p0 : ByteArray) (H : H_value_name_b0 p0) (x0 : Int) (i0 : Nat) (hx0 : (letters p0)[i0]? = some x0) (_hi0 : i0 < List.length (letters p0)) (hc0 : (decide ((i0 : Int) < (ByteArray.size p0 : Int))) = true) (h0 : (decide (97 ≤ x0)) = false) (h1 : (decide (65 ≤ x0)) = true) (h2 : (decide (x0 ≤ 90)) = false) (h3 : (decide (48 ≤ x0)) = true) (h4 : (decide (x0 ≤ 57)) = true) {r : Rs} (hr : Tells G (E_value_name_b0 p0 (i0 + 1)) r) : Tells G (E_value_name_b0 p0 i0) r := by
  have hB0 := H.1; have e0 := of_decide_eq_false h0; have e1 := of_decide_eq_true h1; have e2 := of_decide_eq_false h2; have e3 := of_decide_eq_true h3; have e4 := of_decide_eq_true h4
  exact tells_nextVI VOK.nil (y := (HE_value_name_b0 p0 (i0 + 1), HO_value_name_b0 p0 (i0 + 1))) [hB 0 hc0, hP 4 (six_ok p0 i0 x0 hx0), hB 2 h0, hB 6 h1, hB 2 h2, hB 4 h3, hB 2 h4, hP 15 (inc_ok i0 (by omega))] [] (by kernel_rfl) hr
theorem n_value_name_b0_23 (p0 : ByteArray) (H : H_value_name_b0 p0) (x0 : Int) (i0 : Nat) (hx0 : (letters p0)[i0]? = some x0) (_hi0 : i0 < List.length (letters p0)) (hc0 : (decide ((i0 : Int) < (ByteArray.size p0 : Int))) = true) (h0 : (decide (97 ≤ x0)) = false) (h1 : (decide (65 ≤ x0)) = true) (h2 : (decide (x0 ≤ 90)) = false) (h3 : (decide (48 ≤ x0)) = true) (h4 : (decide (x0 ≤ 57)) = false) (h5 : (x0 == 45) = true) {r : Rs} (hr : Tells G (E_value_name_b0 p0 (i0 + 1)) r) : Tells G (E_value_name_b0 p0 i0) r := by
  have hB0 := H.1; have e0 := of_decide_eq_false h0; have e1 := of_decide_eq_true h1; have e2 := of_decide_eq_false h2; have e3 := of_decide_eq_true h3; have e4 := of_decide_eq_false h4; have e5 := eq_of_beq h5
  exact tells_nextVI VOK.nil (y := (HE_value_name_b0 p0 (i0 + 1), HO_value_name_b0 p0 (i0 + 1))) [hB 0 hc0, hP 4 (six_ok p0 i0 x0 hx0), hB 2 h0, hB 6 h1, hB 2 h2, hB 4 h3, hB 2 h4, hB 4 h5, hP 10 (inc_ok i0 (by omega))] [] (by kernel_rfl) hr
theorem n_value_name_b0_24 (p0 : ByteArray) (H : H_value_name_b0 p0) (x0 : Int) (i0 : Nat) (hx0 : (letters p0)[i0]? = some x0) (hi0 : i0 < List.length (letters p0)) (hc0 : (decide ((i0 : Int) < (ByteArray.size p0 : Int))) = true) (h0 : (decide (97 ≤ x0)) = false) (h1 : (decide (65 ≤ x0)) = true) (h2 : (decide (x0 ≤ 90)) = false) (h3 : (decide (48 ≤ x0)) = true) (h4 : (decide (x0 ≤ 57)) = false) (h5 : (x0 == 45) = false) (h6 : (x0 == 95) = true) {r : Rs} (hr : Tells G (E_value_name_b0 p0 (i0 + 1)) r) : Tells G (E_value_name_b0 p0 i0) r := by
  have hB0 := H.1; have e0 := of_decide_eq_false h0; have e1 := of_decide_eq_true h1; have e2 := of_decide_eq_false h2; have e3 := of_decide_eq_true h3; have e4 := of_decide_eq_false h4; have e5 := beq_eq_false_iff_ne.1 h5; have e6 := eq_of_beq h6
  exact tells_nextVI VOK.nil (y := (HE_value_name_b0 p0 (i0 + 1), HO_value_name_b0 p0 (i0 + 1))) [hB 0 hc0, hP 4 (six_ok p0 i0 x0 hx0), hB 2 h0, hB 6 h1, hB 2 h2, hB 4 h3, hB 2 h4, hB 4 h5, hB 3 h6, hP 6 (inc_ok i0 (by omega))] [] (by kernel_rfl) hr
theorem n_value_name_b0_25 (p0 : ByteArray) (H : H_value_name_b0 p0) (x0 : Int) (i0 : Nat) (hx0 : (letters p0)[i0]? = some x0) (_hi0 : i0 < List.length (letters p0)) (hc0 : (decide ((i0 : Int) < (ByteArray.size p0 : Int))) = true) (h0 : (decide (97 ≤ x0)) = false) (h1 : (decide (65 ≤ x0)) = true) (h2 : (decide (x0 ≤ 90)) = false) (h3 : (decide (48 ≤ x0)) = true) (h4 : (decide (x0 ≤ 57)) = false) (h5 : (x0 == 45) = false) (h6 : (x0 == 95) = false) (h7 : (x0 == 47) = true) {r : Rs} (hr : Tells G (E_value_name_b0 p0 (i0 + 1)) r) : Tells G (E_value_name_b0 p0 i0) r := by
  have hB0 := H.1; have e0 := of_decide_eq_false h0; have e1 := of_decide_eq_true h1; have e2 := of_decide_eq_false h2; have e3 := of_decide_eq_true h3; have e4 := of_decide_eq_false h4; have e5 := beq_eq_false_iff_ne.1 h5; have e6 := beq_eq_false_iff_ne.1 h6; have e7 := eq_of_beq h7
  exact tells_nextVI VOK.nil (y := (HE_value_name_b0 p0 (i0 + 1), HO_value_name_b0 p0 (i0 + 1))) [hB 0 hc0, hP 4 (six_ok p0 i0 x0 hx0), hB 2 h0, hB 6 h1, hB 2 h2, hB 4 h3, hB 2 h4, hB 4 h5, hB 3 h6, hB 3 h7, hP 2 (inc_ok i0 (by omega))] [] (by kernel_rfl) hr
def Z_value_name_b0_26 (p0 : ByteArray) (i0 : Nat) (x0 : Int) : List PV :=
  [.str p0, .un, .un, .int .i64 (i0 : Int), .int .u8 x0, .un, .int .i64 (ByteArray.size p0 : Int), .int .i64 (i0 : Int), .bool true, .int .i64 (i0 : Int), .str p0, .int .i64 (i0 : Int), .int .u8 x0, .int .u8 x0, .bool false, .bool false, .tup [], .tup [], .bool false, .bool false, .int .u8 x0, .bool true, .bool true, .int .u8 x0, .bool false, .bool false, .bool false, .bool false, .int .u8 x0, .bool true, .bool true, .int .u8 x0, .bool false, .bool false, .bool false, .bool false, .int .u8 x0, .bool false, .bool false, .bool false, .int .u8 x0, .bool false, .bool false, .bool false, .int .u8 x0, .bool false, .bool false, .bool true]
def ZO_value_name_b0_26 (_p0 : ByteArray) (_i0 : Nat) (_x0 : Int) : List (Nat × List PV) :=
  []
theorem x_value_name_b0_26 (p0 : ByteArray) (_H : H_value_name_b0 p0) (x0 : Int) (i0 : Nat) (hx0 : (letters p0)[i0]? = some x0) (_hi0 : i0 < List.length (letters p0)) (hc0 : (decide ((i0 : Int) < (ByteArray.size p0 : Int))) = true) (h0 : (decide (97 ≤ x0)) = false) (h1 : (decide (65 ≤ x0)) = true) (h2 : (decide (x0 ≤ 90)) = false) (h3 : (decide (48 ≤ x0)) = true) (h4 : (decide (x0 ≤ 57)) = false) (h5 : (x0 == 45) = false) (h6 : (x0 == 95) = false) (h7 : (x0 == 47) = false) : P_value_name_b0 p0 (E_value_name_b0 p0 i0) (.k1) := by
  exact ⟨(envF (Z_value_name_b0_26 p0 i0 x0)), (zoF (ZO_value_name_b0_26 p0 i0 x0)), tells_outVI VOK.nil (x := (.ret, S_value_name_b0_1 p0 (envF (Z_value_name_b0_26 p0 i0 x0)) (zoF (ZO_value_name_b0_26 p0 i0 x0)))) [hB 0 hc0, hP 4 (six_ok p0 i0 x0 hx0), hB 2 h0, hB 6 h1, hB 2 h2, hB 4 h3, hB 2 h4, hB 4 h5, hB 3 h6, hB 3 h7] [] (by kernel_rfl)⟩
theorem n_value_name_b0_27 (p0 : ByteArray) (H : H_value_name_b0 p0) (x0 : Int) (i0 : Nat) (hx0 : (letters p0)[i0]? = some x0) (_hi0 : i0 < List.length (letters p0)) (hc0 : (decide ((i0 : Int) < (ByteArray.size p0 : Int))) = true) (h0 : (decide (97 ≤ x0)) = false) (h1 : (decide (65 ≤ x0)) = true) (h2 : (decide (x0 ≤ 90)) = false) (h3 : (decide (48 ≤ x0)) = false) (h4 : (x0 == 45) = true) {r : Rs} (hr : Tells G (E_value_name_b0 p0 (i0 + 1)) r) : Tells G (E_value_name_b0 p0 i0) r := by
  have hB0 := H.1; have e0 := of_decide_eq_false h0; have e1 := of_decide_eq_true h1; have e2 := of_decide_eq_false h2; have e3 := of_decide_eq_false h3; have e4 := eq_of_beq h4
  exact tells_nextVI VOK.nil (y := (HE_value_name_b0 p0 (i0 + 1), HO_value_name_b0 p0 (i0 + 1))) [hB 0 hc0, hP 4 (six_ok p0 i0 x0 hx0), hB 2 h0, hB 6 h1, hB 2 h2, hB 4 h3, hB 7 h4, hP 10 (inc_ok i0 (by omega))] [] (by kernel_rfl) hr
theorem n_value_name_b0_28 (p0 : ByteArray) (H : H_value_name_b0 p0) (x0 : Int) (i0 : Nat) (hx0 : (letters p0)[i0]? = some x0) (_hi0 : i0 < List.length (letters p0)) (hc0 : (decide ((i0 : Int) < (ByteArray.size p0 : Int))) = true) (h0 : (decide (97 ≤ x0)) = false) (h1 : (decide (65 ≤ x0)) = true) (h2 : (decide (x0 ≤ 90)) = false) (h3 : (decide (48 ≤ x0)) = false) (h4 : (x0 == 45) = false) (h5 : (x0 == 95) = true) {r : Rs} (hr : Tells G (E_value_name_b0 p0 (i0 + 1)) r) : Tells G (E_value_name_b0 p0 i0) r := by
  have hB0 := H.1; have e0 := of_decide_eq_false h0; have e1 := of_decide_eq_true h1; have e2 := of_decide_eq_false h2; have e3 := of_decide_eq_false h3; have e4 := beq_eq_false_iff_ne.1 h4; have e5 := eq_of_beq h5
  exact tells_nextVI VOK.nil (y := (HE_value_name_b0 p0 (i0 + 1), HO_value_name_b0 p0 (i0 + 1))) [hB 0 hc0, hP 4 (six_ok p0 i0 x0 hx0), hB 2 h0, hB 6 h1, hB 2 h2, hB 4 h3, hB 7 h4, hB 3 h5, hP 6 (inc_ok i0 (by omega))] [] (by kernel_rfl) hr
theorem n_value_name_b0_29 (p0 : ByteArray) (H : H_value_name_b0 p0) (x0 : Int) (i0 : Nat) (hx0 : (letters p0)[i0]? = some x0) (_hi0 : i0 < List.length (letters p0)) (hc0 : (decide ((i0 : Int) < (ByteArray.size p0 : Int))) = true) (h0 : (decide (97 ≤ x0)) = false) (h1 : (decide (65 ≤ x0)) = true) (h2 : (decide (x0 ≤ 90)) = false) (h3 : (decide (48 ≤ x0)) = false) (h4 : (x0 == 45) = false) (h5 : (x0 == 95) = false) (h6 : (x0 == 47) = true) {r : Rs} (hr : Tells G (E_value_name_b0 p0 (i0 + 1)) r) : Tells G (E_value_name_b0 p0 i0) r := by
  have hB0 := H.1; have e0 := of_decide_eq_false h0; have e1 := of_decide_eq_true h1; have e2 := of_decide_eq_false h2; have e3 := of_decide_eq_false h3; have e4 := beq_eq_false_iff_ne.1 h4; have e5 := beq_eq_false_iff_ne.1 h5; have e6 := eq_of_beq h6
  exact tells_nextVI VOK.nil (y := (HE_value_name_b0 p0 (i0 + 1), HO_value_name_b0 p0 (i0 + 1))) [hB 0 hc0, hP 4 (six_ok p0 i0 x0 hx0), hB 2 h0, hB 6 h1, hB 2 h2, hB 4 h3, hB 7 h4, hB 3 h5, hB 3 h6, hP 2 (inc_ok i0 (by omega))] [] (by kernel_rfl) hr
def Z_value_name_b0_30 (p0 : ByteArray) (i0 : Nat) (x0 : Int) : List PV :=
  [.str p0, .un, .un, .int .i64 (i0 : Int), .int .u8 x0, .un, .int .i64 (ByteArray.size p0 : Int), .int .i64 (i0 : Int), .bool true, .int .i64 (i0 : Int), .str p0, .int .i64 (i0 : Int), .int .u8 x0, .int .u8 x0, .bool false, .bool false, .tup [], .tup [], .bool false, .bool false, .int .u8 x0, .bool true, .bool true, .int .u8 x0, .bool false, .bool false, .bool false, .bool false, .int .u8 x0, .bool false, .bool false, .tup [], .tup [], .bool false, .bool false, .bool false, .int .u8 x0, .bool false, .bool false, .bool false, .int .u8 x0, .bool false, .bool false, .bool false, .int .u8 x0, .bool false, .bool false, .bool true]
def ZO_value_name_b0_30 (_p0 : ByteArray) (_i0 : Nat) (_x0 : Int) : List (Nat × List PV) :=
  []
theorem x_value_name_b0_30 (p0 : ByteArray) (_H : H_value_name_b0 p0) (x0 : Int) (i0 : Nat) (hx0 : (letters p0)[i0]? = some x0) (_hi0 : i0 < List.length (letters p0)) (hc0 : (decide ((i0 : Int) < (ByteArray.size p0 : Int))) = true) (h0 : (decide (97 ≤ x0)) = false) (h1 : (decide (65 ≤ x0)) = true) (h2 : (decide (x0 ≤ 90)) = false) (h3 : (decide (48 ≤ x0)) = false) (h4 : (x0 == 45) = false) (h5 : (x0 == 95) = false) (h6 : (x0 == 47) = false) : P_value_name_b0 p0 (E_value_name_b0 p0 i0) (.k1) := by
  exact ⟨(envF (Z_value_name_b0_30 p0 i0 x0)), (zoF (ZO_value_name_b0_30 p0 i0 x0)), tells_outVI VOK.nil (x := (.ret, S_value_name_b0_1 p0 (envF (Z_value_name_b0_30 p0 i0 x0)) (zoF (ZO_value_name_b0_30 p0 i0 x0)))) [hB 0 hc0, hP 4 (six_ok p0 i0 x0 hx0), hB 2 h0, hB 6 h1, hB 2 h2, hB 4 h3, hB 7 h4, hB 3 h5, hB 3 h6] [] (by kernel_rfl)⟩
theorem n_value_name_b0_31 (p0 : ByteArray) (H : H_value_name_b0 p0) (x0 : Int) (i0 : Nat) (hx0 : (letters p0)[i0]? = some x0) (hi0 : i0 < List.length (letters p0)) (hc0 : (decide ((i0 : Int) < (ByteArray.size p0 : Int))) = true) (h0 : (decide (97 ≤ x0)) = false) (h1 : (decide (65 ≤ x0)) = false) (h2 : (decide (48 ≤ x0)) = true) (h3 : (decide (x0 ≤ 57)) = true) {r : Rs} (hr : Tells G (E_value_name_b0 p0 (i0 + 1)) r) : Tells G (E_value_name_b0 p0 i0) r := by
  have hB0 := H.1; have e0 := of_decide_eq_false h0; have e1 := of_decide_eq_false h1; have e2 := of_decide_eq_true h2; have e3 := of_decide_eq_true h3
  exact tells_nextVI VOK.nil (y := (HE_value_name_b0 p0 (i0 + 1), HO_value_name_b0 p0 (i0 + 1))) [hB 0 hc0, hP 4 (six_ok p0 i0 x0 hx0), hB 2 h0, hB 6 h1, hB 7 h2, hB 2 h3, hP 15 (inc_ok i0 (by omega))] [] (by kernel_rfl) hr
theorem n_value_name_b0_32 (p0 : ByteArray) (H : H_value_name_b0 p0) (x0 : Int) (i0 : Nat) (hx0 : (letters p0)[i0]? = some x0) (_hi0 : i0 < List.length (letters p0)) (hc0 : (decide ((i0 : Int) < (ByteArray.size p0 : Int))) = true) (h0 : (decide (97 ≤ x0)) = false) (h1 : (decide (65 ≤ x0)) = false) (h2 : (decide (48 ≤ x0)) = true) (h3 : (decide (x0 ≤ 57)) = false) (h4 : (x0 == 45) = true) {r : Rs} (hr : Tells G (E_value_name_b0 p0 (i0 + 1)) r) : Tells G (E_value_name_b0 p0 i0) r := by
  have hB0 := H.1; have e0 := of_decide_eq_false h0; have e1 := of_decide_eq_false h1; have e2 := of_decide_eq_true h2; have e3 := of_decide_eq_false h3; have e4 := eq_of_beq h4
  exact tells_nextVI VOK.nil (y := (HE_value_name_b0 p0 (i0 + 1), HO_value_name_b0 p0 (i0 + 1))) [hB 0 hc0, hP 4 (six_ok p0 i0 x0 hx0), hB 2 h0, hB 6 h1, hB 7 h2, hB 2 h3, hB 4 h4, hP 10 (inc_ok i0 (by omega))] [] (by kernel_rfl) hr
theorem n_value_name_b0_33 (p0 : ByteArray) (H : H_value_name_b0 p0) (x0 : Int) (i0 : Nat) (hx0 : (letters p0)[i0]? = some x0) (_hi0 : i0 < List.length (letters p0)) (hc0 : (decide ((i0 : Int) < (ByteArray.size p0 : Int))) = true) (h0 : (decide (97 ≤ x0)) = false) (h1 : (decide (65 ≤ x0)) = false) (h2 : (decide (48 ≤ x0)) = true) (h3 : (decide (x0 ≤ 57)) = false) (h4 : (x0 == 45) = false) (h5 : (x0 == 95) = true) {r : Rs} (hr : Tells G (E_value_name_b0 p0 (i0 + 1)) r) : Tells G (E_value_name_b0 p0 i0) r := by
  have hB0 := H.1; have e0 := of_decide_eq_false h0; have e1 := of_decide_eq_false h1; have e2 := of_decide_eq_true h2; have e3 := of_decide_eq_false h3; have e4 := beq_eq_false_iff_ne.1 h4; have e5 := eq_of_beq h5
  exact tells_nextVI VOK.nil (y := (HE_value_name_b0 p0 (i0 + 1), HO_value_name_b0 p0 (i0 + 1))) [hB 0 hc0, hP 4 (six_ok p0 i0 x0 hx0), hB 2 h0, hB 6 h1, hB 7 h2, hB 2 h3, hB 4 h4, hB 3 h5, hP 6 (inc_ok i0 (by omega))] [] (by kernel_rfl) hr
theorem n_value_name_b0_34 (p0 : ByteArray) (H : H_value_name_b0 p0) (x0 : Int) (i0 : Nat) (hx0 : (letters p0)[i0]? = some x0) (_hi0 : i0 < List.length (letters p0)) (hc0 : (decide ((i0 : Int) < (ByteArray.size p0 : Int))) = true) (h0 : (decide (97 ≤ x0)) = false) (h1 : (decide (65 ≤ x0)) = false) (h2 : (decide (48 ≤ x0)) = true) (h3 : (decide (x0 ≤ 57)) = false) (h4 : (x0 == 45) = false) (h5 : (x0 == 95) = false) (h6 : (x0 == 47) = true) {r : Rs} (hr : Tells G (E_value_name_b0 p0 (i0 + 1)) r) : Tells G (E_value_name_b0 p0 i0) r := by
  have hB0 := H.1; have e0 := of_decide_eq_false h0; have e1 := of_decide_eq_false h1; have e2 := of_decide_eq_true h2; have e3 := of_decide_eq_false h3; have e4 := beq_eq_false_iff_ne.1 h4; have e5 := beq_eq_false_iff_ne.1 h5; have e6 := eq_of_beq h6
  exact tells_nextVI VOK.nil (y := (HE_value_name_b0 p0 (i0 + 1), HO_value_name_b0 p0 (i0 + 1))) [hB 0 hc0, hP 4 (six_ok p0 i0 x0 hx0), hB 2 h0, hB 6 h1, hB 7 h2, hB 2 h3, hB 4 h4, hB 3 h5, hB 3 h6, hP 2 (inc_ok i0 (by omega))] [] (by kernel_rfl) hr
def Z_value_name_b0_35 (p0 : ByteArray) (i0 : Nat) (x0 : Int) : List PV :=
  [.str p0, .un, .un, .int .i64 (i0 : Int), .int .u8 x0, .un, .int .i64 (ByteArray.size p0 : Int), .int .i64 (i0 : Int), .bool true, .int .i64 (i0 : Int), .str p0, .int .i64 (i0 : Int), .int .u8 x0, .int .u8 x0, .bool false, .bool false, .tup [], .tup [], .bool false, .bool false, .int .u8 x0, .bool false, .bool false, .tup [], .tup [], .bool false, .bool false, .bool false, .int .u8 x0, .bool true, .bool true, .int .u8 x0, .bool false, .bool false, .bool false, .bool false, .int .u8 x0, .bool false, .bool false, .bool false, .int .u8 x0, .bool false, .bool false, .bool false, .int .u8 x0, .bool false, .bool false, .bool true]
def ZO_value_name_b0_35 (_p0 : ByteArray) (_i0 : Nat) (_x0 : Int) : List (Nat × List PV) :=
  []
theorem x_value_name_b0_35 (p0 : ByteArray) (_H : H_value_name_b0 p0) (x0 : Int) (i0 : Nat) (hx0 : (letters p0)[i0]? = some x0) (_hi0 : i0 < List.length (letters p0)) (hc0 : (decide ((i0 : Int) < (ByteArray.size p0 : Int))) = true) (h0 : (decide (97 ≤ x0)) = false) (h1 : (decide (65 ≤ x0)) = false) (h2 : (decide (48 ≤ x0)) = true) (h3 : (decide (x0 ≤ 57)) = false) (h4 : (x0 == 45) = false) (h5 : (x0 == 95) = false) (h6 : (x0 == 47) = false) : P_value_name_b0 p0 (E_value_name_b0 p0 i0) (.k1) := by
  exact ⟨(envF (Z_value_name_b0_35 p0 i0 x0)), (zoF (ZO_value_name_b0_35 p0 i0 x0)), tells_outVI VOK.nil (x := (.ret, S_value_name_b0_1 p0 (envF (Z_value_name_b0_35 p0 i0 x0)) (zoF (ZO_value_name_b0_35 p0 i0 x0)))) [hB 0 hc0, hP 4 (six_ok p0 i0 x0 hx0), hB 2 h0, hB 6 h1, hB 7 h2, hB 2 h3, hB 4 h4, hB 3 h5, hB 3 h6] [] (by kernel_rfl)⟩
theorem n_value_name_b0_36 (p0 : ByteArray) (H : H_value_name_b0 p0) (x0 : Int) (i0 : Nat) (hx0 : (letters p0)[i0]? = some x0) (hi0 : i0 < List.length (letters p0)) (hc0 : (decide ((i0 : Int) < (ByteArray.size p0 : Int))) = true) (h0 : (decide (97 ≤ x0)) = false) (h1 : (decide (65 ≤ x0)) = false) (h2 : (decide (48 ≤ x0)) = false) (h3 : (x0 == 45) = true) {r : Rs} (hr : Tells G (E_value_name_b0 p0 (i0 + 1)) r) : Tells G (E_value_name_b0 p0 i0) r := by
  have hB0 := H.1; have e0 := of_decide_eq_false h0; have e1 := of_decide_eq_false h1; have e2 := of_decide_eq_false h2; have e3 := eq_of_beq h3
  exact tells_nextVI VOK.nil (y := (HE_value_name_b0 p0 (i0 + 1), HO_value_name_b0 p0 (i0 + 1))) [hB 0 hc0, hP 4 (six_ok p0 i0 x0 hx0), hB 2 h0, hB 6 h1, hB 7 h2, hB 7 h3, hP 10 (inc_ok i0 (by omega))] [] (by kernel_rfl) hr
theorem n_value_name_b0_37 (p0 : ByteArray) (H : H_value_name_b0 p0) (x0 : Int) (i0 : Nat) (hx0 : (letters p0)[i0]? = some x0) (_hi0 : i0 < List.length (letters p0)) (hc0 : (decide ((i0 : Int) < (ByteArray.size p0 : Int))) = true) (h0 : (decide (97 ≤ x0)) = false) (h1 : (decide (65 ≤ x0)) = false) (h2 : (decide (48 ≤ x0)) = false) (h3 : (x0 == 45) = false) (h4 : (x0 == 95) = true) {r : Rs} (hr : Tells G (E_value_name_b0 p0 (i0 + 1)) r) : Tells G (E_value_name_b0 p0 i0) r := by
  have hB0 := H.1; have e0 := of_decide_eq_false h0; have e1 := of_decide_eq_false h1; have e2 := of_decide_eq_false h2; have e3 := beq_eq_false_iff_ne.1 h3; have e4 := eq_of_beq h4
  exact tells_nextVI VOK.nil (y := (HE_value_name_b0 p0 (i0 + 1), HO_value_name_b0 p0 (i0 + 1))) [hB 0 hc0, hP 4 (six_ok p0 i0 x0 hx0), hB 2 h0, hB 6 h1, hB 7 h2, hB 7 h3, hB 3 h4, hP 6 (inc_ok i0 (by omega))] [] (by kernel_rfl) hr
theorem n_value_name_b0_38 (p0 : ByteArray) (H : H_value_name_b0 p0) (x0 : Int) (i0 : Nat) (hx0 : (letters p0)[i0]? = some x0) (hi0 : i0 < List.length (letters p0)) (hc0 : (decide ((i0 : Int) < (ByteArray.size p0 : Int))) = true) (h0 : (decide (97 ≤ x0)) = false) (h1 : (decide (65 ≤ x0)) = false) (h2 : (decide (48 ≤ x0)) = false) (h3 : (x0 == 45) = false) (h4 : (x0 == 95) = false) (h5 : (x0 == 47) = true) {r : Rs} (hr : Tells G (E_value_name_b0 p0 (i0 + 1)) r) : Tells G (E_value_name_b0 p0 i0) r := by
  have hB0 := H.1; have e0 := of_decide_eq_false h0; have e1 := of_decide_eq_false h1; have e2 := of_decide_eq_false h2; have e3 := beq_eq_false_iff_ne.1 h3; have e4 := beq_eq_false_iff_ne.1 h4; have e5 := eq_of_beq h5
  exact tells_nextVI VOK.nil (y := (HE_value_name_b0 p0 (i0 + 1), HO_value_name_b0 p0 (i0 + 1))) [hB 0 hc0, hP 4 (six_ok p0 i0 x0 hx0), hB 2 h0, hB 6 h1, hB 7 h2, hB 7 h3, hB 3 h4, hB 3 h5, hP 2 (inc_ok i0 (by omega))] [] (by kernel_rfl) hr
def Z_value_name_b0_39 (p0 : ByteArray) (i0 : Nat) (x0 : Int) : List PV :=
  [.str p0, .un, .un, .int .i64 (i0 : Int), .int .u8 x0, .un, .int .i64 (ByteArray.size p0 : Int), .int .i64 (i0 : Int), .bool true, .int .i64 (i0 : Int), .str p0, .int .i64 (i0 : Int), .int .u8 x0, .int .u8 x0, .bool false, .bool false, .tup [], .tup [], .bool false, .bool false, .int .u8 x0, .bool false, .bool false, .tup [], .tup [], .bool false, .bool false, .bool false, .int .u8 x0, .bool false, .bool false, .tup [], .tup [], .bool false, .bool false, .bool false, .int .u8 x0, .bool false, .bool false, .bool false, .int .u8 x0, .bool false, .bool false, .bool false, .int .u8 x0, .bool false, .bool false, .bool true]
def ZO_value_name_b0_39 (_p0 : ByteArray) (_i0 : Nat) (_x0 : Int) : List (Nat × List PV) :=
  []
theorem x_value_name_b0_39 (p0 : ByteArray) (_H : H_value_name_b0 p0) (x0 : Int) (i0 : Nat) (hx0 : (letters p0)[i0]? = some x0) (_hi0 : i0 < List.length (letters p0)) (hc0 : (decide ((i0 : Int) < (ByteArray.size p0 : Int))) = true) (h0 : (decide (97 ≤ x0)) = false) (h1 : (decide (65 ≤ x0)) = false) (h2 : (decide (48 ≤ x0)) = false) (h3 : (x0 == 45) = false) (h4 : (x0 == 95) = false) (h5 : (x0 == 47) = false) : P_value_name_b0 p0 (E_value_name_b0 p0 i0) (.k1) := by
  exact ⟨(envF (Z_value_name_b0_39 p0 i0 x0)), (zoF (ZO_value_name_b0_39 p0 i0 x0)), tells_outVI VOK.nil (x := (.ret, S_value_name_b0_1 p0 (envF (Z_value_name_b0_39 p0 i0 x0)) (zoF (ZO_value_name_b0_39 p0 i0 x0)))) [hB 0 hc0, hP 4 (six_ok p0 i0 x0 hx0), hB 2 h0, hB 6 h1, hB 7 h2, hB 7 h3, hB 3 h4, hB 3 h5] [] (by kernel_rfl)⟩
theorem lt_value_name_b0 (p0 : ByteArray) (H : H_value_name_b0 p0) : ∀ (r0 : List Int) (i0 : Nat), List.drop i0 (letters p0) = r0 → P_value_name_b0 p0 (E_value_name_b0 p0 i0) (l_value_name_b0 p0 r0 i0)
  | [], i0, hd => by
    have hc0 : (decide ((i0 : Int) < (ByteArray.size p0 : Int))) = false := by have hL := lettersLen p0; have := drop_end hd; simp; omega
    rw [l_value_name_b0]
    exact x_value_name_b0_0 p0 H i0 hc0
  | x0 :: r0, i0, hd => by
    obtain ⟨hx0, hi0, hd'⟩ := drop_get hd
    have hc0 : (decide ((i0 : Int) < (ByteArray.size p0 : Int))) = true := by have hL := lettersLen p0; simp; omega
    rw [l_value_name_b0]
    cases h0 : (decide (97 ≤ x0)) with
    | true =>
     cases h1 : (decide (x0 ≤ 122)) with
     | true =>
      exact P_value_name_b0_mono p0 (fun r hr => n_value_name_b0_1 p0 H x0 i0 hx0 hi0 hc0 h0 h1 hr) _ (lt_value_name_b0 p0 H r0 (i0 + 1) hd')
     | false =>
      cases h2 : (decide (65 ≤ x0)) with
      | true =>
       cases h3 : (decide (x0 ≤ 90)) with
       | true =>
        exact P_value_name_b0_mono p0 (fun r hr => n_value_name_b0_2 p0 H x0 i0 hx0 hi0 hc0 h0 h1 h2 h3 hr) _ (lt_value_name_b0 p0 H r0 (i0 + 1) hd')
       | false =>
        cases h4 : (decide (48 ≤ x0)) with
        | true =>
         cases h5 : (decide (x0 ≤ 57)) with
         | true =>
          exact P_value_name_b0_mono p0 (fun r hr => n_value_name_b0_3 p0 H x0 i0 hx0 hi0 hc0 h0 h1 h2 h3 h4 h5 hr) _ (lt_value_name_b0 p0 H r0 (i0 + 1) hd')
         | false =>
          cases h6 : (x0 == 45) with
          | true =>
           exact P_value_name_b0_mono p0 (fun r hr => n_value_name_b0_4 p0 H x0 i0 hx0 hi0 hc0 h0 h1 h2 h3 h4 h5 h6 hr) _ (lt_value_name_b0 p0 H r0 (i0 + 1) hd')
          | false =>
           cases h7 : (x0 == 95) with
           | true =>
            exact P_value_name_b0_mono p0 (fun r hr => n_value_name_b0_5 p0 H x0 i0 hx0 hi0 hc0 h0 h1 h2 h3 h4 h5 h6 h7 hr) _ (lt_value_name_b0 p0 H r0 (i0 + 1) hd')
           | false =>
            cases h8 : (x0 == 47) with
            | true =>
             exact P_value_name_b0_mono p0 (fun r hr => n_value_name_b0_6 p0 H x0 i0 hx0 hi0 hc0 h0 h1 h2 h3 h4 h5 h6 h7 h8 hr) _ (lt_value_name_b0 p0 H r0 (i0 + 1) hd')
            | false =>
             exact x_value_name_b0_7 p0 H x0 i0 hx0 hi0 hc0 h0 h1 h2 h3 h4 h5 h6 h7 h8
        | false =>
         cases h5 : (x0 == 45) with
         | true =>
          exact P_value_name_b0_mono p0 (fun r hr => n_value_name_b0_8 p0 H x0 i0 hx0 hi0 hc0 h0 h1 h2 h3 h4 h5 hr) _ (lt_value_name_b0 p0 H r0 (i0 + 1) hd')
         | false =>
          cases h6 : (x0 == 95) with
          | true =>
           exact P_value_name_b0_mono p0 (fun r hr => n_value_name_b0_9 p0 H x0 i0 hx0 hi0 hc0 h0 h1 h2 h3 h4 h5 h6 hr) _ (lt_value_name_b0 p0 H r0 (i0 + 1) hd')
          | false =>
           cases h7 : (x0 == 47) with
           | true =>
            exact P_value_name_b0_mono p0 (fun r hr => n_value_name_b0_10 p0 H x0 i0 hx0 hi0 hc0 h0 h1 h2 h3 h4 h5 h6 h7 hr) _ (lt_value_name_b0 p0 H r0 (i0 + 1) hd')
           | false =>
            exact x_value_name_b0_11 p0 H x0 i0 hx0 hi0 hc0 h0 h1 h2 h3 h4 h5 h6 h7
      | false =>
       cases h3 : (decide (48 ≤ x0)) with
       | true =>
        cases h4 : (decide (x0 ≤ 57)) with
        | true =>
         exact P_value_name_b0_mono p0 (fun r hr => n_value_name_b0_12 p0 H x0 i0 hx0 hi0 hc0 h0 h1 h2 h3 h4 hr) _ (lt_value_name_b0 p0 H r0 (i0 + 1) hd')
        | false =>
         cases h5 : (x0 == 45) with
         | true =>
          exact P_value_name_b0_mono p0 (fun r hr => n_value_name_b0_13 p0 H x0 i0 hx0 hi0 hc0 h0 h1 h2 h3 h4 h5 hr) _ (lt_value_name_b0 p0 H r0 (i0 + 1) hd')
         | false =>
          cases h6 : (x0 == 95) with
          | true =>
           exact P_value_name_b0_mono p0 (fun r hr => n_value_name_b0_14 p0 H x0 i0 hx0 hi0 hc0 h0 h1 h2 h3 h4 h5 h6 hr) _ (lt_value_name_b0 p0 H r0 (i0 + 1) hd')
          | false =>
           cases h7 : (x0 == 47) with
           | true =>
            exact P_value_name_b0_mono p0 (fun r hr => n_value_name_b0_15 p0 H x0 i0 hx0 hi0 hc0 h0 h1 h2 h3 h4 h5 h6 h7 hr) _ (lt_value_name_b0 p0 H r0 (i0 + 1) hd')
           | false =>
            exact x_value_name_b0_16 p0 H x0 i0 hx0 hi0 hc0 h0 h1 h2 h3 h4 h5 h6 h7
       | false =>
        cases h4 : (x0 == 45) with
        | true =>
         exact P_value_name_b0_mono p0 (fun r hr => n_value_name_b0_17 p0 H x0 i0 hx0 hi0 hc0 h0 h1 h2 h3 h4 hr) _ (lt_value_name_b0 p0 H r0 (i0 + 1) hd')
        | false =>
         cases h5 : (x0 == 95) with
         | true =>
          exact P_value_name_b0_mono p0 (fun r hr => n_value_name_b0_18 p0 H x0 i0 hx0 hi0 hc0 h0 h1 h2 h3 h4 h5 hr) _ (lt_value_name_b0 p0 H r0 (i0 + 1) hd')
         | false =>
          cases h6 : (x0 == 47) with
          | true =>
           exact P_value_name_b0_mono p0 (fun r hr => n_value_name_b0_19 p0 H x0 i0 hx0 hi0 hc0 h0 h1 h2 h3 h4 h5 h6 hr) _ (lt_value_name_b0 p0 H r0 (i0 + 1) hd')
          | false =>
           exact x_value_name_b0_20 p0 H x0 i0 hx0 hi0 hc0 h0 h1 h2 h3 h4 h5 h6
    | false =>
     cases h1 : (decide (65 ≤ x0)) with
     | true =>
      cases h2 : (decide (x0 ≤ 90)) with
      | true =>
       exact P_value_name_b0_mono p0 (fun r hr => n_value_name_b0_21 p0 H x0 i0 hx0 hi0 hc0 h0 h1 h2 hr) _ (lt_value_name_b0 p0 H r0 (i0 + 1) hd')
      | false =>
       cases h3 : (decide (48 ≤ x0)) with
       | true =>
        cases h4 : (decide (x0 ≤ 57)) with
        | true =>
         exact P_value_name_b0_mono p0 (fun r hr => n_value_name_b0_22 p0 H x0 i0 hx0 hi0 hc0 h0 h1 h2 h3 h4 hr) _ (lt_value_name_b0 p0 H r0 (i0 + 1) hd')
        | false =>
         cases h5 : (x0 == 45) with
         | true =>
          exact P_value_name_b0_mono p0 (fun r hr => n_value_name_b0_23 p0 H x0 i0 hx0 hi0 hc0 h0 h1 h2 h3 h4 h5 hr) _ (lt_value_name_b0 p0 H r0 (i0 + 1) hd')
         | false =>
          cases h6 : (x0 == 95) with
          | true =>
           exact P_value_name_b0_mono p0 (fun r hr => n_value_name_b0_24 p0 H x0 i0 hx0 hi0 hc0 h0 h1 h2 h3 h4 h5 h6 hr) _ (lt_value_name_b0 p0 H r0 (i0 + 1) hd')
          | false =>
           cases h7 : (x0 == 47) with
           | true =>
            exact P_value_name_b0_mono p0 (fun r hr => n_value_name_b0_25 p0 H x0 i0 hx0 hi0 hc0 h0 h1 h2 h3 h4 h5 h6 h7 hr) _ (lt_value_name_b0 p0 H r0 (i0 + 1) hd')
           | false =>
            exact x_value_name_b0_26 p0 H x0 i0 hx0 hi0 hc0 h0 h1 h2 h3 h4 h5 h6 h7
       | false =>
        cases h4 : (x0 == 45) with
        | true =>
         exact P_value_name_b0_mono p0 (fun r hr => n_value_name_b0_27 p0 H x0 i0 hx0 hi0 hc0 h0 h1 h2 h3 h4 hr) _ (lt_value_name_b0 p0 H r0 (i0 + 1) hd')
        | false =>
         cases h5 : (x0 == 95) with
         | true =>
          exact P_value_name_b0_mono p0 (fun r hr => n_value_name_b0_28 p0 H x0 i0 hx0 hi0 hc0 h0 h1 h2 h3 h4 h5 hr) _ (lt_value_name_b0 p0 H r0 (i0 + 1) hd')
         | false =>
          cases h6 : (x0 == 47) with
          | true =>
           exact P_value_name_b0_mono p0 (fun r hr => n_value_name_b0_29 p0 H x0 i0 hx0 hi0 hc0 h0 h1 h2 h3 h4 h5 h6 hr) _ (lt_value_name_b0 p0 H r0 (i0 + 1) hd')
          | false =>
           exact x_value_name_b0_30 p0 H x0 i0 hx0 hi0 hc0 h0 h1 h2 h3 h4 h5 h6
     | false =>
      cases h2 : (decide (48 ≤ x0)) with
      | true =>
       cases h3 : (decide (x0 ≤ 57)) with
       | true =>
        exact P_value_name_b0_mono p0 (fun r hr => n_value_name_b0_31 p0 H x0 i0 hx0 hi0 hc0 h0 h1 h2 h3 hr) _ (lt_value_name_b0 p0 H r0 (i0 + 1) hd')
       | false =>
        cases h4 : (x0 == 45) with
        | true =>
         exact P_value_name_b0_mono p0 (fun r hr => n_value_name_b0_32 p0 H x0 i0 hx0 hi0 hc0 h0 h1 h2 h3 h4 hr) _ (lt_value_name_b0 p0 H r0 (i0 + 1) hd')
        | false =>
         cases h5 : (x0 == 95) with
         | true =>
          exact P_value_name_b0_mono p0 (fun r hr => n_value_name_b0_33 p0 H x0 i0 hx0 hi0 hc0 h0 h1 h2 h3 h4 h5 hr) _ (lt_value_name_b0 p0 H r0 (i0 + 1) hd')
         | false =>
          cases h6 : (x0 == 47) with
          | true =>
           exact P_value_name_b0_mono p0 (fun r hr => n_value_name_b0_34 p0 H x0 i0 hx0 hi0 hc0 h0 h1 h2 h3 h4 h5 h6 hr) _ (lt_value_name_b0 p0 H r0 (i0 + 1) hd')
          | false =>
           exact x_value_name_b0_35 p0 H x0 i0 hx0 hi0 hc0 h0 h1 h2 h3 h4 h5 h6
      | false =>
       cases h3 : (x0 == 45) with
       | true =>
        exact P_value_name_b0_mono p0 (fun r hr => n_value_name_b0_36 p0 H x0 i0 hx0 hi0 hc0 h0 h1 h2 h3 hr) _ (lt_value_name_b0 p0 H r0 (i0 + 1) hd')
       | false =>
        cases h4 : (x0 == 95) with
        | true =>
         exact P_value_name_b0_mono p0 (fun r hr => n_value_name_b0_37 p0 H x0 i0 hx0 hi0 hc0 h0 h1 h2 h3 h4 hr) _ (lt_value_name_b0 p0 H r0 (i0 + 1) hd')
        | false =>
         cases h5 : (x0 == 47) with
         | true =>
          exact P_value_name_b0_mono p0 (fun r hr => n_value_name_b0_38 p0 H x0 i0 hx0 hi0 hc0 h0 h1 h2 h3 h4 h5 hr) _ (lt_value_name_b0 p0 H r0 (i0 + 1) hd')
         | false =>
          exact x_value_name_b0_39 p0 H x0 i0 hx0 hi0 hc0 h0 h1 h2 h3 h4 h5
/-- orchestrator/ value.name -/
def s_value_name (p0 : ByteArray) : Bool :=
  (match (l_value_name_b0 p0 (letters p0) 0) with
  | .k0 => bif (decide (1 ≤ (ByteArray.size p0 : Int))) then
      (decide ((ByteArray.size p0 : Int) ≤ 40))
    else
      false
  | .k1 => false)
def c_value_name (p0 : ByteArray) : En := .call 58 [.str p0] []
def a_value_name (p0 : ByteArray) : Rs := .ret (.bool (s_value_name p0)) []
def H_value_name (p0 : ByteArray) : Prop := (H_value_name_b0 p0) ∧ True
theorem t_value_name (p0 : ByteArray) (H : H_value_name p0) : Tells G (c_value_name p0) (a_value_name p0) := by
  unfold a_value_name s_value_name
  have hl0 := lt_value_name_b0 p0 (H.1) (letters p0) 0 (by simp)
  cases hr0 : (l_value_name_b0 p0 (letters p0) 0) with
  | k0 =>
    rw [hr0] at hl0
    obtain ⟨z0, zo0, hl0⟩ := hl0
    try dsimp only
    cases h0 : (decide (1 ≤ (ByteArray.size p0 : Int))) with
    | true =>
     exact tells_VI (fn := Ir.value_name) rfl VOK.nil [hB 6 h0] [aN hl0] (by kernel_rfl)
    | false =>
     exact tells_VI (fn := Ir.value_name) rfl VOK.nil [hB 6 h0] [aN hl0] (by kernel_rfl)
  | k1 =>
    rw [hr0] at hl0
    obtain ⟨z0, zo0, hl0⟩ := hl0
    exact tells_VI (fn := Ir.value_name) rfl VOK.nil [] [aN hl0] (by kernel_rfl)

inductive R_ref04_ValidString_b0 where
  | k0
  | k1
def l_ref04_ValidString_b0 (p0 : ByteArray) : List Int → Nat → R_ref04_ValidString_b0
  | [], _i0 =>
    (.k0)
  | x0 :: r0, i0 =>
    bif (x0 == 10) then
      l_ref04_ValidString_b0 p0 r0 (i0 + 1)
    else
      bif (decide (x0 < 32)) then
        (.k1)
      else
        bif (decide (126 < x0)) then
          (.k1)
        else
          l_ref04_ValidString_b0 p0 r0 (i0 + 1)
def HE_ref04_ValidString_b0 (p0 : ByteArray) (i0 : Nat) : List PV :=
  [.str p0, .un, .un, .int .i64 (i0 : Int), .un, .un, .un, .un, .un, .un, .un, .un, .un, .un, .un, .un, .un, .un, .un, .un, .un, .un, .un, .un, .un, .un, .un, .un, .un]
def HO_ref04_ValidString_b0 (_p0 : ByteArray) (_i0 : Nat) : List Ob :=
  []
def E_ref04_ValidString_b0 (p0 : ByteArray) (i0 : Nat) : En := .loop 0 Ir.ref04_ValidString_b0_live Ir.ref04_ValidString_b0 (HE_ref04_ValidString_b0 p0 i0) (HO_ref04_ValidString_b0 p0 i0)
def S_ref04_ValidString_b0_0 (p0 : ByteArray) (z : Nat → PV) (_zo : Nat → List PV) : St :=
  ⟨[.str p0, z 1, z 2, z 3, z 4, z 5, z 6, z 7, z 8, z 9, z 10, z 11, z 12, z 13, z 14, z 15, z 16, z 17, z 18, z 19, z 20, z 21, z 22, z 23, z 24, z 25, z 26, z 27, z 28], [], 256⟩
def S_ref04_ValidString_b0_1 (_p0 : ByteArray) (z : Nat → PV) (_zo : Nat → List PV) : St :=
  ⟨[z 0, z 1, .bool false, z 3, z 4, z 5, z 6, z 7, z 8, z 9, z 10, z 11, z 12, z 13, z 14, z 15, z 16, z 17, z 18, z 19, z 20, z 21, z 22, z 23, z 24, z 25, z 26, z 27, z 28], [], 1344⟩
def P_ref04_ValidString_b0 (p0 : ByteArray) (e : En) : R_ref04_ValidString_b0 → Prop
  | .k0 => ∃ z zo, Tells G e (.st (.exit 0) (S_ref04_ValidString_b0_0 p0 z zo))
  | .k1 => ∃ z zo, Tells G e (.st .ret (S_ref04_ValidString_b0_1 p0 z zo))
theorem P_ref04_ValidString_b0_mono (p0 : ByteArray) {e e' : En} (h : ∀ r, Tells G e r → Tells G e' r) : ∀ q, P_ref04_ValidString_b0 p0 e q → P_ref04_ValidString_b0 p0 e' q
  | .k0, ⟨z, zo, hz⟩ => ⟨z, zo, h _ hz⟩
  | .k1, ⟨z, zo, hz⟩ => ⟨z, zo, h _ hz⟩
def H_ref04_ValidString_b0 (p0 : ByteArray) : Prop := (List.length (letters p0) ≤ 4611686018427387904) ∧ True
def Z_ref04_ValidString_b0_0 (p0 : ByteArray) (i0 : Nat) : List PV :=
  [.un, .un, .un, .int .i64 (i0 : Int), .int .i64 (i0 : Int), .str p0, .int .i64 (ByteArray.size p0 : Int), .bool false]
def ZO_ref04_ValidString_b0_0 (_p0 : ByteArray) (_i0 : Nat) : List (Nat × List PV) :=
  []
theorem x_ref04_ValidString_b0_0 (p0 : ByteArray) (_H : H_ref04_ValidString_b0 p0) (i0 : Nat) (hc0 : (decide ((i0 : Int) < (ByteArray.size p0 : Int))) = false) : P_ref04_ValidString_b0 p0 (E_ref04_ValidString_b0 p0 i0) (.k0) := by
  exact ⟨(envF (Z_ref04_ValidString_b0_0 p0 i0)), (zoF (ZO_ref04_ValidString_b0_0 p0 i0)), tells_outVI VOK.nil (x := ((.exit 0), S_ref04_ValidString_b0_0 p0 (envF (Z_ref04_ValidString_b0_0 p0 i0)) (zoF (ZO_ref04_ValidString_b0_0 p0 i0)))) [hB 3 hc0] [] (by kernel_rfl)⟩
theorem n_ref04_ValidString_b0_1 (p0 : ByteArray) (H : H_ref04_ValidString_b0 p0) (x0 : Int) (i0 : Nat) (hx0 : (letters p0)[i0]? = some x0) (hi0 : i0 < List.length (letters p0)) (hc0 : (decide ((i0 : Int) < (ByteArray.size p0 : Int))) = true) (h0 : (x0 == 10) = true) {r : Rs} (hr : Tells G (E_ref04_ValidString_b0 p0 (i0 + 1)) r) : Tells G (E_ref04_ValidString_b0 p0 i0) r := by
  have hB0 := H.1; have e0 := eq_of_beq h0
  exact tells_nextVI VOK.nil (y := (HE_ref04_ValidString_b0 p0 (i0 + 1), HO_ref04_ValidString_b0 p0 (i0 + 1))) [hB 3 hc0, hP 2 (six_ok p0 i0 x0 hx0), hP 0 (dec (!(x0 == 10)) false (by rw [h0]; rfl)), hP 13 (inc_ok i0 (by omega))] [] (by kernel_rfl) hr
def Z_ref04_ValidString_b0_2 (p0 : ByteArray) (i0 : Nat) (x0 : Int) : List PV :=
  [.str p0, .un, .un, .int .i64 (i0 : Int), .int .i64 (i0 : Int), .str p0, .int .i64 (ByteArray.size p0 : Int), .bool true, .un, .un, .str p0, .int .i64 (i0 : Int), .int .u8 x0, .bool true, .bool true, .str p0, .int .i64 (i0 : Int), .int .u8 x0, .bool true, .bool true, .tup [], .tup [], .tup [], .tup [], .bool true, .bool true]
def ZO_ref04_ValidString_b0_2 (_p0 : ByteArray) (_i0 : Nat) (_x0 : Int) : List (Nat × List PV) :=
  []
theorem x_ref04_ValidString_b0_2 (p0 : ByteArray) (_H : H_ref04_ValidString_b0 p0) (x0 : Int) (i0 : Nat) (hx0 : (letters p0)[i0]? = some x0) (_hi0 : i0 < List.length (letters p0)) (hc0 : (decide ((i0 : Int) < (ByteArray.size p0 : Int))) = true) (h0 : (x0 == 10) = false) (h1 : (decide (x0 < 32)) = true) : P_ref04_ValidString_b0 p0 (E_ref04_ValidString_b0 p0 i0) (.k1) := by
  exact ⟨(envF (Z_ref04_ValidString_b0_2 p0 i0 x0)), (zoF (ZO_ref04_ValidString_b0_2 p0 i0 x0)), tells_outVI VOK.nil (x := (.ret, S_ref04_ValidString_b0_1 p0 (envF (Z_ref04_ValidString_b0_2 p0 i0 x0)) (zoF (ZO_ref04_ValidString_b0_2 p0 i0 x0)))) [hB 3 hc0, hP 2 (six_ok p0 i0 x0 hx0), hP 0 (dec (!(x0 == 10)) true (by rw [h0]; rfl)), hP 3 (six_ok p0 i0 x0 hx0), hB 0 h1] [] (by kernel_rfl)⟩
def Z_ref04_ValidString_b0_3 (p0 : ByteArray) (i0 : Nat) (x0 : Int) : List PV :=
  [.str p0, .un, .un, .int .i64 (i0 : Int), .int .i64 (i0 : Int), .str p0, .int .i64 (ByteArray.size p0 : Int), .bool true, .un, .un, .str p0, .int .i64 (i0 : Int), .int .u8 x0, .bool true, .bool true, .str p0, .int .i64 (i0 : Int), .int .u8 x0, .bool false, .bool false, .str p0, .int .i64 (i0 : Int), .int .u8 x0, .bool true, .bool true, .bool true]
def ZO_ref04_ValidString_b0_3 (_p0 : ByteArray) (_i0 : Nat) (_x0 : Int) : List (Nat × List PV) :=
  []
theorem x_ref04_ValidString_b0_3 (p0 : ByteArray) (_H : H_ref04_ValidString_b0 p0) (x0 : Int) (i0 : Nat) (hx0 : (letters p0)[i0]? = some x0) (_hi0 : i0 < List.length (letters p0)) (hc0 : (decide ((i0 : Int) < (ByteArray.size p0 : Int))) = true) (h0 : (x0 == 10) = false) (h1 : (decide (x0 < 32)) = false) (h2 : (decide (126 < x0)) = true) : P_ref04_ValidString_b0 p0 (E_ref04_ValidString_b0 p0 i0) (.k1) := by
  exact ⟨(envF (Z_ref04_ValidString_b0_3 p0 i0 x0)), (zoF (ZO_ref04_ValidString_b0_3 p0 i0 x0)), tells_outVI VOK.nil (x := (.ret, S_ref04_ValidString_b0_1 p0 (envF (Z_ref04_ValidString_b0_3 p0 i0 x0)) (zoF (ZO_ref04_ValidString_b0_3 p0 i0 x0)))) [hB 3 hc0, hP 2 (six_ok p0 i0 x0 hx0), hP 0 (dec (!(x0 == 10)) true (by rw [h0]; rfl)), hP 3 (six_ok p0 i0 x0 hx0), hB 0 h1, hP 3 (six_ok p0 i0 x0 hx0), hB 0 h2] [] (by kernel_rfl)⟩
theorem n_ref04_ValidString_b0_4 (p0 : ByteArray) (H : H_ref04_ValidString_b0 p0) (x0 : Int) (i0 : Nat) (hx0 : (letters p0)[i0]? = some x0) (hi0 : i0 < List.length (letters p0)) (hc0 : (decide ((i0 : Int) < (ByteArray.size p0 : Int))) = true) (h0 : (x0 == 10) = false) (h1 : (decide (x0 < 32)) = false) (h2 : (decide (126 < x0)) = false) {r : Rs} (hr : Tells G (E_ref04_ValidString_b0 p0 (i0 + 1)) r) : Tells G (E_ref04_ValidString_b0 p0 i0) r := by
  have hB0 := H.1; have e0 := beq_eq_false_iff_ne.1 h0; have e1 := of_decide_eq_false h1; have e2 := of_decide_eq_false h2
  exact tells_nextVI VOK.nil (y := (HE_ref04_ValidString_b0 p0 (i0 + 1), HO_ref04_ValidString_b0 p0 (i0 + 1))) [hB 3 hc0, hP 2 (six_ok p0 i0 x0 hx0), hP 0 (dec (!(x0 == 10)) true (by rw [h0]; rfl)), hP 3 (six_ok p0 i0 x0 hx0), hB 0 h1, hP 3 (six_ok p0 i0 x0 hx0), hB 0 h2, hP 3 (inc_ok i0 (by omega))] [] (by kernel_rfl) hr
theorem lt_ref04_ValidString_b0 (p0 : ByteArray) (H : H_ref04_ValidString_b0 p0) : ∀ (r0 : List Int) (i0 : Nat), List.drop i0 (letters p0) = r0 → P_ref04_ValidString_b0 p0 (E_ref04_ValidString_b0 p0 i0) (l_ref04_ValidString_b0 p0 r0 i0)
  | [], i0, hd => by
    have hc0 : (decide ((i0 : Int) < (ByteArray.size p0 : Int))) = false := by have hL := lettersLen p0; have := drop_end hd; simp; omega
    rw [l_ref04_ValidString_b0]
    exact x_ref04_ValidString_b0_0 p0 H i0 hc0
  | x0 :: r0, i0, hd => by
    obtain ⟨hx0, hi0, hd'⟩ := drop_get hd
    have hc0 : (decide ((i0 : Int) < (ByteArray.size p0 : Int))) = true := by have hL := lettersLen p0; simp; omega
    rw [l_ref04_ValidString_b0]
    cases h0 : (x0 == 10) with
    | true =>
     exact P_ref04_ValidString_b0_mono p0 (fun r hr => n_ref04_ValidString_b0_1 p0 H x0 i0 hx0 hi0 hc0 h0 hr) _ (lt_ref04_ValidString_b0 p0 H r0 (i0 + 1) hd')
    | false =>
     cases h1 : (decide (x0 < 32)) with
     | true =>
      exact x_ref04_ValidString_b0_2 p0 H x0 i0 hx0 hi0 hc0 h0 h1
     | false =>
      cases h2 : (decide (126 < x0)) with
      | true =>
       exact x_ref04_ValidString_b0_3 p0 H x0 i0 hx0 hi0 hc0 h0 h1 h2
      | false =>
       exact P_ref04_ValidString_b0_mono p0 (fun r hr => n_ref04_ValidString_b0_4 p0 H x0 i0 hx0 hi0 hc0 h0 h1 h2 hr) _ (lt_ref04_ValidString_b0 p0 H r0 (i0 + 1) hd')
/-- orchestrator/ orchestratorref04.ValidString -/
def s_ref04_ValidString (p0 : ByteArray) : Bool :=
  (match (l_ref04_ValidString_b0 p0 (letters p0) 0) with
  | .k0 => (decide ((ByteArray.size p0 : Int) ≤ 200))
  | .k1 => false)
def c_ref04_ValidString (p0 : ByteArray) : En := .call 68 [.str p0] []
def a_ref04_ValidString (p0 : ByteArray) : Rs := .ret (.bool (s_ref04_ValidString p0)) []
def H_ref04_ValidString (p0 : ByteArray) : Prop := (H_ref04_ValidString_b0 p0) ∧ True
theorem t_ref04_ValidString (p0 : ByteArray) (H : H_ref04_ValidString p0) : Tells G (c_ref04_ValidString p0) (a_ref04_ValidString p0) := by
  unfold a_ref04_ValidString s_ref04_ValidString
  have hl0 := lt_ref04_ValidString_b0 p0 (H.1) (letters p0) 0 (by simp)
  cases hr0 : (l_ref04_ValidString_b0 p0 (letters p0) 0) with
  | k0 =>
    rw [hr0] at hl0
    obtain ⟨z0, zo0, hl0⟩ := hl0
    exact tells_VI (fn := Ir.ref04_ValidString) rfl VOK.nil [] [aN hl0] (by kernel_rfl)
  | k1 =>
    rw [hr0] at hl0
    obtain ⟨z0, zo0, hl0⟩ := hl0
    exact tells_VI (fn := Ir.ref04_ValidString) rfl VOK.nil [] [aN hl0] (by kernel_rfl)

/-- orchestrator/ orchestratorref04.scalar -/
def s_ref04_scalar (p0 : Val) : Bool :=
  bif (p0.kind == 1) then
    bif (p0.n == 0) then
      (sEq p0.s (⟨#[]⟩ : ByteArray))
    else
      bif (p0.n == 1) then
        (sEq p0.s (⟨#[]⟩ : ByteArray))
      else
        false
  else
    bif (p0.kind == 2) then
      bif (decide ((-1000000000000000) ≤ p0.n)) then
        bif (decide (p0.n ≤ 1000000000000000)) then
          (sEq p0.s (⟨#[]⟩ : ByteArray))
        else
          false
      else
        false
    else
      bif (p0.kind == 3) then
        bif (p0.n == 0) then
          (s_ref04_ValidString p0.s)
        else
          false
      else
        bif (p0.kind == 0) then
          bif (p0.n == 0) then
            (sEq p0.s (⟨#[]⟩ : ByteArray))
          else
            false
        else
          bif (p0.kind == 4) then
            bif (p0.n == 0) then
              (sEq p0.s (⟨#[]⟩ : ByteArray))
            else
              false
          else
            bif (p0.kind == 5) then
              bif (p0.n == 0) then
                (sEq p0.s (⟨#[]⟩ : ByteArray))
              else
                false
            else
              false
def c_ref04_scalar (p0 : Val) : En := .call 59 [.agg (Val.cells p0)] []
def a_ref04_scalar (p0 : Val) : Rs := .ret (.bool (s_ref04_scalar p0)) []
def H_ref04_scalar (p0 : Val) : Prop := (H_ref04_ValidString p0.s) ∧ True
theorem t_ref04_scalar_0 (p0 : Val) (_H : H_ref04_scalar p0) (h0 : (p0.kind == 1) = true) : Tells G (c_ref04_scalar p0) (.ret (.bool (bif (p0.n == 0) then
    (sEq p0.s (⟨#[]⟩ : ByteArray))
  else
    bif (p0.n == 1) then
      (sEq p0.s (⟨#[]⟩ : ByteArray))
    else
      false)) []) := by
  cases h1 : (p0.n == 0) with
  | true =>
   exact tells_VI (fn := Ir.ref04_scalar) rfl VOK.nil [hB 4 h0, hB 3 h1] [] (by kernel_rfl)
  | false =>
   cases h2 : (p0.n == 1) with
   | true =>
    exact tells_VI (fn := Ir.ref04_scalar) rfl VOK.nil [hB 4 h0, hB 3 h1, hB 3 h2] [] (by kernel_rfl)
   | false =>
    exact tells_VI (fn := Ir.ref04_scalar) rfl VOK.nil [hB 4 h0, hB 3 h1, hB 3 h2] [] (by kernel_rfl)
theorem t_ref04_scalar_1 (p0 : Val) (_H : H_ref04_scalar p0) (h0 : (p0.kind == 1) = false) (h1 : (p0.kind == 2) = true) : Tells G (c_ref04_scalar p0) (.ret (.bool (bif (decide ((-1000000000000000) ≤ p0.n)) then
    bif (decide (p0.n ≤ 1000000000000000)) then
      (sEq p0.s (⟨#[]⟩ : ByteArray))
    else
      false
  else
    false)) []) := by
  cases h2 : (decide ((-1000000000000000) ≤ p0.n)) with
  | true =>
   cases h3 : (decide (p0.n ≤ 1000000000000000)) with
   | true =>
    exact tells_VI (fn := Ir.ref04_scalar) rfl VOK.nil [hB 4 h0, hB 1 h1, hB 3 h2, hB 3 h3] [] (by kernel_rfl)
   | false =>
    exact tells_VI (fn := Ir.ref04_scalar) rfl VOK.nil [hB 4 h0, hB 1 h1, hB 3 h2, hB 3 h3] [] (by kernel_rfl)
  | false =>
   exact tells_VI (fn := Ir.ref04_scalar) rfl VOK.nil [hB 4 h0, hB 1 h1, hB 3 h2] [] (by kernel_rfl)
theorem t_ref04_scalar_2 (p0 : Val) (H : H_ref04_scalar p0) (h0 : (p0.kind == 1) = false) (h1 : (p0.kind == 2) = false) (h2 : (p0.kind == 3) = true) : Tells G (c_ref04_scalar p0) (.ret (.bool (bif (p0.n == 0) then
    (s_ref04_ValidString p0.s)
  else
    false)) []) := by
  cases h3 : (p0.n == 0) with
  | true =>
   exact tells_VI (fn := Ir.ref04_scalar) rfl VOK.nil [hB 4 h0, hB 1 h1, hB 1 h2, hB 3 h3] [aN (t_ref04_ValidString p0.s H.1)] (by kernel_rfl)
  | false =>
   exact tells_VI (fn := Ir.ref04_scalar) rfl VOK.nil [hB 4 h0, hB 1 h1, hB 1 h2, hB 3 h3] [] (by kernel_rfl)
theorem t_ref04_scalar_3 (p0 : Val) (_H : H_ref04_scalar p0) (h0 : (p0.kind == 1) = false) (h1 : (p0.kind == 2) = false) (h2 : (p0.kind == 3) = false) (h3 : (p0.kind == 0) = true) : Tells G (c_ref04_scalar p0) (.ret (.bool (bif (p0.n == 0) then
    (sEq p0.s (⟨#[]⟩ : ByteArray))
  else
    false)) []) := by
  cases h4 : (p0.n == 0) with
  | true =>
   exact tells_VI (fn := Ir.ref04_scalar) rfl VOK.nil [hB 4 h0, hB 1 h1, hB 1 h2, hB 1 h3, hB 3 h4] [] (by kernel_rfl)
  | false =>
   exact tells_VI (fn := Ir.ref04_scalar) rfl VOK.nil [hB 4 h0, hB 1 h1, hB 1 h2, hB 1 h3, hB 3 h4] [] (by kernel_rfl)
theorem t_ref04_scalar_4 (p0 : Val) (_H : H_ref04_scalar p0) (h0 : (p0.kind == 1) = false) (h1 : (p0.kind == 2) = false) (h2 : (p0.kind == 3) = false) (h3 : (p0.kind == 0) = false) : Tells G (c_ref04_scalar p0) (.ret (.bool (bif (p0.kind == 4) then
    bif (p0.n == 0) then
      (sEq p0.s (⟨#[]⟩ : ByteArray))
    else
      false
  else
    bif (p0.kind == 5) then
      bif (p0.n == 0) then
        (sEq p0.s (⟨#[]⟩ : ByteArray))
      else
        false
    else
      false)) []) := by
  cases h4 : (p0.kind == 4) with
  | true =>
   cases h5 : (p0.n == 0) with
   | true =>
    exact tells_VI (fn := Ir.ref04_scalar) rfl VOK.nil [hB 4 h0, hB 1 h1, hB 1 h2, hB 1 h3, hB 1 h4, hB 3 h5] [] (by kernel_rfl)
   | false =>
    exact tells_VI (fn := Ir.ref04_scalar) rfl VOK.nil [hB 4 h0, hB 1 h1, hB 1 h2, hB 1 h3, hB 1 h4, hB 3 h5] [] (by kernel_rfl)
  | false =>
   cases h5 : (p0.kind == 5) with
   | true =>
    cases h6 : (p0.n == 0) with
    | true =>
     exact tells_VI (fn := Ir.ref04_scalar) rfl VOK.nil [hB 4 h0, hB 1 h1, hB 1 h2, hB 1 h3, hB 1 h4, hB 1 h5, hB 3 h6] [] (by kernel_rfl)
    | false =>
     exact tells_VI (fn := Ir.ref04_scalar) rfl VOK.nil [hB 4 h0, hB 1 h1, hB 1 h2, hB 1 h3, hB 1 h4, hB 1 h5, hB 3 h6] [] (by kernel_rfl)
   | false =>
    exact tells_VI (fn := Ir.ref04_scalar) rfl VOK.nil [hB 4 h0, hB 1 h1, hB 1 h2, hB 1 h3, hB 1 h4, hB 1 h5] [] (by kernel_rfl)
theorem t_ref04_scalar (p0 : Val) (H : H_ref04_scalar p0) : Tells G (c_ref04_scalar p0) (a_ref04_scalar p0) := by
  unfold a_ref04_scalar s_ref04_scalar
  cases h0 : (p0.kind == 1) with
  | true =>
   exact t_ref04_scalar_0 p0 H h0
  | false =>
   cases h1 : (p0.kind == 2) with
   | true =>
    exact t_ref04_scalar_1 p0 H h0 h1
   | false =>
    cases h2 : (p0.kind == 3) with
    | true =>
     exact t_ref04_scalar_2 p0 H h0 h1 h2
    | false =>
     cases h3 : (p0.kind == 0) with
     | true =>
      exact t_ref04_scalar_3 p0 H h0 h1 h2 h3
     | false =>
      exact t_ref04_scalar_4 p0 H h0 h1 h2 h3

inductive R_ref04_ValidField_b0 where
  | k0
  | k1
def l_ref04_ValidField_b0 (p0 : ByteArray) : List Int → Nat → R_ref04_ValidField_b0
  | [], _i0 =>
    (.k0)
  | x0 :: r0, i0 =>
    bif (decide (97 ≤ x0)) then
      bif (decide (x0 ≤ 122)) then
        l_ref04_ValidField_b0 p0 r0 (i0 + 1)
      else
        bif (decide (65 ≤ x0)) then
          bif (decide (x0 ≤ 90)) then
            l_ref04_ValidField_b0 p0 r0 (i0 + 1)
          else
            bif (decide (48 ≤ x0)) then
              bif (decide (x0 ≤ 57)) then
                l_ref04_ValidField_b0 p0 r0 (i0 + 1)
              else
                bif (x0 == 45) then
                  l_ref04_ValidField_b0 p0 r0 (i0 + 1)
                else
                  bif (x0 == 95) then
                    l_ref04_ValidField_b0 p0 r0 (i0 + 1)
                  else
                    bif (x0 == 47) then
                      l_ref04_ValidField_b0 p0 r0 (i0 + 1)
                    else
                      (.k1)
            else
              bif (x0 == 45) then
                l_ref04_ValidField_b0 p0 r0 (i0 + 1)
              else
                bif (x0 == 95) then
                  l_ref04_ValidField_b0 p0 r0 (i0 + 1)
                else
                  bif (x0 == 47) then
                    l_ref04_ValidField_b0 p0 r0 (i0 + 1)
                  else
                    (.k1)
        else
          bif (decide (48 ≤ x0)) then
            bif (decide (x0 ≤ 57)) then
              l_ref04_ValidField_b0 p0 r0 (i0 + 1)
            else
              bif (x0 == 45) then
                l_ref04_ValidField_b0 p0 r0 (i0 + 1)
              else
                bif (x0 == 95) then
                  l_ref04_ValidField_b0 p0 r0 (i0 + 1)
                else
                  bif (x0 == 47) then
                    l_ref04_ValidField_b0 p0 r0 (i0 + 1)
                  else
                    (.k1)
          else
            bif (x0 == 45) then
              l_ref04_ValidField_b0 p0 r0 (i0 + 1)
            else
              bif (x0 == 95) then
                l_ref04_ValidField_b0 p0 r0 (i0 + 1)
              else
                bif (x0 == 47) then
                  l_ref04_ValidField_b0 p0 r0 (i0 + 1)
                else
                  (.k1)
    else
      bif (decide (65 ≤ x0)) then
        bif (decide (x0 ≤ 90)) then
          l_ref04_ValidField_b0 p0 r0 (i0 + 1)
        else
          bif (decide (48 ≤ x0)) then
            bif (decide (x0 ≤ 57)) then
              l_ref04_ValidField_b0 p0 r0 (i0 + 1)
            else
              bif (x0 == 45) then
                l_ref04_ValidField_b0 p0 r0 (i0 + 1)
              else
                bif (x0 == 95) then
                  l_ref04_ValidField_b0 p0 r0 (i0 + 1)
                else
                  bif (x0 == 47) then
                    l_ref04_ValidField_b0 p0 r0 (i0 + 1)
                  else
                    (.k1)
          else
            bif (x0 == 45) then
              l_ref04_ValidField_b0 p0 r0 (i0 + 1)
            else
              bif (x0 == 95) then
                l_ref04_ValidField_b0 p0 r0 (i0 + 1)
              else
                bif (x0 == 47) then
                  l_ref04_ValidField_b0 p0 r0 (i0 + 1)
                else
                  (.k1)
      else
        bif (decide (48 ≤ x0)) then
          bif (decide (x0 ≤ 57)) then
            l_ref04_ValidField_b0 p0 r0 (i0 + 1)
          else
            bif (x0 == 45) then
              l_ref04_ValidField_b0 p0 r0 (i0 + 1)
            else
              bif (x0 == 95) then
                l_ref04_ValidField_b0 p0 r0 (i0 + 1)
              else
                bif (x0 == 47) then
                  l_ref04_ValidField_b0 p0 r0 (i0 + 1)
                else
                  (.k1)
        else
          bif (x0 == 45) then
            l_ref04_ValidField_b0 p0 r0 (i0 + 1)
          else
            bif (x0 == 95) then
              l_ref04_ValidField_b0 p0 r0 (i0 + 1)
            else
              bif (x0 == 47) then
                l_ref04_ValidField_b0 p0 r0 (i0 + 1)
              else
                (.k1)
def HE_ref04_ValidField_b0 (p0 : ByteArray) (i0 : Nat) : List PV :=
  [.str p0, .un, .un, .int .i64 (i0 : Int), .un, .un, .un, .un, .un, .un, .un, .un, .un, .un, .un, .un, .un, .un, .un, .un, .un, .un, .un, .un, .un, .un, .un, .un, .un, .un, .un, .un, .un, .un, .un, .un, .un, .un, .un, .un, .un, .un, .un, .un, .un, .un, .un, .un, .un, .un, .un, .un, .un, .un, .un, .un, .un, .un, .un, .un]
def HO_ref04_ValidField_b0 (_p0 : ByteArray) (_i0 : Nat) : List Ob :=
  []
def E_ref04_ValidField_b0 (p0 : ByteArray) (i0 : Nat) : En := .loop 0 Ir.ref04_ValidField_b0_live Ir.ref04_ValidField_b0 (HE_ref04_ValidField_b0 p0 i0) (HO_ref04_ValidField_b0 p0 i0)
def S_ref04_ValidField_b0_0 (p0 : ByteArray) (z : Nat → PV) (_zo : Nat → List PV) : St :=
  ⟨[.str p0, z 1, z 2, z 3, z 4, z 5, z 6, z 7, z 8, z 9, z 10, z 11, z 12, z 13, z 14, z 15, z 16, z 17, z 18, z 19, z 20, z 21, z 22, z 23, z 24, z 25, z 26, z 27, z 28, z 29, z 30, z 31, z 32, z 33, z 34, z 35, z 36, z 37, z 38, z 39, z 40, z 41, z 42, z 43, z 44, z 45, z 46, z 47, z 48, z 49, z 50, z 51, z 52, z 53, z 54, z 55, z 56, z 57, z 58, z 59], [], 256⟩
def S_ref04_ValidField_b0_1 (_p0 : ByteArray) (z : Nat → PV) (_zo : Nat → List PV) : St :=
  ⟨[z 0, z 1, .bool false, z 3, z 4, z 5, z 6, z 7, z 8, z 9, z 10, z 11, z 12, z 13, z 14, z 15, z 16, z 17, z 18, z 19, z 20, z 21, z 22, z 23, z 24, z 25, z 26, z 27, z 28, z 29, z 30, z 31, z 32, z 33, z 34, z 35, z 36, z 37, z 38, z 39, z 40, z 41, z 42, z 43, z 44, z 45, z 46, z 47, z 48, z 49, z 50, z 51, z 52, z 53, z 54, z 55, z 56, z 57, z 58, z 59], [], 3008⟩
def P_ref04_ValidField_b0 (p0 : ByteArray) (e : En) : R_ref04_ValidField_b0 → Prop
  | .k0 => ∃ z zo, Tells G e (.st (.exit 0) (S_ref04_ValidField_b0_0 p0 z zo))
  | .k1 => ∃ z zo, Tells G e (.st .ret (S_ref04_ValidField_b0_1 p0 z zo))
theorem P_ref04_ValidField_b0_mono (p0 : ByteArray) {e e' : En} (h : ∀ r, Tells G e r → Tells G e' r) : ∀ q, P_ref04_ValidField_b0 p0 e q → P_ref04_ValidField_b0 p0 e' q
  | .k0, ⟨z, zo, hz⟩ => ⟨z, zo, h _ hz⟩
  | .k1, ⟨z, zo, hz⟩ => ⟨z, zo, h _ hz⟩
def H_ref04_ValidField_b0 (p0 : ByteArray) : Prop := (List.length (letters p0) ≤ 4611686018427387904) ∧ True
def Z_ref04_ValidField_b0_0 (p0 : ByteArray) (i0 : Nat) : List PV :=
  [.un, .un, .un, .int .i64 (i0 : Int), .un, .un, .int .i64 (i0 : Int), .str p0, .int .i64 (ByteArray.size p0 : Int), .bool false]
def ZO_ref04_ValidField_b0_0 (_p0 : ByteArray) (_i0 : Nat) : List (Nat × List PV) :=
  []
theorem x_ref04_ValidField_b0_0 (p0 : ByteArray) (_H : H_ref04_ValidField_b0 p0) (i0 : Nat) (hc0 : (decide ((i0 : Int) < (ByteArray.size p0 : Int))) = false) : P_ref04_ValidField_b0 p0 (E_ref04_ValidField_b0 p0 i0) (.k0) := by
  exact ⟨(envF (Z_ref04_ValidField_b0_0 p0 i0)), (zoF (ZO_ref04_ValidField_b0_0 p0 i0)), tells_outVI VOK.nil (x := ((.exit 0), S_ref04_ValidField_b0_0 p0 (envF (Z_ref04_ValidField_b0_0 p0 i0)) (zoF (ZO_ref04_ValidField_b0_0 p0 i0)))) [hB 3 hc0] [] (by kernel_rfl)⟩
theorem n_ref04_ValidField_b0_1 (p0 : ByteArray) (H : H_ref04_ValidField_b0 p0) (x0 : Int) (i0 : Nat) (hx0 : (letters p0)[i0]? = some x0) (hi0 : i0 < List.length (letters p0)) (hc0 : (decide ((i0 : Int) < (ByteArray.size p0 : Int))) = true) (h0 : (decide (97 ≤ x0)) = true) (h1 : (decide (x0 ≤ 122)) = true) {r : Rs} (hr : Tells G (E_ref04_ValidField_b0 p0 (i0 + 1)) r) : Tells G (E_ref04_ValidField_b0 p0 i0) r := by
  have hB0 := H.1; have e0 := of_decide_eq_true h0; have e1 := of_decide_eq_true h1
  exact tells_nextVI VOK.nil (y := (HE_ref04_ValidField_b0 p0 (i0 + 1), HO_ref04_ValidField_b0 p0 (i0 + 1))) [hB 3 hc0, hP 2 (six_ok p0 i0 x0 hx0), hB 2 h0, hB 2 h1, hP 34 (inc_ok i0 (by omega))] [] (by kernel_rfl) hr
theorem n_ref04_ValidField_b0_2 (p0 : ByteArray) (H : H_ref04_ValidField_b0 p0) (x0 : Int) (i0 : Nat) (hx0 : (letters p0)[i0]? = some x0) (_hi0 : i0 < List.length (letters p0)) (hc0 : (decide ((i0 : Int) < (ByteArray.size p0 : Int))) = true) (h0 : (decide (97 ≤ x0)) = true) (h1 : (decide (x0 ≤ 122)) = false) (h2 : (decide (65 ≤ x0)) = true) (h3 : (decide (x0 ≤ 90)) = true) {r : Rs} (hr : Tells G (E_ref04_ValidField_b0 p0 (i0 + 1)) r) : Tells G (E_ref04_ValidField_b0 p0 i0) r := by
  have hB0 := H.1; have e0 := of_decide_eq_true h0; have e1 := of_decide_eq_false h1; have e2 := of_decide_eq_true h2; have e3 := of_decide_eq_true h3
  exact tells_nextVI VOK.nil (y := (HE_ref04_ValidField_b0 p0 (i0 + 1), HO_ref04_ValidField_b0 p0 (i0 + 1))) [hB 3 hc0, hP 2 (six_ok p0 i0 x0 hx0), hB 2 h0, hB 2 h1, hB 3 h2, hB 2 h3, hP 27 (inc_ok i0 (by omega))] [] (by kernel_rfl) hr
theorem n_ref04_ValidField_b0_3 (p0 : ByteArray) (H : H_ref04_ValidField_b0 p0) (x0 : Int) (i0 : Nat) (hx0 : (letters p0)[i0]? = some x0) (_hi0 : i0 < List.length (letters p0)) (hc0 : (decide ((i0 : Int) < (ByteArray.size p0 : Int))) = true) (h0 : (decide (97 ≤ x0)) = true) (h1 : (decide (x0 ≤ 122)) = false) (h2 : (decide (65 ≤ x0)) = true) (h3 : (decide (x0 ≤ 90)) = false) (h4 : (decide (48 ≤ x0)) = true) (h5 : (decide (x0 ≤ 57)) = true) {r : Rs} (hr : Tells G (E_ref04_ValidField_b0 p0 (i0 + 1)) r) : Tells G (E_ref04_ValidField_b0 p0 i0) r := by
  have hB0 := H.1; have e0 := of_decide_eq_true h0; have e1 := of_decide_eq_false h1; have e2 := of_decide_eq_true h2; have e3 := of_decide_eq_false h3; have e4 := of_decide_eq_true h4; have e5 := of_decide_eq_true h5
  exact tells_nextVI VOK.nil (y := (HE_ref04_ValidField_b0 p0 (i0 + 1), HO_ref04_ValidField_b0 p0 (i0 + 1))) [hB 3 hc0, hP 2 (six_ok p0 i0 x0 hx0), hB 2 h0, hB 2 h1, hB 3 h2, hB 2 h3, hB 7 h4, hB 2 h5, hP 16 (inc_ok i0 (by omega))] [] (by kernel_rfl) hr
theorem n_ref04_ValidField_b0_4 (p0 : ByteArray) (H : H_ref04_ValidField_b0 p0) (x0 : Int) (i0 : Nat) (hx0 : (letters p0)[i0]? = some x0) (_hi0 : i0 < List.length (letters p0)) (hc0 : (decide ((i0 : Int) < (ByteArray.size p0 : Int))) = true) (h0 : (decide (97 ≤ x0)) = true) (h1 : (decide (x0 ≤ 122)) = false) (h2 : (decide (65 ≤ x0)) = true) (h3 : (decide (x0 ≤ 90)) = false) (h4 : (decide (48 ≤ x0)) = true) (h5 : (decide (x0 ≤ 57)) = false) (h6 : (x0 == 45) = true) {r : Rs} (hr : Tells G (E_ref04_ValidField_b0 p0 (i0 + 1)) r) : Tells G (E_ref04_ValidField_b0 p0 i0) r := by
  have hB0 := H.1; have e0 := of_decide_eq_true h0; have e1 := of_decide_eq_false h1; have e2 := of_decide_eq_true h2; have e3 := of_decide_eq_false h3; have e4 := of_decide_eq_true h4; have e5 := of_decide_eq_false h5; have e6 := eq_of_beq h6
  exact tells_nextVI VOK.nil (y := (HE_ref04_ValidField_b0 p0 (i0 + 1), HO_ref04_ValidField_b0 p0 (i0 + 1))) [hB 3 hc0, hP 2 (six_ok p0 i0 x0 hx0), hB 2 h0, hB 2 h1, hB 3 h2, hB 2 h3, hB 7 h4, hB 2 h5, hP 5 (dec (!(x0 == 45)) false (by rw [h6]; rfl)), hP 10 (inc_ok i0 (by omega))] [] (by kernel_rfl) hr
theorem n_ref04_ValidField_b0_5 (p0 : ByteArray) (H : H_ref04_ValidField_b0 p0) (x0 : Int) (i0 : Nat) (hx0 : (letters p0)[i0]? = some x0) (_hi0 : i0 < List.length (letters p0)) (hc0 : (decide ((i0 : Int) < (ByteArray.size p0 : Int))) = true) (h0 : (decide (97 ≤ x0)) = true) (h1 : (decide (x0 ≤ 122)) = false) (h2 : (decide (65 ≤ x0)) = true) (h3 : (decide (x0 ≤ 90)) = false) (h4 : (decide (48 ≤ x0)) = true) (h5 : (decide (x0 ≤ 57)) = false) (h6 : (x0 == 45) = false) (h7 : (x0 == 95) = true) {r : Rs} (hr : Tells G (E_ref04_ValidField_b0 p0 (i0 + 1)) r) : Tells G (E_ref04_ValidField_b0 p0 i0) r := by
  have hB0 := H.1; have e0 := of_decide_eq_true h0; have e1 := of_decide_eq_false h1; have e2 := of_decide_eq_true h2; have e3 := of_decide_eq_false h3; have e4 := of_decide_eq_true h4; have e5 := of_decide_eq_false h5; have e6 := beq_eq_false_iff_ne.1 h6; have e7 := eq_of_beq h7
  exact tells_nextVI VOK.nil (y := (HE_ref04_ValidField_b0 p0 (i0 + 1), HO_ref04_ValidField_b0 p0 (i0 + 1))) [hB 3 hc0, hP 2 (six_ok p0 i0 x0 hx0), hB 2 h0, hB 2 h1, hB 3 h2, hB 2 h3, hB 7 h4, hB 2 h5, hP 5 (dec (!(x0 == 45)) true (by rw [h6]; rfl)), hP 3 (dec (!(x0 == 95)) false (by rw [h7]; rfl)), hP 6 (inc_ok i0 (by omega))] [] (by kernel_rfl) hr
theorem n_ref04_ValidField_b0_6 (p0 : ByteArray) (H : H_ref04_ValidField_b0 p0) (x0 : Int) (i0 : Nat) (hx0 : (letters p0)[i0]? = some x0) (_hi0 : i0 < List.length (letters p0)) (hc0 : (decide ((i0 : Int) < (ByteArray.size p0 : Int))) = true) (h0 : (decide (97 ≤ x0)) = true) (h1 : (decide (x0 ≤ 122)) = false) (h2 : (decide (65 ≤ x0)) = true) (h3 : (decide (x0 ≤ 90)) = false) (h4 : (decide (48 ≤ x0)) = true) (h5 : (decide (x0 ≤ 57)) = false) (h6 : (x0 == 45) = false) (h7 : (x0 == 95) = false) (h8 : (x0 == 47) = true) {r : Rs} (hr : Tells G (E_ref04_ValidField_b0 p0 (i0 + 1)) r) : Tells G (E_ref04_ValidField_b0 p0 i0) r := by
  have hB0 := H.1; have e0 := of_decide_eq_true h0; have e1 := of_decide_eq_false h1; have e2 := of_decide_eq_true h2; have e3 := of_decide_eq_false h3; have e4 := of_decide_eq_true h4; have e5 := of_decide_eq_false h5; have e6 := beq_eq_false_iff_ne.1 h6; have e7 := beq_eq_false_iff_ne.1 h7; have e8 := eq_of_beq h8
  exact tells_nextVI VOK.nil (y := (HE_ref04_ValidField_b0 p0 (i0 + 1), HO_ref04_ValidField_b0 p0 (i0 + 1))) [hB 3 hc0, hP 2 (six_ok p0 i0 x0 hx0), hB 2 h0, hB 2 h1, hB 3 h2, hB 2 h3, hB 7 h4, hB 2 h5, hP 5 (dec (!(x0 == 45)) true (by rw [h6]; rfl)), hP 3 (dec (!(x0 == 95)) true (by rw [h7]; rfl)), hP 3 (dec (!(x0 == 47)) false (by rw [h8]; rfl)), hP 2 (inc_ok i0 (by omega))] [] (by kernel_rfl) hr
def Z_ref04_ValidField_b0_7 (p0 : ByteArray) (i0 : Nat) (x0 : Int) : List PV :=
  [.str p0, .un, .un, .int .i64 (i0 : Int), .int .u8 x0, .bool false, .int .i64 (i0 : Int), .str p0, .int .i64 (ByteArray.size p0 : Int), .bool true, .un, .un, .str p0, .int .i64 (i0 : Int), .int .u8 x0, .int .u8 x0, .bool true, .bool true, .int .u8 x0, .bool false, .bool false, .bool false, .int .u8 x0, .bool true, .bool true, .int .u8 x0, .bool false, .bool false, .bool false, .bool false, .bool true, .bool true, .int .u8 x0, .bool true, .bool true, .int .u8 x0, .bool false, .bool false, .bool true, .bool true, .bool true, .int .u8 x0, .bool true, .bool true, .bool true, .int .u8 x0, .bool true, .bool true, .bool true, .int .u8 x0, .bool true, .bool true]
def ZO_ref04_ValidField_b0_7 (_p0 : ByteArray) (_i0 : Nat) (_x0 : Int) : List (Nat × List PV) :=
  []
theorem x_ref04_ValidField_b0_7 (p0 : ByteArray) (_H : H_ref04_ValidField_b0 p0) (x0 : Int) (i0 : Nat) (hx0 : (letters p0)[i0]? = some x0) (_hi0 : i0 < List.length (letters p0)) (hc0 : (decide ((i0 : Int) < (ByteArray.size p0 : Int))) = true) (h0 : (decide (97 ≤ x0)) = true) (h1 : (decide (x0 ≤ 122)) = false) (h2 : (decide (65 ≤ x0)) = true) (h3 : (decide (x0 ≤ 90)) = false) (h4 : (decide (48 ≤ x0)) = true) (h5 : (decide (x0 ≤ 57)) = false) (h6 : (x0 == 45) = false) (h7 : (x0 == 95) = false) (h8 : (x0 == 47) = false) : P_ref04_ValidField_b0 p0 (E_ref04_ValidField_b0 p0 i0) (.k1) := by
  exact ⟨(envF (Z_ref04_ValidField_b0_7 p0 i0 x0)), (zoF (ZO_ref04_ValidField_b0_7 p0 i0 x0)), tells_outVI VOK.nil (x := (.ret, S_ref04_ValidField_b0_1 p0 (envF (Z_ref04_ValidField_b0_7 p0 i0 x0)) (zoF (ZO_ref04_ValidField_b0_7 p0 i0 x0)))) [hB 3 hc0, hP 2 (six_ok p0 i0 x0 hx0), hB 2 h0, hB 2 h1, hB 3 h2, hB 2 h3, hB 7 h4, hB 2 h5, hP 5 (dec (!(x0 == 45)) true (by rw [h6]; rfl)), hP 3 (dec (!(x0 == 95)) true (by rw [h7]; rfl)), hP 3 (dec (!(x0 == 47)) true (by rw [h8]; rfl))] [] (by kernel_rfl)⟩
theorem n_ref04_ValidField_b0_8 (p0 : ByteArray) (H : H_ref04_ValidField_b0 p0) (x0 : Int) (i0 : Nat) (hx0 : (letters p0)[i0]? = some x0) (_hi0 : i0 < List.length (letters p0)) (hc0 : (decide ((i0 : Int) < (ByteArray.size p0 : Int))) = true) (h0 : (decide (97 ≤ x0)) = true) (h1 : (decide (x0 ≤ 122)) = false) (h2 : (decide (65 ≤ x0)) = true) (h3 : (decide (x0 ≤ 90)) = false) (h4 : (decide (48 ≤ x0)) = false) (h5 : (x0 == 45) = true) {r : Rs} (hr : Tells G (E_ref04_ValidField_b0 p0 (i0 + 1)) r) : Tells G (E_ref04_ValidField_b0 p0 i0) r := by
  have hB0 := H.1; have e0 := of_decide_eq_true h0; have e1 := of_decide_eq_false h1; have e2 := of_decide_eq_true h2; have e3 := of_decide_eq_false h3; have e4 := of_decide_eq_false h4; have e5 := eq_of_beq h5
  exact tells_nextVI VOK.nil (y := (HE_ref04_ValidField_b0 p0 (i0 + 1), HO_ref04_ValidField_b0 p0 (i0 + 1))) [hB 3 hc0, hP 2 (six_ok p0 i0 x0 hx0), hB 2 h0, hB 2 h1, hB 3 h2, hB 2 h3, hB 7 h4, hP 8 (dec (!(x0 == 45)) false (by rw [h5]; rfl)), hP 10 (inc_ok i0 (by omega))] [] (by kernel_rfl) hr
theorem n_ref04_ValidField_b0_9 (p0 : ByteArray) (H : H_ref04_ValidField_b0 p0) (x0 : Int) (i0 : Nat) (hx0 : (letters p0)[i0]? = some x0) (_hi0 : i0 < List.length (letters p0)) (hc0 : (decide ((i0 : Int) < (ByteArray.size p0 : Int))) = true) (h0 : (decide (97 ≤ x0)) = true) (h1 : (decide (x0 ≤ 122)) = false) (h2 : (decide (65 ≤ x0)) = true) (h3 : (decide (x0 ≤ 90)) = false) (h4 : (decide (48 ≤ x0)) = false) (h5 : (x0 == 45) = false) (h6 : (x0 == 95) = true) {r : Rs} (hr : Tells G (E_ref04_ValidField_b0 p0 (i0 + 1)) r) : Tells G (E_ref04_ValidField_b0 p0 i0) r := by
  have hB0 := H.1; have e0 := of_decide_eq_true h0; have e1 := of_decide_eq_false h1; have e2 := of_decide_eq_true h2; have e3 := of_decide_eq_false h3; have e4 := of_decide_eq_false h4; have e5 := beq_eq_false_iff_ne.1 h5; have e6 := eq_of_beq h6
  exact tells_nextVI VOK.nil (y := (HE_ref04_ValidField_b0 p0 (i0 + 1), HO_ref04_ValidField_b0 p0 (i0 + 1))) [hB 3 hc0, hP 2 (six_ok p0 i0 x0 hx0), hB 2 h0, hB 2 h1, hB 3 h2, hB 2 h3, hB 7 h4, hP 8 (dec (!(x0 == 45)) true (by rw [h5]; rfl)), hP 3 (dec (!(x0 == 95)) false (by rw [h6]; rfl)), hP 6 (inc_ok i0 (by omega))] [] (by kernel_rfl) hr
theorem n_ref04_ValidField_b0_10 (p0 : ByteArray) (H : H_ref04_ValidField_b0 p0) (x0 : Int) (i0 : Nat) (hx0 : (letters p0)[i0]? = some x0) (_hi0 : i0 < List.length (letters p0)) (hc0 : (decide ((i0 : Int) < (ByteArray.size p0 : Int))) = true) (h0 : (decide (97 ≤ x0)) = true) (h1 : (decide (x0 ≤ 122)) = false) (h2 : (decide (65 ≤ x0)) = true) (h3 : (decide (x0 ≤ 90)) = false) (h4 : (decide (48 ≤ x0)) = false) (h5 : (x0 == 45) = false) (h6 : (x0 == 95) = false) (h7 : (x0 == 47) = true) {r : Rs} (hr : Tells G (E_ref04_ValidField_b0 p0 (i0 + 1)) r) : Tells G (E_ref04_ValidField_b0 p0 i0) r := by
  have hB0 := H.1; have e0 := of_decide_eq_true h0; have e1 := of_decide_eq_false h1; have e2 := of_decide_eq_true h2; have e3 := of_decide_eq_false h3; have e4 := of_decide_eq_false h4; have e5 := beq_eq_false_iff_ne.1 h5; have e6 := beq_eq_false_iff_ne.1 h6; have e7 := eq_of_beq h7
  exact tells_nextVI VOK.nil (y := (HE_ref04_ValidField_b0 p0 (i0 + 1), HO_ref04_ValidField_b0 p0 (i0 + 1))) [hB 3 hc0, hP 2 (six_ok p0 i0 x0 hx0), hB 2 h0, hB 2 h1, hB 3 h2, hB 2 h3, hB 7 h4, hP 8 (dec (!(x0 == 45)) true (by rw [h5]; rfl)), hP 3 (dec (!(x0 == 95)) true (by rw [h6]; rfl)), hP 3 (dec (!(x0 == 47)) false (by rw [h7]; rfl)), hP 2 (inc_ok i0 (by omega))] [] (by kernel_rfl) hr
def Z_ref04_ValidField_b0_11 (p0 : ByteArray) (i0 : Nat) (x0 : Int) : List PV :=
  [.str p0, .un, .un, .int .i64 (i0 : Int), .int .u8 x0, .bool false, .int .i64 (i0 : Int), .str p0, .int .i64 (ByteArray.size p0 : Int), .bool true, .un, .un, .str p0, .int .i64 (i0 : Int), .int .u8 x0, .int .u8 x0, .bool true, .bool true, .int .u8 x0, .bool false, .bool false, .bool false, .int .u8 x0, .bool true, .bool true, .int .u8 x0, .bool false, .bool false, .bool false, .bool false, .bool true, .bool true, .int .u8 x0, .bool false, .bool false, .tup [], .tup [], .bool false, .bool true, .bool true, .bool true, .int .u8 x0, .bool true, .bool true, .bool true, .int .u8 x0, .bool true, .bool true, .bool true, .int .u8 x0, .bool true, .bool true]
def ZO_ref04_ValidField_b0_11 (_p0 : ByteArray) (_i0 : Nat) (_x0 : Int) : List (Nat × List PV) :=
  []
theorem x_ref04_ValidField_b0_11 (p0 : ByteArray) (_H : H_ref04_ValidField_b0 p0) (x0 : Int) (i0 : Nat) (hx0 : (letters p0)[i0]? = some x0) (_hi0 : i0 < List.length (letters p0)) (hc0 : (decide ((i0 : Int) < (ByteArray.size p0 : Int))) = true) (h0 : (decide (97 ≤ x0)) = true) (h1 : (decide (x0 ≤ 122)) = false) (h2 : (decide (65 ≤ x0)) = true) (h3 : (decide (x0 ≤ 90)) = false) (h4 : (decide (48 ≤ x0)) = false) (h5 : (x0 == 45) = false) (h6 : (x0 == 95) = false) (h7 : (x0 == 47) = false) : P_ref04_ValidField_b0 p0 (E_ref04_ValidField_b0 p0 i0) (.k1) := by
  exact ⟨(envF (Z_ref04_ValidField_b0_11 p0 i0 x0)), (zoF (ZO_ref04_ValidField_b0_11 p0 i0 x0)), tells_outVI VOK.nil (x := (.ret, S_ref04_ValidField_b0_1 p0 (envF (Z_ref04_ValidField_b0_11 p0 i0 x0)) (zoF (ZO_ref04_ValidField_b0_11 p0 i0 x0)))) [hB 3 hc0, hP 2 (six_ok p0 i0 x0 hx0), hB 2 h0, hB 2 h1, hB 3 h2, hB 2 h3, hB 7 h4, hP 8 (dec (!(x0 == 45)) true (by rw [h5]; rfl)), hP 3 (dec (!(x0 == 95)) true (by rw [h6]; rfl)), hP 3 (dec (!(x0 == 47)) true (by rw [h7]; rfl))] [] (by kernel_rfl)⟩
theorem n_ref04_ValidField_b0_12 (p0 : ByteArray) (H : H_ref04_ValidField_b0 p0) (x0 : Int) (i0 : Nat) (hx0 : (letters p0)[i0]? = some x0) (_hi0 : i0 < List.length (letters p0)) (hc0 : (decide ((i0 : Int) < (ByteArray.size p0 : Int))) = true) (h0 : (decide (97 ≤ x0)) = true) (h1 : (decide (x0 ≤ 122)) = false) (h2 : (decide (65 ≤ x0)) = false) (h3 : (decide (48 ≤ x0)) = true) (h4 : (decide (x0 ≤ 57)) = true) {r : Rs} (hr : Tells G (E_ref04_ValidField_b0 p0 (i0 + 1)) r) : Tells G (E_ref04_ValidField_b0 p0 i0) r := by
  have hB0 := H.1; have e0 := of_decide_eq_true h0; have e1 := of_decide_eq_false h1; have e2 := of_decide_eq_false h2; have e3 := of_decide_eq_true h3; have e4 := of_decide_eq_true h4
  exact tells_nextVI VOK.nil (y := (HE_ref04_ValidField_b0 p0 (i0 + 1), HO_ref04_ValidField_b0 p0 (i0 + 1))) [hB 3 hc0, hP 2 (six_ok p0 i0 x0 hx0), hB 2 h0, hB 2 h1, hB 3 h2, hB 10 h3, hB 2 h4, hP 16 (inc_ok i0 (by omega))] [] (by kernel_rfl) hr
theorem n_ref04_ValidField_b0_13 (p0 : ByteArray) (H : H_ref04_ValidField_b0 p0) (x0 : Int) (i0 : Nat) (hx0 : (letters p0)[i0]? = some x0) (_hi0 : i0 < List.length (letters p0)) (hc0 : (decide ((i0 : Int) < (ByteArray.size p0 : Int))) = true) (h0 : (decide (97 ≤ x0)) = true) (h1 : (decide (x0 ≤ 122)) = false) (h2 : (decide (65 ≤ x0)) = false) (h3 : (decide (48 ≤ x0)) = true) (h4 : (decide (x0 ≤ 57)) = false) (h5 : (x0 == 45) = true) {r : Rs} (hr : Tells G (E_ref04_ValidField_b0 p0 (i0 + 1)) r) : Tells G (E_ref04_ValidField_b0 p0 i0) r := by
  have hB0 := H.1; have e0 := of_decide_eq_true h0; have e1 := of_decide_eq_false h1; have e2 := of_decide_eq_false h2; have e3 := of_decide_eq_true h3; have e4 := of_decide_eq_false h4; have e5 := eq_of_beq h5
  exact tells_nextVI VOK.nil (y := (HE_ref04_ValidField_b0 p0 (i0 + 1), HO_ref04_ValidField_b0 p0 (i0 + 1))) [hB 3 hc0, hP 2 (six_ok p0 i0 x0 hx0), hB 2 h0, hB 2 h1, hB 3 h2, hB 10 h3, hB 2 h4, hP 5 (dec (!(x0 == 45)) false (by rw [h5]; rfl)), hP 10 (inc_ok i0 (by omega))] [] (by kernel_rfl) hr
theorem n_ref04_ValidField_b0_14 (p0 : ByteArray) (H : H_ref04_ValidField_b0 p0) (x0 : Int) (i0 : Nat) (hx0 : (letters p0)[i0]? = some x0) (_hi0 : i0 < List.length (letters p0)) (hc0 : (decide ((i0 : Int) < (ByteArray.size p0 : Int))) = true) (h0 : (decide (97 ≤ x0)) = true) (h1 : (decide (x0 ≤ 122)) = false) (h2 : (decide (65 ≤ x0)) = false) (h3 : (decide (48 ≤ x0)) = true) (h4 : (decide (x0 ≤ 57)) = false) (h5 : (x0 == 45) = false) (h6 : (x0 == 95) = true) {r : Rs} (hr : Tells G (E_ref04_ValidField_b0 p0 (i0 + 1)) r) : Tells G (E_ref04_ValidField_b0 p0 i0) r := by
  have hB0 := H.1; have e0 := of_decide_eq_true h0; have e1 := of_decide_eq_false h1; have e2 := of_decide_eq_false h2; have e3 := of_decide_eq_true h3; have e4 := of_decide_eq_false h4; have e5 := beq_eq_false_iff_ne.1 h5; have e6 := eq_of_beq h6
  exact tells_nextVI VOK.nil (y := (HE_ref04_ValidField_b0 p0 (i0 + 1), HO_ref04_ValidField_b0 p0 (i0 + 1))) [hB 3 hc0, hP 2 (six_ok p0 i0 x0 hx0), hB 2 h0, hB 2 h1, hB 3 h2, hB 10 h3, hB 2 h4, hP 5 (dec (!(x0 == 45)) true (by rw [h5]; rfl)), hP 3 (dec (!(x0 == 95)) false (by rw [h6]; rfl)), hP 6 (inc_ok i0 (by omega))] [] (by kernel_rfl) hr
theorem n_ref04_ValidField_b0_15 (p0 : ByteArray) (H : H_ref04_ValidField_b0 p0) (x0 : Int) (i0 : Nat) (hx0 : (letters p0)[i0]? = some x0) (_hi0 : i0 < List.length (letters p0)) (hc0 : (decide ((i0 : Int) < (ByteArray.size p0 : Int))) = true) (h0 : (decide (97 ≤ x0)) = true) (h1 : (decide (x0 ≤ 122)) = false) (h2 : (decide (65 ≤ x0)) = false) (h3 : (decide (48 ≤ x0)) = true) (h4 : (decide (x0 ≤ 57)) = false) (h5 : (x0 == 45) = false) (h6 : (x0 == 95) = false) (h7 : (x0 == 47) = true) {r : Rs} (hr : Tells G (E_ref04_ValidField_b0 p0 (i0 + 1)) r) : Tells G (E_ref04_ValidField_b0 p0 i0) r := by
  have hB0 := H.1; have e0 := of_decide_eq_true h0; have e1 := of_decide_eq_false h1; have e2 := of_decide_eq_false h2; have e3 := of_decide_eq_true h3; have e4 := of_decide_eq_false h4; have e5 := beq_eq_false_iff_ne.1 h5; have e6 := beq_eq_false_iff_ne.1 h6; have e7 := eq_of_beq h7
  exact tells_nextVI VOK.nil (y := (HE_ref04_ValidField_b0 p0 (i0 + 1), HO_ref04_ValidField_b0 p0 (i0 + 1))) [hB 3 hc0, hP 2 (six_ok p0 i0 x0 hx0), hB 2 h0, hB 2 h1, hB 3 h2, hB 10 h3, hB 2 h4, hP 5 (dec (!(x0 == 45)) true (by rw [h5]; rfl)), hP 3 (dec (!(x0 == 95)) true (by rw [h6]; rfl)), hP 3 (dec (!(x0 == 47)) false (by rw [h7]; rfl)), hP 2 (inc_ok i0 (by omega))] [] (by kernel_rfl) hr
def Z_ref04_ValidField_b0_16 (p0 : ByteArray) (i0 : Nat) (x0 : Int) : List PV :=
  [.str p0, .un, .un, .int .i64 (i0 : Int), .int .u8 x0, .bool false, .int .i64 (i0 : Int), .str p0, .int .i64 (ByteArray.size p0 : Int), .bool true, .un, .un, .str p0, .int .i64 (i0 : Int), .int .u8 x0, .int .u8 x0, .bool true, .bool true, .int .u8 x0, .bool false, .bool false, .bool false, .int .u8 x0, .bool false, .bool false, .tup [], .tup [], .bool false, .bool false, .bool false, .bool true, .bool true, .int .u8 x0, .bool true, .bool true, .int .u8 x0, .bool false, .bool false, .bool true, .bool true, .bool true, .int .u8 x0, .bool true, .bool true, .bool true, .int .u8 x0, .bool true, .bool true, .bool true, .int .u8 x0, .bool true, .bool true]
def ZO_ref04_ValidField_b0_16 (_p0 : ByteArray) (_i0 : Nat) (_x0 : Int) : List (Nat × List PV) :=
  []
theorem x_ref04_ValidField_b0_16 (p0 : ByteArray) (_H : H_ref04_ValidField_b0 p0) (x0 : Int) (i0 : Nat) (hx0 : (letters p0)[i0]? = some x0) (_hi0 : i0 < List.length (letters p0)) (hc0 : (decide ((i0 : Int) < (ByteArray.size p0 : Int))) = true) (h0 : (decide (97 ≤ x0)) = true) (h1 : (decide (x0 ≤ 122)) = false) (h2 : (decide (65 ≤ x0)) = false) (h3 : (decide (48 ≤ x0)) = true) (h4 : (decide (x0 ≤ 57)) = false) (h5 : (x0 == 45) = false) (h6 : (x0 == 95) = false) (h7 : (x0 == 47) = false) : P_ref04_ValidField_b0 p0 (E_ref04_ValidField_b0 p0 i0) (.k1) := by
  exact ⟨(envF (Z_ref04_ValidField_b0_16 p0 i0 x0)), (zoF (ZO_ref04_ValidField_b0_16 p0 i0 x0)), tells_outVI VOK.nil (x := (.ret, S_ref04_ValidField_b0_1 p0 (envF (Z_ref04_ValidField_b0_16 p0 i0 x0)) (zoF (ZO_ref04_ValidField_b0_16 p0 i0 x0)))) [hB 3 hc0, hP 2 (six_ok p0 i0 x0 hx0), hB 2 h0, hB 2 h1, hB 3 h2, hB 10 h3, hB 2 h4, hP 5 (dec (!(x0 == 45)) true (by rw [h5]; rfl)), hP 3 (dec (!(x0 == 95)) true (by rw [h6]; rfl)), hP 3 (dec (!(x0 == 47)) true (by rw [h7]; rfl))] [] (by kernel_rfl)⟩
theorem n_ref04_ValidField_b0_17 (p0 : ByteArray) (H : H_ref04_ValidField_b0 p0) (x0 : Int) (i0 : Nat) (hx0 : (letters p0)[i0]? = some x0) (_hi0 : i0 < List.length (letters p0)) (hc0 : (decide ((i0 : Int) < (ByteArray.size p0 : Int))) = true) (h0 : (decide (97 ≤ x0)) = true) (h1 : (decide (x0 ≤ 122)) = false) (h2 : (decide (65 ≤ x0)) = false) (h3 : (decide (48 ≤ x0)) = false) (h4 : (x0 == 45) = true) {r : Rs} (hr : Tells G (E_ref04_ValidField_b0 p0 (i0 + 1)) r) : Tells G (E_ref04_ValidField_b0 p0 i0) r := by
  have hB0 := H.1; have e0 := of_decide_eq_true h0; have e1 := of_decide_eq_false h1; have e2 := of_decide_eq_false h2; have e3 := of_decide_eq_false h3; have e4 := eq_of_beq h4
  exact tells_nextVI VOK.nil (y := (HE_ref04_ValidField_b0 p0 (i0 + 1), HO_ref04_ValidField_b0 p0 (i0 + 1))) [hB 3 hc0, hP 2 (six_ok p0 i0 x0 hx0), hB 2 h0, hB 2 h1, hB 3 h2, hB 10 h3, hP 8 (dec (!(x0 == 45)) false (by rw [h4]; rfl)), hP 10 (inc_ok i0 (by omega))] [] (by kernel_rfl) hr
theorem n_ref04_ValidField_b0_18 (p0 : ByteArray) (H : H_ref04_ValidField_b0 p0) (x0 : Int) (i0 : Nat) (hx0 : (letters p0)[i0]? = some x0) (_hi0 : i0 < List.length (letters p0)) (hc0 : (decide ((i0 : Int) < (ByteArray.size p0 : Int))) = true) (h0 : (decide (97 ≤ x0)) = true) (h1 : (decide (x0 ≤ 122)) = false) (h2 : (decide (65 ≤ x0)) = false) (h3 : (decide (48 ≤ x0)) = false) (h4 : (x0 == 45) = false) (h5 : (x0 == 95) = true) {r : Rs} (hr : Tells G (E_ref04_ValidField_b0 p0 (i0 + 1)) r) : Tells G (E_ref04_ValidField_b0 p0 i0) r := by
  have hB0 := H.1; have e0 := of_decide_eq_true h0; have e1 := of_decide_eq_false h1; have e2 := of_decide_eq_false h2; have e3 := of_decide_eq_false h3; have e4 := beq_eq_false_iff_ne.1 h4; have e5 := eq_of_beq h5
  exact tells_nextVI VOK.nil (y := (HE_ref04_ValidField_b0 p0 (i0 + 1), HO_ref04_ValidField_b0 p0 (i0 + 1))) [hB 3 hc0, hP 2 (six_ok p0 i0 x0 hx0), hB 2 h0, hB 2 h1, hB 3 h2, hB 10 h3, hP 8 (dec (!(x0 == 45)) true (by rw [h4]; rfl)), hP 3 (dec (!(x0 == 95)) false (by rw [h5]; rfl)), hP 6 (inc_ok i0 (by omega))] [] (by kernel_rfl) hr
theorem n_ref04_ValidField_b0_19 (p0 : ByteArray) (H : H_ref04_ValidField_b0 p0) (x0 : Int) (i0 : Nat) (hx0 : (letters p0)[i0]? = some x0) (_hi0 : i0 < List.length (letters p0)) (hc0 : (decide ((i0 : Int) < (ByteArray.size p0 : Int))) = true) (h0 : (decide (97 ≤ x0)) = true) (h1 : (decide (x0 ≤ 122)) = false) (h2 : (decide (65 ≤ x0)) = false) (h3 : (decide (48 ≤ x0)) = false) (h4 : (x0 == 45) = false) (h5 : (x0 == 95) = false) (h6 : (x0 == 47) = true) {r : Rs} (hr : Tells G (E_ref04_ValidField_b0 p0 (i0 + 1)) r) : Tells G (E_ref04_ValidField_b0 p0 i0) r := by
  have hB0 := H.1; have e0 := of_decide_eq_true h0; have e1 := of_decide_eq_false h1; have e2 := of_decide_eq_false h2; have e3 := of_decide_eq_false h3; have e4 := beq_eq_false_iff_ne.1 h4; have e5 := beq_eq_false_iff_ne.1 h5; have e6 := eq_of_beq h6
  exact tells_nextVI VOK.nil (y := (HE_ref04_ValidField_b0 p0 (i0 + 1), HO_ref04_ValidField_b0 p0 (i0 + 1))) [hB 3 hc0, hP 2 (six_ok p0 i0 x0 hx0), hB 2 h0, hB 2 h1, hB 3 h2, hB 10 h3, hP 8 (dec (!(x0 == 45)) true (by rw [h4]; rfl)), hP 3 (dec (!(x0 == 95)) true (by rw [h5]; rfl)), hP 3 (dec (!(x0 == 47)) false (by rw [h6]; rfl)), hP 2 (inc_ok i0 (by omega))] [] (by kernel_rfl) hr
def Z_ref04_ValidField_b0_20 (p0 : ByteArray) (i0 : Nat) (x0 : Int) : List PV :=
  [.str p0, .un, .un, .int .i64 (i0 : Int), .int .u8 x0, .bool false, .int .i64 (i0 : Int), .str p0, .int .i64 (ByteArray.size p0 : Int), .bool true, .un, .un, .str p0, .int .i64 (i0 : Int), .int .u8 x0, .int .u8 x0, .bool true, .bool true, .int .u8 x0, .bool false, .bool false, .bool false, .int .u8 x0, .bool false, .bool false, .tup [], .tup [], .bool false, .bool false, .bool false, .bool true, .bool true, .int .u8 x0, .bool false, .bool false, .tup [], .tup [], .bool false, .bool true, .bool true, .bool true, .int .u8 x0, .bool true, .bool true, .bool true, .int .u8 x0, .bool true, .bool true, .bool true, .int .u8 x0, .bool true, .bool true]
def ZO_ref04_ValidField_b0_20 (_p0 : ByteArray) (_i0 : Nat) (_x0 : Int) : List (Nat × List PV) :=
  []
theorem x_ref04_ValidField_b0_20 (p0 : ByteArray) (_H : H_ref04_ValidField_b0 p0) (x0 : Int) (i0 : Nat) (hx0 : (letters p0)[i0]? = some x0) (_hi0 : i0 < List.length (letters p0)) (hc0 : (decide ((i0 : Int) < (ByteArray.size p0 : Int))) = true) (h0 : (decide (97 ≤ x0)) = true) (h1 : (decide (x0 ≤ 122)) = false) (h2 : (decide (65 ≤ x0)) = false) (h3 : (decide (48 ≤ x0)) = false) (h4 : (x0 == 45) = false) (h5 : (x0 == 95) = false) (h6 : (x0 == 47) = false) : P_ref04_ValidField_b0 p0 (E_ref04_ValidField_b0 p0 i0) (.k1) := by
  exact ⟨(envF (Z_ref04_ValidField_b0_20 p0 i0 x0)), (zoF (ZO_ref04_ValidField_b0_20 p0 i0 x0)), tells_outVI VOK.nil (x := (.ret, S_ref04_ValidField_b0_1 p0 (envF (Z_ref04_ValidField_b0_20 p0 i0 x0)) (zoF (ZO_ref04_ValidField_b0_20 p0 i0 x0)))) [hB 3 hc0, hP 2 (six_ok p0 i0 x0 hx0), hB 2 h0, hB 2 h1, hB 3 h2, hB 10 h3, hP 8 (dec (!(x0 == 45)) true (by rw [h4]; rfl)), hP 3 (dec (!(x0 == 95)) true (by rw [h5]; rfl)), hP 3 (dec (!(x0 == 47)) true (by rw [h6]; rfl))] [] (by kernel_rfl)⟩
theorem n_ref04_ValidField_b0_21 (p0 : ByteArray) (H : H_ref04_ValidField_b0 p0) (x0 : Int) (i0 : Nat) (hx0 : (letters p0)[i0]? = some x0) (hi0 : i0 < List.length (letters p0)) (hc0 : (decide ((i0 : Int) < (ByteArray.size p0 : Int))) = true) (h0 : (decide (97 ≤ x0)) = false) (h1 : (decide (65 ≤ x0)) = true) (h2 : (decide (x0 ≤ 90)) = true) {r : Rs} (hr : Tells G (E_ref04_ValidField_b0 p0 (i0 + 1)) r) : Tells G (E_ref04_ValidField_b0 p0 i0) r := by
  have hB0 := H.1; have e0 := of_decide_eq_false h0; have e1 := of_decide_eq_true h1; have e2 := of_decide_eq_true h2
  exact tells_nextVI VOK.nil (y := (HE_ref04_ValidField_b0 p0 (i0 + 1), HO_ref04_ValidField_b0 p0 (i0 + 1))) [hB 3 hc0, hP 2 (six_ok p0 i0 x0 hx0), hB 2 h0, hB 6 h1, hB 2 h2, hP 27 (inc_ok i0 (by omega))] [] (by kernel_rfl) hr
theorem n_ref04_ValidField_b0_22 (p0 : ByteArray) (H : H_ref04_ValidField_b0 p0) (x0 : Int) (i0 : Nat) (hx0 : (letters p0)[i0]? = some x0) (_hi0 : i0 < List.length (letters p0)) (hc0 : (decide ((i0 : Int) < (ByteArray.size p0 : Int))) = true) (h0 : (decide (97 ≤ x0)) = false) (h1 : (decide (65 ≤ x0)) = true) (h2 : (decide (x0 ≤ 90)) = false) (h3 : (decide (48 ≤ x0)) = true) (h4 : (decide (x0 ≤ 57)) = true) {r : Rs} (hr : Tells G (E_ref04_ValidField_b0 p0 (i0 + 1)) r) : Tells G (E_ref04_ValidField_b0 p0 i0) r := by
  have hB0 := H.1; have e0 := of_decide_eq_false h0; have e1 := of_decide_eq_true h1; have e2 := of_decide_eq_false h2; have e3 := of_decide_eq_true h3; have e4 := of_decide_eq_true h4
  exact tells_nextVI VOK.nil (y := (HE_ref04_ValidField_b0 p0 (i0 + 1), HO_ref04_ValidField_b0 p0 (i0 + 1))) [hB 3 hc0, hP 2 (six_ok p0 i0 x0 hx0), hB 2 h0, hB 6 h1, hB 2 h2, hB 7 h3, hB 2 h4, hP 16 (inc_ok i0 (by omega))] [] (by kernel_rfl) hr
theorem n_ref04_ValidField_b0_23 (p0 : ByteArray) (H : H_ref04_ValidField_b0 p0) (x0 : Int) (i0 : Nat) (hx0 : (letters p0)[i0]? = some x0) (_hi0 : i0 < List.length (letters p0)) (hc0 : (decide ((i0 : Int) < (ByteArray.size p0 : Int))) = true) (h0 : (decide (97 ≤ x0)) = false) (h1 : (decide (65 ≤ x0)) = true) (h2 : (decide (x0 ≤ 90)) = false) (h3 : (decide (48 ≤ x0)) = true) (h4 : (decide (x0 ≤ 57)) = false) (h5 : (x0 == 45) = true) {r : Rs} (hr : Tells G (E_ref04_ValidField_b0 p0 (i0 + 1)) r) : Tells G (E_ref04_ValidField_b0 p0 i0) r := by
  have hB0 := H.1; have e0 := of_decide_eq_false h0; have e1 := of_decide_eq_true h1; have e2 := of_decide_eq_false h2; have e3 := of_decide_eq_true h3; have e4 := of_decide_eq_false h4; have e5 := eq_of_beq h5
  exact tells_nextVI VOK.nil (y := (HE_ref04_ValidField_b0 p0 (i0 + 1), HO_ref04_ValidField_b0 p0 (i0 + 1))) [hB 3 hc0, hP 2 (six_ok p0 i0 x0 hx0), hB 2 h0, hB 6 h1, hB 2 h2, hB 7 h3, hB 2 h4, hP 5 (dec (!(x0 == 45)) false (by rw [h5]; rfl)), hP 10 (inc_ok i0 (by omega))] [] (by kernel_rfl) hr
theorem n_ref04_ValidField_b0_24 (p0 : ByteArray) (H : H_ref04_ValidField_b0 p0) (x0 : Int) (i0 : Nat) (hx0 : (letters p0)[i0]? = some x0) (hi0 : i0 < List.length (letters p0)) (hc0 : (decide ((i0 : Int) < (ByteArray.size p0 : Int))) = true) (h0 : (decide (97 ≤ x0)) = false) (h1 : (decide (65 ≤ x0)) = true) (h2 : (decide (x0 ≤ 90)) = false) (h3 : (decide (48 ≤ x0)) = true) (h4 : (decide (x0 ≤ 57)) = false) (h5 : (x0 == 45) = false) (h6 : (x0 == 95) = true) {r : Rs} (hr : Tells G (E_ref04_ValidField_b0 p0 (i0 + 1)) r) : Tells G (E_ref04_ValidField_b0 p0 i0) r := by
  have hB0 := H.1; have e0 := of_decide_eq_false h0; have e1 := of_decide_eq_true h1; have e2 := of_decide_eq_false h2; have e3 := of_decide_eq_true h3; have e4 := of_decide_eq_false h4; have e5 := beq_eq_false_iff_ne.1 h5; have e6 := eq_of_beq h6
  exact tells_nextVI VOK.nil (y := (HE_ref04_ValidField_b0 p0 (i0 + 1), HO_ref04_ValidField_b0 p0 (i0 + 1))) [hB 3 hc0, hP 2 (six_ok p0 i0 x0 hx0), hB 2 h0, hB 6 h1, hB 2 h2, hB 7 h3, hB 2 h4, hP 5 (dec (!(x0 == 45)) true (by rw [h5]; rfl)), hP 3 (dec (!(x0 == 95)) false (by rw [h6]; rfl)), hP 6 (inc_ok i0 (by omega))] [] (by kernel_rfl) hr
theorem n_ref04_ValidField_b0_25 (p0 : ByteArray) (H : H_ref04_ValidField_b0 p0) (x0 : Int) (i0 : Nat) (hx0 : (letters p0)[i0]? = some x0) (_hi0 : i0 < List.length (letters p0)) (hc0 : (decide ((i0 : Int) < (ByteArray.size p0 : Int))) = true) (h0 : (decide (97 ≤ x0)) = false) (h1 : (decide (65 ≤ x0)) = true) (h2 : (decide (x0 ≤ 90)) = false) (h3 : (decide (48 ≤ x0)) = true) (h4 : (decide (x0 ≤ 57)) = false) (h5 : (x0 == 45) = false) (h6 : (x0 == 95) = false) (h7 : (x0 == 47) = true) {r : Rs} (hr : Tells G (E_ref04_ValidField_b0 p0 (i0 + 1)) r) : Tells G (E_ref04_ValidField_b0 p0 i0) r := by
  have hB0 := H.1; have e0 := of_decide_eq_false h0; have e1 := of_decide_eq_true h1; have e2 := of_decide_eq_false h2; have e3 := of_decide_eq_true h3; have e4 := of_decide_eq_false h4; have e5 := beq_eq_false_iff_ne.1 h5; have e6 := beq_eq_false_iff_ne.1 h6; have e7 := eq_of_beq h7
  exact tells_nextVI VOK.nil (y := (HE_ref04_ValidField_b0 p0 (i0 + 1), HO_ref04_ValidField_b0 p0 (i0 + 1))) [hB 3 hc0, hP 2 (six_ok p0 i0 x0 hx0), hB 2 h0, hB 6 h1, hB 2 h2, hB 7 h3, hB 2 h4, hP 5 (dec (!(x0 == 45)) true (by rw [h5]; rfl)), hP 3 (dec (!(x0 == 95)) true (by rw [h6]; rfl)), hP 3 (dec (!(x0 == 47)) false (by rw [h7]; rfl)), hP 2 (inc_ok i0 (by omega))] [] (by kernel_rfl) hr
def Z_ref04_ValidField_b0_26 (p0 : ByteArray) (i0 : Nat) (x0 : Int) : List PV :=
  [.str p0, .un, .un, .int .i64 (i0 : Int), .int .u8 x0, .bool false, .int .i64 (i0 : Int), .str p0, .int .i64 (ByteArray.size p0 : Int), .bool true, .un, .un, .str p0, .int .i64 (i0 : Int), .int .u8 x0, .int .u8 x0, .bool false, .bool false, .tup [], .tup [], .bool false, .bool false, .int .u8 x0, .bool true, .bool true, .int .u8 x0, .bool false, .bool false, .bool false, .bool false, .bool true, .bool true, .int .u8 x0, .bool true, .bool true, .int .u8 x0, .bool false, .bool false, .bool true, .bool true, .bool true, .int .u8 x0, .bool true, .bool true, .bool true, .int .u8 x0, .bool true, .bool true, .bool true, .int .u8 x0, .bool true, .bool true]
def ZO_ref04_ValidField_b0_26 (_p0 : ByteArray) (_i0 : Nat) (_x0 : Int) : List (Nat × List PV) :=
  []
theorem x_ref04_ValidField_b0_26 (p0 : ByteArray) (_H : H_ref04_ValidField_b0 p0) (x0 : Int) (i0 : Nat) (hx0 : (letters p0)[i0]? = some x0) (_hi0 : i0 < List.length (letters p0)) (hc0 : (decide ((i0 : Int) < (ByteArray.size p0 : Int))) = true) (h0 : (decide (97 ≤ x0)) = false) (h1 : (decide (65 ≤ x0)) = true) (h2 : (decide (x0 ≤ 90)) = false) (h3 : (decide (48 ≤ x0)) = true) (h4 : (decide (x0 ≤ 57)) = false) (h5 : (x0 == 45) = false) (h6 : (x0 == 95) = false) (h7 : (x0 == 47) = false) : P_ref04_ValidField_b0 p0 (E_ref04_ValidField_b0 p0 i0) (.k1) := by
  exact ⟨(envF (Z_ref04_ValidField_b0_26 p0 i0 x0)), (zoF (ZO_ref04_ValidField_b0_26 p0 i0 x0)), tells_outVI VOK.nil (x := (.ret, S_ref04_ValidField_b0_1 p0 (envF (Z_ref04_ValidField_b0_26 p0 i0 x0)) (zoF (ZO_ref04_ValidField_b0_26 p0 i0 x0)))) [hB 3 hc0, hP 2 (six_ok p0 i0 x0 hx0), hB 2 h0, hB 6 h1, hB 2 h2, hB 7 h3, hB 2 h4, hP 5 (dec (!(x0 == 45)) true (by rw [h5]; rfl)), hP 3 (dec (!(x0 == 95)) true (by rw [h6]; rfl)), hP 3 (dec (!(x0 == 47)) true (by rw [h7]; rfl))] [] (by kernel_rfl)⟩
theorem n_ref04_ValidField_b0_27 (p0 : ByteArray) (H : H_ref04_ValidField_b0 p0) (x0 : Int) (i0 : Nat) (hx0 : (letters p0)[i0]? = some x0) (_hi0 : i0 < List.length (letters p0)) (hc0 : (decide ((i0 : Int) < (ByteArray.size p0 : Int))) = true) (h0 : (decide (97 ≤ x0)) = false) (h1 : (decide (65 ≤ x0)) = true) (h2 : (decide (x0 ≤ 90)) = false) (h3 : (decide (48 ≤ x0)) = false) (h4 : (x0 == 45) = true) {r : Rs} (hr : Tells G (E_ref04_ValidField_b0 p0 (i0 + 1)) r) : Tells G (E_ref04_ValidField_b0 p0 i0) r := by
  have hB0 := H.1; have e0 := of_decide_eq_false h0; have e1 := of_decide_eq_true h1; have e2 := of_decide_eq_false h2; have e3 := of_decide_eq_false h3; have e4 := eq_of_beq h4
  exact tells_nextVI VOK.nil (y := (HE_ref04_ValidField_b0 p0 (i0 + 1), HO_ref04_ValidField_b0 p0 (i0 + 1))) [hB 3 hc0, hP 2 (six_ok p0 i0 x0 hx0), hB 2 h0, hB 6 h1, hB 2 h2, hB 7 h3, hP 8 (dec (!(x0 == 45)) false (by rw [h4]; rfl)), hP 10 (inc_ok i0 (by omega))] [] (by kernel_rfl) hr
theorem n_ref04_ValidField_b0_28 (p0 : ByteArray) (H : H_ref04_ValidField_b0 p0) (x0 : Int) (i0 : Nat) (hx0 : (letters p0)[i0]? = some x0) (_hi0 : i0 < List.length (letters p0)) (hc0 : (decide ((i0 : Int) < (ByteArray.size p0 : Int))) = true) (h0 : (decide (97 ≤ x0)) = false) (h1 : (decide (65 ≤ x0)) = true) (h2 : (decide (x0 ≤ 90)) = false) (h3 : (decide (48 ≤ x0)) = false) (h4 : (x0 == 45) = false) (h5 : (x0 == 95) = true) {r : Rs} (hr : Tells G (E_ref04_ValidField_b0 p0 (i0 + 1)) r) : Tells G (E_ref04_ValidField_b0 p0 i0) r := by
  have hB0 := H.1; have e0 := of_decide_eq_false h0; have e1 := of_decide_eq_true h1; have e2 := of_decide_eq_false h2; have e3 := of_decide_eq_false h3; have e4 := beq_eq_false_iff_ne.1 h4; have e5 := eq_of_beq h5
  exact tells_nextVI VOK.nil (y := (HE_ref04_ValidField_b0 p0 (i0 + 1), HO_ref04_ValidField_b0 p0 (i0 + 1))) [hB 3 hc0, hP 2 (six_ok p0 i0 x0 hx0), hB 2 h0, hB 6 h1, hB 2 h2, hB 7 h3, hP 8 (dec (!(x0 == 45)) true (by rw [h4]; rfl)), hP 3 (dec (!(x0 == 95)) false (by rw [h5]; rfl)), hP 6 (inc_ok i0 (by omega))] [] (by kernel_rfl) hr
theorem n_ref04_ValidField_b0_29 (p0 : ByteArray) (H : H_ref04_ValidField_b0 p0) (x0 : Int) (i0 : Nat) (hx0 : (letters p0)[i0]? = some x0) (_hi0 : i0 < List.length (letters p0)) (hc0 : (decide ((i0 : Int) < (ByteArray.size p0 : Int))) = true) (h0 : (decide (97 ≤ x0)) = false) (h1 : (decide (65 ≤ x0)) = true) (h2 : (decide (x0 ≤ 90)) = false) (h3 : (decide (48 ≤ x0)) = false) (h4 : (x0 == 45) = false) (h5 : (x0 == 95) = false) (h6 : (x0 == 47) = true) {r : Rs} (hr : Tells G (E_ref04_ValidField_b0 p0 (i0 + 1)) r) : Tells G (E_ref04_ValidField_b0 p0 i0) r := by
  have hB0 := H.1; have e0 := of_decide_eq_false h0; have e1 := of_decide_eq_true h1; have e2 := of_decide_eq_false h2; have e3 := of_decide_eq_false h3; have e4 := beq_eq_false_iff_ne.1 h4; have e5 := beq_eq_false_iff_ne.1 h5; have e6 := eq_of_beq h6
  exact tells_nextVI VOK.nil (y := (HE_ref04_ValidField_b0 p0 (i0 + 1), HO_ref04_ValidField_b0 p0 (i0 + 1))) [hB 3 hc0, hP 2 (six_ok p0 i0 x0 hx0), hB 2 h0, hB 6 h1, hB 2 h2, hB 7 h3, hP 8 (dec (!(x0 == 45)) true (by rw [h4]; rfl)), hP 3 (dec (!(x0 == 95)) true (by rw [h5]; rfl)), hP 3 (dec (!(x0 == 47)) false (by rw [h6]; rfl)), hP 2 (inc_ok i0 (by omega))] [] (by kernel_rfl) hr
def Z_ref04_ValidField_b0_30 (p0 : ByteArray) (i0 : Nat) (x0 : Int) : List PV :=
  [.str p0, .un, .un, .int .i64 (i0 : Int), .int .u8 x0, .bool false, .int .i64 (i0 : Int), .str p0, .int .i64 (ByteArray.size p0 : Int), .bool true, .un, .un, .str p0, .int .i64 (i0 : Int), .int .u8 x0, .int .u8 x0, .bool false, .bool false, .tup [], .tup [], .bool false, .bool false, .int .u8 x0, .bool true, .bool true, .int .u8 x0, .bool false, .bool false, .bool false, .bool false, .bool true, .bool true, .int .u8 x0, .bool false, .bool false, .tup [], .tup [], .bool false, .bool true, .bool true, .bool true, .int .u8 x0, .bool true, .bool true, .bool true, .int .u8 x0, .bool true, .bool true, .bool true, .int .u8 x0, .bool true, .bool true]
def ZO_ref04_ValidField_b0_30 (_p0 : ByteArray) (_i0 : Nat) (_x0 : Int) : List (Nat × List PV) :=
  []
theorem x_ref04_ValidField_b0_30 (p0 : ByteArray) (_H : H_ref04_ValidField_b0 p0) (x0 : Int) (i0 : Nat) (hx0 : (letters p0)[i0]? = some x0) (_hi0 : i0 < List.length (letters p0)) (hc0 : (decide ((i0 : Int) < (ByteArray.size p0 : Int))) = true) (h0 : (decide (97 ≤ x0)) = false) (h1 : (decide (65 ≤ x0)) = true) (h2 : (decide (x0 ≤ 90)) = false) (h3 : (decide (48 ≤ x0)) = false) (h4 : (x0 == 45) = false) (h5 : (x0 == 95) = false) (h6 : (x0 == 47) = false) : P_ref04_ValidField_b0 p0 (E_ref04_ValidField_b0 p0 i0) (.k1) := by
  exact ⟨(envF (Z_ref04_ValidField_b0_30 p0 i0 x0)), (zoF (ZO_ref04_ValidField_b0_30 p0 i0 x0)), tells_outVI VOK.nil (x := (.ret, S_ref04_ValidField_b0_1 p0 (envF (Z_ref04_ValidField_b0_30 p0 i0 x0)) (zoF (ZO_ref04_ValidField_b0_30 p0 i0 x0)))) [hB 3 hc0, hP 2 (six_ok p0 i0 x0 hx0), hB 2 h0, hB 6 h1, hB 2 h2, hB 7 h3, hP 8 (dec (!(x0 == 45)) true (by rw [h4]; rfl)), hP 3 (dec (!(x0 == 95)) true (by rw [h5]; rfl)), hP 3 (dec (!(x0 == 47)) true (by rw [h6]; rfl))] [] (by kernel_rfl)⟩
theorem n_ref04_ValidField_b0_31 (p0 : ByteArray) (H : H_ref04_ValidField_b0 p0) (x0 : Int) (i0 : Nat) (hx0 : (letters p0)[i0]? = some x0) (hi0 : i0 < List.length (letters p0)) (hc0 : (decide ((i0 : Int) < (ByteArray.size p0 : Int))) = true) (h0 : (decide (97 ≤ x0)) = false) (h1 : (decide (65 ≤ x0)) = false) (h2 : (decide (48 ≤ x0)) = true) (h3 : (decide (x0 ≤ 57)) = true) {r : Rs} (hr : Tells G (E_ref04_ValidField_b0 p0 (i0 + 1)) r) : Tells G (E_ref04_ValidField_b0 p0 i0) r := by
  have hB0 := H.1; have e0 := of_decide_eq_false h0; have e1 := of_decide_eq_false h1; have e2 := of_decide_eq_true h2; have e3 := of_decide_eq_true h3
  exact tells_nextVI VOK.nil (y := (HE_ref04_ValidField_b0 p0 (i0 + 1), HO_ref04_ValidField_b0 p0 (i0 + 1))) [hB 3 hc0, hP 2 (six_ok p0 i0 x0 hx0), hB 2 h0, hB 6 h1, hB 10 h2, hB 2 h3, hP 16 (inc_ok i0 (by omega))] [] (by kernel_rfl) hr
theorem n_ref04_ValidField_b0_32 (p0 : ByteArray) (H : H_ref04_ValidField_b0 p0) (x0 : Int) (i0 : Nat) (hx0 : (letters p0)[i0]? = some x0) (_hi0 : i0 < List.length (letters p0)) (hc0 : (decide ((i0 : Int) < (ByteArray.size p0 : Int))) = true) (h0 : (decide (97 ≤ x0)) = false) (h1 : (decide (65 ≤ x0)) = false) (h2 : (decide (48 ≤ x0)) = true) (h3 : (decide (x0 ≤ 57)) = false) (h4 : (x0 == 45) = true) {r : Rs} (hr : Tells G (E_ref04_ValidField_b0 p0 (i0 + 1)) r) : Tells G (E_ref04_ValidField_b0 p0 i0) r := by
  have hB0 := H.1; have e0 := of_decide_eq_false h0; have e1 := of_decide_eq_false h1; have e2 := of_decide_eq_true h2; have e3 := of_decide_eq_false h3; have e4 := eq_of_beq h4
  exact tells_nextVI VOK.nil (y := (HE_ref04_ValidField_b0 p0 (i0 + 1), HO_ref04_ValidField_b0 p0 (i0 + 1))) [hB 3 hc0, hP 2 (six_ok p0 i0 x0 hx0), hB 2 h0, hB 6 h1, hB 10 h2, hB 2 h3, hP 5 (dec (!(x0 == 45)) false (by rw [h4]; rfl)), hP 10 (inc_ok i0 (by omega))] [] (by kernel_rfl) hr
theorem n_ref04_ValidField_b0_33 (p0 : ByteArray) (H : H_ref04_ValidField_b0 p0) (x0 : Int) (i0 : Nat) (hx0 : (letters p0)[i0]? = some x0) (_hi0 : i0 < List.length (letters p0)) (hc0 : (decide ((i0 : Int) < (ByteArray.size p0 : Int))) = true) (h0 : (decide (97 ≤ x0)) = false) (h1 : (decide (65 ≤ x0)) = false) (h2 : (decide (48 ≤ x0)) = true) (h3 : (decide (x0 ≤ 57)) = false) (h4 : (x0 == 45) = false) (h5 : (x0 == 95) = true) {r : Rs} (hr : Tells G (E_ref04_ValidField_b0 p0 (i0 + 1)) r) : Tells G (E_ref04_ValidField_b0 p0 i0) r := by
  have hB0 := H.1; have e0 := of_decide_eq_false h0; have e1 := of_decide_eq_false h1; have e2 := of_decide_eq_true h2; have e3 := of_decide_eq_false h3; have e4 := beq_eq_false_iff_ne.1 h4; have e5 := eq_of_beq h5
  exact tells_nextVI VOK.nil (y := (HE_ref04_ValidField_b0 p0 (i0 + 1), HO_ref04_ValidField_b0 p0 (i0 + 1))) [hB 3 hc0, hP 2 (six_ok p0 i0 x0 hx0), hB 2 h0, hB 6 h1, hB 10 h2, hB 2 h3, hP 5 (dec (!(x0 == 45)) true (by rw [h4]; rfl)), hP 3 (dec (!(x0 == 95)) false (by rw [h5]; rfl)), hP 6 (inc_ok i0 (by omega))] [] (by kernel_rfl) hr
theorem n_ref04_ValidField_b0_34 (p0 : ByteArray) (H : H_ref04_ValidField_b0 p0) (x0 : Int) (i0 : Nat) (hx0 : (letters p0)[i0]? = some x0) (_hi0 : i0 < List.length (letters p0)) (hc0 : (decide ((i0 : Int) < (ByteArray.size p0 : Int))) = true) (h0 : (decide (97 ≤ x0)) = false) (h1 : (decide (65 ≤ x0)) = false) (h2 : (decide (48 ≤ x0)) = true) (h3 : (decide (x0 ≤ 57)) = false) (h4 : (x0 == 45) = false) (h5 : (x0 == 95) = false) (h6 : (x0 == 47) = true) {r : Rs} (hr : Tells G (E_ref04_ValidField_b0 p0 (i0 + 1)) r) : Tells G (E_ref04_ValidField_b0 p0 i0) r := by
  have hB0 := H.1; have e0 := of_decide_eq_false h0; have e1 := of_decide_eq_false h1; have e2 := of_decide_eq_true h2; have e3 := of_decide_eq_false h3; have e4 := beq_eq_false_iff_ne.1 h4; have e5 := beq_eq_false_iff_ne.1 h5; have e6 := eq_of_beq h6
  exact tells_nextVI VOK.nil (y := (HE_ref04_ValidField_b0 p0 (i0 + 1), HO_ref04_ValidField_b0 p0 (i0 + 1))) [hB 3 hc0, hP 2 (six_ok p0 i0 x0 hx0), hB 2 h0, hB 6 h1, hB 10 h2, hB 2 h3, hP 5 (dec (!(x0 == 45)) true (by rw [h4]; rfl)), hP 3 (dec (!(x0 == 95)) true (by rw [h5]; rfl)), hP 3 (dec (!(x0 == 47)) false (by rw [h6]; rfl)), hP 2 (inc_ok i0 (by omega))] [] (by kernel_rfl) hr
def Z_ref04_ValidField_b0_35 (p0 : ByteArray) (i0 : Nat) (x0 : Int) : List PV :=
  [.str p0, .un, .un, .int .i64 (i0 : Int), .int .u8 x0, .bool false, .int .i64 (i0 : Int), .str p0, .int .i64 (ByteArray.size p0 : Int), .bool true, .un, .un, .str p0, .int .i64 (i0 : Int), .int .u8 x0, .int .u8 x0, .bool false, .bool false, .tup [], .tup [], .bool false, .bool false, .int .u8 x0, .bool false, .bool false, .tup [], .tup [], .bool false, .bool false, .bool false, .bool true, .bool true, .int .u8 x0, .bool true, .bool true, .int .u8 x0, .bool false, .bool false, .bool true, .bool true, .bool true, .int .u8 x0, .bool true, .bool true, .bool true, .int .u8 x0, .bool true, .bool true, .bool true, .int .u8 x0, .bool true, .bool true]
def ZO_ref04_ValidField_b0_35 (_p0 : ByteArray) (_i0 : Nat) (_x0 : Int) : List (Nat × List PV) :=
  []
theorem x_ref04_ValidField_b0_35 (p0 : ByteArray) (_H : H_ref04_ValidField_b0 p0) (x0 : Int) (i0 : Nat) (hx0 : (letters p0)[i0]? = some x0) (_hi0 : i0 < List.length (letters p0)) (hc0 : (decide ((i0 : Int) < (ByteArray.size p0 : Int))) = true) (h0 : (decide (97 ≤ x0)) = false) (h1 : (decide (65 ≤ x0)) = false) (h2 : (decide (48 ≤ x0)) = true) (h3 : (decide (x0 ≤ 57)) = false) (h4 : (x0 == 45) = false) (h5 : (x0 == 95) = false) (h6 : (x0 == 47) = false) : P_ref04_ValidField_b0 p0 (E_ref04_ValidField_b0 p0 i0) (.k1) := by
  exact ⟨(envF (Z_ref04_ValidField_b0_35 p0 i0 x0)), (zoF (ZO_ref04_ValidField_b0_35 p0 i0 x0)), tells_outVI VOK.nil (x := (.ret, S_ref04_ValidField_b0_1 p0 (envF (Z_ref04_ValidField_b0_35 p0 i0 x0)) (zoF (ZO_ref04_ValidField_b0_35 p0 i0 x0)))) [hB 3 hc0, hP 2 (six_ok p0 i0 x0 hx0), hB 2 h0, hB 6 h1, hB 10 h2, hB 2 h3, hP 5 (dec (!(x0 == 45)) true (by rw [h4]; rfl)), hP 3 (dec (!(x0 == 95)) true (by rw [h5]; rfl)), hP 3 (dec (!(x0 == 47)) true (by rw [h6]; rfl))] [] (by kernel_rfl)⟩
theorem n_ref04_ValidField_b0_36 (p0 : ByteArray) (H : H_ref04_ValidField_b0 p0) (x0 : Int) (i0 : Nat) (hx0 : (letters p0)[i0]? = some x0) (hi0 : i0 < List.length (letters p0)) (hc0 : (decide ((i0 : Int) < (ByteArray.size p0 : Int))) = true) (h0 : (decide (97 ≤ x0)) = false) (h1 : (decide (65 ≤ x0)) = false) (h2 : (decide (48 ≤ x0)) = false) (h3 : (x0 == 45) = true) {r : Rs} (hr : Tells G (E_ref04_ValidField_b0 p0 (i0 + 1)) r) : Tells G (E_ref04_ValidField_b0 p0 i0) r := by
  have hB0 := H.1; have e0 := of_decide_eq_false h0; have e1 := of_decide_eq_false h1; have e2 := of_decide_eq_false h2; have e3 := eq_of_beq h3
  exact tells_nextVI VOK.nil (y := (HE_ref04_ValidField_b0 p0 (i0 + 1), HO_ref04_ValidField_b0 p0 (i0 + 1))) [hB 3 hc0, hP 2 (six_ok p0 i0 x0 hx0), hB 2 h0, hB 6 h1, hB 10 h2, hP 8 (dec (!(x0 == 45)) false (by rw [h3]; rfl)), hP 10 (inc_ok i0 (by omega))] [] (by kernel_rfl) hr
theorem n_ref04_ValidField_b0_37 (p0 : ByteArray) (H : H_ref04_ValidField_b0 p0) (x0 : Int) (i0 : Nat) (hx0 : (letters p0)[i0]? = some x0) (_hi0 : i0 < List.length (letters p0)) (hc0 : (decide ((i0 : Int) < (ByteArray.size p0 : Int))) = true) (h0 : (decide (97 ≤ x0)) = false) (h1 : (decide (65 ≤ x0)) = false) (h2 : (decide (48 ≤ x0)) = false) (h3 : (x0 == 45) = false) (h4 : (x0 == 95) = true) {r : Rs} (hr : Tells G (E_ref04_ValidField_b0 p0 (i0 + 1)) r) : Tells G (E_ref04_ValidField_b0 p0 i0) r := by
  have hB0 := H.1; have e0 := of_decide_eq_false h0; have e1 := of_decide_eq_false h1; have e2 := of_decide_eq_false h2; have e3 := beq_eq_false_iff_ne.1 h3; have e4 := eq_of_beq h4
  exact tells_nextVI VOK.nil (y := (HE_ref04_ValidField_b0 p0 (i0 + 1), HO_ref04_ValidField_b0 p0 (i0 + 1))) [hB 3 hc0, hP 2 (six_ok p0 i0 x0 hx0), hB 2 h0, hB 6 h1, hB 10 h2, hP 8 (dec (!(x0 == 45)) true (by rw [h3]; rfl)), hP 3 (dec (!(x0 == 95)) false (by rw [h4]; rfl)), hP 6 (inc_ok i0 (by omega))] [] (by kernel_rfl) hr
theorem n_ref04_ValidField_b0_38 (p0 : ByteArray) (H : H_ref04_ValidField_b0 p0) (x0 : Int) (i0 : Nat) (hx0 : (letters p0)[i0]? = some x0) (hi0 : i0 < List.length (letters p0)) (hc0 : (decide ((i0 : Int) < (ByteArray.size p0 : Int))) = true) (h0 : (decide (97 ≤ x0)) = false) (h1 : (decide (65 ≤ x0)) = false) (h2 : (decide (48 ≤ x0)) = false) (h3 : (x0 == 45) = false) (h4 : (x0 == 95) = false) (h5 : (x0 == 47) = true) {r : Rs} (hr : Tells G (E_ref04_ValidField_b0 p0 (i0 + 1)) r) : Tells G (E_ref04_ValidField_b0 p0 i0) r := by
  have hB0 := H.1; have e0 := of_decide_eq_false h0; have e1 := of_decide_eq_false h1; have e2 := of_decide_eq_false h2; have e3 := beq_eq_false_iff_ne.1 h3; have e4 := beq_eq_false_iff_ne.1 h4; have e5 := eq_of_beq h5
  exact tells_nextVI VOK.nil (y := (HE_ref04_ValidField_b0 p0 (i0 + 1), HO_ref04_ValidField_b0 p0 (i0 + 1))) [hB 3 hc0, hP 2 (six_ok p0 i0 x0 hx0), hB 2 h0, hB 6 h1, hB 10 h2, hP 8 (dec (!(x0 == 45)) true (by rw [h3]; rfl)), hP 3 (dec (!(x0 == 95)) true (by rw [h4]; rfl)), hP 3 (dec (!(x0 == 47)) false (by rw [h5]; rfl)), hP 2 (inc_ok i0 (by omega))] [] (by kernel_rfl) hr
def Z_ref04_ValidField_b0_39 (p0 : ByteArray) (i0 : Nat) (x0 : Int) : List PV :=
  [.str p0, .un, .un, .int .i64 (i0 : Int), .int .u8 x0, .bool false, .int .i64 (i0 : Int), .str p0, .int .i64 (ByteArray.size p0 : Int), .bool true, .un, .un, .str p0, .int .i64 (i0 : Int), .int .u8 x0, .int .u8 x0, .bool false, .bool false, .tup [], .tup [], .bool false, .bool false, .int .u8 x0, .bool false, .bool false, .tup [], .tup [], .bool false, .bool false, .bool false, .bool true, .bool true, .int .u8 x0, .bool false, .bool false, .tup [], .tup [], .bool false, .bool true, .bool true, .bool true, .int .u8 x0, .bool true, .bool true, .bool true, .int .u8 x0, .bool true, .bool true, .bool true, .int .u8 x0, .bool true, .bool true]
def ZO_ref04_ValidField_b0_39 (_p0 : ByteArray) (_i0 : Nat) (_x0 : Int) : List (Nat × List PV) :=
  []
theorem x_ref04_ValidField_b0_39 (p0 : ByteArray) (_H : H_ref04_ValidField_b0 p0) (x0 : Int) (i0 : Nat) (hx0 : (letters p0)[i0]? = some x0) (_hi0 : i0 < List.length (letters p0)) (hc0 : (decide ((i0 : Int) < (ByteArray.size p0 : Int))) = true) (h0 : (decide (97 ≤ x0)) = false) (h1 : (decide (65 ≤ x0)) = false) (h2 : (decide (48 ≤ x0)) = false) (h3 : (x0 == 45) = false) (h4 : (x0 == 95) = false) (h5 : (x0 == 47) = false) : P_ref04_ValidField_b0 p0 (E_ref04_ValidField_b0 p0 i0) (.k1) := by
  exact ⟨(envF (Z_ref04_ValidField_b0_39 p0 i0 x0)), (zoF (ZO_ref04_ValidField_b0_39 p0 i0 x0)), tells_outVI VOK.nil (x := (.ret, S_ref04_ValidField_b0_1 p0 (envF (Z_ref04_ValidField_b0_39 p0 i0 x0)) (zoF (ZO_ref04_ValidField_b0_39 p0 i0 x0)))) [hB 3 hc0, hP 2 (six_ok p0 i0 x0 hx0), hB 2 h0, hB 6 h1, hB 10 h2, hP 8 (dec (!(x0 == 45)) true (by rw [h3]; rfl)), hP 3 (dec (!(x0 == 95)) true (by rw [h4]; rfl)), hP 3 (dec (!(x0 == 47)) true (by rw [h5]; rfl))] [] (by kernel_rfl)⟩
theorem lt_ref04_ValidField_b0 (p0 : ByteArray) (H : H_ref04_ValidField_b0 p0) : ∀ (r0 : List Int) (i0 : Nat), List.drop i0 (letters p0) = r0 → P_ref04_ValidField_b0 p0 (E_ref04_ValidField_b0 p0 i0) (l_ref04_ValidField_b0 p0 r0 i0)
  | [], i0, hd => by
    have hc0 : (decide ((i0 : Int) < (ByteArray.size p0 : Int))) = false := by have hL := lettersLen p0; have := drop_end hd; simp; omega
    rw [l_ref04_ValidField_b0]
    exact x_ref04_ValidField_b0_0 p0 H i0 hc0
  | x0 :: r0, i0, hd => by
    obtain ⟨hx0, hi0, hd'⟩ := drop_get hd
    have hc0 : (decide ((i0 : Int) < (ByteArray.size p0 : Int))) = true := by have hL := lettersLen p0; simp; omega
    rw [l_ref04_ValidField_b0]
    cases h0 : (decide (97 ≤ x0)) with
    | true =>
     cases h1 : (decide (x0 ≤ 122)) with
     | true =>
      exact P_ref04_ValidField_b0_mono p0 (fun r hr => n_ref04_ValidField_b0_1 p0 H x0 i0 hx0 hi0 hc0 h0 h1 hr) _ (lt_ref04_ValidField_b0 p0 H r0 (i0 + 1) hd')
     | false =>
      cases h2 : (decide (65 ≤ x0)) with
      | true =>
       cases h3 : (decide (x0 ≤ 90)) with
       | true =>
        exact P_ref04_ValidField_b0_mono p0 (fun r hr => n_ref04_ValidField_b0_2 p0 H x0 i0 hx0 hi0 hc0 h0 h1 h2 h3 hr) _ (lt_ref04_ValidField_b0 p0 H r0 (i0 + 1) hd')
       | false =>
        cases h4 : (decide (48 ≤ x0)) with
        | true =>
         cases h5 : (decide (x0 ≤ 57)) with
         | true =>
          exact P_ref04_ValidField_b0_mono p0 (fun r hr => n_ref04_ValidField_b0_3 p0 H x0 i0 hx0 hi0 hc0 h0 h1 h2 h3 h4 h5 hr) _ (lt_ref04_ValidField_b0 p0 H r0 (i0 + 1) hd')
         | false =>
          cases h6 : (x0 == 45) with
          | true =>
           exact P_ref04_ValidField_b0_mono p0 (fun r hr => n_ref04_ValidField_b0_4 p0 H x0 i0 hx0 hi0 hc0 h0 h1 h2 h3 h4 h5 h6 hr) _ (lt_ref04_ValidField_b0 p0 H r0 (i0 + 1) hd')
          | false =>
           cases h7 : (x0 == 95) with
           | true =>
            exact P_ref04_ValidField_b0_mono p0 (fun r hr => n_ref04_ValidField_b0_5 p0 H x0 i0 hx0 hi0 hc0 h0 h1 h2 h3 h4 h5 h6 h7 hr) _ (lt_ref04_ValidField_b0 p0 H r0 (i0 + 1) hd')
           | false =>
            cases h8 : (x0 == 47) with
            | true =>
             exact P_ref04_ValidField_b0_mono p0 (fun r hr => n_ref04_ValidField_b0_6 p0 H x0 i0 hx0 hi0 hc0 h0 h1 h2 h3 h4 h5 h6 h7 h8 hr) _ (lt_ref04_ValidField_b0 p0 H r0 (i0 + 1) hd')
            | false =>
             exact x_ref04_ValidField_b0_7 p0 H x0 i0 hx0 hi0 hc0 h0 h1 h2 h3 h4 h5 h6 h7 h8
        | false =>
         cases h5 : (x0 == 45) with
         | true =>
          exact P_ref04_ValidField_b0_mono p0 (fun r hr => n_ref04_ValidField_b0_8 p0 H x0 i0 hx0 hi0 hc0 h0 h1 h2 h3 h4 h5 hr) _ (lt_ref04_ValidField_b0 p0 H r0 (i0 + 1) hd')
         | false =>
          cases h6 : (x0 == 95) with
          | true =>
           exact P_ref04_ValidField_b0_mono p0 (fun r hr => n_ref04_ValidField_b0_9 p0 H x0 i0 hx0 hi0 hc0 h0 h1 h2 h3 h4 h5 h6 hr) _ (lt_ref04_ValidField_b0 p0 H r0 (i0 + 1) hd')
          | false =>
           cases h7 : (x0 == 47) with
           | true =>
            exact P_ref04_ValidField_b0_mono p0 (fun r hr => n_ref04_ValidField_b0_10 p0 H x0 i0 hx0 hi0 hc0 h0 h1 h2 h3 h4 h5 h6 h7 hr) _ (lt_ref04_ValidField_b0 p0 H r0 (i0 + 1) hd')
           | false =>
            exact x_ref04_ValidField_b0_11 p0 H x0 i0 hx0 hi0 hc0 h0 h1 h2 h3 h4 h5 h6 h7
      | false =>
       cases h3 : (decide (48 ≤ x0)) with
       | true =>
        cases h4 : (decide (x0 ≤ 57)) with
        | true =>
         exact P_ref04_ValidField_b0_mono p0 (fun r hr => n_ref04_ValidField_b0_12 p0 H x0 i0 hx0 hi0 hc0 h0 h1 h2 h3 h4 hr) _ (lt_ref04_ValidField_b0 p0 H r0 (i0 + 1) hd')
        | false =>
         cases h5 : (x0 == 45) with
         | true =>
          exact P_ref04_ValidField_b0_mono p0 (fun r hr => n_ref04_ValidField_b0_13 p0 H x0 i0 hx0 hi0 hc0 h0 h1 h2 h3 h4 h5 hr) _ (lt_ref04_ValidField_b0 p0 H r0 (i0 + 1) hd')
         | false =>
          cases h6 : (x0 == 95) with
          | true =>
           exact P_ref04_ValidField_b0_mono p0 (fun r hr => n_ref04_ValidField_b0_14 p0 H x0 i0 hx0 hi0 hc0 h0 h1 h2 h3 h4 h5 h6 hr) _ (lt_ref04_ValidField_b0 p0 H r0 (i0 + 1) hd')
          | false =>
           cases h7 : (x0 == 47) with
           | true =>
            exact P_ref04_ValidField_b0_mono p0 (fun r hr => n_ref04_ValidField_b0_15 p0 H x0 i0 hx0 hi0 hc0 h0 h1 h2 h3 h4 h5 h6 h7 hr) _ (lt_ref04_ValidField_b0 p0 H r0 (i0 + 1) hd')
           | false =>
            exact x_ref04_ValidField_b0_16 p0 H x0 i0 hx0 hi0 hc0 h0 h1 h2 h3 h4 h5 h6 h7
       | false =>
        cases h4 : (x0 == 45) with
        | true =>
         exact P_ref04_ValidField_b0_mono p0 (fun r hr => n_ref04_ValidField_b0_17 p0 H x0 i0 hx0 hi0 hc0 h0 h1 h2 h3 h4 hr) _ (lt_ref04_ValidField_b0 p0 H r0 (i0 + 1) hd')
        | false =>
         cases h5 : (x0 == 95) with
         | true =>
          exact P_ref04_ValidField_b0_mono p0 (fun r hr => n_ref04_ValidField_b0_18 p0 H x0 i0 hx0 hi0 hc0 h0 h1 h2 h3 h4 h5 hr) _ (lt_ref04_ValidField_b0 p0 H r0 (i0 + 1) hd')
         | false =>
          cases h6 : (x0 == 47) with
          | true =>
           exact P_ref04_ValidField_b0_mono p0 (fun r hr => n_ref04_ValidField_b0_19 p0 H x0 i0 hx0 hi0 hc0 h0 h1 h2 h3 h4 h5 h6 hr) _ (lt_ref04_ValidField_b0 p0 H r0 (i0 + 1) hd')
          | false =>
           exact x_ref04_ValidField_b0_20 p0 H x0 i0 hx0 hi0 hc0 h0 h1 h2 h3 h4 h5 h6
    | false =>
     cases h1 : (decide (65 ≤ x0)) with
     | true =>
      cases h2 : (decide (x0 ≤ 90)) with
      | true =>
       exact P_ref04_ValidField_b0_mono p0 (fun r hr => n_ref04_ValidField_b0_21 p0 H x0 i0 hx0 hi0 hc0 h0 h1 h2 hr) _ (lt_ref04_ValidField_b0 p0 H r0 (i0 + 1) hd')
      | false =>
       cases h3 : (decide (48 ≤ x0)) with
       | true =>
        cases h4 : (decide (x0 ≤ 57)) with
        | true =>
         exact P_ref04_ValidField_b0_mono p0 (fun r hr => n_ref04_ValidField_b0_22 p0 H x0 i0 hx0 hi0 hc0 h0 h1 h2 h3 h4 hr) _ (lt_ref04_ValidField_b0 p0 H r0 (i0 + 1) hd')
        | false =>
         cases h5 : (x0 == 45) with
         | true =>
          exact P_ref04_ValidField_b0_mono p0 (fun r hr => n_ref04_ValidField_b0_23 p0 H x0 i0 hx0 hi0 hc0 h0 h1 h2 h3 h4 h5 hr) _ (lt_ref04_ValidField_b0 p0 H r0 (i0 + 1) hd')
         | false =>
          cases h6 : (x0 == 95) with
          | true =>
           exact P_ref04_ValidField_b0_mono p0 (fun r hr => n_ref04_ValidField_b0_24 p0 H x0 i0 hx0 hi0 hc0 h0 h1 h2 h3 h4 h5 h6 hr) _ (lt_ref04_ValidField_b0 p0 H r0 (i0 + 1) hd')
          | false =>
           cases h7 : (x0 == 47) with
           | true =>
            exact P_ref04_ValidField_b0_mono p0 (fun r hr => n_ref04_ValidField_b0_25 p0 H x0 i0 hx0 hi0 hc0 h0 h1 h2 h3 h4 h5 h6 h7 hr) _ (lt_ref04_ValidField_b0 p0 H r0 (i0 + 1) hd')
           | false =>
            exact x_ref04_ValidField_b0_26 p0 H x0 i0 hx0 hi0 hc0 h0 h1 h2 h3 h4 h5 h6 h7
       | false =>
        cases h4 : (x0 == 45) with
        | true =>
         exact P_ref04_ValidField_b0_mono p0 (fun r hr => n_ref04_ValidField_b0_27 p0 H x0 i0 hx0 hi0 hc0 h0 h1 h2 h3 h4 hr) _ (lt_ref04_ValidField_b0 p0 H r0 (i0 + 1) hd')
        | false =>
         cases h5 : (x0 == 95) with
         | true =>
          exact P_ref04_ValidField_b0_mono p0 (fun r hr => n_ref04_ValidField_b0_28 p0 H x0 i0 hx0 hi0 hc0 h0 h1 h2 h3 h4 h5 hr) _ (lt_ref04_ValidField_b0 p0 H r0 (i0 + 1) hd')
         | false =>
          cases h6 : (x0 == 47) with
          | true =>
           exact P_ref04_ValidField_b0_mono p0 (fun r hr => n_ref04_ValidField_b0_29 p0 H x0 i0 hx0 hi0 hc0 h0 h1 h2 h3 h4 h5 h6 hr) _ (lt_ref04_ValidField_b0 p0 H r0 (i0 + 1) hd')
          | false =>
           exact x_ref04_ValidField_b0_30 p0 H x0 i0 hx0 hi0 hc0 h0 h1 h2 h3 h4 h5 h6
     | false =>
      cases h2 : (decide (48 ≤ x0)) with
      | true =>
       cases h3 : (decide (x0 ≤ 57)) with
       | true =>
        exact P_ref04_ValidField_b0_mono p0 (fun r hr => n_ref04_ValidField_b0_31 p0 H x0 i0 hx0 hi0 hc0 h0 h1 h2 h3 hr) _ (lt_ref04_ValidField_b0 p0 H r0 (i0 + 1) hd')
       | false =>
        cases h4 : (x0 == 45) with
        | true =>
         exact P_ref04_ValidField_b0_mono p0 (fun r hr => n_ref04_ValidField_b0_32 p0 H x0 i0 hx0 hi0 hc0 h0 h1 h2 h3 h4 hr) _ (lt_ref04_ValidField_b0 p0 H r0 (i0 + 1) hd')
        | false =>
         cases h5 : (x0 == 95) with
         | true =>
          exact P_ref04_ValidField_b0_mono p0 (fun r hr => n_ref04_ValidField_b0_33 p0 H x0 i0 hx0 hi0 hc0 h0 h1 h2 h3 h4 h5 hr) _ (lt_ref04_ValidField_b0 p0 H r0 (i0 + 1) hd')
         | false =>
          cases h6 : (x0 == 47) with
          | true =>
           exact P_ref04_ValidField_b0_mono p0 (fun r hr => n_ref04_ValidField_b0_34 p0 H x0 i0 hx0 hi0 hc0 h0 h1 h2 h3 h4 h5 h6 hr) _ (lt_ref04_ValidField_b0 p0 H r0 (i0 + 1) hd')
          | false =>
           exact x_ref04_ValidField_b0_35 p0 H x0 i0 hx0 hi0 hc0 h0 h1 h2 h3 h4 h5 h6
      | false =>
       cases h3 : (x0 == 45) with
       | true =>
        exact P_ref04_ValidField_b0_mono p0 (fun r hr => n_ref04_ValidField_b0_36 p0 H x0 i0 hx0 hi0 hc0 h0 h1 h2 h3 hr) _ (lt_ref04_ValidField_b0 p0 H r0 (i0 + 1) hd')
       | false =>
        cases h4 : (x0 == 95) with
        | true =>
         exact P_ref04_ValidField_b0_mono p0 (fun r hr => n_ref04_ValidField_b0_37 p0 H x0 i0 hx0 hi0 hc0 h0 h1 h2 h3 h4 hr) _ (lt_ref04_ValidField_b0 p0 H r0 (i0 + 1) hd')
        | false =>
         cases h5 : (x0 == 47) with
         | true =>
          exact P_ref04_ValidField_b0_mono p0 (fun r hr => n_ref04_ValidField_b0_38 p0 H x0 i0 hx0 hi0 hc0 h0 h1 h2 h3 h4 h5 hr) _ (lt_ref04_ValidField_b0 p0 H r0 (i0 + 1) hd')
         | false =>
          exact x_ref04_ValidField_b0_39 p0 H x0 i0 hx0 hi0 hc0 h0 h1 h2 h3 h4 h5
/-- orchestrator/ orchestratorref04.ValidField -/
def s_ref04_ValidField (p0 : ByteArray) : Bool :=
  (match (l_ref04_ValidField_b0 p0 (letters p0) 0) with
  | .k0 => bif (decide (1 ≤ (ByteArray.size p0 : Int))) then
      (decide ((ByteArray.size p0 : Int) ≤ 40))
    else
      false
  | .k1 => false)
def c_ref04_ValidField (p0 : ByteArray) : En := .call 60 [.str p0] []
def a_ref04_ValidField (p0 : ByteArray) : Rs := .ret (.bool (s_ref04_ValidField p0)) []
def H_ref04_ValidField (p0 : ByteArray) : Prop := (H_ref04_ValidField_b0 p0) ∧ True
theorem t_ref04_ValidField (p0 : ByteArray) (H : H_ref04_ValidField p0) : Tells G (c_ref04_ValidField p0) (a_ref04_ValidField p0) := by
  unfold a_ref04_ValidField s_ref04_ValidField
  have hl0 := lt_ref04_ValidField_b0 p0 (H.1) (letters p0) 0 (by simp)
  cases hr0 : (l_ref04_ValidField_b0 p0 (letters p0) 0) with
  | k0 =>
    rw [hr0] at hl0
    obtain ⟨z0, zo0, hl0⟩ := hl0
    try dsimp only
    cases h0 : (decide (1 ≤ (ByteArray.size p0 : Int))) with
    | true =>
     exact tells_VI (fn := Ir.ref04_ValidField) rfl VOK.nil [hB 4 h0] [aN hl0] (by kernel_rfl)
    | false =>
     exact tells_VI (fn := Ir.ref04_ValidField) rfl VOK.nil [hB 4 h0] [aN hl0] (by kernel_rfl)
  | k1 =>
    rw [hr0] at hl0
    obtain ⟨z0, zo0, hl0⟩ := hl0
    exact tells_VI (fn := Ir.ref04_ValidField) rfl VOK.nil [] [aN hl0] (by kernel_rfl)

/-- cmp.isNaN[int] -/
def s_cmp_isNaN (p0 : Int) : Bool :=
  (!(p0 == p0))
def c_cmp_isNaN (p0 : Int) : En := .call 61 [.int .i64 p0] []
def a_cmp_isNaN (p0 : Int) : Rs := .ret (.bool (s_cmp_isNaN p0)) []
theorem t_cmp_isNaN (p0 : Int) : Tells G (c_cmp_isNaN p0) (a_cmp_isNaN p0) := by
  unfold a_cmp_isNaN s_cmp_isNaN
  exact tells_VI (fn := Ir.cmp_isNaN) rfl VOK.nil [] [] (by kernel_rfl)

/-- cmp.Compare[int] -/
def s_cmp_Compare (p0 : Int) (p1 : Int) : Int :=
  bif (s_cmp_isNaN p0) then
    bif (s_cmp_isNaN p1) then
      0
    else
      (-1)
  else
    bif (s_cmp_isNaN p1) then
      1
    else
      bif (decide (p0 < p1)) then
        (-1)
      else
        bif (decide (p1 < p0)) then
          1
        else
          0
def c_cmp_Compare (p0 : Int) (p1 : Int) : En := .call 42 [.int .i64 p0, .int .i64 p1] []
def a_cmp_Compare (p0 : Int) (p1 : Int) : Rs := .ret (.int .i64 (s_cmp_Compare p0 p1)) []
theorem t_cmp_Compare (p0 : Int) (p1 : Int) : Tells G (c_cmp_Compare p0 p1) (a_cmp_Compare p0 p1) := by
  unfold a_cmp_Compare s_cmp_Compare
  cases h0 : (s_cmp_isNaN p0) with
  | true =>
   cases h1 : (s_cmp_isNaN p1) with
   | true =>
    exact tells_VI (fn := Ir.cmp_Compare) rfl VOK.nil [] [aB (t_cmp_isNaN p0) h0, aB (t_cmp_isNaN p1) h1] (by kernel_rfl)
   | false =>
    exact tells_VI (fn := Ir.cmp_Compare) rfl VOK.nil [] [aB (t_cmp_isNaN p0) h0, aB (t_cmp_isNaN p1) h1] (by kernel_rfl)
  | false =>
   cases h1 : (s_cmp_isNaN p1) with
   | true =>
    exact tells_VI (fn := Ir.cmp_Compare) rfl VOK.nil [] [aB (t_cmp_isNaN p0) h0, aB (t_cmp_isNaN p1) h1] (by kernel_rfl)
   | false =>
    cases h2 : (decide (p0 < p1)) with
    | true =>
     exact tells_VI (fn := Ir.cmp_Compare) rfl VOK.nil [hB 11 h2] [aB (t_cmp_isNaN p0) h0, aB (t_cmp_isNaN p1) h1] (by kernel_rfl)
    | false =>
     cases h3 : (decide (p1 < p0)) with
     | true =>
      exact tells_VI (fn := Ir.cmp_Compare) rfl VOK.nil [hB 11 h2, hB 2 h3] [aB (t_cmp_isNaN p0) h0, aB (t_cmp_isNaN p1) h1] (by kernel_rfl)
     | false =>
      exact tells_VI (fn := Ir.cmp_Compare) rfl VOK.nil [hB 11 h2, hB 2 h3] [aB (t_cmp_isNaN p0) h0, aB (t_cmp_isNaN p1) h1] (by kernel_rfl)

/-- strings.Compare -/
def s_strings_Compare (p0 : ByteArray) (p1 : ByteArray) : Int :=
  (sCmp p0 p1)
def c_strings_Compare (p0 : ByteArray) (p1 : ByteArray) : En := .call 43 [.str p0, .str p1] []
def a_strings_Compare (p0 : ByteArray) (p1 : ByteArray) : Rs := .ret (.int .i64 (s_strings_Compare p0 p1)) []
theorem t_strings_Compare (p0 : ByteArray) (p1 : ByteArray) : Tells G (c_strings_Compare p0 p1) (a_strings_Compare p0 p1) := by
  unfold a_strings_Compare s_strings_Compare
  exact tells_VI (fn := Ir.strings_Compare) rfl VOK.nil [] [aN (t_cmpstr p0 p1)] (by kernel_rfl)

inductive R_cmp_Or_b0 where
  | k0 (q0 : Int)
  | k1 (q0 : Int)
def l_cmp_Or_b0 (p0 : List Int) : List Int → Nat → Int → R_cmp_Or_b0
  | [], _i0, v0_1 =>
    (.k0 v0_1)
  | x0 :: r0, i0, v0_1 =>
    bif (x0 == v0_1) then
      l_cmp_Or_b0 p0 r0 (i0 + 1) v0_1
    else
      (.k1 x0)
def HE_cmp_Or_b0 (p0 : List Int) (i0 : Nat) (v0_1 : Int) : List PV :=
  [.un, .un, .un, .int .i64 v0_1, .un, .un, .sl (intRows p0), .int .i64 ((List.length p0) : Int), .int .i64 (i0 : Int), .un, .un, .un, .un, .un, .un, .un, .un, .un]
def HO_cmp_Or_b0 (_p0 : List Int) (_i0 : Nat) (_v0_1 : Int) : List Ob :=
  []
def E_cmp_Or_b0 (p0 : List Int) (i0 : Nat) (v0_1 : Int) : En := .loop 0 Ir.cmp_Or_b0_live Ir.cmp_Or_b0 (HE_cmp_Or_b0 p0 i0 v0_1) (HO_cmp_Or_b0 p0 i0 v0_1)
def S_cmp_Or_b0_0 (_p0 : List Int) (q0 : Int) (z : Nat → PV) (_zo : Nat → List PV) : St :=
  ⟨[z 0, z 1, z 2, .int .i64 q0, z 4, z 5, z 6, z 7, z 8, z 9, z 10, z 11, z 12, z 13, z 14, z 15, z 16, z 17], [], 64⟩
def S_cmp_Or_b0_1 (_p0 : List Int) (q0 : Int) (z : Nat → PV) (_zo : Nat → List PV) : St :=
  ⟨[z 0, z 1, .int .i64 q0, z 3, z 4, z 5, z 6, z 7, z 8, z 9, z 10, z 11, z 12, z 13, z 14, z 15, z 16, z 17], [], 576⟩
def P_cmp_Or_b0 (p0 : List Int) (e : En) : R_cmp_Or_b0 → Prop
  | .k0 q0 => ∃ z zo, Tells G e (.st (.exit 0) (S_cmp_Or_b0_0 p0 q0 z zo))
  | .k1 q0 => ∃ z zo, Tells G e (.st .ret (S_cmp_Or_b0_1 p0 q0 z zo))
theorem P_cmp_Or_b0_mono (p0 : List Int) {e e' : En} (h : ∀ r, Tells G e r → Tells G e' r) : ∀ q, P_cmp_Or_b0 p0 e q → P_cmp_Or_b0 p0 e' q
  | .k0 _, ⟨z, zo, hz⟩ => ⟨z, zo, h _ hz⟩
  | .k1 _, ⟨z, zo, hz⟩ => ⟨z, zo, h _ hz⟩
def H_cmp_Or_b0 (p0 : List Int) : Prop := (List.length p0 ≤ 4611686018427387904) ∧ True
def Z_cmp_Or_b0_0 (p0 : List Int) (i0 : Nat) (_v0_1 : Int) : List PV :=
  [.un, .un, .un, .un, .un, .un, .sl (intRows p0), .int .i64 ((List.length p0) : Int), .int .i64 (i0 : Int), .bool false]
def ZO_cmp_Or_b0_0 (_p0 : List Int) (_i0 : Nat) (_v0_1 : Int) : List (Nat × List PV) :=
  []
theorem x_cmp_Or_b0_0 (p0 : List Int) (_H : H_cmp_Or_b0 p0) (i0 : Nat) (v0_1 : Int) (hc0 : (decide ((i0 : Int) < ((List.length p0) : Int))) = false) : P_cmp_Or_b0 p0 (E_cmp_Or_b0 p0 i0 v0_1) (.k0 v0_1) := by
  exact ⟨(envF (Z_cmp_Or_b0_0 p0 i0 v0_1)), (zoF (ZO_cmp_Or_b0_0 p0 i0 v0_1)), tells_outVI VOK.nil (x := ((.exit 0), S_cmp_Or_b0_0 p0 v0_1 (envF (Z_cmp_Or_b0_0 p0 i0 v0_1)) (zoF (ZO_cmp_Or_b0_0 p0 i0 v0_1)))) [hB 0 hc0] [] (by kernel_rfl)⟩
theorem n_cmp_Or_b0_1 (p0 : List Int) (H : H_cmp_Or_b0 p0) (x0 : Int) (i0 : Nat) (v0_1 : Int) (hx0 : p0[i0]? = some x0) (hi0 : i0 < List.length p0) (hc0 : (decide ((i0 : Int) < ((List.length p0) : Int))) = true) (h0 : (x0 == v0_1) = true) {r : Rs} (hr : Tells G (E_cmp_Or_b0 p0 (i0 + 1) v0_1) r) : Tells G (E_cmp_Or_b0 p0 i0 v0_1) r := by
  have hB0 := H.1; have e0 := eq_of_beq h0
  exact tells_nextVI VOK.nil (y := (HE_cmp_Or_b0 p0 (i0 + 1) v0_1, HO_cmp_Or_b0 p0 (i0 + 1) v0_1)) [hB 0 hc0, hP 0 (ix_ok 1 (intRows p0) i0 _ (intRowsGet hx0) rfl), hP 4 (dec (!(x0 == v0_1)) false (by rw [h0]; rfl)), hP 0 (inc_ok i0 (by omega))] [] (by kernel_rfl) hr
def Z_cmp_Or_b0_2 (p0 : List Int) (i0 : Nat) (v0_1 : Int) (x0 : Int) : List PV :=
  [.un, .un, .un, .int .i64 v0_1, .un, .int .i64 x0, .sl (intRows p0), .int .i64 ((List.length p0) : Int), .int .i64 (i0 : Int), .bool true, .rf [.int .i64 x0], .int .i64 x0, .int .i64 x0, .int .i64 v0_1, .bool true, .int .i64 x0]
def ZO_cmp_Or_b0_2 (_p0 : List Int) (_i0 : Nat) (_v0_1 : Int) (_x0 : Int) : List (Nat × List PV) :=
  []
theorem x_cmp_Or_b0_2 (p0 : List Int) (_H : H_cmp_Or_b0 p0) (x0 : Int) (i0 : Nat) (v0_1 : Int) (hx0 : p0[i0]? = some x0) (_hi0 : i0 < List.length p0) (hc0 : (decide ((i0 : Int) < ((List.length p0) : Int))) = true) (h0 : (x0 == v0_1) = false) : P_cmp_Or_b0 p0 (E_cmp_Or_b0 p0 i0 v0_1) (.k1 x0) := by
  exact ⟨(envF (Z_cmp_Or_b0_2 p0 i0 v0_1 x0)), (zoF (ZO_cmp_Or_b0_2 p0 i0 v0_1 x0)), tells_outVI VOK.nil (x := (.ret, S_cmp_Or_b0_1 p0 x0 (envF (Z_cmp_Or_b0_2 p0 i0 v0_1 x0)) (zoF (ZO_cmp_Or_b0_2 p0 i0 v0_1 x0)))) [hB 0 hc0, hP 0 (ix_ok 1 (intRows p0) i0 _ (intRowsGet hx0) rfl), hP 4 (dec (!(x0 == v0_1)) true (by rw [h0]; rfl))] [] (by kernel_rfl)⟩
theorem lt_cmp_Or_b0 (p0 : List Int) (H : H_cmp_Or_b0 p0) : ∀ (r0 : List Int) (i0 : Nat) (v0_1 : Int), List.drop i0 p0 = r0 → P_cmp_Or_b0 p0 (E_cmp_Or_b0 p0 i0 v0_1) (l_cmp_Or_b0 p0 r0 i0 v0_1)
  | [], i0, v0_1, hd => by
    have hc0 : (decide ((i0 : Int) < ((List.length p0) : Int))) = false := by have := drop_end hd; simp; omega
    rw [l_cmp_Or_b0]
    exact x_cmp_Or_b0_0 p0 H i0 v0_1 hc0
  | x0 :: r0, i0, v0_1, hd => by
    obtain ⟨hx0, hi0, hd'⟩ := drop_get hd
    have hc0 : (decide ((i0 : Int) < ((List.length p0) : Int))) = true := by simp; omega
    rw [l_cmp_Or_b0]
    cases h0 : (x0 == v0_1) with
    | true =>
     exact P_cmp_Or_b0_mono p0 (fun r hr => n_cmp_Or_b0_1 p0 H x0 i0 v0_1 hx0 hi0 hc0 h0 hr) _ (lt_cmp_Or_b0 p0 H r0 (i0 + 1) v0_1 hd')
    | false =>
     exact x_cmp_Or_b0_2 p0 H x0 i0 v0_1 hx0 hi0 hc0 h0
/-- cmp.Or[int] -/
def s_cmp_Or (p0 : List Int) : Int :=
  (match (l_cmp_Or_b0 p0 p0 0 0) with
  | .k0 y0_0 => y0_0
  | .k1 y0_0 => y0_0)
def c_cmp_Or (p0 : List Int) : En := .call 41 [.sl (intRows p0)] []
def a_cmp_Or (p0 : List Int) : Rs := .ret (.int .i64 (s_cmp_Or p0)) []
def H_cmp_Or (p0 : List Int) : Prop := (H_cmp_Or_b0 p0) ∧ True
theorem t_cmp_Or (p0 : List Int) (H : H_cmp_Or p0) : Tells G (c_cmp_Or p0) (a_cmp_Or p0) := by
  unfold a_cmp_Or s_cmp_Or
  have hl0 := lt_cmp_Or_b0 p0 (H.1) p0 0 0 (by simp)
  cases hr0 : (l_cmp_Or_b0 p0 p0 0 0) with
  | k0 y0_0 =>
    rw [hr0] at hl0
    obtain ⟨z0, zo0, hl0⟩ := hl0
    exact tells_VI (fn := Ir.cmp_Or) rfl VOK.nil [hP 3 (len_ok (intRows p0) (List.length p0) (intRowsLen p0))] [aN hl0] (by kernel_rfl)
  | k1 y0_0 =>
    rw [hr0] at hl0
    obtain ⟨z0, zo0, hl0⟩ := hl0
    exact tells_VI (fn := Ir.cmp_Or) rfl VOK.nil [hP 3 (len_ok (intRows p0) (List.length p0) (intRowsLen p0))] [aN hl0] (by kernel_rfl)

end Go.Proofs.Ytedohmdgbilicaa
