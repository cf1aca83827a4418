/- Texts of the claim, merged by a program; what the statement does not reach is left out. -/
import Derived.Test.YtiflaadeikaghaaGreatBPodcodecBack3

section
/- What counting and comparing values compute (printed by a program). -/
namespace Go.Proofs.YtiflaadeikaghaaGreat
open Go.Pv
abbrev G : Nat → Option Fun := tabG Ir.table
abbrev Γ : Nat → Option Ty := gam 31
abbrev BA : Type := ByteArray
theorem Q1ie (a b : BA) : Q7 G (.call 152 [.str a, .str b] []) (.ret (.int .i64 (sCmp a b)) []) := ⟨1, by kernel_rfl⟩
mutual
def Qe2 (p0 : Val) (p1 : Int) : Int :=
 (Qdb p0 p0.fields 0 (Qa3 p0 p0.list 0 (w64 ((w64 (p1 - 1)) - (ByteArray.size p0.s : Int)))))
termination_by SizeOf.sizeOf p0
decreasing_by all_goals first | exact Val.Qvm _ | exact Val.Qc0 _
def Qa3 (p0 : Val) : List Val → Nat → Int → Int
 | [], _i0, v0_1 =>
  v0_1
 | x0 :: r0, i0, v0_1 =>
  bif (decide (0 ≤ v0_1)) then
   Qa3 p0 r0 (i0 + 1) (Qe2 x0 v0_1)
  else
   v0_1
termination_by l => SizeOf.sizeOf l
decreasing_by all_goals first | exact Qoj _ _ | exact Qwi _ _ | exact Qik _ _
def Qdb (p0 : Val) : List Fld → Nat → Int → Int
 | [], _i1, v1_1 =>
  v1_1
 | x1 :: r1, i1, v1_1 =>
  bif (decide (0 ≤ v1_1)) then
   Qdb p0 r1 (i1 + 1) (Qe2 x1.v (w64 (v1_1 - (ByteArray.size x1.name : Int))))
  else
   v1_1
termination_by l => SizeOf.sizeOf l
decreasing_by all_goals first | exact Qoj _ _ | exact Qwi _ _ | exact Qik _ _
end
def Qxw (_p0 : Val) (i0 : Nat) (v0_1 : Int) : List PV :=
  [.un, .int .i64 v0_1, .bx 0 0, .un, .un, .int .i64 (i0 : Int)] ++ nuns 53
def Qx5 (p0 : Val) (_i0 : Nat) (_v0_1 : Int) : List Ob :=
  [⟨5, 0, true, [.int .i64 p0.kind, .int .i64 p0.n, .str p0.s, .sl (Val.rows p0.list), .sl (Fld.rows p0.fields)]⟩]
def Qcb (p0 : Val) (i0 : Nat) (v0_1 : Int) : En := .loop 0 Ir.Qkz Ir.Q1kf (Qxw p0 i0 v0_1) (Qx5 p0 i0 v0_1)
def Qel (p0 : Val) (q0 : Int) (z : Nat → PV) (_zo : Nat → List PV) : St :=
  ⟨[z 0, .int .i64 q0, .bx 0 0] ++ zr z 3 56, [(0, ⟨5, 0, true, [.int .i64 p0.kind, .int .i64 p0.n, .str p0.s, .sl (Val.rows p0.list), .sl (Fld.rows p0.fields)]⟩)], 577⟩
def Qbv (p0 : Val) (e : En) (q : Int) : Prop := ∃ z zo, Q7 G e (.st (.exit 0) (Qel p0 q z zo))
theorem Qwy (p0 : Val) {e e' : En} (h : ∀ r, Q7 G e r → Q7 G e' r) : ∀ q, Qbv p0 e q → Qbv p0 e' q
  | _, ⟨z, zo, hz⟩ => ⟨z, zo, h _ hz⟩
def Qzi (_p0 : Val) (i1 : Nat) (v1_1 : Int) : List PV :=
  [.un, .int .i64 v1_1, .bx 0 0, .un, .un, .un, .int .i64 (i1 : Int)] ++ nuns 52
def Qxz (p0 : Val) (_i1 : Nat) (_v1_1 : Int) : List Ob :=
  [⟨5, 0, true, [.int .i64 p0.kind, .int .i64 p0.n, .str p0.s, .sl (Val.rows p0.list), .sl (Fld.rows p0.fields)]⟩]
def Qd2 (p0 : Val) (i1 : Nat) (v1_1 : Int) : En := .loop 0 Ir.Qiy Ir.Q1k2 (Qzi p0 i1 v1_1) (Qxz p0 i1 v1_1)
def Qdn (p0 : Val) (q0 : Int) (z : Nat → PV) (_zo : Nat → List PV) : St :=
  ⟨[z 0, .int .i64 q0] ++ zr z 2 57, [(0, ⟨5, 0, true, [.int .i64 p0.kind, .int .i64 p0.n, .str p0.s, .sl (Val.rows p0.list), .sl (Fld.rows p0.fields)]⟩)], 577⟩
def Qct (p0 : Val) (e : En) (q : Int) : Prop := ∃ z zo, Q7 G e (.st (.exit 2) (Qdn p0 q z zo))
theorem Qw0 (p0 : Val) {e e' : En} (h : ∀ r, Q7 G e r → Q7 G e' r) : ∀ q, Qct p0 e q → Qct p0 e' q
  | _, ⟨z, zo, hz⟩ => ⟨z, zo, h _ hz⟩
def Q1gz (p0 : Val) (p1 : Int) : En := .call 30 [.agg (Val.cells p0), .int .i64 p1] []
def Q1dr (p0 : Val) (p1 : Int) : Rs := .ret (.int .i64 (Qe2 p0 p1)) []
abbrev Q11b (p0 : Val) : Prop := Val.Sm 4611686018427387904 p0
def Q90 (p0 : Val) : Prop := ∀ (q : Val), SizeOf.sizeOf q < SizeOf.sizeOf p0 → ∀ (p1 : Int), Q11b q → Q7 G (Q1gz q p1) (Q1dr q p1)
def Qal (p0 : Val) : Prop := (List.length p0.list ≤ 4611686018427387904) ∧ (∀ x0 ∈ p0.list, Q11b x0) ∧ True
def Qao (p0 : Val) : Prop := (List.length p0.fields ≤ 4611686018427387904) ∧ (∀ x1 ∈ p0.fields, Q11b x1.v) ∧ True
theorem Q15g (p0 : Val) (_p1 : Int) (H : Q11b p0) : (Qal p0) ∧ (Qao p0) ∧ True := by
  obtain ⟨h1, h2, h3, h4⟩ := H.all
  simp only [Qal, Qao]
  exact ⟨⟨h1, h3, trivial⟩, ⟨h2, h4, trivial⟩, trivial⟩
def Qsm (p0 : Val) (i0 : Nat) (_v0_1 : Int) : List PV :=
  nuns 5 ++ [.int .i64 (i0 : Int)] ++ nuns 7 ++ [.int .i64 (i0 : Int), .bx 0 3, .sl (Val.rows p0.list), .int .i64 ((List.length p0.list) : Int), .bool false, .bool false, .tup [], .tup [], .bool false]
def Qjt (_p0 : Val) (_i0 : Nat) (_v0_1 : Int) : List (Nat × List PV) :=
  []
theorem Q1cm (p0 : Val) (_H : Qal p0) (_rec : Q90 p0) (i0 : Nat) (v0_1 : Int) (hc0 : (decide ((i0 : Int) < ((List.length p0.list) : Int))) = false) : Qbv p0 (Qcb p0 i0 v0_1) v0_1 := by
 exact ⟨(envF (Qsm p0 i0 v0_1)), (zoF (Qjt p0 i0 v0_1)), Qg VOK.nil (x := ((.exit 0), Qel p0 v0_1 (envF (Qsm p0 i0 v0_1)) (zoF (Qjt p0 i0 v0_1)))) [hP 3 (Qh (Val.rows p0.list) (List.length p0.list) (Val.Q5 p0.list)), hB 0 hc0] [] (by kernel_rfl)⟩
theorem Q1ci (p0 : Val) (H : Qal p0) (rec : Q90 p0) (x0 : Val) (i0 : Nat) (v0_1 : Int) (hx0 : p0.list[i0]? = some x0) (hi0 : i0 < List.length p0.list) (hc0 : (decide ((i0 : Int) < ((List.length p0.list) : Int))) = true) (h0 : (decide (0 ≤ v0_1)) = true) {r : Rs} (hr : Q7 G (Qcb p0 (i0 + 1) (Qe2 x0 v0_1)) r) : Q7 G (Qcb p0 i0 v0_1) r := by
 have hB0 := H.1; have e0 := of_decide_eq_true h0
 exact Qk VOK.nil (y := (Qxw p0 (i0 + 1) (Qe2 x0 v0_1), Qx5 p0 (i0 + 1) (Qe2 x0 v0_1))) [hP 3 (Qh (Val.rows p0.list) (List.length p0.list) (Val.Q5 p0.list)), hB 0 hc0, hB 2 h0, hP 4 (Q1j 5 (Val.rows p0.list) i0 _ (Val.Qc hx0) rfl), hP 5 (Q22 i0 (by omega))] [aN (rec x0 (szL hx0) v0_1 (H.2.1 x0 (Q2a hx0)))] (by kernel_rfl) hr
def Qqi (p0 : Val) (i0 : Nat) (v0_1 : Int) (_x0 : Val) : List PV :=
  nuns 5 ++ [.int .i64 (i0 : Int)] ++ nuns 7 ++ [.int .i64 (i0 : Int), .bx 0 3, .sl (Val.rows p0.list), .int .i64 ((List.length p0.list) : Int), .bool true, .bool true, .int .i64 v0_1, .bool false, .bool false]
def Qk9 (_p0 : Val) (_i0 : Nat) (_v0_1 : Int) (_x0 : Val) : List (Nat × List PV) :=
  []
theorem Q1cs (p0 : Val) (_H : Qal p0) (_rec : Q90 p0) (x0 : Val) (i0 : Nat) (v0_1 : Int) (_hx0 : p0.list[i0]? = some x0) (_hi0 : i0 < List.length p0.list) (hc0 : (decide ((i0 : Int) < ((List.length p0.list) : Int))) = true) (h0 : (decide (0 ≤ v0_1)) = false) : Qbv p0 (Qcb p0 i0 v0_1) v0_1 := by
 exact ⟨(envF (Qqi p0 i0 v0_1 x0)), (zoF (Qk9 p0 i0 v0_1 x0)), Qg VOK.nil (x := ((.exit 0), Qel p0 v0_1 (envF (Qqi p0 i0 v0_1 x0)) (zoF (Qk9 p0 i0 v0_1 x0)))) [hP 3 (Qh (Val.rows p0.list) (List.length p0.list) (Val.Q5 p0.list)), hB 0 hc0, hB 2 h0] [] (by kernel_rfl)⟩
theorem Qyw (p0 : Val) (H : Qal p0) (rec : Q90 p0) : ∀ (r0 : List Val) (i0 : Nat) (v0_1 : Int), List.drop i0 p0.list = r0 → Qbv p0 (Qcb p0 i0 v0_1) (Qa3 p0 r0 i0 v0_1)
 | [], i0, v0_1, hd => by
  have hc0 : (decide ((i0 : Int) < ((List.length p0.list) : Int))) = false := by have := Q19 hd; simp; omega
  rw [Qa3]
  exact Q1cm p0 H rec i0 v0_1 hc0
 | x0 :: r0, i0, v0_1, hd => by
  obtain ⟨hx0, hi0, hd'⟩ := Q11 hd
  have hc0 : (decide ((i0 : Int) < ((List.length p0.list) : Int))) = true := by simp; omega
  rw [Qa3]
  cases h0 : (decide (0 ≤ v0_1)) with
  | true =>
   exact Qwy p0 (fun r hr => Q1ci p0 H rec x0 i0 v0_1 hx0 hi0 hc0 h0 hr) _ (Qyw p0 H rec r0 (i0 + 1) (Qe2 x0 v0_1) hd')
  | false =>
   exact Q1cs p0 H rec x0 i0 v0_1 hx0 hi0 hc0 h0
def Qtn (p0 : Val) (i1 : Nat) (_v1_1 : Int) : List PV :=
  [.un, .un, .bx 0 0, .un, .un, .un, .int .i64 (i1 : Int)] ++ nuns 24 ++ [.int .i64 (i1 : Int), .bx 0 4, .sl (Fld.rows p0.fields), .int .i64 ((List.length p0.fields) : Int), .bool false, .bool false, .tup [], .tup [], .bool false]
def Qn6 (_p0 : Val) (_i1 : Nat) (_v1_1 : Int) : List (Nat × List PV) :=
  []
theorem Q184 (p0 : Val) (_H : Qao p0) (_rec : Q90 p0) (i1 : Nat) (v1_1 : Int) (hc1 : (decide ((i1 : Int) < ((List.length p0.fields) : Int))) = false) : Qct p0 (Qd2 p0 i1 v1_1) v1_1 := by
 exact ⟨(envF (Qtn p0 i1 v1_1)), (zoF (Qn6 p0 i1 v1_1)), Qg VOK.nil (x := ((.exit 2), Qdn p0 v1_1 (envF (Qtn p0 i1 v1_1)) (zoF (Qn6 p0 i1 v1_1)))) [hP 3 (Qh (Fld.rows p0.fields) (List.length p0.fields) (Fld.Q5 p0.fields)), hB 0 hc1] [] (by kernel_rfl)⟩
theorem Q1bd (p0 : Val) (H : Qao p0) (rec : Q90 p0) (x1 : Fld) (i1 : Nat) (v1_1 : Int) (hx1 : p0.fields[i1]? = some x1) (hi1 : i1 < List.length p0.fields) (hc1 : (decide ((i1 : Int) < ((List.length p0.fields) : Int))) = true) (h0 : (decide (0 ≤ v1_1)) = true) {r : Rs} (hr : Q7 G (Qd2 p0 (i1 + 1) (Qe2 x1.v (w64 (v1_1 - (ByteArray.size x1.name : Int))))) r) : Q7 G (Qd2 p0 i1 v1_1) r := by
 have hB0 := H.1; have e0 := of_decide_eq_true h0
 exact Qk VOK.nil (y := (Qzi p0 (i1 + 1) (Qe2 x1.v (w64 (v1_1 - (ByteArray.size x1.name : Int)))), Qxz p0 (i1 + 1) (Qe2 x1.v (w64 (v1_1 - (ByteArray.size x1.name : Int)))))) [hP 3 (Qh (Fld.rows p0.fields) (List.length p0.fields) (Fld.Q5 p0.fields)), hB 0 hc1, hB 2 h0, hP 4 (Q1j 6 (Fld.rows p0.fields) i1 _ (Fld.Qc hx1) rfl), hP 6 (Q1j 6 (Fld.rows p0.fields) i1 _ (Fld.Qc hx1) rfl), hP 7 (Q22 i1 (by omega))] [aN (rec x1.v (szF hx1) (w64 (v1_1 - (ByteArray.size x1.name : Int))) (H.2.1 x1 (Q2a hx1)))] (by kernel_rfl) hr
def Qqu (p0 : Val) (i1 : Nat) (v1_1 : Int) (_x1 : Fld) : List PV :=
  [.un, .un, .bx 0 0, .un, .un, .un, .int .i64 (i1 : Int)] ++ nuns 24 ++ [.int .i64 (i1 : Int), .bx 0 4, .sl (Fld.rows p0.fields), .int .i64 ((List.length p0.fields) : Int), .bool true, .bool true, .int .i64 v1_1, .bool false, .bool false]
def Qnq (_p0 : Val) (_i1 : Nat) (_v1_1 : Int) (_x1 : Fld) : List (Nat × List PV) :=
  []
theorem Q1a7 (p0 : Val) (_H : Qao p0) (_rec : Q90 p0) (x1 : Fld) (i1 : Nat) (v1_1 : Int) (_hx1 : p0.fields[i1]? = some x1) (_hi1 : i1 < List.length p0.fields) (hc1 : (decide ((i1 : Int) < ((List.length p0.fields) : Int))) = true) (h0 : (decide (0 ≤ v1_1)) = false) : Qct p0 (Qd2 p0 i1 v1_1) v1_1 := by
 exact ⟨(envF (Qqu p0 i1 v1_1 x1)), (zoF (Qnq p0 i1 v1_1 x1)), Qg VOK.nil (x := ((.exit 2), Qdn p0 v1_1 (envF (Qqu p0 i1 v1_1 x1)) (zoF (Qnq p0 i1 v1_1 x1)))) [hP 3 (Qh (Fld.rows p0.fields) (List.length p0.fields) (Fld.Q5 p0.fields)), hB 0 hc1, hB 2 h0] [] (by kernel_rfl)⟩
theorem Q122 (p0 : Val) (H : Qao p0) (rec : Q90 p0) : ∀ (r1 : List Fld) (i1 : Nat) (v1_1 : Int), List.drop i1 p0.fields = r1 → Qct p0 (Qd2 p0 i1 v1_1) (Qdb p0 r1 i1 v1_1)
 | [], i1, v1_1, hd => by
  have hc1 : (decide ((i1 : Int) < ((List.length p0.fields) : Int))) = false := by have := Q19 hd; simp; omega
  rw [Qdb]
  exact Q184 p0 H rec i1 v1_1 hc1
 | x1 :: r1, i1, v1_1, hd => by
  obtain ⟨hx1, hi1, hd'⟩ := Q11 hd
  have hc1 : (decide ((i1 : Int) < ((List.length p0.fields) : Int))) = true := by simp; omega
  rw [Qdb]
  cases h0 : (decide (0 ≤ v1_1)) with
  | true =>
   exact Qw0 p0 (fun r hr => Q1bd p0 H rec x1 i1 v1_1 hx1 hi1 hc1 h0 hr) _ (Q122 p0 H rec r1 (i1 + 1) (Qe2 x1.v (w64 (v1_1 - (ByteArray.size x1.name : Int)))) hd')
  | false =>
   exact Q1a7 p0 H rec x1 i1 v1_1 hx1 hi1 hc1 h0
theorem Q1wm (p0 : Val) (p1 : Int) (H : Q11b p0) (rec : Q90 p0) : Q7 G (Q1gz p0 p1) (Q1dr p0 p1) := by
  unfold Q1dr
  rw [Qe2]
  have hl0 := Qyw p0 ((Q15g p0 p1 H).1) rec p0.list 0 (w64 ((w64 (p1 - 1)) - (ByteArray.size p0.s : Int))) (by simp)
  obtain ⟨z0, zo0, hl0⟩ := hl0
  have hl1 := Q122 p0 ((Q15g p0 p1 H).2.1) rec p0.fields 0 (Qa3 p0 p0.list 0 (w64 ((w64 (p1 - 1)) - (ByteArray.size p0.s : Int)))) (by simp)
  obtain ⟨z1, zo1, hl1⟩ := hl1
  exact Q8 (fn := Ir.K28) rfl VOK.nil [] [aN hl0, aN hl1] (by kernel_rfl)
theorem Q1nr : ∀ (k : Nat) (p0 : Val), SizeOf.sizeOf p0 < k → ∀ (p1 : Int), Q11b p0 → Q7 G (Q1gz p0 p1) (Q1dr p0 p1)
  | 0, _, h, _, _ => absurd h (Nat.not_lt_zero _)
  | k + 1, p0, h, p1, H => Q1wm p0 p1 H (fun q hq p1 hH => Q1nr k q (by omega) p1 hH)
theorem Q1u0 (p0 : Val) (p1 : Int) (H : Q11b p0) : Q7 G (Q1gz p0 p1) (Q1dr p0 p1) := Q1nr _ p0 (Nat.lt_succ_self _) p1 H
def Q19d (p0 : Val) (p1 : Int) : Bool :=
 (decide (0 ≤ (Qe2 p0 p1)))
def Q1r1 (p0 : Val) (p1 : Int) : En := .call 9 [.agg (Val.cells p0), .int .i64 p1] []
def Q1qp (p0 : Val) (p1 : Int) : Rs := .ret (.bool (Q19d p0 p1)) []
def Q18b (p0 : Val) (_p1 : Int) : Prop := (Q11b p0) ∧ True
theorem Q1la (p0 : Val) (p1 : Int) (H : Q18b p0 p1) : Q7 G (Q1r1 p0 p1) (Q1qp p0 p1) := by
 unfold Q1qp Q19d
 exact Q8 (fn := Ir.K27) rfl VOK.nil [] [aN (Q1u0 p0 p1 H.1)] (by kernel_rfl)
def Q1n0 (p0 : BA) (p1 : BA) : Int :=
 (sCmp p0 p1)
def Q1tr (p0 : BA) (p1 : BA) : En := .call 135 [.str p0, .str p1] []
def Q1q3 (p0 : BA) (p1 : BA) : Rs := .ret (.int .i64 (Q1n0 p0 p1)) []
theorem Q1w7 (p0 : BA) (p1 : BA) : Q7 G (Q1tr p0 p1) (Q1q3 p0 p1) := by
 unfold Q1q3 Q1n0
 exact Q8 (fn := Ir.K3u) rfl VOK.nil [] [aN (Q1ie p0 p1)] (by kernel_rfl)
inductive Q16f where
  | k0
  | k1
inductive Q16n where
  | k0
  | k1
abbrev eB : ByteArray := ⟨#[]⟩
abbrev zF : Fld := (Fld.mk eB (Val.mk 0 0 eB [] []))
mutual
def Q7w (p0 : Val) (p1 : Val) : Bool :=
 bif (p0.kind == p1.kind) then
  bif (p0.n == p1.n) then
   bif (sEq p0.s p1.s) then
    bif (((List.length p0.list) : Int) == ((List.length p1.list) : Int)) then
     bif (((List.length p0.fields) : Int) == ((List.length p1.fields) : Int)) then
      (match (Q67 p0 p1 p0.list 0) with
      | .k0 => (match (Q68 p0 p1 p0.fields 0) with
       | .k0 => true
       | .k1 => false)
      | .k1 => false)
     else
      false
    else
     false
   else
    false
  else
   false
 else
  false
termination_by SizeOf.sizeOf p0
decreasing_by all_goals first | exact Val.Qvm _ | exact Val.Qc0 _
def Q67 (p0 : Val) (p1 : Val) : List Val → Nat → Q16f
 | [], _i0 =>
  (.k0)
 | x0 :: r0, i0 =>
  bif (Q7w x0 (List.getD p1.list i0 (Val.mk 0 0 eB [] []))) then
   Q67 p0 p1 r0 (i0 + 1)
  else
   (.k1)
termination_by l => SizeOf.sizeOf l
decreasing_by all_goals first | exact Qoj _ _ | exact Qwi _ _ | exact Qik _ _
def Q68 (p0 : Val) (p1 : Val) : List Fld → Nat → Q16n
 | [], _i1 =>
  (.k0)
 | x1 :: r1, i1 =>
  bif (sEq x1.name (List.getD p1.fields i1 zF).name) then
   bif (Q7w x1.v (List.getD p1.fields i1 zF).v) then
    Q68 p0 p1 r1 (i1 + 1)
   else
    (.k1)
  else
   (.k1)
termination_by l => SizeOf.sizeOf l
decreasing_by all_goals first | exact Qoj _ _ | exact Qwi _ _ | exact Qik _ _
end
def Qxq (_p0 : Val) (_p1 : Val) (i0 : Nat) : List PV :=
  [.un, .un, .bx 0 0, .bx 1 0, .un, .int .i64 (i0 : Int)] ++ nuns 93
def Q123 (p0 : Val) (p1 : Val) (_i0 : Nat) : List Ob :=
  [⟨5, 0, true, [.int .i64 p0.kind, .int .i64 p0.n, .str p0.s, .sl (Val.rows p0.list), .sl (Fld.rows p0.fields)]⟩, ⟨5, 0, true, [.int .i64 p1.kind, .int .i64 p1.n, .str p1.s, .sl (Val.rows p1.list), .sl (Fld.rows p1.fields)]⟩]
def Q7g (p0 : Val) (p1 : Val) (i0 : Nat) : En := .loop 0 Ir.Qmq Ir.Q1jt (Qxq p0 p1 i0) (Q123 p0 p1 i0)
def Qa9 (p0 : Val) (p1 : Val) (z : Nat → PV) (_zo : Nat → List PV) : St :=
  ⟨[z 0, z 1, .bx 0 0, .bx 1 0] ++ zr z 4 95, [(0, ⟨5, 0, true, [.int .i64 p0.kind, .int .i64 p0.n, .str p0.s, .sl (Val.rows p0.list), .sl (Fld.rows p0.fields)]⟩), (1, ⟨5, 0, true, [.int .i64 p1.kind, .int .i64 p1.n, .str p1.s, .sl (Val.rows p1.list), .sl (Fld.rows p1.fields)]⟩)], 322⟩
def Qdx (_p0 : Val) (_p1 : Val) (z : Nat → PV) (zo : Nat → List PV) : St :=
  ⟨[z 0, z 1, z 2, z 3, .bool false] ++ zr z 5 94, [(0, ⟨5, 0, true, zo 0⟩), (1, ⟨5, 0, true, zo 1⟩)], 1154⟩
def Qd6 (p0 : Val) (p1 : Val) (e : En) : Q16f → Prop
  | .k0 => ∃ z zo, Q7 G e (.st (.exit 0) (Qa9 p0 p1 z zo))
  | .k1 => ∃ z zo, Q7 G e (.st .ret (Qdx p0 p1 z zo))
theorem Qws (p0 : Val) (p1 : Val) {e e' : En} (h : ∀ r, Q7 G e r → Q7 G e' r) : ∀ q, Qd6 p0 p1 e q → Qd6 p0 p1 e' q
  | .k0, ⟨z, zo, hz⟩ => ⟨z, zo, h _ hz⟩
  | .k1, ⟨z, zo, hz⟩ => ⟨z, zo, h _ hz⟩
def Q11q (_p0 : Val) (_p1 : Val) (i1 : Nat) : List PV :=
  [.un, .un, .bx 0 0, .bx 1 0, .un, .un, .int .i64 (i1 : Int)] ++ nuns 92
def Qy9 (p0 : Val) (p1 : Val) (_i1 : Nat) : List Ob :=
  [⟨5, 0, true, [.int .i64 p0.kind, .int .i64 p0.n, .str p0.s, .sl (Val.rows p0.list), .sl (Fld.rows p0.fields)]⟩, ⟨5, 0, true, [.int .i64 p1.kind, .int .i64 p1.n, .str p1.s, .sl (Val.rows p1.list), .sl (Fld.rows p1.fields)]⟩]
def Q7m (p0 : Val) (p1 : Val) (i1 : Nat) : En := .loop 0 Ir.Qoe Ir.Q1ja (Q11q p0 p1 i1) (Qy9 p0 p1 i1)
def Qeo (p0 : Val) (p1 : Val) (z : Nat → PV) (_zo : Nat → List PV) : St :=
  ⟨zr z 0 99, [(0, ⟨5, 0, true, [.int .i64 p0.kind, .int .i64 p0.n, .str p0.s, .sl (Val.rows p0.list), .sl (Fld.rows p0.fields)]⟩), (1, ⟨5, 0, true, [.int .i64 p1.kind, .int .i64 p1.n, .str p1.s, .sl (Val.rows p1.list), .sl (Fld.rows p1.fields)]⟩)], 322⟩
def Qaj (_p0 : Val) (_p1 : Val) (z : Nat → PV) (zo : Nat → List PV) : St :=
  ⟨[z 0, z 1, z 2, z 3, .bool false] ++ zr z 5 94, [(0, ⟨5, 0, true, zo 0⟩), (1, ⟨5, 0, true, zo 1⟩)], 2242⟩
def Qai (p0 : Val) (p1 : Val) (e : En) : Q16n → Prop
  | .k0 => ∃ z zo, Q7 G e (.st (.exit 2) (Qeo p0 p1 z zo))
  | .k1 => ∃ z zo, Q7 G e (.st .ret (Qaj p0 p1 z zo))
theorem Qu0 (p0 : Val) (p1 : Val) {e e' : En} (h : ∀ r, Q7 G e r → Q7 G e' r) : ∀ q, Qai p0 p1 e q → Qai p0 p1 e' q
  | .k0, ⟨z, zo, hz⟩ => ⟨z, zo, h _ hz⟩
  | .k1, ⟨z, zo, hz⟩ => ⟨z, zo, h _ hz⟩
def Qff (p0 : Val) (p1 : Val) : En := .call 23 [.agg (Val.cells p0), .agg (Val.cells p1)] []
def Q1fd (p0 : Val) (p1 : Val) : Rs := .ret (.bool (Q7w p0 p1)) []
abbrev Q87 (p0 : Val) : Prop := Val.Sm 4611686018427387904 p0
def Q41 (p0 : Val) : Prop := ∀ (q : Val), SizeOf.sizeOf q < SizeOf.sizeOf p0 → ∀ (p1 : Val), Q87 q → Q7 G (Qff q p1) (Q1fd q p1)
def Qcr (p0 : Val) (p1 : Val) : Prop := (List.length p0.list ≤ 4611686018427387904) ∧ (∀ (i0 : Nat) (x0 : Val), p0.list[i0]? = some x0 → i0 < List.length p1.list) ∧ (∀ x0 ∈ p0.list, Q87 x0) ∧ True
def Qa5 (p0 : Val) (p1 : Val) : Prop := (List.length p0.fields ≤ 4611686018427387904) ∧ (∀ (i1 : Nat) (x1 : Fld), p0.fields[i1]? = some x1 → i1 < List.length p1.fields) ∧ (∀ x1 ∈ p0.fields, Q87 x1.v) ∧ True
theorem Q13n (p0 : Val) (p1 : Val) (H : Q87 p0) : ((((List.length p0.list) : Int) == ((List.length p1.list) : Int)) = true → (((List.length p0.fields) : Int) == ((List.length p1.fields) : Int)) = true → Qcr p0 p1) ∧ ((((List.length p0.list) : Int) == ((List.length p1.list) : Int)) = true → (((List.length p0.fields) : Int) == ((List.length p1.fields) : Int)) = true → Qa5 p0 p1) ∧ True := by
  obtain ⟨h1, h2, h3, h4⟩ := H.all
  exact ⟨fun a _ => ⟨h1, fun i x hx => by have := (List.getElem?_eq_some_iff.1 hx).1; have := eq_of_beq a; omega, h3, trivial⟩, fun _ b => ⟨h2, fun i x hx => by have := (List.getElem?_eq_some_iff.1 hx).1; have := eq_of_beq b; omega, h4, trivial⟩, trivial⟩
def Qsu (p0 : Val) (_p1 : Val) (i0 : Nat) : List PV :=
  nuns 5 ++ [.int .i64 (i0 : Int)] ++ nuns 38 ++ [.int .i64 (i0 : Int), .bx 0 3, .sl (Val.rows p0.list), .int .i64 ((List.length p0.list) : Int), .bool false]
def Qjp (_p0 : Val) (_p1 : Val) (_i0 : Nat) : List (Nat × List PV) :=
  []
theorem Q1cw (p0 : Val) (p1 : Val) (_H : Qcr p0 p1) (_rec : Q41 p0) (i0 : Nat) (hc0 : (decide ((i0 : Int) < ((List.length p0.list) : Int))) = false) : Qd6 p0 p1 (Q7g p0 p1 i0) (.k0) := by
 exact ⟨(envF (Qsu p0 p1 i0)), (zoF (Qjp p0 p1 i0)), Qg VOK.nil (x := ((.exit 0), Qa9 p0 p1 (envF (Qsu p0 p1 i0)) (zoF (Qjp p0 p1 i0)))) [hP 3 (Qh (Val.rows p0.list) (List.length p0.list) (Val.Q5 p0.list)), hB 0 hc0] [] (by kernel_rfl)⟩
theorem Q1cj (p0 : Val) (p1 : Val) (H : Qcr p0 p1) (rec : Q41 p0) (x0 : Val) (i0 : Nat) (hx0 : p0.list[i0]? = some x0) (hi0 : i0 < List.length p0.list) (hc0 : (decide ((i0 : Int) < ((List.length p0.list) : Int))) = true) (h0 : (Q7w x0 (List.getD p1.list i0 (Val.mk 0 0 eB [] []))) = true) {r : Rs} (hr : Q7 G (Q7g p0 p1 (i0 + 1)) r) : Q7 G (Q7g p0 p1 i0) r := by
 have hB0 := H.1
 exact Qk VOK.nil (y := (Qxq p0 p1 (i0 + 1), Q123 p0 p1 (i0 + 1))) [hP 3 (Qh (Val.rows p0.list) (List.length p0.list) (Val.Q5 p0.list)), hB 0 hc0, hP 3 (Q1j 5 (Val.rows p0.list) i0 _ (Val.Qc hx0) rfl), hP 4 (Q1j 5 (Val.rows p1.list) i0 _ (Val.Qc (Q2x p1.list i0 (Val.mk 0 0 eB [] []) ((H.2.1 i0 x0 hx0)))) rfl), hP 4 (Q22 i0 (by omega))] [aB (rec x0 (szL hx0) (List.getD p1.list i0 (Val.mk 0 0 eB [] [])) (H.2.2.1 x0 (Q2a hx0))) h0] (by kernel_rfl) hr
def Qs9 (p0 : Val) (p1 : Val) (i0 : Nat) (x0 : Val) : List PV :=
  [.un, .un, .bx 0 0, .bx 1 0, .un, .int .i64 (i0 : Int)] ++ nuns 38 ++ [.int .i64 (i0 : Int), .bx 0 3, .sl (Val.rows p0.list), .int .i64 ((List.length p0.list) : Int), .bool true, .un, .un, .bx 0 3, .sl (Val.rows p0.list), .int .i64 (i0 : Int), .rf [.int .i64 x0.kind, .int .i64 x0.n, .str x0.s, .sl (Val.rows x0.list), .sl (Fld.rows x0.fields)], .agg [.int .i64 x0.kind, .int .i64 x0.n, .str x0.s, .sl (Val.rows x0.list), .sl (Fld.rows x0.fields)], .bx 1 3, .sl (Val.rows p1.list), .int .i64 (i0 : Int), .rf [.int .i64 (List.getD p1.list i0 (Val.mk 0 0 eB [] [])).kind, .int .i64 (List.getD p1.list i0 (Val.mk 0 0 eB [] [])).n, .str (List.getD p1.list i0 (Val.mk 0 0 eB [] [])).s, .sl (Val.rows (List.getD p1.list i0 (Val.mk 0 0 eB [] [])).list), .sl (Fld.rows (List.getD p1.list i0 (Val.mk 0 0 eB [] [])).fields)], .agg [.int .i64 (List.getD p1.list i0 (Val.mk 0 0 eB [] [])).kind, .int .i64 (List.getD p1.list i0 (Val.mk 0 0 eB [] [])).n, .str (List.getD p1.list i0 (Val.mk 0 0 eB [] [])).s, .sl (Val.rows (List.getD p1.list i0 (Val.mk 0 0 eB [] [])).list), .sl (Fld.rows (List.getD p1.list i0 (Val.mk 0 0 eB [] [])).fields)], .bool false, .bool true]
def Qkw (p0 : Val) (p1 : Val) (_i0 : Nat) (_x0 : Val) : List (Nat × List PV) :=
  [(0, [.int .i64 p0.kind, .int .i64 p0.n, .str p0.s, .sl (Val.rows p0.list), .sl (Fld.rows p0.fields)]), (1, [.int .i64 p1.kind, .int .i64 p1.n, .str p1.s, .sl (Val.rows p1.list), .sl (Fld.rows p1.fields)])]
theorem Q1av (p0 : Val) (p1 : Val) (H : Qcr p0 p1) (rec : Q41 p0) (x0 : Val) (i0 : Nat) (hx0 : p0.list[i0]? = some x0) (_hi0 : i0 < List.length p0.list) (hc0 : (decide ((i0 : Int) < ((List.length p0.list) : Int))) = true) (h0 : (Q7w x0 (List.getD p1.list i0 (Val.mk 0 0 eB [] []))) = false) : Qd6 p0 p1 (Q7g p0 p1 i0) (.k1) := by
 exact ⟨(envF (Qs9 p0 p1 i0 x0)), (zoF (Qkw p0 p1 i0 x0)), Qg VOK.nil (x := (.ret, Qdx p0 p1 (envF (Qs9 p0 p1 i0 x0)) (zoF (Qkw p0 p1 i0 x0)))) [hP 3 (Qh (Val.rows p0.list) (List.length p0.list) (Val.Q5 p0.list)), hB 0 hc0, hP 3 (Q1j 5 (Val.rows p0.list) i0 _ (Val.Qc hx0) rfl), hP 4 (Q1j 5 (Val.rows p1.list) i0 _ (Val.Qc (Q2x p1.list i0 (Val.mk 0 0 eB [] []) ((H.2.1 i0 x0 hx0)))) rfl)] [aB (rec x0 (szL hx0) (List.getD p1.list i0 (Val.mk 0 0 eB [] [])) (H.2.2.1 x0 (Q2a hx0))) h0] (by kernel_rfl)⟩
theorem Q10n (p0 : Val) (p1 : Val) (H : Qcr p0 p1) (rec : Q41 p0) : ∀ (r0 : List Val) (i0 : Nat), List.drop i0 p0.list = r0 → Qd6 p0 p1 (Q7g p0 p1 i0) (Q67 p0 p1 r0 i0)
 | [], i0, hd => by
  have hc0 : (decide ((i0 : Int) < ((List.length p0.list) : Int))) = false := by have := Q19 hd; simp; omega
  rw [Q67]
  exact Q1cw p0 p1 H rec i0 hc0
 | x0 :: r0, i0, hd => by
  obtain ⟨hx0, hi0, hd'⟩ := Q11 hd
  have hc0 : (decide ((i0 : Int) < ((List.length p0.list) : Int))) = true := by simp; omega
  rw [Q67]
  cases h0 : (Q7w x0 (List.getD p1.list i0 (Val.mk 0 0 eB [] []))) with
  | true =>
   exact Qws p0 p1 (fun r hr => Q1cj p0 p1 H rec x0 i0 hx0 hi0 hc0 h0 hr) _ (Q10n p0 p1 H rec r0 (i0 + 1) hd')
  | false =>
   exact Q1av p0 p1 H rec x0 i0 hx0 hi0 hc0 h0
def Qs1 (p0 : Val) (_p1 : Val) (i1 : Nat) : List PV :=
  [.un, .un, .bx 0 0, .bx 1 0, .un, .un, .int .i64 (i1 : Int)] ++ nuns 56 ++ [.int .i64 (i1 : Int), .bx 0 4, .sl (Fld.rows p0.fields), .int .i64 ((List.length p0.fields) : Int), .bool false]
def Qix (_p0 : Val) (_p1 : Val) (_i1 : Nat) : List (Nat × List PV) :=
  []
theorem Q19h (p0 : Val) (p1 : Val) (_H : Qa5 p0 p1) (_rec : Q41 p0) (i1 : Nat) (hc1 : (decide ((i1 : Int) < ((List.length p0.fields) : Int))) = false) : Qai p0 p1 (Q7m p0 p1 i1) (.k0) := by
 exact ⟨(envF (Qs1 p0 p1 i1)), (zoF (Qix p0 p1 i1)), Qg VOK.nil (x := ((.exit 2), Qeo p0 p1 (envF (Qs1 p0 p1 i1)) (zoF (Qix p0 p1 i1)))) [hP 3 (Qh (Fld.rows p0.fields) (List.length p0.fields) (Fld.Q5 p0.fields)), hB 0 hc1] [] (by kernel_rfl)⟩
theorem Q1au (p0 : Val) (p1 : Val) (H : Qa5 p0 p1) (rec : Q41 p0) (x1 : Fld) (i1 : Nat) (hx1 : p0.fields[i1]? = some x1) (hi1 : i1 < List.length p0.fields) (hc1 : (decide ((i1 : Int) < ((List.length p0.fields) : Int))) = true) (h0 : (sEq x1.name (List.getD p1.fields i1 zF).name) = true) (h1 : (Q7w x1.v (List.getD p1.fields i1 zF).v) = true) {r : Rs} (hr : Q7 G (Q7m p0 p1 (i1 + 1)) r) : Q7 G (Q7m p0 p1 i1) r := by
 have hB0 := H.1
 exact Qk VOK.nil (y := (Q11q p0 p1 (i1 + 1), Qy9 p0 p1 (i1 + 1))) [hP 3 (Qh (Fld.rows p0.fields) (List.length p0.fields) (Fld.Q5 p0.fields)), hB 0 hc1, hP 3 (Q1j 6 (Fld.rows p0.fields) i1 _ (Fld.Qc hx1) rfl), hP 5 (Q1j 6 (Fld.rows p1.fields) i1 _ (Fld.Qc (Q2x p1.fields i1 zF ((H.2.1 i1 x1 hx1)))) rfl), hP 2 (dec (!(sEq x1.name (List.getD p1.fields i1 zF).name)) false (by rw [h0]; rfl)), hP 4 (Q1j 6 (Fld.rows p0.fields) i1 _ (Fld.Qc hx1) rfl), hP 5 (Q1j 6 (Fld.rows p1.fields) i1 _ (Fld.Qc (Q2x p1.fields i1 zF ((H.2.1 i1 x1 hx1)))) rfl), hP 6 (Q22 i1 (by omega))] [aB (rec x1.v (szF hx1) (List.getD p1.fields i1 zF).v (H.2.2.1 x1 (Q2a hx1))) h1] (by kernel_rfl) hr
def Qqd (p0 : Val) (p1 : Val) (i1 : Nat) (x1 : Fld) : List PV :=
  [.un, .un, .bx 0 0, .bx 1 0, .un, .un, .int .i64 (i1 : Int)] ++ nuns 56 ++ [.int .i64 (i1 : Int), .bx 0 4, .sl (Fld.rows p0.fields), .int .i64 ((List.length p0.fields) : Int), .bool true, .un, .un, .bx 0 4, .sl (Fld.rows p0.fields), .int .i64 (i1 : Int), .rf [.str x1.name, .int .i64 x1.v.kind, .int .i64 x1.v.n, .str x1.v.s, .sl (Val.rows x1.v.list), .sl (Fld.rows x1.v.fields)], .rf [.str x1.name, .int .i64 x1.v.kind, .int .i64 x1.v.n, .str x1.v.s, .sl (Val.rows x1.v.list), .sl (Fld.rows x1.v.fields)], .str x1.name, .bx 1 4, .sl (Fld.rows p1.fields), .int .i64 (i1 : Int), .rf [.str (List.getD p1.fields i1 zF).name, .int .i64 (List.getD p1.fields i1 zF).v.kind, .int .i64 (List.getD p1.fields i1 zF).v.n, .str (List.getD p1.fields i1 zF).v.s, .sl (Val.rows (List.getD p1.fields i1 zF).v.list), .sl (Fld.rows (List.getD p1.fields i1 zF).v.fields)], .rf [.str (List.getD p1.fields i1 zF).name, .int .i64 (List.getD p1.fields i1 zF).v.kind, .int .i64 (List.getD p1.fields i1 zF).v.n, .str (List.getD p1.fields i1 zF).v.s, .sl (Val.rows (List.getD p1.fields i1 zF).v.list), .sl (Fld.rows (List.getD p1.fields i1 zF).v.fields)], .str (List.getD p1.fields i1 zF).name, .bool false, .bool false, .bx 0 4, .sl (Fld.rows p0.fields), .int .i64 (i1 : Int), .rf [.str x1.name, .int .i64 x1.v.kind, .int .i64 x1.v.n, .str x1.v.s, .sl (Val.rows x1.v.list), .sl (Fld.rows x1.v.fields)], .rf [.int .i64 x1.v.kind, .int .i64 x1.v.n, .str x1.v.s, .sl (Val.rows x1.v.list), .sl (Fld.rows x1.v.fields)], .agg [.int .i64 x1.v.kind, .int .i64 x1.v.n, .str x1.v.s, .sl (Val.rows x1.v.list), .sl (Fld.rows x1.v.fields)], .bx 1 4, .sl (Fld.rows p1.fields), .int .i64 (i1 : Int), .rf [.str (List.getD p1.fields i1 zF).name, .int .i64 (List.getD p1.fields i1 zF).v.kind, .int .i64 (List.getD p1.fields i1 zF).v.n, .str (List.getD p1.fields i1 zF).v.s, .sl (Val.rows (List.getD p1.fields i1 zF).v.list), .sl (Fld.rows (List.getD p1.fields i1 zF).v.fields)], .rf [.int .i64 (List.getD p1.fields i1 zF).v.kind, .int .i64 (List.getD p1.fields i1 zF).v.n, .str (List.getD p1.fields i1 zF).v.s, .sl (Val.rows (List.getD p1.fields i1 zF).v.list), .sl (Fld.rows (List.getD p1.fields i1 zF).v.fields)], .agg [.int .i64 (List.getD p1.fields i1 zF).v.kind, .int .i64 (List.getD p1.fields i1 zF).v.n, .str (List.getD p1.fields i1 zF).v.s, .sl (Val.rows (List.getD p1.fields i1 zF).v.list), .sl (Fld.rows (List.getD p1.fields i1 zF).v.fields)], .bool false, .bool true, .bool true]
def Qke (p0 : Val) (p1 : Val) (_i1 : Nat) (_x1 : Fld) : List (Nat × List PV) :=
  [(0, [.int .i64 p0.kind, .int .i64 p0.n, .str p0.s, .sl (Val.rows p0.list), .sl (Fld.rows p0.fields)]), (1, [.int .i64 p1.kind, .int .i64 p1.n, .str p1.s, .sl (Val.rows p1.list), .sl (Fld.rows p1.fields)])]
theorem Q1ad (p0 : Val) (p1 : Val) (H : Qa5 p0 p1) (rec : Q41 p0) (x1 : Fld) (i1 : Nat) (hx1 : p0.fields[i1]? = some x1) (_hi1 : i1 < List.length p0.fields) (hc1 : (decide ((i1 : Int) < ((List.length p0.fields) : Int))) = true) (h0 : (sEq x1.name (List.getD p1.fields i1 zF).name) = true) (h1 : (Q7w x1.v (List.getD p1.fields i1 zF).v) = false) : Qai p0 p1 (Q7m p0 p1 i1) (.k1) := by
 exact ⟨(envF (Qqd p0 p1 i1 x1)), (zoF (Qke p0 p1 i1 x1)), Qg VOK.nil (x := (.ret, Qaj p0 p1 (envF (Qqd p0 p1 i1 x1)) (zoF (Qke p0 p1 i1 x1)))) [hP 3 (Qh (Fld.rows p0.fields) (List.length p0.fields) (Fld.Q5 p0.fields)), hB 0 hc1, hP 3 (Q1j 6 (Fld.rows p0.fields) i1 _ (Fld.Qc hx1) rfl), hP 5 (Q1j 6 (Fld.rows p1.fields) i1 _ (Fld.Qc (Q2x p1.fields i1 zF ((H.2.1 i1 x1 hx1)))) rfl), hP 2 (dec (!(sEq x1.name (List.getD p1.fields i1 zF).name)) false (by rw [h0]; rfl)), hP 4 (Q1j 6 (Fld.rows p0.fields) i1 _ (Fld.Qc hx1) rfl), hP 5 (Q1j 6 (Fld.rows p1.fields) i1 _ (Fld.Qc (Q2x p1.fields i1 zF ((H.2.1 i1 x1 hx1)))) rfl)] [aB (rec x1.v (szF hx1) (List.getD p1.fields i1 zF).v (H.2.2.1 x1 (Q2a hx1))) h1] (by kernel_rfl)⟩
def Qsk (p0 : Val) (p1 : Val) (i1 : Nat) (x1 : Fld) : List PV :=
  [.un, .un, .bx 0 0, .bx 1 0, .un, .un, .int .i64 (i1 : Int)] ++ nuns 56 ++ [.int .i64 (i1 : Int), .bx 0 4, .sl (Fld.rows p0.fields), .int .i64 ((List.length p0.fields) : Int), .bool true, .un, .un, .bx 0 4, .sl (Fld.rows p0.fields), .int .i64 (i1 : Int), .rf [.str x1.name, .int .i64 x1.v.kind, .int .i64 x1.v.n, .str x1.v.s, .sl (Val.rows x1.v.list), .sl (Fld.rows x1.v.fields)], .rf [.str x1.name, .int .i64 x1.v.kind, .int .i64 x1.v.n, .str x1.v.s, .sl (Val.rows x1.v.list), .sl (Fld.rows x1.v.fields)], .str x1.name, .bx 1 4, .sl (Fld.rows p1.fields), .int .i64 (i1 : Int), .rf [.str (List.getD p1.fields i1 zF).name, .int .i64 (List.getD p1.fields i1 zF).v.kind, .int .i64 (List.getD p1.fields i1 zF).v.n, .str (List.getD p1.fields i1 zF).v.s, .sl (Val.rows (List.getD p1.fields i1 zF).v.list), .sl (Fld.rows (List.getD p1.fields i1 zF).v.fields)], .rf [.str (List.getD p1.fields i1 zF).name, .int .i64 (List.getD p1.fields i1 zF).v.kind, .int .i64 (List.getD p1.fields i1 zF).v.n, .str (List.getD p1.fields i1 zF).v.s, .sl (Val.rows (List.getD p1.fields i1 zF).v.list), .sl (Fld.rows (List.getD p1.fields i1 zF).v.fields)], .str (List.getD p1.fields i1 zF).name, .bool true, .bool true, .tup [], .tup [], .tup [], .tup [], .tup [], .tup [], .tup [], .tup [], .tup [], .tup [], .tup [], .tup [], .tup [], .tup [], .bool true]
def Qis (p0 : Val) (p1 : Val) (_i1 : Nat) (_x1 : Fld) : List (Nat × List PV) :=
  [(0, [.int .i64 p0.kind, .int .i64 p0.n, .str p0.s, .sl (Val.rows p0.list), .sl (Fld.rows p0.fields)]), (1, [.int .i64 p1.kind, .int .i64 p1.n, .str p1.s, .sl (Val.rows p1.list), .sl (Fld.rows p1.fields)])]
theorem Q18n (p0 : Val) (p1 : Val) (H : Qa5 p0 p1) (_rec : Q41 p0) (x1 : Fld) (i1 : Nat) (hx1 : p0.fields[i1]? = some x1) (_hi1 : i1 < List.length p0.fields) (hc1 : (decide ((i1 : Int) < ((List.length p0.fields) : Int))) = true) (h0 : (sEq x1.name (List.getD p1.fields i1 zF).name) = false) : Qai p0 p1 (Q7m p0 p1 i1) (.k1) := by
 exact ⟨(envF (Qsk p0 p1 i1 x1)), (zoF (Qis p0 p1 i1 x1)), Qg VOK.nil (x := (.ret, Qaj p0 p1 (envF (Qsk p0 p1 i1 x1)) (zoF (Qis p0 p1 i1 x1)))) [hP 3 (Qh (Fld.rows p0.fields) (List.length p0.fields) (Fld.Q5 p0.fields)), hB 0 hc1, hP 3 (Q1j 6 (Fld.rows p0.fields) i1 _ (Fld.Qc hx1) rfl), hP 5 (Q1j 6 (Fld.rows p1.fields) i1 _ (Fld.Qc (Q2x p1.fields i1 zF ((H.2.1 i1 x1 hx1)))) rfl), hP 2 (dec (!(sEq x1.name (List.getD p1.fields i1 zF).name)) true (by rw [h0]; rfl))] [] (by kernel_rfl)⟩
theorem Qyr (p0 : Val) (p1 : Val) (H : Qa5 p0 p1) (rec : Q41 p0) : ∀ (r1 : List Fld) (i1 : Nat), List.drop i1 p0.fields = r1 → Qai p0 p1 (Q7m p0 p1 i1) (Q68 p0 p1 r1 i1)
 | [], i1, hd => by
  have hc1 : (decide ((i1 : Int) < ((List.length p0.fields) : Int))) = false := by have := Q19 hd; simp; omega
  rw [Q68]
  exact Q19h p0 p1 H rec i1 hc1
 | x1 :: r1, i1, hd => by
  obtain ⟨hx1, hi1, hd'⟩ := Q11 hd
  have hc1 : (decide ((i1 : Int) < ((List.length p0.fields) : Int))) = true := by simp; omega
  rw [Q68]
  cases h0 : (sEq x1.name (List.getD p1.fields i1 zF).name) with
  | true =>
   cases h1 : (Q7w x1.v (List.getD p1.fields i1 zF).v) with
   | true =>
    exact Qu0 p0 p1 (fun r hr => Q1au p0 p1 H rec x1 i1 hx1 hi1 hc1 h0 h1 hr) _ (Qyr p0 p1 H rec r1 (i1 + 1) hd')
   | false =>
    exact Q1ad p0 p1 H rec x1 i1 hx1 hi1 hc1 h0 h1
  | false =>
   exact Q18n p0 p1 H rec x1 i1 hx1 hi1 hc1 h0
theorem Q1kv (p0 : Val) (p1 : Val) (_H : Q87 p0) (_rec : Q41 p0) (h0 : (p0.kind == p1.kind) = true) (h1 : (p0.n == p1.n) = true) (h2 : (sEq p0.s p1.s) = true) (h3 : (((List.length p0.list) : Int) == ((List.length p1.list) : Int)) = true) (h4 : (((List.length p0.fields) : Int) == ((List.length p1.fields) : Int)) = true) (z5 : Nat → PV) (zo5 : Nat → List PV) (hl5 : Q7 G (Q7g p0 p1 0) (.st (.exit 0) (Qa9 p0 p1 z5 zo5))) (z6 : Nat → PV) (zo6 : Nat → List PV) (hl6 : Q7 G (Q7m p0 p1 0) (.st (.exit 2) (Qeo p0 p1 z6 zo6))) : Q7 G (Qff p0 p1) (.ret (.bool (true)) []) := by
 exact Q8 (fn := Ir.K26) rfl VOK.nil [hP 7 (dec (!(p0.kind == p1.kind)) false (by rw [h0]; rfl)), hP 5 (dec (!(p0.n == p1.n)) false (by rw [h1]; rfl)), hP 6 (dec (!(sEq p0.s p1.s)) false (by rw [h2]; rfl)), hP 4 (Qh (Val.rows p0.list) (List.length p0.list) (Val.Q5 p0.list)), hP 2 (Qh (Val.rows p1.list) (List.length p1.list) (Val.Q5 p1.list)), hP 0 (dec (!(((List.length p0.list) : Int) == ((List.length p1.list) : Int))) false (by rw [h3]; rfl)), hP 4 (Qh (Fld.rows p0.fields) (List.length p0.fields) (Fld.Q5 p0.fields)), hP 2 (Qh (Fld.rows p1.fields) (List.length p1.fields) (Fld.Q5 p1.fields)), hP 0 (dec (!(((List.length p0.fields) : Int) == ((List.length p1.fields) : Int))) false (by rw [h4]; rfl))] [aN hl5, aN hl6] (by kernel_rfl)
theorem Q1md (p0 : Val) (p1 : Val) (_H : Q87 p0) (_rec : Q41 p0) (h0 : (p0.kind == p1.kind) = true) (h1 : (p0.n == p1.n) = true) (h2 : (sEq p0.s p1.s) = true) (h3 : (((List.length p0.list) : Int) == ((List.length p1.list) : Int)) = true) (h4 : (((List.length p0.fields) : Int) == ((List.length p1.fields) : Int)) = true) (z5 : Nat → PV) (zo5 : Nat → List PV) (hl5 : Q7 G (Q7g p0 p1 0) (.st (.exit 0) (Qa9 p0 p1 z5 zo5))) (z6 : Nat → PV) (zo6 : Nat → List PV) (hl6 : Q7 G (Q7m p0 p1 0) (.st .ret (Qaj p0 p1 z6 zo6))) : Q7 G (Qff p0 p1) (.ret (.bool (false)) []) := by
 exact Q8 (fn := Ir.K26) rfl VOK.nil [hP 7 (dec (!(p0.kind == p1.kind)) false (by rw [h0]; rfl)), hP 5 (dec (!(p0.n == p1.n)) false (by rw [h1]; rfl)), hP 6 (dec (!(sEq p0.s p1.s)) false (by rw [h2]; rfl)), hP 4 (Qh (Val.rows p0.list) (List.length p0.list) (Val.Q5 p0.list)), hP 2 (Qh (Val.rows p1.list) (List.length p1.list) (Val.Q5 p1.list)), hP 0 (dec (!(((List.length p0.list) : Int) == ((List.length p1.list) : Int))) false (by rw [h3]; rfl)), hP 4 (Qh (Fld.rows p0.fields) (List.length p0.fields) (Fld.Q5 p0.fields)), hP 2 (Qh (Fld.rows p1.fields) (List.length p1.fields) (Fld.Q5 p1.fields)), hP 0 (dec (!(((List.length p0.fields) : Int) == ((List.length p1.fields) : Int))) false (by rw [h4]; rfl))] [aN hl5, aN hl6] (by kernel_rfl)
theorem Q1lh (p0 : Val) (p1 : Val) (_H : Q87 p0) (_rec : Q41 p0) (h0 : (p0.kind == p1.kind) = true) (h1 : (p0.n == p1.n) = true) (h2 : (sEq p0.s p1.s) = true) (h3 : (((List.length p0.list) : Int) == ((List.length p1.list) : Int)) = true) (h4 : (((List.length p0.fields) : Int) == ((List.length p1.fields) : Int)) = true) (z5 : Nat → PV) (zo5 : Nat → List PV) (hl5 : Q7 G (Q7g p0 p1 0) (.st .ret (Qdx p0 p1 z5 zo5))) : Q7 G (Qff p0 p1) (.ret (.bool (false)) []) := by
 exact Q8 (fn := Ir.K26) rfl VOK.nil [hP 7 (dec (!(p0.kind == p1.kind)) false (by rw [h0]; rfl)), hP 5 (dec (!(p0.n == p1.n)) false (by rw [h1]; rfl)), hP 6 (dec (!(sEq p0.s p1.s)) false (by rw [h2]; rfl)), hP 4 (Qh (Val.rows p0.list) (List.length p0.list) (Val.Q5 p0.list)), hP 2 (Qh (Val.rows p1.list) (List.length p1.list) (Val.Q5 p1.list)), hP 0 (dec (!(((List.length p0.list) : Int) == ((List.length p1.list) : Int))) false (by rw [h3]; rfl)), hP 4 (Qh (Fld.rows p0.fields) (List.length p0.fields) (Fld.Q5 p0.fields)), hP 2 (Qh (Fld.rows p1.fields) (List.length p1.fields) (Fld.Q5 p1.fields)), hP 0 (dec (!(((List.length p0.fields) : Int) == ((List.length p1.fields) : Int))) false (by rw [h4]; rfl))] [aN hl5] (by kernel_rfl)
theorem Q1lm (p0 : Val) (p1 : Val) (_H : Q87 p0) (_rec : Q41 p0) (h0 : (p0.kind == p1.kind) = true) (h1 : (p0.n == p1.n) = true) (h2 : (sEq p0.s p1.s) = true) (h3 : (((List.length p0.list) : Int) == ((List.length p1.list) : Int)) = true) (h4 : (((List.length p0.fields) : Int) == ((List.length p1.fields) : Int)) = false) : Q7 G (Qff p0 p1) (.ret (.bool (false)) []) := by
 exact Q8 (fn := Ir.K26) rfl VOK.nil [hP 7 (dec (!(p0.kind == p1.kind)) false (by rw [h0]; rfl)), hP 5 (dec (!(p0.n == p1.n)) false (by rw [h1]; rfl)), hP 6 (dec (!(sEq p0.s p1.s)) false (by rw [h2]; rfl)), hP 4 (Qh (Val.rows p0.list) (List.length p0.list) (Val.Q5 p0.list)), hP 2 (Qh (Val.rows p1.list) (List.length p1.list) (Val.Q5 p1.list)), hP 0 (dec (!(((List.length p0.list) : Int) == ((List.length p1.list) : Int))) false (by rw [h3]; rfl)), hP 4 (Qh (Fld.rows p0.fields) (List.length p0.fields) (Fld.Q5 p0.fields)), hP 2 (Qh (Fld.rows p1.fields) (List.length p1.fields) (Fld.Q5 p1.fields)), hP 0 (dec (!(((List.length p0.fields) : Int) == ((List.length p1.fields) : Int))) true (by rw [h4]; rfl))] [] (by kernel_rfl)
theorem Q1l9 (p0 : Val) (p1 : Val) (_H : Q87 p0) (_rec : Q41 p0) (h0 : (p0.kind == p1.kind) = true) (h1 : (p0.n == p1.n) = true) (h2 : (sEq p0.s p1.s) = true) (h3 : (((List.length p0.list) : Int) == ((List.length p1.list) : Int)) = false) : Q7 G (Qff p0 p1) (.ret (.bool (false)) []) := by
 exact Q8 (fn := Ir.K26) rfl VOK.nil [hP 7 (dec (!(p0.kind == p1.kind)) false (by rw [h0]; rfl)), hP 5 (dec (!(p0.n == p1.n)) false (by rw [h1]; rfl)), hP 6 (dec (!(sEq p0.s p1.s)) false (by rw [h2]; rfl)), hP 4 (Qh (Val.rows p0.list) (List.length p0.list) (Val.Q5 p0.list)), hP 2 (Qh (Val.rows p1.list) (List.length p1.list) (Val.Q5 p1.list)), hP 0 (dec (!(((List.length p0.list) : Int) == ((List.length p1.list) : Int))) true (by rw [h3]; rfl))] [] (by kernel_rfl)
theorem Q1l6 (p0 : Val) (p1 : Val) (_H : Q87 p0) (_rec : Q41 p0) (h0 : (p0.kind == p1.kind) = true) (h1 : (p0.n == p1.n) = true) (h2 : (sEq p0.s p1.s) = false) : Q7 G (Qff p0 p1) (.ret (.bool (false)) []) := by
 exact Q8 (fn := Ir.K26) rfl VOK.nil [hP 7 (dec (!(p0.kind == p1.kind)) false (by rw [h0]; rfl)), hP 5 (dec (!(p0.n == p1.n)) false (by rw [h1]; rfl)), hP 6 (dec (!(sEq p0.s p1.s)) true (by rw [h2]; rfl))] [] (by kernel_rfl)
theorem Q1mb (p0 : Val) (p1 : Val) (_H : Q87 p0) (_rec : Q41 p0) (h0 : (p0.kind == p1.kind) = true) (h1 : (p0.n == p1.n) = false) : Q7 G (Qff p0 p1) (.ret (.bool (false)) []) := by
 exact Q8 (fn := Ir.K26) rfl VOK.nil [hP 7 (dec (!(p0.kind == p1.kind)) false (by rw [h0]; rfl)), hP 5 (dec (!(p0.n == p1.n)) true (by rw [h1]; rfl))] [] (by kernel_rfl)
theorem Q1mv (p0 : Val) (p1 : Val) (_H : Q87 p0) (_rec : Q41 p0) (h0 : (p0.kind == p1.kind) = false) : Q7 G (Qff p0 p1) (.ret (.bool (false)) []) := by
 exact Q8 (fn := Ir.K26) rfl VOK.nil [hP 7 (dec (!(p0.kind == p1.kind)) true (by rw [h0]; rfl))] [] (by kernel_rfl)
theorem Q1wf (p0 : Val) (p1 : Val) (H : Q87 p0) (rec : Q41 p0) : Q7 G (Qff p0 p1) (Q1fd p0 p1) := by
  unfold Q1fd
  rw [Q7w]
  cases h0 : (p0.kind == p1.kind) with
  | true =>
   cases h1 : (p0.n == p1.n) with
   | true =>
    cases h2 : (sEq p0.s p1.s) with
    | true =>
     cases h3 : (((List.length p0.list) : Int) == ((List.length p1.list) : Int)) with
     | true =>
      cases h4 : (((List.length p0.fields) : Int) == ((List.length p1.fields) : Int)) with
      | true =>
       have hl5 := Q10n p0 p1 ((Q13n p0 p1 H).1 h3 h4) rec p0.list 0 (by simp)
       cases hr5 : (Q67 p0 p1 p0.list 0) with
       | k0 =>
         rw [hr5] at hl5
         obtain ⟨z5, zo5, hl5⟩ := hl5
         try dsimp only
         have hl6 := Qyr p0 p1 ((Q13n p0 p1 H).2.1 h3 h4) rec p0.fields 0 (by simp)
         cases hr6 : (Q68 p0 p1 p0.fields 0) with
         | k0 =>
           rw [hr6] at hl6
           obtain ⟨z6, zo6, hl6⟩ := hl6
           exact Q1kv p0 p1 H rec h0 h1 h2 h3 h4 z5 zo5 hl5 z6 zo6 hl6
         | k1 =>
           rw [hr6] at hl6
           obtain ⟨z6, zo6, hl6⟩ := hl6
           exact Q1md p0 p1 H rec h0 h1 h2 h3 h4 z5 zo5 hl5 z6 zo6 hl6
       | k1 =>
         rw [hr5] at hl5
         obtain ⟨z5, zo5, hl5⟩ := hl5
         exact Q1lh p0 p1 H rec h0 h1 h2 h3 h4 z5 zo5 hl5
      | false =>
       exact Q1lm p0 p1 H rec h0 h1 h2 h3 h4
     | false =>
      exact Q1l9 p0 p1 H rec h0 h1 h2 h3
    | false =>
     exact Q1l6 p0 p1 H rec h0 h1 h2
   | false =>
    exact Q1mb p0 p1 H rec h0 h1
  | false =>
   exact Q1mv p0 p1 H rec h0
theorem Q1qx : ∀ (k : Nat) (p0 : Val), SizeOf.sizeOf p0 < k → ∀ (p1 : Val), Q87 p0 → Q7 G (Qff p0 p1) (Q1fd p0 p1)
  | 0, _, h, _, _ => absurd h (Nat.not_lt_zero _)
  | k + 1, p0, h, p1, H => Q1wf p0 p1 H (fun q hq p1 hH => Q1qx k q (by omega) p1 hH)
theorem Q1i9 (p0 : Val) (p1 : Val) (H : Q87 p0) : Q7 G (Qff p0 p1) (Q1fd p0 p1) := Q1qx _ p0 (Nat.lt_succ_self _) p1 H
end Go.Proofs.YtiflaadeikaghaaGreat
end

section
/- Parts of a slice of one's own, and appends of them. -/
namespace Go.Pv
end Go.Pv
end

section
/- Slices that are made with a length: their rows. -/
namespace Go.Pv
end Go.Pv
end

section
/- Rows of one's own: cleared behind a place, appended to from a place on. -/
namespace Go.Pv
theorem Val.Q39 (l : List Val) (k : Nat) (x : Val) : Val.rows (l.set k x) = (Val.rows l).set k (Val.cells x) := by simp [Val.Q5l, List.map_set]
theorem Fld.Q39 (l : List Fld) (k : Nat) (x : Fld) : Fld.rows (l.set k x) = (Fld.rows l).set k (Fld.cells x) := by simp [Fld.Q5l, List.map_set]
theorem Q135 {l : List (List PV)} {k : Nat} {r : List PV} (h : l[k]? = some r) : l = l.set k r := by
  apply List.ext_getElem?
  intro i
  rw [List.getElem?_set]
  by_cases e : k = i
  · subst e
    rw [if_pos rfl, h, if_pos (List.getElem?_eq_some_iff.1 h).1]
  · rw [if_neg e]
end Go.Pv
end

section
/- What copying values computes (printed by a program). -/
namespace Go.Proofs.YtiflaadeikaghaaGreat
open Go.Pv
def Q1q5 (p0 : Val) : Val := p0
def Q14e (p0 : Val) : List Val → Nat → Unit
 | [], _i0 =>
  ()
 | _x0 :: r0, i0 =>
  Q14e p0 r0 (i0 + 1)
def Qy8 (p0 : Val) (i0 : Nat) : List PV :=
  [.un, .bx 0 0, .bx 1 0] ++ nuns 9 ++ [.ms 2 5 0 (List.length p0.list), .int .i64 ((List.length p0.list) : Int), .int .i64 (i0 : Int)] ++ nuns 33
def Ql5 (p0 : Val) (_i0 : Nat) : List Ob :=
  [⟨5, 0, true, [.int .i64 p0.kind, .int .i64 p0.n, .str p0.s, .ms 2 5 0 (List.length p0.list), .sl (Fld.rows p0.fields)]⟩, ⟨5, 0, true, [.int .i64 0, .int .i64 0, .str eB, .ms 3 5 0 0, .ms 4 6 0 0]⟩, ⟨5, 0, true, (Val.rows p0.list).flatten⟩, ⟨5, 0, true, []⟩, ⟨6, 0, true, []⟩]
def Qi8 (p0 : Val) (i0 : Nat) : En := .loop 0 Ir.Qn0 Ir.Q1io (Qy8 p0 i0) (Ql5 p0 i0)
def Qsg (p0 : Val) (z : Nat → PV) (_zo : Nat → List PV) : St :=
  ⟨[z 0, .bx 0 0, .bx 1 0] ++ zr z 3 45, [(0, ⟨5, 0, true, [.int .i64 p0.kind, .int .i64 p0.n, .str p0.s, .ms 2 5 0 (List.length p0.list), .sl (Fld.rows p0.fields)]⟩), (1, ⟨5, 0, true, [.int .i64 0, .int .i64 0, .str eB, .ms 3 5 0 0, .ms 4 6 0 0]⟩), (2, ⟨5, 0, true, (Val.rows p0.list).flatten⟩), (3, ⟨5, 0, true, []⟩), (4, ⟨6, 0, true, []⟩)], 69⟩
theorem Q15y (p0 : Val) (i0 : Nat) : VOK (Go.Pv.look (number 0 (Ql5 p0 i0))) [(2, Val.rows p0.list)] := (VOK.cons (show Seen _ _ from Q3g (ob := ⟨5, 0, true, (Val.rows p0.list).flatten⟩) (Val.Q9 p0.list 5 rfl)) VOK.nil)
def Qad (p0 : Val) (e : En) (_q : Unit) : Prop := ∃ z zo, Q7 G e (.st (.exit 0) (Qsg p0 z zo))
theorem Quw (p0 : Val) {e e' : En} (h : ∀ r, Q7 G e r → Q7 G e' r) : ∀ q, Qad p0 e q → Qad p0 e' q
  | _, ⟨z, zo, hz⟩ => ⟨z, zo, h _ hz⟩
def Q156 (p0 : Val) : List Fld → Nat → Unit
 | [], _i1 =>
  ()
 | _x1 :: r1, i1 =>
  Q156 p0 r1 (i1 + 1)
def Q11e (p0 : Val) (i1 : Nat) : List PV :=
  [.un, .bx 0 0, .bx 1 0] ++ nuns 28 ++ [.ms 2 6 0 (List.length p0.fields), .int .i64 ((List.length p0.fields) : Int), .int .i64 (i1 : Int)] ++ nuns 14
def Qme (p0 : Val) (_i1 : Nat) : List Ob :=
  [⟨5, 0, true, [.int .i64 p0.kind, .int .i64 p0.n, .str p0.s, .ms 3 5 0 (List.length p0.list), .ms 2 6 0 (List.length p0.fields)]⟩, ⟨5, 0, true, [.int .i64 0, .int .i64 0, .str eB, .ms 4 5 0 0, .ms 5 6 0 0]⟩, ⟨6, 0, true, (Fld.rows p0.fields).flatten⟩, ⟨5, 0, true, (Val.rows p0.list).flatten⟩, ⟨5, 0, true, []⟩, ⟨6, 0, true, []⟩]
def Qim (p0 : Val) (i1 : Nat) : En := .loop 0 Ir.Qn2 Ir.Q1iz (Q11e p0 i1) (Qme p0 i1)
def Qt3 (p0 : Val) (z : Nat → PV) (_zo : Nat → List PV) : St :=
  ⟨[z 0, .bx 0 0, .bx 1 0] ++ zr z 3 45, [(0, ⟨5, 0, true, [.int .i64 p0.kind, .int .i64 p0.n, .str p0.s, .ms 3 5 0 (List.length p0.list), .ms 2 6 0 (List.length p0.fields)]⟩), (1, ⟨5, 0, true, [.int .i64 0, .int .i64 0, .str eB, .ms 4 5 0 0, .ms 5 6 0 0]⟩), (2, ⟨6, 0, true, (Fld.rows p0.fields).flatten⟩), (3, ⟨5, 0, true, (Val.rows p0.list).flatten⟩), (4, ⟨5, 0, true, []⟩), (5, ⟨6, 0, true, []⟩)], 70⟩
theorem Q13s (p0 : Val) (i1 : Nat) : VOK (Go.Pv.look (number 0 (Qme p0 i1))) [(2, Fld.rows p0.fields), (3, Val.rows p0.list)] := (VOK.cons (show Seen _ _ from Q3g (ob := ⟨6, 0, true, (Fld.rows p0.fields).flatten⟩) (Fld.Q9 p0.fields 6 rfl)) (VOK.cons (show Seen _ _ from Q3g (ob := ⟨5, 0, true, (Val.rows p0.list).flatten⟩) (Val.Q9 p0.list 5 rfl)) VOK.nil))
def Qan (p0 : Val) (e : En) (_q : Unit) : Prop := ∃ z zo, Q7 G e (.st (.exit 2) (Qt3 p0 z zo))
theorem Qu5 (p0 : Val) {e e' : En} (h : ∀ r, Q7 G e r → Q7 G e' r) : ∀ q, Qan p0 e q → Qan p0 e' q
  | _, ⟨z, zo, hz⟩ => ⟨z, zo, h _ hz⟩
theorem Q1ug (p0 : Val) : Q1q5 p0 = (p0) := by
  rfl
def Q1hj (p0 : Val) : En := .call 136 [.agg (Val.cells p0)] []
def Q1e4 (p0 : Val) : Rs := .ret (.agg (Val.cells (Q1q5 p0))) []
abbrev Qp2 (p0 : Val) : Prop := Val.Sm 1000000000 p0
def Qb9 (p0 : Val) : Prop := ∀ (q : Val), SizeOf.sizeOf q < SizeOf.sizeOf p0 → Qp2 q → Q7 G (Q1hj q) (Q1e4 q)
def Qi6 (p0 : Val) : Prop := (List.length p0.list ≤ 4611686018427387904) ∧ (∀ x0 ∈ p0.list, Qp2 x0) ∧ True
def Qfr (p0 : Val) : Prop := (List.length p0.fields ≤ 4611686018427387904) ∧ (∀ x1 ∈ p0.fields, Qp2 x1.v) ∧ True
theorem Qh1 (p0 : Val) (H : Qp2 p0) : (List.length p0.list * 80 ≤ 140737488355328) ∧ (Qi6 p0) ∧ (List.length p0.fields * 96 ≤ 140737488355328) ∧ (Qfr p0) ∧ True := by
  obtain ⟨h1, h2, h3, h4⟩ := H.all
  exact ⟨by omega, ⟨by omega, h3, trivial⟩, by omega, ⟨by omega, h4, trivial⟩, trivial⟩
def Qtp (p0 : Val) (i0 : Nat) : List PV :=
  nuns 12 ++ [.ms 2 5 0 (List.length p0.list), .int .i64 ((List.length p0.list) : Int), .int .i64 (i0 : Int), .bool false]
def Qje (_p0 : Val) (_i0 : Nat) : List (Nat × List PV) :=
  []
theorem Q199 (p0 : Val) (_H : Qi6 p0) (_rec : Qb9 p0) (i0 : Nat) (hc0 : (decide ((i0 : Int) < ((List.length p0.list) : Int))) = false) : Qad p0 (Qi8 p0 i0) () := by
 exact ⟨(envF (Qtp p0 i0)), (zoF (Qje p0 i0)), Qg (Q15y p0 i0) (x := ((.exit 0), Qsg p0 (envF (Qtp p0 i0)) (zoF (Qje p0 i0)))) [hB 0 hc0] [] (by kernel_rfl)⟩
theorem Q17l (p0 : Val) (H : Qi6 p0) (rec : Qb9 p0) (x0 : Val) (i0 : Nat) (hx0 : p0.list[i0]? = some x0) (hi0 : i0 < List.length p0.list) (hc0 : (decide ((i0 : Int) < ((List.length p0.list) : Int))) = true) {r : Rs} (hr : Q7 G (Qi8 p0 (i0 + 1)) r) : Q7 G (Qi8 p0 i0) r := by
 have hB0 := H.1
 exact Qk (Q15y p0 i0) (y := (Qy8 p0 (i0 + 1), Ql5 p0 (i0 + 1))) [hB 0 hc0, hP 1 (Q5s 2 5 (List.length p0.list) (i0 : Int) i0 (by omega) (by omega) (by omega)), hP 0 (Qdg 2 5 0 true ((Val.rows p0.list).flatten) (Val.rows p0.list) 5 true i0 0 (i0 * 5) (Val.cells x0) (.agg [.int .i64 x0.kind, .int .i64 x0.n, .str x0.s, .sl (Val.rows x0.list), .sl (Fld.rows x0.fields)]) rfl rfl (Val.Qc hx0) (Val.Qm p0.list) (by decide) rfl), hP 8 (Q5s 2 5 (List.length p0.list) (i0 : Int) i0 (by omega) (by omega) (by omega)), hV 0 [(2, Val.rows p0.list)] (Q1fn 2 5 true ((Val.rows p0.list).flatten) (Val.rows p0.list) (Val.rows p0.list) 5 i0 0 (i0 * 5) _ (.agg [.int .i64 x0.kind, .int .i64 x0.n, .str x0.s, .sl (Val.rows x0.list), .sl (Fld.rows x0.fields)]) rfl rfl (Val.Qc hx0) (Val.Qm p0.list) (by decide) rfl rfl (Q135 (Val.Qc hx0))), hS 0 true (Val.Q9 p0.list 5 rfl), hP 0 (Q22 i0 (by omega))] [aN (rec x0 (szL hx0) (H.2.1 x0 (Q2a hx0)))] (by kernel_rfl) hr
theorem Q11x (p0 : Val) (H : Qi6 p0) (rec : Qb9 p0) : ∀ (r0 : List Val) (i0 : Nat), List.drop i0 p0.list = r0 → Qad p0 (Qi8 p0 i0) (Q14e p0 r0 i0)
 | [], i0, hd => by
  have hc0 : (decide ((i0 : Int) < ((List.length p0.list) : Int))) = false := by have := Q19 hd; simp; omega
  show Qad p0 _ ()
  exact Q199 p0 H rec i0 hc0
 | x0 :: r0, i0, hd => by
  obtain ⟨hx0, hi0, hd'⟩ := Q11 hd
  have hc0 : (decide ((i0 : Int) < ((List.length p0.list) : Int))) = true := by simp; omega
  show Qad p0 _ ()
  exact Quw p0 (fun r hr => Q17l p0 H rec x0 i0 hx0 hi0 hc0 hr) _ (Q11x p0 H rec r0 (i0 + 1) hd')
def Qpj (p0 : Val) (i1 : Nat) : List PV :=
  nuns 31 ++ [.ms 2 6 0 (List.length p0.fields), .int .i64 ((List.length p0.fields) : Int), .int .i64 (i1 : Int), .bool false]
def Qj6 (_p0 : Val) (_i1 : Nat) : List (Nat × List PV) :=
  []
theorem Q18h (p0 : Val) (_H : Qfr p0) (_rec : Qb9 p0) (i1 : Nat) (hc1 : (decide ((i1 : Int) < ((List.length p0.fields) : Int))) = false) : Qan p0 (Qim p0 i1) () := by
 exact ⟨(envF (Qpj p0 i1)), (zoF (Qj6 p0 i1)), Qg (Q13s p0 i1) (x := ((.exit 2), Qt3 p0 (envF (Qpj p0 i1)) (zoF (Qj6 p0 i1)))) [hB 0 hc1] [] (by kernel_rfl)⟩
theorem Q19x (p0 : Val) (H : Qfr p0) (rec : Qb9 p0) (x1 : Fld) (i1 : Nat) (hx1 : p0.fields[i1]? = some x1) (hi1 : i1 < List.length p0.fields) (hc1 : (decide ((i1 : Int) < ((List.length p0.fields) : Int))) = true) {r : Rs} (hr : Q7 G (Qim p0 (i1 + 1)) r) : Q7 G (Qim p0 i1) r := by
 have hB0 := H.1
 exact Qk (Q13s p0 i1) (y := (Q11e p0 (i1 + 1), Qme p0 (i1 + 1))) [hB 0 hc1, hP 1 (Q5s 2 6 (List.length p0.fields) (i1 : Int) i1 (by omega) (by omega) (by omega)), hP 0 (Qdg 2 6 0 true ((Fld.rows p0.fields).flatten) (Fld.rows p0.fields) 6 true i1 0 (i1 * 6) (Fld.cells x1) (.agg [.str x1.name, .int .i64 x1.v.kind, .int .i64 x1.v.n, .str x1.v.s, .sl (Val.rows x1.v.list), .sl (Fld.rows x1.v.fields)]) rfl rfl (Fld.Qc hx1) (Fld.Qm p0.fields) (by decide) rfl), hP 9 (Q5s 2 6 (List.length p0.fields) (i1 : Int) i1 (by omega) (by omega) (by omega)), hV 1 [(2, Fld.rows p0.fields)] (Q1fn 2 6 true ((Fld.rows p0.fields).flatten) (Fld.rows p0.fields) (Fld.rows p0.fields) 5 i1 1 (i1 * 6 + 1) _ (.agg [.int .i64 x1.v.kind, .int .i64 x1.v.n, .str x1.v.s, .sl (Val.rows x1.v.list), .sl (Fld.rows x1.v.fields)]) rfl rfl (Fld.Qc hx1) (Fld.Qm p0.fields) (by decide) rfl rfl (Q135 (Fld.Qc hx1))), hS 0 true (Fld.Q9 p0.fields 6 rfl), hP 0 (Q22 i1 (by omega))] [aN (rec x1.v (szF hx1) (H.2.1 x1 (Q2a hx1)))] (by kernel_rfl) hr
theorem Q11n (p0 : Val) (H : Qfr p0) (rec : Qb9 p0) : ∀ (r1 : List Fld) (i1 : Nat), List.drop i1 p0.fields = r1 → Qan p0 (Qim p0 i1) (Q156 p0 r1 i1)
 | [], i1, hd => by
  have hc1 : (decide ((i1 : Int) < ((List.length p0.fields) : Int))) = false := by have := Q19 hd; simp; omega
  show Qan p0 _ ()
  exact Q18h p0 H rec i1 hc1
 | x1 :: r1, i1, hd => by
  obtain ⟨hx1, hi1, hd'⟩ := Q11 hd
  have hc1 : (decide ((i1 : Int) < ((List.length p0.fields) : Int))) = true := by simp; omega
  show Qan p0 _ ()
  exact Qu5 p0 (fun r hr => Q19x p0 H rec x1 i1 hx1 hi1 hc1 hr) _ (Q11n p0 H rec r1 (i1 + 1) hd')
theorem Q1xt (p0 : Val) (H : Qp2 p0) (rec : Qb9 p0) : Q7 G (Q1hj p0) (Q1e4 p0) := by
  unfold Q1e4
  rw [Q1ug]
  have hl0 := Q11x p0 ((Qh1 p0 H).2.1) rec p0.list 0 (by simp)
  obtain ⟨z0, zo0, hl0⟩ := hl0
  have hl1 := Q11n p0 ((Qh1 p0 H).2.2.2.1) rec p0.fields 0 (by simp)
  obtain ⟨z1, zo1, hl1⟩ := hl1
  exact Q8 (fn := Ir.K42) rfl VOK.nil [hQ (Val.Q9 p0.list 5 rfl), hS 0 true (Val.Q9 p0.list 5 rfl), hQ (Fld.Q9 p0.fields 6 rfl), hS 0 true (Fld.Q9 p0.fields 6 rfl), hS 0 true (Val.Q9 p0.list 5 rfl), hQ (Val.Q5 p0.list).symm, hQ (Fld.Q5 p0.fields).symm] [aV [(0, Val.rows p0.list)] (Q8z (G := G) (f := 153) (sz := 5) (bytes := 80) rfl (Val.Q5 p0.list) (Val.Q9 p0.list 5 rfl) (Qh1 p0 H).1), aV [(2, Val.rows p0.list)] hl0, aV [(0, Fld.rows p0.fields)] (Q8z (G := G) (f := 132) (sz := 6) (bytes := 96) rfl (Fld.Q5 p0.fields) (Fld.Q9 p0.fields 6 rfl) (Qh1 p0 H).2.2.1), aV [(2, Fld.rows p0.fields), (3, Val.rows p0.list)] hl1] (by kernel_rfl)
theorem Q1np : ∀ (k : Nat) (p0 : Val), SizeOf.sizeOf p0 < k → Qp2 p0 → Q7 G (Q1hj p0) (Q1e4 p0)
  | 0, _, h, _ => absurd h (Nat.not_lt_zero _)
  | k + 1, p0, h, H => Q1xt p0 H (fun q hq hH => Q1np k q (by omega) hH)
theorem Q1l2 (p0 : Val) (H : Qp2 p0) : Q7 G (Q1hj p0) (Q1e4 p0) := Q1np _ p0 (Nat.lt_succ_self _) H
inductive Q154 where
  | k0
  | k1 (q0 : Val)
def Q7n (p0 : Val) (p1 : BA) : List Fld → Nat → Q154
 | [], _i0 =>
  (.k0)
 | x0 :: r0, i0 =>
  bif (sEq x0.name p1) then
   (.k1 x0.v)
  else
   Q7n p0 p1 r0 (i0 + 1)
def Qz5 (p0 : Val) (p1 : BA) (i0 : Nat) : List PV :=
  [.un, .str p1, .un, .un, .bx 0 0] ++ nuns 7 ++ [.sl (Fld.rows p0.fields), .int .i64 ((List.length p0.fields) : Int), .int .i64 (i0 : Int)] ++ nuns 12
def Q116 (_p0 : Val) (_p1 : BA) (_i0 : Nat) : List Ob :=
  [⟨5, 0, true, [.int .i64 0, .int .i64 0, .str eB, .ms 1 5 0 0, .ms 2 6 0 0]⟩, ⟨5, 0, true, []⟩, ⟨6, 0, true, []⟩]
def Qbx (p0 : Val) (p1 : BA) (i0 : Nat) : En := .loop 0 Ir.Qkg Ir.Q1k7 (Qz5 p0 p1 i0) (Q116 p0 p1 i0)
def Qsc (_p0 : Val) (_p1 : BA) (z : Nat → PV) (_zo : Nat → List PV) : St :=
  ⟨[z 0, z 1, z 2, z 3, .bx 0 0] ++ zr z 5 22, [(0, ⟨5, 0, true, [.int .i64 0, .int .i64 0, .str eB, .ms 1 5 0 0, .ms 2 6 0 0]⟩), (1, ⟨5, 0, true, []⟩), (2, ⟨6, 0, true, []⟩)], 67⟩
def Qqv (_p0 : Val) (_p1 : BA) (q0 : Val) (z : Nat → PV) (zo : Nat → List PV) : St :=
  ⟨[z 0, z 1, z 2, z 3, .bx 0 0, .bool true] ++ zr z 6 21, [(0, ⟨5, 0, true, [.int .i64 q0.kind, .int .i64 q0.n, .str q0.s, .sl (Val.rows q0.list), .sl (Fld.rows q0.fields)]⟩), (1, ⟨5, 0, true, zo 1⟩), (2, ⟨6, 0, true, zo 2⟩), (195, ⟨6, 0, true, zo 195⟩)], 899⟩
def Qby (p0 : Val) (p1 : BA) (e : En) : Q154 → Prop
  | .k0 => ∃ z zo, Q7 G e (.st (.exit 0) (Qsc p0 p1 z zo))
  | .k1 q0 => ∃ z zo, Q7 G e (.st .ret (Qqv p0 p1 q0 z zo))
theorem Qw1 (p0 : Val) (p1 : BA) {e e' : En} (h : ∀ r, Q7 G e r → Q7 G e' r) : ∀ q, Qby p0 p1 e q → Qby p0 p1 e' q
  | .k0, ⟨z, zo, hz⟩ => ⟨z, zo, h _ hz⟩
  | .k1 _, ⟨z, zo, hz⟩ => ⟨z, zo, h _ hz⟩
def Qc5 (p0 : Val) (_p1 : BA) : Prop := (List.length p0.fields ≤ 4611686018427387904) ∧ (∀ x0 ∈ p0.fields, Qp2 x0.v) ∧ True
def Qr4 (p0 : Val) (p1 : BA) (i0 : Nat) : List PV :=
  [.un, .str p1] ++ nuns 10 ++ [.sl (Fld.rows p0.fields), .int .i64 ((List.length p0.fields) : Int), .int .i64 (i0 : Int), .bool false]
def Qnv (_p0 : Val) (_p1 : BA) (_i0 : Nat) : List (Nat × List PV) :=
  []
theorem Q1bp (p0 : Val) (p1 : BA) (_H : Qc5 p0 p1) (i0 : Nat) (hc0 : (decide ((i0 : Int) < ((List.length p0.fields) : Int))) = false) : Qby p0 p1 (Qbx p0 p1 i0) (.k0) := by
 exact ⟨(envF (Qr4 p0 p1 i0)), (zoF (Qnv p0 p1 i0)), Qg VOK.nil (x := ((.exit 0), Qsc p0 p1 (envF (Qr4 p0 p1 i0)) (zoF (Qnv p0 p1 i0)))) [hB 0 hc0] [] (by kernel_rfl)⟩
def Qqq (p0 : Val) (p1 : BA) (i0 : Nat) (x0 : Fld) : List PV :=
  [.un, .str p1] ++ nuns 5 ++ [.bx 195 0, .un, .un, .un, .un, .sl (Fld.rows p0.fields), .int .i64 ((List.length p0.fields) : Int), .int .i64 (i0 : Int), .bool true, .rf [.str x0.name, .int .i64 x0.v.kind, .int .i64 x0.v.n, .str x0.v.s, .sl (Val.rows x0.v.list), .sl (Fld.rows x0.v.fields)], .agg [.str x0.name, .int .i64 x0.v.kind, .int .i64 x0.v.n, .str x0.v.s, .sl (Val.rows x0.v.list), .sl (Fld.rows x0.v.fields)], .bx 195 0, .str x0.name, .str p1, .bool true, .bx 195 1, .agg [.int .i64 x0.v.kind, .int .i64 x0.v.n, .str x0.v.s, .sl (Val.rows x0.v.list), .sl (Fld.rows x0.v.fields)], .agg [.int .i64 x0.v.kind, .int .i64 x0.v.n, .str x0.v.s, .sl (Val.rows x0.v.list), .sl (Fld.rows x0.v.fields)]]
def Qir (_p0 : Val) (_p1 : BA) (_i0 : Nat) (x0 : Fld) : List (Nat × List PV) :=
  [(1, []), (2, []), (195, [.str x0.name, .int .i64 x0.v.kind, .int .i64 x0.v.n, .str x0.v.s, .sl (Val.rows x0.v.list), .sl (Fld.rows x0.v.fields)])]
theorem Q1bb (p0 : Val) (p1 : BA) (H : Qc5 p0 p1) (x0 : Fld) (i0 : Nat) (hx0 : p0.fields[i0]? = some x0) (_hi0 : i0 < List.length p0.fields) (hc0 : (decide ((i0 : Int) < ((List.length p0.fields) : Int))) = true) (h0 : (sEq x0.name p1) = true) : Qby p0 p1 (Qbx p0 p1 i0) (.k1 x0.v) := by
 exact ⟨(envF (Qqq p0 p1 i0 x0)), (zoF (Qir p0 p1 i0 x0)), Qg VOK.nil (x := (.ret, Qqv p0 p1 x0.v (envF (Qqq p0 p1 i0 x0)) (zoF (Qir p0 p1 i0 x0)))) [hB 0 hc0, hP 0 (Q1j 6 (Fld.rows p0.fields) i0 _ (Fld.Qc hx0) rfl), hB 6 h0] [aN (Q1l2 x0.v (H.2.1 x0 (Q2a hx0)))] (by kernel_rfl)⟩
theorem Q1af (p0 : Val) (p1 : BA) (H : Qc5 p0 p1) (x0 : Fld) (i0 : Nat) (hx0 : p0.fields[i0]? = some x0) (hi0 : i0 < List.length p0.fields) (hc0 : (decide ((i0 : Int) < ((List.length p0.fields) : Int))) = true) (h0 : (sEq x0.name p1) = false) {r : Rs} (hr : Q7 G (Qbx p0 p1 (i0 + 1)) r) : Q7 G (Qbx p0 p1 i0) r := by
 have hB0 := H.1
 exact Qk VOK.nil (y := (Qz5 p0 p1 (i0 + 1), Q116 p0 p1 (i0 + 1))) [hB 0 hc0, hP 0 (Q1j 6 (Fld.rows p0.fields) i0 _ (Fld.Qc hx0) rfl), hB 6 h0, hP 0 (Q22 i0 (by omega))] [] (by kernel_rfl) hr
theorem Q11f (p0 : Val) (p1 : BA) (H : Qc5 p0 p1) : ∀ (r0 : List Fld) (i0 : Nat), List.drop i0 p0.fields = r0 → Qby p0 p1 (Qbx p0 p1 i0) (Q7n p0 p1 r0 i0)
 | [], i0, hd => by
  have hc0 : (decide ((i0 : Int) < ((List.length p0.fields) : Int))) = false := by have := Q19 hd; simp; omega
  rw [Q7n]
  exact Q1bp p0 p1 H i0 hc0
 | x0 :: r0, i0, hd => by
  obtain ⟨hx0, hi0, hd'⟩ := Q11 hd
  have hc0 : (decide ((i0 : Int) < ((List.length p0.fields) : Int))) = true := by simp; omega
  rw [Q7n]
  cases h0 : (sEq x0.name p1) with
  | true =>
   exact Q1bb p0 p1 H x0 i0 hx0 hi0 hc0 h0
  | false =>
   exact Qw1 p0 p1 (fun r hr => Q1af p0 p1 H x0 i0 hx0 hi0 hc0 h0 hr) _ (Q11f p0 p1 H r0 (i0 + 1) hd')
def Qw7 (p0 : Val) (p1 : BA) : Val × Bool :=
 bif (p0.kind == 5) then
  (match (Q7n p0 p1 p0.fields 0) with
  | .k0 => ((Val.mk 0 0 eB [] []), false)
  | .k1 y1_0 => (y1_0, true))
 else
  ((Val.mk 0 0 eB [] []), false)
def Q1xk (p0 : Val) (p1 : BA) : En := .call 145 [.agg (Val.cells p0), .str p1] []
def Q1os (p0 : Val) (p1 : BA) : Rs := .ret (.tup [.agg (Val.cells (Qw7 p0 p1).1), .bool (Qw7 p0 p1).2]) []
def Q1mi (p0 : Val) (p1 : BA) : Prop := (Qc5 p0 p1) ∧ True
theorem Q1mj (p0 : Val) (p1 : BA) (H : Q1mi p0 p1) : Q7 G (Q1xk p0 p1) (Q1os p0 p1) := by
 unfold Q1os Qw7
 cases h0 : (p0.kind == 5) with
 | true =>
  have hl1 := Q11f p0 p1 (H.1) p0.fields 0 (by simp)
  cases hr1 : (Q7n p0 p1 p0.fields 0) with
  | k0 =>
   rw [hr1] at hl1
   obtain ⟨z1, zo1, hl1⟩ := hl1
   exact Q8 (fn := Ir.K3w) rfl VOK.nil [hB 5 h0, hP 2 (Qh (Fld.rows p0.fields) (List.length p0.fields) (Fld.Q5 p0.fields))] [aN hl1] (by kernel_rfl)
  | k1 y1_0 =>
   rw [hr1] at hl1
   obtain ⟨z1, zo1, hl1⟩ := hl1
   exact Q8 (fn := Ir.K3w) rfl VOK.nil [hB 5 h0, hP 2 (Qh (Fld.rows p0.fields) (List.length p0.fields) (Fld.Q5 p0.fields))] [aN hl1] (by kernel_rfl)
 | false =>
  exact Q8 (fn := Ir.K3w) rfl VOK.nil [hB 5 h0] [] (by kernel_rfl)
def Qcu (p0 : List Val) : Val :=
 (Val.mk 4 0 eB p0 [])
def Q1v5 (p0 : List Val) : En := .call 137 [.sl (Val.rows p0)] []
def Q1ns (p0 : List Val) : Rs := .ret (.agg (Val.cells (Qcu p0))) []
def Qem (p0 : List Val) : Prop := (Qp2 (Val.mk 4 0 eB p0 [])) ∧ True
theorem Qfh (p0 : List Val) (H : Qem p0) : Q7 G (Q1v5 p0) (Q1ns p0) := by
 unfold Q1ns Qcu
 exact Q8 (fn := Ir.K3y) rfl VOK.nil [] [aN (Q1l2 (Val.mk 4 0 eB p0 []) H.1)] (by kernel_rfl)
end Go.Proofs.YtiflaadeikaghaaGreat
end

section
/- What building a map computes (printed by a program). -/
namespace Go.Proofs.YtiflaadeikaghaaGreat
open Go.Pv
def Qyt (p0 : Fld) (p1 : Fld) : Int :=
 (Q1n0 p0.name p1.name)
def Q1ro (p0 : Fld) (p1 : Fld) : En := .call 134 [.agg (Fld.cells p0), .agg (Fld.cells p1)] []
def Q1o5 (p0 : Fld) (p1 : Fld) : Rs := .ret (.int .i64 (Qyt p0 p1)) []
theorem Q1oq (p0 : Fld) (p1 : Fld) : Q7 G (Q1ro p0 p1) (Q1o5 p0 p1) := by
 unfold Q1o5 Qyt
 exact Q8 (fn := Ir.K40) rfl VOK.nil [] [aN (Q1w7 p0.name p1.name)] (by kernel_rfl)
def Q3p (n0 : Nat) (p1 : Int) (p2 : Int) (v0_0 : Int) : Nat → (List Fld) → Int → List Fld
 | 0, v1_0, _v1_1 => v1_0
 | k1 + 1, v1_0, v1_1 =>
  bif (decide (p1 < v1_1)) then
   bif (decide ((Qyt (List.getD v1_0 (Int.toNat v1_1) zF) (List.getD v1_0 (Int.toNat (v1_1 - 1)) zF)) < 0)) then
    Q3p n0 p1 p2 v0_0 k1 (List.set (List.set v1_0 (Int.toNat v1_1) (List.getD v1_0 (Int.toNat (v1_1 - 1)) zF)) (Int.toNat (v1_1 - 1)) (List.getD v1_0 (Int.toNat v1_1) zF)) (v1_1 - 1)
   else
    v1_0
  else
   v1_0
def Qz4 (n0 : Nat) (p1 : Int) (p2 : Int) (v0_0 : Int) (_v1_0 : List Fld) (v1_1 : Int) : List PV :=
  [.ms 0 6 0 n0, .int .i64 p1, .int .i64 p2, .fn 134 [] [], .un, .un, .un, .un, .int .i64 v0_0, .int .i64 v1_1] ++ nuns 43
def Qlf (_n0 : Nat) (_p1 : Int) (_p2 : Int) (_v0_0 : Int) (v1_0 : List Fld) (_v1_1 : Int) : List Ob :=
  [⟨6, 0, false, (Fld.rows v1_0).flatten⟩]
def Qaf (n0 : Nat) (p1 : Int) (p2 : Int) (v0_0 : Int) (v1_0 : List Fld) (v1_1 : Int) : En := .loop 1 Ir.Qlu Ir.Q1jw (Qz4 n0 p1 p2 v0_0 v1_0 v1_1) (Qlf n0 p1 p2 v0_0 v1_0 v1_1)
def Qa4 (n0 : Nat) (p1 : Int) (p2 : Int) (v0_0 : Int) (q0 : List Fld) (z : Nat → PV) (_zo : Nat → List PV) : St :=
  ⟨[.ms 0 6 0 n0, .int .i64 p1, .int .i64 p2, .fn 134 [] [], z 4, z 5, z 6, z 7, .int .i64 v0_0] ++ zr z 9 44, [(0, ⟨6, 0, false, (Fld.rows q0).flatten⟩)], 1089⟩
theorem Qv1 (n0 : Nat) (p1 : Int) (p2 : Int) (v0_0 : Int) (v1_0 : List Fld) (v1_1 : Int) : VOK (Go.Pv.look (number 0 (Qlf n0 p1 p2 v0_0 v1_0 v1_1))) [(0, Fld.rows v1_0)] := (VOK.cons (show Seen _ _ from Q3g (ob := ⟨6, 0, false, (Fld.rows v1_0).flatten⟩) (Fld.Q9 v1_0 6 rfl)) VOK.nil)
def Qcc (n0 : Nat) (p1 : Int) (p2 : Int) (v0_0 : Int) (e : En) (q : List Fld) : Prop := ∃ z zo, Q7 G e (.st (.exit 2) (Qa4 n0 p1 p2 v0_0 q z zo))
theorem Qw2 (n0 : Nat) (p1 : Int) (p2 : Int) (v0_0 : Int) {e e' : En} (h : ∀ r, Q7 G e r → Q7 G e' r) : ∀ q, Qcc n0 p1 p2 v0_0 e q → Qcc n0 p1 p2 v0_0 e' q
  | _, ⟨z, zo, hz⟩ => ⟨z, zo, h _ hz⟩
theorem Q17p (n0 : Nat) (p1 : Int) (p2 : Int) (v0_0 : Int) (v1_0 : List Fld) (v1_1 : Int) (ho1_0 : 0 ≤ p1) (_ho1_1 : p1 ≤ v1_1) (ho1_2 : v1_1 < n0) (ho1_3 : (n0 : Int) ≤ 20) (ho1_4 : List.length v1_0 = n0) (h0 : (decide (p1 < v1_1)) = true) (h1 : (decide ((Qyt (List.getD v1_0 (Int.toNat v1_1) zF) (List.getD v1_0 (Int.toNat (v1_1 - 1)) zF)) < 0)) = true) {r : Rs} (hr : Q7 G (Qaf n0 p1 p2 v0_0 (List.set (List.set v1_0 (Int.toNat v1_1) (List.getD v1_0 (Int.toNat (v1_1 - 1)) zF)) (Int.toNat (v1_1 - 1)) (List.getD v1_0 (Int.toNat v1_1) zF)) (v1_1 - 1)) r) : Q7 G (Qaf n0 p1 p2 v0_0 v1_0 v1_1) r := by
 have e0 := of_decide_eq_true h0; have e1 := of_decide_eq_true h1
 exact Qk (Qv1 n0 p1 p2 v0_0 v1_0 v1_1) (y := (Qz4 n0 p1 p2 v0_0 (List.set (List.set v1_0 (Int.toNat v1_1) (List.getD v1_0 (Int.toNat (v1_1 - 1)) zF)) (Int.toNat (v1_1 - 1)) (List.getD v1_0 (Int.toNat v1_1) zF)) (v1_1 - 1), Qlf n0 p1 p2 v0_0 (List.set (List.set v1_0 (Int.toNat v1_1) (List.getD v1_0 (Int.toNat (v1_1 - 1)) zF)) (Int.toNat (v1_1 - 1)) (List.getD v1_0 (Int.toNat v1_1) zF)) (v1_1 - 1))) [hB 2 h0, hP 4 (Q5s 0 6 n0 v1_1 (Int.toNat v1_1) rfl (by omega) (by omega)), hP 0 (Qdg 0 6 0 false ((Fld.rows v1_0).flatten) (Fld.rows v1_0) 6 true (Int.toNat v1_1) 0 ((Int.toNat v1_1) * 6) (Fld.cells (List.getD v1_0 (Int.toNat v1_1) zF)) (.agg [.str (List.getD v1_0 (Int.toNat v1_1) zF).name, .int .i64 (List.getD v1_0 (Int.toNat v1_1) zF).v.kind, .int .i64 (List.getD v1_0 (Int.toNat v1_1) zF).v.n, .str (List.getD v1_0 (Int.toNat v1_1) zF).v.s, .sl (Val.rows (List.getD v1_0 (Int.toNat v1_1) zF).v.list), .sl (Fld.rows (List.getD v1_0 (Int.toNat v1_1) zF).v.fields)]) rfl rfl (Fld.Qc (Q2x v1_0 (Int.toNat v1_1) zF (by omega))) (Fld.Qm v1_0) (by decide) rfl), hP 2 (w_ok (v1_1 - 1) (by omega)), hP 0 (Q5s 0 6 n0 (v1_1 - 1) (Int.toNat (v1_1 - 1)) rfl (by omega) (by omega)), hP 0 (Qdg 0 6 0 false ((Fld.rows v1_0).flatten) (Fld.rows v1_0) 6 true (Int.toNat (v1_1 - 1)) 0 ((Int.toNat (v1_1 - 1)) * 6) (Fld.cells (List.getD v1_0 (Int.toNat (v1_1 - 1)) zF)) (.agg [.str (List.getD v1_0 (Int.toNat (v1_1 - 1)) zF).name, .int .i64 (List.getD v1_0 (Int.toNat (v1_1 - 1)) zF).v.kind, .int .i64 (List.getD v1_0 (Int.toNat (v1_1 - 1)) zF).v.n, .str (List.getD v1_0 (Int.toNat (v1_1 - 1)) zF).v.s, .sl (Val.rows (List.getD v1_0 (Int.toNat (v1_1 - 1)) zF).v.list), .sl (Fld.rows (List.getD v1_0 (Int.toNat (v1_1 - 1)) zF).v.fields)]) rfl rfl (Fld.Qc (Q2x v1_0 (Int.toNat (v1_1 - 1)) zF (by omega))) (Fld.Qm v1_0) (by decide) rfl), hB 1 h1, hP 5 (w_ok (v1_1 - 1) (by omega)), hP 2 (w_ok (v1_1 - 1) (by omega)), hP 0 (Q5s 0 6 n0 (v1_1 - 1) (Int.toNat (v1_1 - 1)) rfl (by omega) (by omega)), hP 0 (Qdg 0 6 0 false ((Fld.rows v1_0).flatten) (Fld.rows v1_0) 6 true (Int.toNat (v1_1 - 1)) 0 ((Int.toNat (v1_1 - 1)) * 6) (Fld.cells (List.getD v1_0 (Int.toNat (v1_1 - 1)) zF)) (.agg [.str (List.getD v1_0 (Int.toNat (v1_1 - 1)) zF).name, .int .i64 (List.getD v1_0 (Int.toNat (v1_1 - 1)) zF).v.kind, .int .i64 (List.getD v1_0 (Int.toNat (v1_1 - 1)) zF).v.n, .str (List.getD v1_0 (Int.toNat (v1_1 - 1)) zF).v.s, .sl (Val.rows (List.getD v1_0 (Int.toNat (v1_1 - 1)) zF).v.list), .sl (Fld.rows (List.getD v1_0 (Int.toNat (v1_1 - 1)) zF).v.fields)]) rfl rfl (Fld.Qc (Q2x v1_0 (Int.toNat (v1_1 - 1)) zF (by omega))) (Fld.Qm v1_0) (by decide) rfl), hP 2 (Q5s 0 6 n0 v1_1 (Int.toNat v1_1) rfl (by omega) (by omega)), hP 0 (Qdg 0 6 0 false ((Fld.rows v1_0).flatten) (Fld.rows v1_0) 6 true (Int.toNat v1_1) 0 ((Int.toNat v1_1) * 6) (Fld.cells (List.getD v1_0 (Int.toNat v1_1) zF)) (.agg [.str (List.getD v1_0 (Int.toNat v1_1) zF).name, .int .i64 (List.getD v1_0 (Int.toNat v1_1) zF).v.kind, .int .i64 (List.getD v1_0 (Int.toNat v1_1) zF).v.n, .str (List.getD v1_0 (Int.toNat v1_1) zF).v.s, .sl (Val.rows (List.getD v1_0 (Int.toNat v1_1) zF).v.list), .sl (Fld.rows (List.getD v1_0 (Int.toNat v1_1) zF).v.fields)]) rfl rfl (Fld.Qc (Q2x v1_0 (Int.toNat v1_1) zF (by omega))) (Fld.Qm v1_0) (by decide) rfl), hP 0 (Q5s 0 6 n0 v1_1 (Int.toNat v1_1) rfl (by omega) (by omega)), hV 0 [(0, Fld.rows (List.set v1_0 (Int.toNat v1_1) (List.getD v1_0 (Int.toNat (v1_1 - 1)) zF)))] (Q1fn 0 6 false ((Fld.rows v1_0).flatten) (Fld.rows v1_0) (Fld.rows (List.set v1_0 (Int.toNat v1_1) (List.getD v1_0 (Int.toNat (v1_1 - 1)) zF))) 6 (Int.toNat v1_1) 0 ((Int.toNat v1_1) * 6) _ (.agg [.str (List.getD v1_0 (Int.toNat (v1_1 - 1)) zF).name, .int .i64 (List.getD v1_0 (Int.toNat (v1_1 - 1)) zF).v.kind, .int .i64 (List.getD v1_0 (Int.toNat (v1_1 - 1)) zF).v.n, .str (List.getD v1_0 (Int.toNat (v1_1 - 1)) zF).v.s, .sl (Val.rows (List.getD v1_0 (Int.toNat (v1_1 - 1)) zF).v.list), .sl (Fld.rows (List.getD v1_0 (Int.toNat (v1_1 - 1)) zF).v.fields)]) rfl rfl (Fld.Qc (Q2x v1_0 (Int.toNat v1_1) zF (by omega))) (Fld.Qm v1_0) (by decide) rfl rfl (Fld.Q39 v1_0 (Int.toNat v1_1) (List.getD v1_0 (Int.toNat (v1_1 - 1)) zF))), hS 0 false (Fld.Q9 (List.set v1_0 (Int.toNat v1_1) (List.getD v1_0 (Int.toNat (v1_1 - 1)) zF)) 6 rfl), hP 0 (Q5s 0 6 n0 (v1_1 - 1) (Int.toNat (v1_1 - 1)) rfl (by have f0 := (Q5r ho1_4 (Int.toNat v1_1) (List.getD v1_0 (Int.toNat (v1_1 - 1)) zF)); omega) (by have f0 := (Q5r ho1_4 (Int.toNat v1_1) (List.getD v1_0 (Int.toNat (v1_1 - 1)) zF)); omega)), hV 0 [(0, Fld.rows (List.set (List.set v1_0 (Int.toNat v1_1) (List.getD v1_0 (Int.toNat (v1_1 - 1)) zF)) (Int.toNat (v1_1 - 1)) (List.getD v1_0 (Int.toNat v1_1) zF)))] (Q1fn 0 6 false ((Fld.rows (List.set v1_0 (Int.toNat v1_1) (List.getD v1_0 (Int.toNat (v1_1 - 1)) zF))).flatten) (Fld.rows (List.set v1_0 (Int.toNat v1_1) (List.getD v1_0 (Int.toNat (v1_1 - 1)) zF))) (Fld.rows (List.set (List.set v1_0 (Int.toNat v1_1) (List.getD v1_0 (Int.toNat (v1_1 - 1)) zF)) (Int.toNat (v1_1 - 1)) (List.getD v1_0 (Int.toNat v1_1) zF))) 6 (Int.toNat (v1_1 - 1)) 0 ((Int.toNat (v1_1 - 1)) * 6) _ (.agg [.str (List.getD v1_0 (Int.toNat v1_1) zF).name, .int .i64 (List.getD v1_0 (Int.toNat v1_1) zF).v.kind, .int .i64 (List.getD v1_0 (Int.toNat v1_1) zF).v.n, .str (List.getD v1_0 (Int.toNat v1_1) zF).v.s, .sl (Val.rows (List.getD v1_0 (Int.toNat v1_1) zF).v.list), .sl (Fld.rows (List.getD v1_0 (Int.toNat v1_1) zF).v.fields)]) rfl rfl (Fld.Qc (Q2x (List.set v1_0 (Int.toNat v1_1) (List.getD v1_0 (Int.toNat (v1_1 - 1)) zF)) (Int.toNat (v1_1 - 1)) zF (by have f0 := (Q5r ho1_4 (Int.toNat v1_1) (List.getD v1_0 (Int.toNat (v1_1 - 1)) zF)); try simp only [List.length_set]; omega))) (Fld.Qm (List.set v1_0 (Int.toNat v1_1) (List.getD v1_0 (Int.toNat (v1_1 - 1)) zF))) (by decide) rfl rfl (Fld.Q39 (List.set v1_0 (Int.toNat v1_1) (List.getD v1_0 (Int.toNat (v1_1 - 1)) zF)) (Int.toNat (v1_1 - 1)) (List.getD v1_0 (Int.toNat v1_1) zF))), hS 0 false (Fld.Q9 (List.set (List.set v1_0 (Int.toNat v1_1) (List.getD v1_0 (Int.toNat (v1_1 - 1)) zF)) (Int.toNat (v1_1 - 1)) (List.getD v1_0 (Int.toNat v1_1) zF)) 6 rfl), hP 1 (w_ok (v1_1 - 1) (by have f0 := (Q5r (Q5r ho1_4 (Int.toNat v1_1) (List.getD v1_0 (Int.toNat (v1_1 - 1)) zF)) (Int.toNat (v1_1 - 1)) (List.getD v1_0 (Int.toNat v1_1) zF)); omega))] [aN (Q1oq (List.getD v1_0 (Int.toNat v1_1) zF) (List.getD v1_0 (Int.toNat (v1_1 - 1)) zF))] (by kernel_rfl) hr
def Qpa (n0 : Nat) (p1 : Int) (_p2 : Int) (_v0_0 : Int) (v1_0 : List Fld) (v1_1 : Int) : List PV :=
  nuns 9 ++ [.int .i64 v1_1] ++ nuns 8 ++ [.int .i64 v1_1, .int .i64 p1, .bool true, .bool true, .fn 134 [] [], .ms 0 6 0 n0, .int .i64 v1_1, .bx 0 ((Int.toNat v1_1) * 6), .agg [.str (List.getD v1_0 (Int.toNat v1_1) zF).name, .int .i64 (List.getD v1_0 (Int.toNat v1_1) zF).v.kind, .int .i64 (List.getD v1_0 (Int.toNat v1_1) zF).v.n, .str (List.getD v1_0 (Int.toNat v1_1) zF).v.s, .sl (Val.rows (List.getD v1_0 (Int.toNat v1_1) zF).v.list), .sl (Fld.rows (List.getD v1_0 (Int.toNat v1_1) zF).v.fields)], .ms 0 6 0 n0, .int .i64 v1_1, .int .i64 (v1_1 - 1), .bx 0 ((Int.toNat (v1_1 - 1)) * 6), .agg [.str (List.getD v1_0 (Int.toNat (v1_1 - 1)) zF).name, .int .i64 (List.getD v1_0 (Int.toNat (v1_1 - 1)) zF).v.kind, .int .i64 (List.getD v1_0 (Int.toNat (v1_1 - 1)) zF).v.n, .str (List.getD v1_0 (Int.toNat (v1_1 - 1)) zF).v.s, .sl (Val.rows (List.getD v1_0 (Int.toNat (v1_1 - 1)) zF).v.list), .sl (Fld.rows (List.getD v1_0 (Int.toNat (v1_1 - 1)) zF).v.fields)], .int .i64 (Qyt (List.getD v1_0 (Int.toNat v1_1) zF) (List.getD v1_0 (Int.toNat (v1_1 - 1)) zF)), .bool false, .bool false]
def Qlt (_n0 : Nat) (_p1 : Int) (_p2 : Int) (_v0_0 : Int) (_v1_0 : List Fld) (_v1_1 : Int) : List (Nat × List PV) :=
  []
theorem Q1ar (n0 : Nat) (p1 : Int) (p2 : Int) (v0_0 : Int) (v1_0 : List Fld) (v1_1 : Int) (ho1_0 : 0 ≤ p1) (_ho1_1 : p1 ≤ v1_1) (ho1_2 : v1_1 < n0) (ho1_3 : (n0 : Int) ≤ 20) (ho1_4 : List.length v1_0 = n0) (h0 : (decide (p1 < v1_1)) = true) (h1 : (decide ((Qyt (List.getD v1_0 (Int.toNat v1_1) zF) (List.getD v1_0 (Int.toNat (v1_1 - 1)) zF)) < 0)) = false) : Qcc n0 p1 p2 v0_0 (Qaf n0 p1 p2 v0_0 v1_0 v1_1) v1_0 := by
 have e0 := of_decide_eq_true h0; have e1 := of_decide_eq_false h1
 exact ⟨(envF (Qpa n0 p1 p2 v0_0 v1_0 v1_1)), (zoF (Qlt n0 p1 p2 v0_0 v1_0 v1_1)), Qg (Qv1 n0 p1 p2 v0_0 v1_0 v1_1) (x := ((.exit 2), Qa4 n0 p1 p2 v0_0 v1_0 (envF (Qpa n0 p1 p2 v0_0 v1_0 v1_1)) (zoF (Qlt n0 p1 p2 v0_0 v1_0 v1_1)))) [hB 2 h0, hP 4 (Q5s 0 6 n0 v1_1 (Int.toNat v1_1) rfl (by omega) (by omega)), hP 0 (Qdg 0 6 0 false ((Fld.rows v1_0).flatten) (Fld.rows v1_0) 6 true (Int.toNat v1_1) 0 ((Int.toNat v1_1) * 6) (Fld.cells (List.getD v1_0 (Int.toNat v1_1) zF)) (.agg [.str (List.getD v1_0 (Int.toNat v1_1) zF).name, .int .i64 (List.getD v1_0 (Int.toNat v1_1) zF).v.kind, .int .i64 (List.getD v1_0 (Int.toNat v1_1) zF).v.n, .str (List.getD v1_0 (Int.toNat v1_1) zF).v.s, .sl (Val.rows (List.getD v1_0 (Int.toNat v1_1) zF).v.list), .sl (Fld.rows (List.getD v1_0 (Int.toNat v1_1) zF).v.fields)]) rfl rfl (Fld.Qc (Q2x v1_0 (Int.toNat v1_1) zF (by omega))) (Fld.Qm v1_0) (by decide) rfl), hP 2 (w_ok (v1_1 - 1) (by omega)), hP 0 (Q5s 0 6 n0 (v1_1 - 1) (Int.toNat (v1_1 - 1)) rfl (by omega) (by omega)), hP 0 (Qdg 0 6 0 false ((Fld.rows v1_0).flatten) (Fld.rows v1_0) 6 true (Int.toNat (v1_1 - 1)) 0 ((Int.toNat (v1_1 - 1)) * 6) (Fld.cells (List.getD v1_0 (Int.toNat (v1_1 - 1)) zF)) (.agg [.str (List.getD v1_0 (Int.toNat (v1_1 - 1)) zF).name, .int .i64 (List.getD v1_0 (Int.toNat (v1_1 - 1)) zF).v.kind, .int .i64 (List.getD v1_0 (Int.toNat (v1_1 - 1)) zF).v.n, .str (List.getD v1_0 (Int.toNat (v1_1 - 1)) zF).v.s, .sl (Val.rows (List.getD v1_0 (Int.toNat (v1_1 - 1)) zF).v.list), .sl (Fld.rows (List.getD v1_0 (Int.toNat (v1_1 - 1)) zF).v.fields)]) rfl rfl (Fld.Qc (Q2x v1_0 (Int.toNat (v1_1 - 1)) zF (by omega))) (Fld.Qm v1_0) (by decide) rfl), hB 1 h1] [aN (Q1oq (List.getD v1_0 (Int.toNat v1_1) zF) (List.getD v1_0 (Int.toNat (v1_1 - 1)) zF))] (by kernel_rfl)⟩
def Qsf (_n0 : Nat) (p1 : Int) (_p2 : Int) (_v0_0 : Int) (_v1_0 : List Fld) (v1_1 : Int) : List PV :=
  nuns 9 ++ [.int .i64 v1_1] ++ nuns 8 ++ [.int .i64 v1_1, .int .i64 p1, .bool false, .bool false, .tup [], .tup [], .tup [], .tup [], .tup [], .tup [], .tup [], .tup [], .tup [], .tup [], .tup [], .tup [], .bool false]
def Qo4 (_n0 : Nat) (_p1 : Int) (_p2 : Int) (_v0_0 : Int) (_v1_0 : List Fld) (_v1_1 : Int) : List (Nat × List PV) :=
  []
theorem Q18f (n0 : Nat) (p1 : Int) (p2 : Int) (v0_0 : Int) (v1_0 : List Fld) (v1_1 : Int) (_ho1_0 : 0 ≤ p1) (_ho1_1 : p1 ≤ v1_1) (_ho1_2 : v1_1 < n0) (_ho1_3 : (n0 : Int) ≤ 20) (_ho1_4 : List.length v1_0 = n0) (h0 : (decide (p1 < v1_1)) = false) : Qcc n0 p1 p2 v0_0 (Qaf n0 p1 p2 v0_0 v1_0 v1_1) v1_0 := by
 exact ⟨(envF (Qsf n0 p1 p2 v0_0 v1_0 v1_1)), (zoF (Qo4 n0 p1 p2 v0_0 v1_0 v1_1)), Qg (Qv1 n0 p1 p2 v0_0 v1_0 v1_1) (x := ((.exit 2), Qa4 n0 p1 p2 v0_0 v1_0 (envF (Qsf n0 p1 p2 v0_0 v1_0 v1_1)) (zoF (Qo4 n0 p1 p2 v0_0 v1_0 v1_1)))) [hB 2 h0] [] (by kernel_rfl)⟩
theorem Qyi (n0 : Nat) (p1 : Int) (p2 : Int) (v0_0 : Int) : ∀ (k1 : Nat) (v1_0 : List Fld) (v1_1 : Int), 0 ≤ p1 → p1 ≤ v1_1 → v1_1 < n0 → (n0 : Int) ≤ 20 → List.length v1_0 = n0 → Int.toNat v1_1 < k1 → Qcc n0 p1 p2 v0_0 (Qaf n0 p1 p2 v0_0 v1_0 v1_1) (Q3p n0 p1 p2 v0_0 k1 v1_0 v1_1)
 | 0, v1_0, v1_1, _, _, _, _, _, hm => absurd hm (Nat.not_lt_zero _)
 | k1 + 1, v1_0, v1_1, ho1_0, ho1_1, ho1_2, ho1_3, ho1_4, hm => by
  rw [Q3p]
  cases h0 : (decide (p1 < v1_1)) with
  | true =>
   have e0 := of_decide_eq_true h0
   cases h1 : (decide ((Qyt (List.getD v1_0 (Int.toNat v1_1) zF) (List.getD v1_0 (Int.toNat (v1_1 - 1)) zF)) < 0)) with
   | true =>
    have e1 := of_decide_eq_true h1
    exact Qw2 n0 p1 p2 v0_0 (fun r hr => Q17p n0 p1 p2 v0_0 v1_0 v1_1 ho1_0 ho1_1 ho1_2 ho1_3 ho1_4 h0 h1 hr) _ (Qyi n0 p1 p2 v0_0 k1 (List.set (List.set v1_0 (Int.toNat v1_1) (List.getD v1_0 (Int.toNat (v1_1 - 1)) zF)) (Int.toNat (v1_1 - 1)) (List.getD v1_0 (Int.toNat v1_1) zF)) (v1_1 - 1) (by have f0 := (Q5r (Q5r ho1_4 (Int.toNat v1_1) (List.getD v1_0 (Int.toNat (v1_1 - 1)) zF)) (Int.toNat (v1_1 - 1)) (List.getD v1_0 (Int.toNat v1_1) zF)); omega) (by have f0 := (Q5r (Q5r ho1_4 (Int.toNat v1_1) (List.getD v1_0 (Int.toNat (v1_1 - 1)) zF)) (Int.toNat (v1_1 - 1)) (List.getD v1_0 (Int.toNat v1_1) zF)); omega) (by have f0 := (Q5r (Q5r ho1_4 (Int.toNat v1_1) (List.getD v1_0 (Int.toNat (v1_1 - 1)) zF)) (Int.toNat (v1_1 - 1)) (List.getD v1_0 (Int.toNat v1_1) zF)); omega) (by have f0 := (Q5r (Q5r ho1_4 (Int.toNat v1_1) (List.getD v1_0 (Int.toNat (v1_1 - 1)) zF)) (Int.toNat (v1_1 - 1)) (List.getD v1_0 (Int.toNat v1_1) zF)); omega) (Q5r (Q5r ho1_4 (Int.toNat v1_1) (List.getD v1_0 (Int.toNat (v1_1 - 1)) zF)) (Int.toNat (v1_1 - 1)) (List.getD v1_0 (Int.toNat v1_1) zF)) (by have f0 := (Q5r (Q5r ho1_4 (Int.toNat v1_1) (List.getD v1_0 (Int.toNat (v1_1 - 1)) zF)) (Int.toNat (v1_1 - 1)) (List.getD v1_0 (Int.toNat v1_1) zF)); omega))
   | false =>
    exact Q1ar n0 p1 p2 v0_0 v1_0 v1_1 ho1_0 ho1_1 ho1_2 ho1_3 ho1_4 h0 h1
  | false =>
   exact Q18f n0 p1 p2 v0_0 v1_0 v1_1 ho1_0 ho1_1 ho1_2 ho1_3 ho1_4 h0
theorem Q3w (n0 : Nat) (p1 : Int) (p2 : Int) (v0_0 : Int) : ∀ (k1 : Nat) (v1_0 : List Fld) (v1_1 : Int), List.length v1_0 = n0 → List.length (Q3p n0 p1 p2 v0_0 k1 v1_0 v1_1) = n0
 | 0, v1_0, v1_1, ho1_4 => by rw [Q3p]; exact ho1_4
 | k1 + 1, v1_0, v1_1, ho1_4 => by
  rw [Q3p]
  cases h0 : (decide (p1 < v1_1)) with
  | true =>
   cases h1 : (decide ((Qyt (List.getD v1_0 (Int.toNat v1_1) zF) (List.getD v1_0 (Int.toNat (v1_1 - 1)) zF)) < 0)) with
   | true =>
    exact Q3w n0 p1 p2 v0_0 k1 (List.set (List.set v1_0 (Int.toNat v1_1) (List.getD v1_0 (Int.toNat (v1_1 - 1)) zF)) (Int.toNat (v1_1 - 1)) (List.getD v1_0 (Int.toNat v1_1) zF)) (v1_1 - 1) (Q5r (Q5r ho1_4 (Int.toNat v1_1) (List.getD v1_0 (Int.toNat (v1_1 - 1)) zF)) (Int.toNat (v1_1 - 1)) (List.getD v1_0 (Int.toNat v1_1) zF))
   | false =>
    exact ho1_4
  | false =>
   exact ho1_4
def Q46 (n0 : Nat) (p1 : Int) (p2 : Int) : Nat → Int → (List Fld) → List Fld
 | 0, _v0_0, v0_1 => v0_1
 | k0 + 1, v0_0, v0_1 =>
  bif (decide (v0_0 < p2)) then
   Q46 n0 p1 p2 k0 (v0_0 + 1) (Q3p n0 p1 p2 v0_0 ((Int.toNat v0_0) + 1) v0_1 v0_0)
  else
   v0_1
def Qzk (n0 : Nat) (p1 : Int) (p2 : Int) (v0_0 : Int) (_v0_1 : List Fld) : List PV :=
  [.ms 0 6 0 n0, .int .i64 p1, .int .i64 p2, .fn 134 [] [], .un, .un, .un, .un, .int .i64 v0_0] ++ nuns 44
def Qls (_n0 : Nat) (_p1 : Int) (_p2 : Int) (_v0_0 : Int) (v0_1 : List Fld) : List Ob :=
  [⟨6, 0, false, (Fld.rows v0_1).flatten⟩]
def Qil (n0 : Nat) (p1 : Int) (p2 : Int) (v0_0 : Int) (v0_1 : List Fld) : En := .loop 1 Ir.Qjm Ir.Q1jk (Qzk n0 p1 p2 v0_0 v0_1) (Qls n0 p1 p2 v0_0 v0_1)
def Qtq (_n0 : Nat) (_p1 : Int) (_p2 : Int) (q0 : List Fld) (z : Nat → PV) (_zo : Nat → List PV) : St :=
  ⟨zr z 0 53, [(0, ⟨6, 0, false, (Fld.rows q0).flatten⟩)], 193⟩
theorem Q14n (n0 : Nat) (p1 : Int) (p2 : Int) (v0_0 : Int) (v0_1 : List Fld) : VOK (Go.Pv.look (number 0 (Qls n0 p1 p2 v0_0 v0_1))) [(0, Fld.rows v0_1)] := (VOK.cons (show Seen _ _ from Q3g (ob := ⟨6, 0, false, (Fld.rows v0_1).flatten⟩) (Fld.Q9 v0_1 6 rfl)) VOK.nil)
def Qhl (n0 : Nat) (p1 : Int) (p2 : Int) (e : En) (q : List Fld) : Prop := ∃ z zo, Q7 G e (.st (.exit 0) (Qtq n0 p1 p2 q z zo))
theorem Qwe (n0 : Nat) (p1 : Int) (p2 : Int) {e e' : En} (h : ∀ r, Q7 G e r → Q7 G e' r) : ∀ q, Qhl n0 p1 p2 e q → Qhl n0 p1 p2 e' q
  | _, ⟨z, zo, hz⟩ => ⟨z, zo, h _ hz⟩
theorem Q18g (n0 : Nat) (p1 : Int) (p2 : Int) (v0_0 : Int) (v0_1 : List Fld) (ho0_0 : 0 ≤ p1) (ho0_1 : p1 < v0_0) (ho0_2 : p2 ≤ n0) (ho0_3 : (n0 : Int) ≤ 20) (ho0_4 : List.length v0_1 = n0) (h0 : (decide (v0_0 < p2)) = true) (z1 : Nat → PV) (zo1 : Nat → List PV) (hl1 : Q7 G (Qaf n0 p1 p2 v0_0 v0_1 v0_0) (.st (.exit 2) (Qa4 n0 p1 p2 v0_0 (Q3p n0 p1 p2 v0_0 ((Int.toNat v0_0) + 1) v0_1 v0_0) z1 zo1))) {r : Rs} (hr : Q7 G (Qil n0 p1 p2 (v0_0 + 1) (Q3p n0 p1 p2 v0_0 ((Int.toNat v0_0) + 1) v0_1 v0_0)) r) : Q7 G (Qil n0 p1 p2 v0_0 v0_1) r := by
 have e0 := of_decide_eq_true h0
 exact Qk (Q14n n0 p1 p2 v0_0 v0_1) (y := (Qzk n0 p1 p2 (v0_0 + 1) (Q3p n0 p1 p2 v0_0 ((Int.toNat v0_0) + 1) v0_1 v0_0), Qls n0 p1 p2 (v0_0 + 1) (Q3p n0 p1 p2 v0_0 ((Int.toNat v0_0) + 1) v0_1 v0_0))) [hB 2 h0, hS 0 false (Fld.Q9 (Q3p n0 p1 p2 v0_0 ((Int.toNat v0_0) + 1) v0_1 v0_0) 6 rfl), hP 3 (w_ok (v0_0 + 1) (by have f0 := (Q3w n0 p1 p2 v0_0 ((Int.toNat v0_0) + 1) v0_1 v0_0 ho0_4); omega))] [aV [(0, Fld.rows (Q3p n0 p1 p2 v0_0 ((Int.toNat v0_0) + 1) v0_1 v0_0))] hl1] (by kernel_rfl) hr
def Qpp (n0 : Nat) (p1 : Int) (p2 : Int) (v0_0 : Int) (_v0_1 : List Fld) : List PV :=
  [.ms 0 6 0 n0, .int .i64 p1, .int .i64 p2, .fn 134 [] [], .un, .un, .un, .un, .int .i64 v0_0, .un, .un, .un, .int .i64 v0_0, .int .i64 p2, .bool false]
def Ql9 (_n0 : Nat) (_p1 : Int) (_p2 : Int) (_v0_0 : Int) (_v0_1 : List Fld) : List (Nat × List PV) :=
  []
theorem Q19g (n0 : Nat) (p1 : Int) (p2 : Int) (v0_0 : Int) (v0_1 : List Fld) (_ho0_0 : 0 ≤ p1) (_ho0_1 : p1 < v0_0) (_ho0_2 : p2 ≤ n0) (_ho0_3 : (n0 : Int) ≤ 20) (_ho0_4 : List.length v0_1 = n0) (h0 : (decide (v0_0 < p2)) = false) : Qhl n0 p1 p2 (Qil n0 p1 p2 v0_0 v0_1) v0_1 := by
 exact ⟨(envF (Qpp n0 p1 p2 v0_0 v0_1)), (zoF (Ql9 n0 p1 p2 v0_0 v0_1)), Qg (Q14n n0 p1 p2 v0_0 v0_1) (x := ((.exit 0), Qtq n0 p1 p2 v0_1 (envF (Qpp n0 p1 p2 v0_0 v0_1)) (zoF (Ql9 n0 p1 p2 v0_0 v0_1)))) [hB 2 h0] [] (by kernel_rfl)⟩
theorem Qx8 (n0 : Nat) (p1 : Int) (p2 : Int) : ∀ (k0 : Nat) (v0_0 : Int) (v0_1 : List Fld), 0 ≤ p1 → p1 < v0_0 → p2 ≤ n0 → (n0 : Int) ≤ 20 → List.length v0_1 = n0 → Int.toNat (p2 - v0_0) < k0 → Qhl n0 p1 p2 (Qil n0 p1 p2 v0_0 v0_1) (Q46 n0 p1 p2 k0 v0_0 v0_1)
 | 0, v0_0, v0_1, _, _, _, _, _, hm => absurd hm (Nat.not_lt_zero _)
 | k0 + 1, v0_0, v0_1, ho0_0, ho0_1, ho0_2, ho0_3, ho0_4, hm => by
  rw [Q46]
  cases h0 : (decide (v0_0 < p2)) with
  | true =>
   have e0 := of_decide_eq_true h0
   have hl1 := Qyi n0 p1 p2 v0_0 ((Int.toNat v0_0) + 1) v0_1 v0_0 (by omega) (by omega) (by omega) (by omega) ho0_4 (by omega)
   obtain ⟨z1, zo1, hl1⟩ := hl1
   exact Qwe n0 p1 p2 (fun r hr => Q18g n0 p1 p2 v0_0 v0_1 ho0_0 ho0_1 ho0_2 ho0_3 ho0_4 h0 z1 zo1 hl1 hr) _ (Qx8 n0 p1 p2 k0 (v0_0 + 1) (Q3p n0 p1 p2 v0_0 ((Int.toNat v0_0) + 1) v0_1 v0_0) (by have f0 := (Q3w n0 p1 p2 v0_0 ((Int.toNat v0_0) + 1) v0_1 v0_0 ho0_4); omega) (by have f0 := (Q3w n0 p1 p2 v0_0 ((Int.toNat v0_0) + 1) v0_1 v0_0 ho0_4); omega) (by have f0 := (Q3w n0 p1 p2 v0_0 ((Int.toNat v0_0) + 1) v0_1 v0_0 ho0_4); omega) (by have f0 := (Q3w n0 p1 p2 v0_0 ((Int.toNat v0_0) + 1) v0_1 v0_0 ho0_4); omega) (Q3w n0 p1 p2 v0_0 ((Int.toNat v0_0) + 1) v0_1 v0_0 ho0_4) (by have f0 := (Q3w n0 p1 p2 v0_0 ((Int.toNat v0_0) + 1) v0_1 v0_0 ho0_4); omega))
  | false =>
   exact Q19g n0 p1 p2 v0_0 v0_1 ho0_0 ho0_1 ho0_2 ho0_3 ho0_4 h0
theorem Qbl (n0 : Nat) (p1 : Int) (p2 : Int) : ∀ (k0 : Nat) (v0_0 : Int) (v0_1 : List Fld), List.length v0_1 = n0 → List.length (Q46 n0 p1 p2 k0 v0_0 v0_1) = n0
 | 0, v0_0, v0_1, ho0_4 => by rw [Q46]; exact ho0_4
 | k0 + 1, v0_0, v0_1, ho0_4 => by
  rw [Q46]
  cases h0 : (decide (v0_0 < p2)) with
  | true =>
   exact Qbl n0 p1 p2 k0 (v0_0 + 1) (Q3p n0 p1 p2 v0_0 ((Int.toNat v0_0) + 1) v0_1 v0_0) (Q3w n0 p1 p2 v0_0 ((Int.toNat v0_0) + 1) v0_1 v0_0 ho0_4)
  | false =>
   exact ho0_4
def Q29 (n0 : Nat) (p0 : List Fld) (p1 : Int) (p2 : Int) : List Fld :=
 (Q46 n0 p1 p2 ((Int.toNat (p2 - (p1 + 1))) + 1) (p1 + 1) p0)
def Q1bu (n0 : Nat) (p0 : List Fld) (p1 : Int) (p2 : Int) : En := .call 155 [.ms 0 6 0 n0, .int .i64 p1, .int .i64 p2, .fn 134 [] []] [⟨6, 0, false, (Fld.rows p0).flatten⟩]
def Qq4 (n0 : Nat) (p0 : List Fld) (p1 : Int) (p2 : Int) : Rs := .ret (.tup []) [⟨6, 0, false, (Fld.rows (Q29 n0 p0 p1 p2)).flatten⟩]
theorem Q1l (n0 : Nat) (p0 : List Fld) (p1 : Int) (p2 : Int) (hn : List.length p0 = n0) : List.length (Q29 n0 p0 p1 p2) = n0 := by
 unfold Q29
 have hz0_0 : List.length (Q46 n0 p1 p2 ((Int.toNat (p2 - (p1 + 1))) + 1) (p1 + 1) p0) = n0 := Qbl n0 p1 p2 ((Int.toNat (p2 - (p1 + 1))) + 1) (p1 + 1) p0 hn
 obtain ⟨R0, eR0⟩ : ∃ R, (Q46 n0 p1 p2 ((Int.toNat (p2 - (p1 + 1))) + 1) (p1 + 1) p0) = R := ⟨_, rfl⟩
 rw [eR0] at hz0_0 ⊢
 exact hz0_0
theorem Qqc (n0 : Nat) (p0 : List Fld) (p1 : Int) (p2 : Int) (hn : List.length p0 = n0) (hq0 : 0 ≤ p1 ∧ p1 ≤ p2 ∧ p2 ≤ n0 ∧ (n0 : Int) ≤ 20) : Q7 G (Q1bu n0 p0 p1 p2) (Qq4 n0 p0 p1 p2) := by
 unfold Qq4 Q29
 have hl0 := Qx8 n0 p1 p2 ((Int.toNat (p2 - (p1 + 1))) + 1) (p1 + 1) p0 (by omega) (by omega) (by omega) (by omega) hn (by omega)
 have hz0_0 : List.length (Q46 n0 p1 p2 ((Int.toNat (p2 - (p1 + 1))) + 1) (p1 + 1) p0) = n0 := Qbl n0 p1 p2 ((Int.toNat (p2 - (p1 + 1))) + 1) (p1 + 1) p0 hn
 obtain ⟨R0, eR0⟩ : ∃ R, (Q46 n0 p1 p2 ((Int.toNat (p2 - (p1 + 1))) + 1) (p1 + 1) p0) = R := ⟨_, rfl⟩
 rw [eR0] at hz0_0 hl0 ⊢
 obtain ⟨z0, zo0, hl0⟩ := hl0
 exact Q8 (fn := Ir.K3s) rfl (vk1 (Fld.Q9 p0 6 rfl)) [hP 1 (w_ok (p1 + 1) (by omega)), hS 0 false (Fld.Q9 R0 6 rfl)] [aV [(0, Fld.rows R0)] hl0] (by kernel_rfl)
def Q3f (n0 : Nat) (p1 : Int) : Nat → (List Fld) → Int → Int → (List Fld) × Int
 | 0, v0_0, v0_1, _v0_2 => (v0_0, v0_1)
 | k0 + 1, v0_0, v0_1, v0_2 =>
  bif (decide (v0_2 ≤ p1)) then
   Q3f n0 p1 k0 (Q29 n0 v0_0 v0_1 v0_2) v0_2 (v0_2 + 20)
  else
   (v0_0, v0_1)
def Qxf (n0 : Nat) (p1 : Int) (_v0_0 : List Fld) (v0_1 : Int) (v0_2 : Int) : List PV :=
  [.ms 0 6 0 n0, .int .i64 p1, .fn 134 [] [], .un, .un, .un, .int .i64 20, .int .i64 v0_1, .int .i64 v0_2] ++ nuns 54
def Qku (_n0 : Nat) (_p1 : Int) (v0_0 : List Fld) (_v0_1 : Int) (_v0_2 : Int) : List Ob :=
  [⟨6, 0, false, (Fld.rows v0_0).flatten⟩]
def Qi3 (n0 : Nat) (p1 : Int) (v0_0 : List Fld) (v0_1 : Int) (v0_2 : Int) : En := .loop 1 Ir.Qmr Ir.Q1jm (Qxf n0 p1 v0_0 v0_1 v0_2) (Qku n0 p1 v0_0 v0_1 v0_2)
def Qp8 (n0 : Nat) (p1 : Int) (q0 : List Fld) (q1 : Int) (z : Nat → PV) (_zo : Nat → List PV) : St :=
  ⟨[.ms 0 6 0 n0, .int .i64 p1, .fn 134 [] [], z 3, z 4, z 5, .int .i64 20, .int .i64 q1] ++ zr z 8 55, [(0, ⟨6, 0, false, (Fld.rows q0).flatten⟩)], 193⟩
theorem Q13w (n0 : Nat) (p1 : Int) (v0_0 : List Fld) (v0_1 : Int) (v0_2 : Int) : VOK (Go.Pv.look (number 0 (Qku n0 p1 v0_0 v0_1 v0_2))) [(0, Fld.rows v0_0)] := (VOK.cons (show Seen _ _ from Q3g (ob := ⟨6, 0, false, (Fld.rows v0_0).flatten⟩) (Fld.Q9 v0_0 6 rfl)) VOK.nil)
def Qhc (n0 : Nat) (p1 : Int) (e : En) (q : (List Fld) × Int) : Prop := ∃ z zo, Q7 G e (.st (.exit 0) (Qp8 n0 p1 q.1 q.2 z zo))
theorem Qwg (n0 : Nat) (p1 : Int) {e e' : En} (h : ∀ r, Q7 G e r → Q7 G e' r) : ∀ q, Qhc n0 p1 e q → Qhc n0 p1 e' q
  | _, ⟨z, zo, hz⟩ => ⟨z, zo, h _ hz⟩
theorem Q18s (n0 : Nat) (p1 : Int) (v0_0 : List Fld) (v0_1 : Int) (v0_2 : Int) (ho0_0 : 0 ≤ v0_1) (_ho0_1 : v0_1 ≤ n0) (ho0_2 : v0_1 + 20 = v0_2) (ho0_3 : p1 = n0) (ho0_4 : (n0 : Int) ≤ 20) (ho0_5 : List.length v0_0 = n0) (h0 : (decide (v0_2 ≤ p1)) = true) {r : Rs} (hr : Q7 G (Qi3 n0 p1 (Q29 n0 v0_0 v0_1 v0_2) v0_2 (v0_2 + 20)) r) : Q7 G (Qi3 n0 p1 v0_0 v0_1 v0_2) r := by
 have e0 := of_decide_eq_true h0
 exact Qk (Q13w n0 p1 v0_0 v0_1 v0_2) (y := (Qxf n0 p1 (Q29 n0 v0_0 v0_1 v0_2) v0_2 (v0_2 + 20), Qku n0 p1 (Q29 n0 v0_0 v0_1 v0_2) v0_2 (v0_2 + 20))) [hB 2 h0, hQ (Fld.Q9 (Q29 n0 v0_0 v0_1 v0_2) 6 rfl), hP 9 (w_ok (v0_2 + 20) (by have f0 := (Q1l n0 v0_0 v0_1 v0_2 ho0_5); omega))] [aV [(0, Fld.rows (Q29 n0 v0_0 v0_1 v0_2))] (Qqc n0 v0_0 v0_1 v0_2 ho0_5 (by omega))] (by kernel_rfl) hr
def Qr5 (_n0 : Nat) (p1 : Int) (_v0_0 : List Fld) (_v0_1 : Int) (v0_2 : Int) : List PV :=
  nuns 8 ++ [.int .i64 v0_2, .un, .un, .int .i64 v0_2, .int .i64 p1, .bool false]
def Qmx (_n0 : Nat) (_p1 : Int) (_v0_0 : List Fld) (_v0_1 : Int) (_v0_2 : Int) : List (Nat × List PV) :=
  []
theorem Q1b0 (n0 : Nat) (p1 : Int) (v0_0 : List Fld) (v0_1 : Int) (v0_2 : Int) (_ho0_0 : 0 ≤ v0_1) (_ho0_1 : v0_1 ≤ n0) (_ho0_2 : v0_1 + 20 = v0_2) (_ho0_3 : p1 = n0) (_ho0_4 : (n0 : Int) ≤ 20) (_ho0_5 : List.length v0_0 = n0) (h0 : (decide (v0_2 ≤ p1)) = false) : Qhc n0 p1 (Qi3 n0 p1 v0_0 v0_1 v0_2) (v0_0, v0_1) := by
 exact ⟨(envF (Qr5 n0 p1 v0_0 v0_1 v0_2)), (zoF (Qmx n0 p1 v0_0 v0_1 v0_2)), Qg (Q13w n0 p1 v0_0 v0_1 v0_2) (x := ((.exit 0), Qp8 n0 p1 v0_0 v0_1 (envF (Qr5 n0 p1 v0_0 v0_1 v0_2)) (zoF (Qmx n0 p1 v0_0 v0_1 v0_2)))) [hB 2 h0] [] (by kernel_rfl)⟩
theorem Q11p (n0 : Nat) (p1 : Int) : ∀ (k0 : Nat) (v0_0 : List Fld) (v0_1 : Int) (v0_2 : Int), 0 ≤ v0_1 → v0_1 ≤ n0 → v0_1 + 20 = v0_2 → p1 = n0 → (n0 : Int) ≤ 20 → List.length v0_0 = n0 → Int.toNat (p1 + 20 - v0_2) < k0 → Qhc n0 p1 (Qi3 n0 p1 v0_0 v0_1 v0_2) (Q3f n0 p1 k0 v0_0 v0_1 v0_2)
 | 0, v0_0, v0_1, v0_2, _, _, _, _, _, _, hm => absurd hm (Nat.not_lt_zero _)
 | k0 + 1, v0_0, v0_1, v0_2, ho0_0, ho0_1, ho0_2, ho0_3, ho0_4, ho0_5, hm => by
  rw [Q3f]
  cases h0 : (decide (v0_2 ≤ p1)) with
  | true =>
   have e0 := of_decide_eq_true h0
   exact Qwg n0 p1 (fun r hr => Q18s n0 p1 v0_0 v0_1 v0_2 ho0_0 ho0_1 ho0_2 ho0_3 ho0_4 ho0_5 h0 hr) _ (Q11p n0 p1 k0 (Q29 n0 v0_0 v0_1 v0_2) v0_2 (v0_2 + 20) (by have f0 := (Q1l n0 v0_0 v0_1 v0_2 ho0_5); omega) (by have f0 := (Q1l n0 v0_0 v0_1 v0_2 ho0_5); omega) (by have f0 := (Q1l n0 v0_0 v0_1 v0_2 ho0_5); omega) (by have f0 := (Q1l n0 v0_0 v0_1 v0_2 ho0_5); omega) (by have f0 := (Q1l n0 v0_0 v0_1 v0_2 ho0_5); omega) (Q1l n0 v0_0 v0_1 v0_2 ho0_5) (by have f0 := (Q1l n0 v0_0 v0_1 v0_2 ho0_5); omega))
  | false =>
   exact Q1b0 n0 p1 v0_0 v0_1 v0_2 ho0_0 ho0_1 ho0_2 ho0_3 ho0_4 ho0_5 h0
theorem Qbe (n0 : Nat) (p1 : Int) : ∀ (k0 : Nat) (v0_0 : List Fld) (v0_1 : Int) (v0_2 : Int), List.length v0_0 = n0 → List.length (Q3f n0 p1 k0 v0_0 v0_1 v0_2).1 = n0
 | 0, v0_0, v0_1, v0_2, ho0_5 => by rw [Q3f]; exact ho0_5
 | k0 + 1, v0_0, v0_1, v0_2, ho0_5 => by
  rw [Q3f]
  cases h0 : (decide (v0_2 ≤ p1)) with
  | true =>
   exact Qbe n0 p1 k0 (Q29 n0 v0_0 v0_1 v0_2) v0_2 (v0_2 + 20) (Q1l n0 v0_0 v0_1 v0_2 ho0_5)
  | false =>
   exact ho0_5
theorem Qzf (n0 : Nat) (p1 : Int) : ∀ (k0 : Nat) (v0_0 : List Fld) (v0_1 : Int) (v0_2 : Int), 0 ≤ v0_1 → v0_1 ≤ n0 → v0_1 + 20 = v0_2 → p1 = n0 → (n0 : Int) ≤ 20 → List.length v0_0 = n0 → Int.toNat (p1 + 20 - v0_2) < k0 → 0 ≤ (Q3f n0 p1 k0 v0_0 v0_1 v0_2).2 ∧ (Q3f n0 p1 k0 v0_0 v0_1 v0_2).2 ≤ n0
 | 0, v0_0, v0_1, v0_2, _, _, _, _, _, _, hm => absurd hm (Nat.not_lt_zero _)
 | k0 + 1, v0_0, v0_1, v0_2, ho0_0, ho0_1, ho0_2, ho0_3, ho0_4, ho0_5, hm => by
  rw [Q3f]
  cases h0 : (decide (v0_2 ≤ p1)) with
  | true =>
   have e0 := of_decide_eq_true h0
   exact Qzf n0 p1 k0 (Q29 n0 v0_0 v0_1 v0_2) v0_2 (v0_2 + 20) (by have f0 := (Q1l n0 v0_0 v0_1 v0_2 ho0_5); omega) (by have f0 := (Q1l n0 v0_0 v0_1 v0_2 ho0_5); omega) (by have f0 := (Q1l n0 v0_0 v0_1 v0_2 ho0_5); omega) (by have f0 := (Q1l n0 v0_0 v0_1 v0_2 ho0_5); omega) (by have f0 := (Q1l n0 v0_0 v0_1 v0_2 ho0_5); omega) (Q1l n0 v0_0 v0_1 v0_2 ho0_5) (by have f0 := (Q1l n0 v0_0 v0_1 v0_2 ho0_5); omega)
  | false =>
   have e0 := of_decide_eq_false h0
   exact (show 0 ≤ v0_1 ∧ v0_1 ≤ n0 from ⟨(by omega), (by omega)⟩)
def Q5v (_n0 : Nat) (_p1 : Int) : Nat → (List Fld) → List Fld
 | 0, v1_0 => v1_0
 | _k1 + 1, v1_0 =>
  v1_0
def Q1eu (n0 : Nat) (p1 : Int) (_v1_0 : List Fld) : List PV :=
  [.ms 0 6 0 n0, .int .i64 p1, .fn 134 [] [], .un, .un, .un, .int .i64 20] ++ nuns 56
def Q115 (_n0 : Nat) (_p1 : Int) (v1_0 : List Fld) : List Ob :=
  [⟨6, 0, false, (Fld.rows v1_0).flatten⟩]
def Q17b (n0 : Nat) (p1 : Int) (v1_0 : List Fld) : En := .loop 1 Ir.Qkn Ir.Q1it (Q1eu n0 p1 v1_0) (Q115 n0 p1 v1_0)
def Qrf (_n0 : Nat) (_p1 : Int) (q0 : List Fld) (z : Nat → PV) (_zo : Nat → List PV) : St :=
  ⟨zr z 0 63, [(0, ⟨6, 0, false, (Fld.rows q0).flatten⟩)], 193⟩
theorem Q1hs (n0 : Nat) (p1 : Int) (v1_0 : List Fld) : VOK (Go.Pv.look (number 0 (Q115 n0 p1 v1_0))) [(0, Fld.rows v1_0)] := (VOK.cons (show Seen _ _ from Q3g (ob := ⟨6, 0, false, (Fld.rows v1_0).flatten⟩) (Fld.Q9 v1_0 6 rfl)) VOK.nil)
def Q14m (n0 : Nat) (p1 : Int) (e : En) (q : List Fld) : Prop := ∃ z zo, Q7 G e (.st (.exit 2) (Qrf n0 p1 q z zo))
def Qqh (n0 : Nat) (p1 : Int) (_v1_0 : List Fld) : List PV :=
  [.ms 0 6 0 n0, .int .i64 p1, .fn 134 [] [], .un, .un, .un, .int .i64 20] ++ nuns 21 ++ [.int .i64 20, .int .i64 p1, .bool false]
def Qnl (_n0 : Nat) (_p1 : Int) (_v1_0 : List Fld) : List (Nat × List PV) :=
  []
theorem Q17w (n0 : Nat) (p1 : Int) (v1_0 : List Fld) (ho1_0 : p1 = n0) (ho1_1 : (n0 : Int) ≤ 20) (ho1_2 : List.length v1_0 = n0) : Q14m n0 p1 (Q17b n0 p1 v1_0) v1_0 := by
 exact ⟨(envF (Qqh n0 p1 v1_0)), (zoF (Qnl n0 p1 v1_0)), Qg (Q1hs n0 p1 v1_0) (x := ((.exit 2), Qrf n0 p1 v1_0 (envF (Qqh n0 p1 v1_0)) (zoF (Qnl n0 p1 v1_0)))) [hP 2 (dec (decide (20 < p1)) false (decide_eq_false (by omega)))] [] (by kernel_rfl)⟩
theorem Q1di (n0 : Nat) (p1 : Int) : ∀ (k1 : Nat) (v1_0 : List Fld), p1 = n0 → (n0 : Int) ≤ 20 → List.length v1_0 = n0 → 0 < k1 → Q14m n0 p1 (Q17b n0 p1 v1_0) (Q5v n0 p1 k1 v1_0)
 | 0, v1_0, _, _, _, hm => absurd hm (Nat.not_lt_zero _)
 | k1 + 1, v1_0, ho1_0, ho1_1, ho1_2, hm => by
  rw [Q5v]
  exact Q17w n0 p1 v1_0 ho1_0 ho1_1 ho1_2
theorem Qnu (n0 : Nat) (p1 : Int) : ∀ (k1 : Nat) (v1_0 : List Fld), List.length v1_0 = n0 → List.length (Q5v n0 p1 k1 v1_0) = n0
 | 0, v1_0, ho1_2 => by rw [Q5v]; exact ho1_2
 | k1 + 1, v1_0, ho1_2 => by
  rw [Q5v]
  exact ho1_2
def Q5q (n0 : Nat) (p0 : List Fld) (p1 : Int) : List Fld :=
 (Q5v n0 p1 (0 + 1) (Q29 n0 (Q3f n0 p1 ((Int.toNat (p1 + 20 - 20)) + 1) p0 0 20).1 (Q3f n0 p1 ((Int.toNat (p1 + 20 - 20)) + 1) p0 0 20).2 p1))
def Q1al (n0 : Nat) (p0 : List Fld) (p1 : Int) : En := .call 151 [.ms 0 6 0 n0, .int .i64 p1, .fn 134 [] []] [⟨6, 0, false, (Fld.rows p0).flatten⟩]
def Qqj (n0 : Nat) (p0 : List Fld) (p1 : Int) : Rs := .ret (.tup []) [⟨6, 0, false, (Fld.rows (Q5q n0 p0 p1)).flatten⟩]
theorem Qun (n0 : Nat) (p0 : List Fld) (p1 : Int) (hn : List.length p0 = n0) : List.length (Q5q n0 p0 p1) = n0 := by
 unfold Q5q
 have hz0_0 : List.length (Q3f n0 p1 ((Int.toNat (p1 + 20 - 20)) + 1) p0 0 20).1 = n0 := Qbe n0 p1 ((Int.toNat (p1 + 20 - 20)) + 1) p0 0 20 hn
 obtain ⟨R1, eR1⟩ : ∃ R, (Q3f n0 p1 ((Int.toNat (p1 + 20 - 20)) + 1) p0 0 20) = R := ⟨_, rfl⟩
 rw [eR1] at hz0_0 ⊢
 have hz1_0 : List.length (Q5v n0 p1 (0 + 1) (Q29 n0 R1.1 R1.2 p1)) = n0 := Qnu n0 p1 (0 + 1) (Q29 n0 R1.1 R1.2 p1) (Q1l n0 R1.1 R1.2 p1 hz0_0)
 obtain ⟨R2, eR2⟩ : ∃ R, (Q5v n0 p1 (0 + 1) (Q29 n0 R1.1 R1.2 p1)) = R := ⟨_, rfl⟩
 rw [eR2] at hz1_0 ⊢
 exact hz1_0
theorem Q19a (n0 : Nat) (p0 : List Fld) (p1 : Int) (hn : List.length p0 = n0) (hq0 : 0 ≤ p1 ∧ p1 = n0 ∧ (n0 : Int) ≤ 20) : Q7 G (Q1al n0 p0 p1) (Qqj n0 p0 p1) := by
 unfold Qqj Q5q
 have hl0 := Q11p n0 p1 ((Int.toNat (p1 + 20 - 20)) + 1) p0 0 20 (by omega) (by omega) (by omega) (by omega) (by omega) hn (by omega)
 have hz0_0 : List.length (Q3f n0 p1 ((Int.toNat (p1 + 20 - 20)) + 1) p0 0 20).1 = n0 := Qbe n0 p1 ((Int.toNat (p1 + 20 - 20)) + 1) p0 0 20 hn
 have hy0 : 0 ≤ (Q3f n0 p1 ((Int.toNat (p1 + 20 - 20)) + 1) p0 0 20).2 ∧ (Q3f n0 p1 ((Int.toNat (p1 + 20 - 20)) + 1) p0 0 20).2 ≤ n0 := Qzf n0 p1 ((Int.toNat (p1 + 20 - 20)) + 1) p0 0 20 (by omega) (by omega) (by omega) (by omega) (by omega) hn (by omega)
 obtain ⟨R1, eR1⟩ : ∃ R, (Q3f n0 p1 ((Int.toNat (p1 + 20 - 20)) + 1) p0 0 20) = R := ⟨_, rfl⟩
 rw [eR1] at hz0_0 hy0 hl0 ⊢
 obtain ⟨z0, zo0, hl0⟩ := hl0
 have hl1 := Q1di n0 p1 (0 + 1) (Q29 n0 R1.1 R1.2 p1) (by have f0 := (Q1l n0 R1.1 R1.2 p1 hz0_0); have g0 := hy0; omega) (by have f0 := (Q1l n0 R1.1 R1.2 p1 hz0_0); have g0 := hy0; omega) (Q1l n0 R1.1 R1.2 p1 hz0_0) (by omega)
 have hz1_0 : List.length (Q5v n0 p1 (0 + 1) (Q29 n0 R1.1 R1.2 p1)) = n0 := Qnu n0 p1 (0 + 1) (Q29 n0 R1.1 R1.2 p1) (Q1l n0 R1.1 R1.2 p1 hz0_0)
 obtain ⟨R2, eR2⟩ : ∃ R, (Q5v n0 p1 (0 + 1) (Q29 n0 R1.1 R1.2 p1)) = R := ⟨_, rfl⟩
 rw [eR2] at hz1_0 hl1 ⊢
 obtain ⟨z1, zo1, hl1⟩ := hl1
 exact Q8 (fn := Ir.K3t) rfl (vk1 (Fld.Q9 p0 6 rfl)) [hS 0 false (Fld.Q9 R1.1 6 rfl), hQ (Fld.Q9 (Q29 n0 R1.1 R1.2 p1) 6 rfl), hS 0 false (Fld.Q9 R2 6 rfl)] [aV [(0, Fld.rows R1.1)] hl0, aV [(0, Fld.rows (Q29 n0 R1.1 R1.2 p1))] (Qqc n0 R1.1 R1.2 p1 hz0_0 (by have g0 := hy0; omega)), aV [(0, Fld.rows R2)] hl1] (by kernel_rfl)
def Qr (n0 : Nat) (p0 : List Fld) : List Fld :=
 (Q5q n0 p0 (n0 : Int))
def Q1c2 (n0 : Nat) (p0 : List Fld) : En := .call 133 [.ms 0 6 0 n0, .fn 134 [] []] [⟨6, 0, false, (Fld.rows p0).flatten⟩]
def Qrw (n0 : Nat) (p0 : List Fld) : Rs := .ret (.tup []) [⟨6, 0, false, (Fld.rows (Qr n0 p0)).flatten⟩]
theorem Q2i (n0 : Nat) (p0 : List Fld) (hn : List.length p0 = n0) : List.length (Qr n0 p0) = n0 := by
 unfold Qr
 exact (Qun n0 p0 (n0 : Int) hn)
theorem Q1co (n0 : Nat) (p0 : List Fld) (hn : List.length p0 = n0) (hq0 : (n0 : Int) ≤ 20) : Q7 G (Q1c2 n0 p0) (Qrw n0 p0) := by
 unfold Qrw Qr
 exact Q8 (fn := Ir.K3r) rfl (vk1 (Fld.Q9 p0 6 rfl)) [hQ (Fld.Q9 (Q5q n0 p0 (n0 : Int)) 6 rfl)] [aV [(0, Fld.rows (Q5q n0 p0 (n0 : Int)))] (Q19a n0 p0 (n0 : Int) hn (by omega))] (by kernel_rfl)
def Q3i (p0 : List Fld) : List Fld → Nat → (List Fld) → List Fld
 | [], _i0, v0_1 =>
  v0_1
 | x0 :: r0, i0, v0_1 =>
  bif (((i0 + 1 : Nat) : Int) == ((List.length p0) : Int)) then
   Q3i p0 r0 (i0 + 1) (v0_1 ++ [x0])
  else
   bif (sEq (List.getD (Qr (List.length p0) p0) (Int.toNat ((i0 + 1 : Nat) : Int)) zF).name x0.name) then
    Q3i p0 r0 (i0 + 1) v0_1
   else
    Q3i p0 r0 (i0 + 1) (v0_1 ++ [x0])
def Qd0 (p0 : List Fld) (i0 : Nat) (_v0_1 : List Fld) : List PV :=
  [.un, .un, .bx 0 0, .ms 1 6 0 (List.length p0), .bx 2 0] ++ nuns 7 ++ [.ms 1 6 0 (List.length p0), .int .i64 ((List.length p0) : Int), .int .i64 (i0 : Int)] ++ nuns 29
def Qa0 (p0 : List Fld) (_i0 : Nat) (v0_1 : List Fld) : List Ob :=
  [⟨5, 0, true, [.int .i64 0, .int .i64 0, .str eB, .ms 3 5 0 0, .ms 4 6 0 0]⟩, ⟨6, 0, false, (Fld.rows (Qr (List.length p0) p0)).flatten⟩, ⟨5, 0, true, [.int .i64 5, .int .i64 0, .str eB, .ms 5 5 0 0, .ms 6 6 0 (List.length v0_1)]⟩, ⟨5, 0, true, []⟩, ⟨6, 0, true, []⟩, ⟨5, 0, true, []⟩, ⟨6, 0, true, (Fld.rows v0_1).flatten⟩]
def Q7j (p0 : List Fld) (i0 : Nat) (v0_1 : List Fld) : En := .loop 0 Ir.Qkj Ir.Q1js (Qd0 p0 i0 v0_1) (Qa0 p0 i0 v0_1)
def Qt7 (p0 : List Fld) (q0 : List Fld) (z : Nat → PV) (_zo : Nat → List PV) : St :=
  ⟨[z 0, z 1, .bx 0 0, z 3, .bx 2 0] ++ zr z 5 39, [(0, ⟨5, 0, true, [.int .i64 0, .int .i64 0, .str eB, .ms 3 5 0 0, .ms 4 6 0 0]⟩), (1, ⟨6, 0, false, (Fld.rows (Qr (List.length p0) p0)).flatten⟩), (2, ⟨5, 0, true, [.int .i64 5, .int .i64 0, .str eB, .ms 5 5 0 0, .ms 6 6 0 (List.length q0)]⟩), (3, ⟨5, 0, true, []⟩), (4, ⟨6, 0, true, []⟩), (5, ⟨5, 0, true, []⟩), (6, ⟨6, 0, true, (Fld.rows q0).flatten⟩)], 71⟩
theorem Qhr (p0 : List Fld) (i0 : Nat) (v0_1 : List Fld) : VOK (Go.Pv.look (number 0 (Qa0 p0 i0 v0_1))) [(1, Fld.rows (Qr (List.length p0) p0)), (6, Fld.rows v0_1)] := (VOK.cons (show Seen _ _ from Q3g (ob := ⟨6, 0, false, (Fld.rows (Qr (List.length p0) p0)).flatten⟩) (Fld.Q9 (Qr (List.length p0) p0) 6 rfl)) (VOK.cons (show Seen _ _ from Q3g (ob := ⟨6, 0, true, (Fld.rows v0_1).flatten⟩) (Fld.Q9 v0_1 6 rfl)) VOK.nil))
def Qg0 (p0 : List Fld) (e : En) (q : List Fld) : Prop := ∃ z zo, Q7 G e (.st (.exit 0) (Qt7 p0 q z zo))
theorem Q8v (p0 : List Fld) {e e' : En} (h : ∀ r, Q7 G e r → Q7 G e' r) : ∀ q, Qg0 p0 e q → Qg0 p0 e' q
  | _, ⟨z, zo, hz⟩ => ⟨z, zo, h _ hz⟩
def Qak (p0 : List Fld) : Prop := (List.length (Qr (List.length p0) p0) ≤ 137438953472) ∧ True
def Qpi (p0 : List Fld) (i0 : Nat) (_v0_1 : List Fld) : List PV :=
  [.un, .un, .un, .ms 1 6 0 (List.length p0)] ++ nuns 8 ++ [.ms 1 6 0 (List.length p0), .int .i64 ((List.length p0) : Int), .int .i64 (i0 : Int), .bool false]
def Qo5 (_p0 : List Fld) (_i0 : Nat) (_v0_1 : List Fld) : List (Nat × List PV) :=
  []
theorem Q1ag (p0 : List Fld) (_H : Qak p0) (i0 : Nat) (v0_1 : List Fld) (_ho0_0 : List.length v0_1 ≤ i0) (hc0 : (decide ((i0 : Int) < ((List.length p0) : Int))) = false) : Qg0 p0 (Q7j p0 i0 v0_1) v0_1 := by
 exact ⟨(envF (Qpi p0 i0 v0_1)), (zoF (Qo5 p0 i0 v0_1)), Qg (Qhr p0 i0 v0_1) (x := ((.exit 0), Qt7 p0 v0_1 (envF (Qpi p0 i0 v0_1)) (zoF (Qo5 p0 i0 v0_1)))) [hB 0 hc0] [] (by kernel_rfl)⟩
theorem Q1az (p0 : List Fld) (H : Qak p0) (x0 : Fld) (i0 : Nat) (v0_1 : List Fld) (hx0 : (Qr (List.length p0) p0)[i0]? = some x0) (hi0 : i0 < List.length (Qr (List.length p0) p0)) (ho0_0 : List.length v0_1 ≤ i0) (hc0 : (decide ((i0 : Int) < ((List.length p0) : Int))) = true) (h0 : (((i0 + 1 : Nat) : Int) == ((List.length p0) : Int)) = true) {r : Rs} (hr : Q7 G (Q7j p0 (i0 + 1) (v0_1 ++ [x0])) r) : Q7 G (Q7j p0 i0 v0_1) r := by
 have hB0 := H.1; have e0 := eq_of_beq h0
 exact Qk (Qhr p0 i0 v0_1) (y := (Qd0 p0 (i0 + 1) (v0_1 ++ [x0]), Qa0 p0 (i0 + 1) (v0_1 ++ [x0]))) [hB 0 hc0, hP 1 (Q5s 1 6 (List.length p0) (i0 : Int) i0 (by omega) (by have f1 := (Q2i (List.length p0) p0 rfl); omega) (by have f1 := (Q2i (List.length p0) p0 rfl); omega)), hP 0 (Qdg 1 6 0 false ((Fld.rows (Qr (List.length p0) p0)).flatten) (Fld.rows (Qr (List.length p0) p0)) 6 true i0 0 (i0 * 6) (Fld.cells x0) (.agg [.str x0.name, .int .i64 x0.v.kind, .int .i64 x0.v.n, .str x0.v.s, .sl (Val.rows x0.v.list), .sl (Fld.rows x0.v.fields)]) rfl rfl (Fld.Qc hx0) (Fld.Qm (Qr (List.length p0) p0)) (by decide) rfl), hP 4 (Q22 i0 (by omega)), hB 2 h0, hV 15 [(1735, Fld.rows (v0_1 ++ [x0]))] (Q3z 6 1671 1735 6 96 0 0 true (Fld.rows v0_1) (Fld.rows (v0_1 ++ [x0])) (Fld.cells x0) (List.length v0_1) (List.length (v0_1 ++ [x0])) rfl (Fld.Q5 v0_1).symm (Fld.Q5 (v0_1 ++ [x0])).symm (Fld.Q14 v0_1 x0) (Fld.Qm v0_1) rfl (by omega)), hS 0 true (Fld.Q9 (v0_1 ++ [x0]) 6 rfl), hP 2 (Q22 i0 (by omega))] [] (by kernel_rfl) hr
theorem Q1a4 (p0 : List Fld) (H : Qak p0) (x0 : Fld) (i0 : Nat) (v0_1 : List Fld) (hx0 : (Qr (List.length p0) p0)[i0]? = some x0) (hi0 : i0 < List.length (Qr (List.length p0) p0)) (_ho0_0 : List.length v0_1 ≤ i0) (hc0 : (decide ((i0 : Int) < ((List.length p0) : Int))) = true) (h0 : (((i0 + 1 : Nat) : Int) == ((List.length p0) : Int)) = false) (h1 : (sEq (List.getD (Qr (List.length p0) p0) (Int.toNat ((i0 + 1 : Nat) : Int)) zF).name x0.name) = true) {r : Rs} (hr : Q7 G (Q7j p0 (i0 + 1) v0_1) r) : Q7 G (Q7j p0 i0 v0_1) r := by
 have hB0 := H.1; have e0 := beq_eq_false_iff_ne.1 h0
 exact Qk (Qhr p0 i0 v0_1) (y := (Qd0 p0 (i0 + 1) v0_1, Qa0 p0 (i0 + 1) v0_1)) [hB 0 hc0, hP 1 (Q5s 1 6 (List.length p0) (i0 : Int) i0 (by omega) (by have f1 := (Q2i (List.length p0) p0 rfl); omega) (by have f1 := (Q2i (List.length p0) p0 rfl); omega)), hP 0 (Qdg 1 6 0 false ((Fld.rows (Qr (List.length p0) p0)).flatten) (Fld.rows (Qr (List.length p0) p0)) 6 true i0 0 (i0 * 6) (Fld.cells x0) (.agg [.str x0.name, .int .i64 x0.v.kind, .int .i64 x0.v.n, .str x0.v.s, .sl (Val.rows x0.v.list), .sl (Fld.rows x0.v.fields)]) rfl rfl (Fld.Qc hx0) (Fld.Qm (Qr (List.length p0) p0)) (by decide) rfl), hP 4 (Q22 i0 (by omega)), hB 2 h0, hP 3 (Q22 i0 (by omega)), hP 0 (Q5s 1 6 (List.length p0) ((i0 + 1 : Nat) : Int) (Int.toNat ((i0 + 1 : Nat) : Int)) rfl (by have f1 := (Q2i (List.length p0) p0 rfl); omega) (by have f1 := (Q2i (List.length p0) p0 rfl); omega)), hP 1 (Qdg 1 6 0 false ((Fld.rows (Qr (List.length p0) p0)).flatten) (Fld.rows (Qr (List.length p0) p0)) 1 false (Int.toNat ((i0 + 1 : Nat) : Int)) 0 ((Int.toNat ((i0 + 1 : Nat) : Int)) * 6) (Fld.cells (List.getD (Qr (List.length p0) p0) (Int.toNat ((i0 + 1 : Nat) : Int)) zF)) (.str (List.getD (Qr (List.length p0) p0) (Int.toNat ((i0 + 1 : Nat) : Int)) zF).name) rfl rfl (Fld.Qc (Q2x (Qr (List.length p0) p0) (Int.toNat ((i0 + 1 : Nat) : Int)) zF (by have f1 := (Q2i (List.length p0) p0 rfl); omega))) (Fld.Qm (Qr (List.length p0) p0)) (by decide) rfl), hP 2 (dec (!(sEq (List.getD (Qr (List.length p0) p0) (Int.toNat ((i0 + 1 : Nat) : Int)) zF).name x0.name)) false (by rw [h1]; rfl)), hP 1 (Q22 i0 (by omega))] [] (by kernel_rfl) hr
theorem Q1cg (p0 : List Fld) (H : Qak p0) (x0 : Fld) (i0 : Nat) (v0_1 : List Fld) (hx0 : (Qr (List.length p0) p0)[i0]? = some x0) (hi0 : i0 < List.length (Qr (List.length p0) p0)) (ho0_0 : List.length v0_1 ≤ i0) (hc0 : (decide ((i0 : Int) < ((List.length p0) : Int))) = true) (h0 : (((i0 + 1 : Nat) : Int) == ((List.length p0) : Int)) = false) (h1 : (sEq (List.getD (Qr (List.length p0) p0) (Int.toNat ((i0 + 1 : Nat) : Int)) zF).name x0.name) = false) {r : Rs} (hr : Q7 G (Q7j p0 (i0 + 1) (v0_1 ++ [x0])) r) : Q7 G (Q7j p0 i0 v0_1) r := by
 have hB0 := H.1; have e0 := beq_eq_false_iff_ne.1 h0
 exact Qk (Qhr p0 i0 v0_1) (y := (Qd0 p0 (i0 + 1) (v0_1 ++ [x0]), Qa0 p0 (i0 + 1) (v0_1 ++ [x0]))) [hB 0 hc0, hP 1 (Q5s 1 6 (List.length p0) (i0 : Int) i0 (by omega) (by have f1 := (Q2i (List.length p0) p0 rfl); omega) (by have f1 := (Q2i (List.length p0) p0 rfl); omega)), hP 0 (Qdg 1 6 0 false ((Fld.rows (Qr (List.length p0) p0)).flatten) (Fld.rows (Qr (List.length p0) p0)) 6 true i0 0 (i0 * 6) (Fld.cells x0) (.agg [.str x0.name, .int .i64 x0.v.kind, .int .i64 x0.v.n, .str x0.v.s, .sl (Val.rows x0.v.list), .sl (Fld.rows x0.v.fields)]) rfl rfl (Fld.Qc hx0) (Fld.Qm (Qr (List.length p0) p0)) (by decide) rfl), hP 4 (Q22 i0 (by omega)), hB 2 h0, hP 3 (Q22 i0 (by omega)), hP 0 (Q5s 1 6 (List.length p0) ((i0 + 1 : Nat) : Int) (Int.toNat ((i0 + 1 : Nat) : Int)) rfl (by have f1 := (Q2i (List.length p0) p0 rfl); omega) (by have f1 := (Q2i (List.length p0) p0 rfl); omega)), hP 1 (Qdg 1 6 0 false ((Fld.rows (Qr (List.length p0) p0)).flatten) (Fld.rows (Qr (List.length p0) p0)) 1 false (Int.toNat ((i0 + 1 : Nat) : Int)) 0 ((Int.toNat ((i0 + 1 : Nat) : Int)) * 6) (Fld.cells (List.getD (Qr (List.length p0) p0) (Int.toNat ((i0 + 1 : Nat) : Int)) zF)) (.str (List.getD (Qr (List.length p0) p0) (Int.toNat ((i0 + 1 : Nat) : Int)) zF).name) rfl rfl (Fld.Qc (Q2x (Qr (List.length p0) p0) (Int.toNat ((i0 + 1 : Nat) : Int)) zF (by have f1 := (Q2i (List.length p0) p0 rfl); omega))) (Fld.Qm (Qr (List.length p0) p0)) (by decide) rfl), hP 2 (dec (!(sEq (List.getD (Qr (List.length p0) p0) (Int.toNat ((i0 + 1 : Nat) : Int)) zF).name x0.name)) true (by rw [h1]; rfl)), hV 5 [(1735, Fld.rows (v0_1 ++ [x0]))] (Q3z 6 1671 1735 6 96 0 0 true (Fld.rows v0_1) (Fld.rows (v0_1 ++ [x0])) (Fld.cells x0) (List.length v0_1) (List.length (v0_1 ++ [x0])) rfl (Fld.Q5 v0_1).symm (Fld.Q5 (v0_1 ++ [x0])).symm (Fld.Q14 v0_1 x0) (Fld.Qm v0_1) rfl (by omega)), hS 0 true (Fld.Q9 (v0_1 ++ [x0]) 6 rfl), hP 2 (Q22 i0 (by omega))] [] (by kernel_rfl) hr
theorem Qc7 (p0 : List Fld) (H : Qak p0) : ∀ (r0 : List Fld) (i0 : Nat) (v0_1 : List Fld), List.drop i0 (Qr (List.length p0) p0) = r0 → List.length v0_1 ≤ i0 → Qg0 p0 (Q7j p0 i0 v0_1) (Q3i p0 r0 i0 v0_1)
 | [], i0, v0_1, hd, ho0_0 => by
  have hc0 : (decide ((i0 : Int) < ((List.length p0) : Int))) = false := by have hL := (Q2i (List.length p0) p0 rfl); have := Q19 hd; simp; omega
  rw [Q3i]
  exact Q1ag p0 H i0 v0_1 ho0_0 hc0
 | x0 :: r0, i0, v0_1, hd, ho0_0 => by
  obtain ⟨hx0, hi0, hd'⟩ := Q11 hd
  have hc0 : (decide ((i0 : Int) < ((List.length p0) : Int))) = true := by have hL := (Q2i (List.length p0) p0 rfl); simp; omega
  rw [Q3i]
  cases h0 : (((i0 + 1 : Nat) : Int) == ((List.length p0) : Int)) with
  | true =>
   have e0 := eq_of_beq h0
   exact Q8v p0 (fun r hr => Q1az p0 H x0 i0 v0_1 hx0 hi0 ho0_0 hc0 h0 hr) _ (Qc7 p0 H r0 (i0 + 1) (v0_1 ++ [x0]) hd' (by first | omega | (simp; omega)))
  | false =>
   have e0 := beq_eq_false_iff_ne.1 h0
   cases h1 : (sEq (List.getD (Qr (List.length p0) p0) (Int.toNat ((i0 + 1 : Nat) : Int)) zF).name x0.name) with
   | true =>
    exact Q8v p0 (fun r hr => Q1a4 p0 H x0 i0 v0_1 hx0 hi0 ho0_0 hc0 h0 h1 hr) _ (Qc7 p0 H r0 (i0 + 1) v0_1 hd' (by first | omega | (simp; omega)))
   | false =>
    exact Q8v p0 (fun r hr => Q1cg p0 H x0 i0 v0_1 hx0 hi0 ho0_0 hc0 h0 h1 hr) _ (Qc7 p0 H r0 (i0 + 1) (v0_1 ++ [x0]) hd' (by first | omega | (simp; omega)))
def Q6d (p0 : List Fld) : Val :=
 (Val.mk 5 0 eB [] (Q3i p0 (Qr (List.length p0) p0) 0 []))
def Q95 (p0 : List Fld) : En := .call 61 [.sl (Fld.rows p0)] []
def Q1ot (p0 : List Fld) : Rs := .ret (.agg (Val.cells (Q6d p0))) []
def Q8y (p0 : List Fld) : Prop := (List.length p0 * 96 ≤ 140737488355328) ∧ (((List.length p0) : Int) ≤ 20) ∧ (Qak p0) ∧ (Qp2 (Val.mk 5 0 eB [] (Q3i p0 (Qr (List.length p0) p0) 0 []))) ∧ True
theorem Q99 (p0 : List Fld) (H : Q8y p0) : Q7 G (Q95 p0) (Q1ot p0) := by
 unfold Q1ot Q6d
 have hl0 := Qc7 p0 (H.2.2.1) (Qr (List.length p0) p0) 0 [] (by simp) (by simp)
 obtain ⟨z0, zo0, hl0⟩ := hl0
 exact Q8 (fn := Ir.K3z) rfl VOK.nil [hQ (Fld.Q9 p0 6 rfl), hQ (Fld.Q9 (Qr (List.length p0) p0) 6 rfl), hS 0 false (Fld.Q9 (Qr (List.length p0) p0) 6 rfl), hS 0 true (Fld.Q9 (Q3i p0 (Qr (List.length p0) p0) 0 []) 6 rfl), hQ (Fld.Q5 (Q3i p0 (Qr (List.length p0) p0) 0 [])).symm] [aV [(0, Fld.rows p0)] (Q8z (G := G) (f := 132) (sz := 6) (bytes := 96) rfl (Fld.Q5 p0) (Fld.Q9 p0 6 rfl) H.1), aV [(0, Fld.rows (Qr (List.length p0) p0))] (Q1co (List.length p0) p0 rfl (H.2.1)), aV [(1, Fld.rows (Qr (List.length p0) p0)), (6, Fld.rows (Q3i p0 (Qr (List.length p0) p0) 0 []))] hl0, aN (Q1l2 (Val.mk 5 0 eB [] (Q3i p0 (Qr (List.length p0) p0) 0 [])) H.2.2.2.1)] (by kernel_rfl)
end Go.Proofs.YtiflaadeikaghaaGreat
end

section
/- The library's stable sort as plain functions on lists, and what it answers: the stably sorted list. Program-free. -/
namespace Go.Pv.Srt
section
variable {α : Type} (z : α) (c : α → α → Int)
def gt (d : List α) (i : Int) : α := d.getD i.toNat z
def sw (d : List α) (i j : Int) : List α := (d.set i.toNat (gt z d j)).set j.toNat (gt z d i)
def ins1 (a : Int) : Nat → List α → Int → List α
 | 0, v, _ => v
 | k + 1, v, j => bif decide (a < j) then (bif decide (c (gt z v j) (gt z v (j - 1)) < 0) then ins1 a k (sw z v j (j - 1)) (j - 1) else v) else v
def ins0 (a b : Int) : Nat → Int → List α → List α
 | 0, _, v => v
 | k + 1, i, v => bif decide (i < b) then ins0 a b k (i + 1) (ins1 z c a (i.toNat + 1) v i) else v
def ins (d : List α) (a b : Int) : List α := ins0 z c a b ((b - (a + 1)).toNat + 1) (a + 1) d
theorem Q1h7 {d A C : List α} {x : α} {i : Int} (hd : d = A ++ x :: C) (hi : i = (A.length : Int)) : gt z d i = x := by
 subst hd hi
 simp [gt]
theorem Q1iy {A C : List α} {x y : α} {i : Int} (hi : i = (A.length : Int)) : (A ++ x :: C).set i.toNat y = A ++ y :: C := by
 subst hi
 simp
theorem Q1lf {A M C : List α} {x y : α} {i j : Int} (hi : i = (A.length : Int)) (hj : j = (A.length : Int) + 1 + (M.length : Int)) : sw z (A ++ x :: (M ++ y :: C)) j i = A ++ y :: (M ++ x :: C) := by
 have e1 : gt z (A ++ x :: (M ++ y :: C)) i = x := Q1h7 z rfl hi
 have e2 : gt z (A ++ x :: (M ++ y :: C)) j = y := Q1h7 z (A := A ++ x :: M) (C := C) (by simp) (by simp; omega)
 unfold sw
 rw [e1, e2]
 have e3 : A ++ x :: (M ++ y :: C) = (A ++ x :: M) ++ y :: C := by simp
 rw [e3, Q1iy (A := A ++ x :: M) (by simp; omega)]
 have e4 : (A ++ x :: M) ++ x :: C = A ++ x :: (M ++ x :: C) := by simp
 rw [e4, Q1iy hi]
def insR (x : α) : List α → List α
 | [] => [x]
 | s :: t => bif decide (c x s < 0) then s :: insR x t else x :: s :: t
def Qdi (l : List α) : List α := (l.foldl (fun r x => insR c x r) []).reverse
theorem Q105 (a : Int) (A : List α) (x : α) (ha : a = (A.length : Int)) : ∀ (R C : List α) (k : Nat) (j : Int), j = (A.length : Int) + (R.length : Int) → R.length < k → ins1 z c a k (A ++ (R.reverse ++ x :: C)) j = A ++ ((insR c x R).reverse ++ C)
 | _, _, 0, _, _, h => absurd h (Nat.not_lt_zero _)
 | [], C, k + 1, j, hj, _ => by
  rw [ins1, show decide (a < j) = false by simp at hj ⊢; omega]
  simp [insR]
 | s :: t, C, k + 1, j, hj, hk => by
  simp only [List.length_cons] at hj hk
  have e0 : A ++ ((s :: t).reverse ++ x :: C) = (A ++ t.reverse) ++ s :: ([] ++ x :: C) := by simp
  rw [ins1, show decide (a < j) = true by simp; omega, cond_true, e0]
  have e1 : gt z ((A ++ t.reverse) ++ s :: ([] ++ x :: C)) j = x := Q1h7 z (A := A ++ t.reverse ++ [s]) (C := C) (by simp) (by simp; omega)
  have e2 : gt z ((A ++ t.reverse) ++ s :: ([] ++ x :: C)) (j - 1) = s := Q1h7 z (A := A ++ t.reverse) rfl (by simp; omega)
  rw [e1, e2, insR]
  cases decide (c x s < 0) with
  | true =>
   rw [cond_true, cond_true, Q1lf z (by simp; omega) (by simp; omega)]
   have e3 : (A ++ t.reverse) ++ x :: ([] ++ s :: C) = A ++ (t.reverse ++ x :: (s :: C)) := by simp
   rw [e3, Q105 a A x ha t (s :: C) k (j - 1) (by omega) (by omega)]
   simp
  | false => simp
theorem Q11u (a b : Int) (A : List α) (ha : a = (A.length : Int)) : ∀ (M R C : List α) (k : Nat) (i : Int), i = (A.length : Int) + (R.length : Int) → b = i + (M.length : Int) → M.length < k →
  ins0 z c a b k i (A ++ (R.reverse ++ (M ++ C))) = A ++ ((M.foldl (fun r x => insR c x r) R).reverse ++ C)
 | _, _, _, 0, _, _, _, h => absurd h (Nat.not_lt_zero _)
 | [], R, C, k + 1, i, hi, hb, _ => by
  rw [ins0, show decide (i < b) = false by simp at hb ⊢; omega]
  simp
 | x :: M, R, C, k + 1, i, hi, hb, hk => by
  simp only [List.length_cons] at hb hk
  rw [ins0, show decide (i < b) = true by simp; omega, cond_true, List.cons_append, Q105 z c a A x ha R (M ++ C) _ i hi (by omega)]
  have hl : (insR c x R).length = R.length + 1 := by
   clear hi hb hk
   induction R with
   | nil => rfl
   | cons s t ih => rw [insR]; cases decide (c x s < 0) <;> simp [ih]
  rw [Q11u a b A ha M (insR c x R) C k (i + 1) (by omega) (by omega) (by omega)]
  rfl
theorem Qvw {d A M C : List α} {a b : Int} (hd : d = A ++ (M ++ C)) (ha : a = (A.length : Int)) (hb : b = a + (M.length : Int)) : ins z c d a b = A ++ (Qdi c M ++ C) := by
 subst hd
 unfold ins Qdi
 cases M with
 | nil =>
  simp only [List.length_nil, Int.ofNat_zero] at hb
  rw [ins0, show decide (a + 1 < b) = false by simp; omega]
  rfl
 | cons x M =>
  simp only [List.length_cons] at hb
  have e : A ++ (x :: M ++ C) = A ++ ([x].reverse ++ (M ++ C)) := by simp
  rw [e, Q11u z c a b A ha M [x] C _ _ (by simp; omega) (by omega) (by omega)]
  rfl
end
end Go.Pv.Srt
end

section
/- The library's stable sort: its merging, and that it answers the stably sorted list. Program-free. -/
namespace Go.Pv.Srt
section
variable {α : Type} (z : α) (c : α → α → Int)
structure Tot : Prop where
  asym : ∀ x y, c x y < 0 → ¬ c y x < 0
  tr : ∀ x y w, ¬ c y x < 0 → ¬ c w y < 0 → ¬ c w x < 0
def le (x y : α) : Prop := ¬ c y x < 0
def Up (l : List α) : Prop := l.Pairwise (le c)
def eqv (x y : α) : Bool := decide (¬ c x y < 0) && decide (¬ c y x < 0)
def F (l r : List α) : Prop := l.length = r.length ∧ ∀ x, l.filter (eqv c x) = r.filter (eqv c x)
variable {c}
theorem F.rfl {l : List α} : F c l l := ⟨Eq.refl _, fun _ => Eq.refl _⟩
theorem F.trans {l r s : List α} (h : F c l r) (g : F c r s) : F c l s := ⟨h.1.trans g.1, fun x => (h.2 x).trans (g.2 x)⟩
theorem F.symm {l r : List α} (h : F c l r) : F c r l := ⟨h.1.symm, fun x => (h.2 x).symm⟩
theorem F.app {l r l' r' : List α} (h : F c l r) (g : F c l' r') : F c (l ++ l') (r ++ r') :=
 ⟨by rw [List.length_append, List.length_append, h.1, g.1], fun x => by rw [List.filter_append, List.filter_append, h.2 x, g.2 x]⟩
theorem Tot.refl (T : Tot c) (x : α) : ¬ c x x < 0 := fun h => T.asym x x h h
theorem Q1ha (T : Tot c) (x : α) : eqv c x x = true := by simpa [eqv] using T.refl x
theorem F.mem (T : Tot c) {l r : List α} (h : F c l r) {x : α} (hx : x ∈ l) : x ∈ r := by
 have h1 : x ∈ l.filter (eqv c x) := List.mem_filter.2 ⟨hx, Q1ha T x⟩
 rw [h.2 x] at h1
 exact (List.mem_filter.1 h1).1
theorem F.swap (T : Tot c) {A B : List α} (h : ∀ a ∈ A, ∀ b ∈ B, c b a < 0) : F c (A ++ B) (B ++ A) := by
  refine ⟨by simp [Nat.add_comm], fun x => ?_⟩
  rw [List.filter_append, List.filter_append]
  by_cases hA : A.filter (eqv c x) = []
  · rw [hA]
    simp
  · have hB : B.filter (eqv c x) = [] := by
      obtain ⟨a, ha⟩ := List.exists_mem_of_ne_nil _ hA
      obtain ⟨ha, hxa⟩ := List.mem_filter.1 ha
      refine List.filter_eq_nil_iff.2 fun b hb hxb => ?_
      simp only [eqv, Bool.and_eq_true, decide_eq_true_eq] at hxa hxb
      exact T.tr a x b hxa.1 hxb.2 (h a ha b hb)
    rw [hB]
    simp
theorem Q15q {x y : α} : ∀ {R : List α}, y ∈ insR c x R → y = x ∨ y ∈ R
  | [], h => by simpa [insR] using h
  | s :: t, h => by
    rw [insR] at h
    cases hd : decide (c x s < 0) with
    | true =>
      rw [hd, cond_true] at h
      rcases List.mem_cons.1 h with e | e
      · exact Or.inr (by simp [e])
      · rcases Q15q e with e | e
        · exact Or.inl e
        · exact Or.inr (List.mem_cons_of_mem _ e)
    | false =>
      rw [hd, cond_false] at h
      rcases List.mem_cons.1 h with e | e
      · exact Or.inl e
      · exact Or.inr e
theorem Q1en (T : Tot c) (x : α) : ∀ {R : List α}, R.Pairwise (fun a b => le c b a) → (insR c x R).Pairwise (fun a b => le c b a)
  | [], _ => by simp [insR]
  | s :: t, h => by
    have h' := List.pairwise_cons.1 h
    rw [insR]
    by_cases hd : c x s < 0
    · rw [show decide (c x s < 0) = true by simpa using hd, cond_true]
      refine List.pairwise_cons.2 ⟨fun y hy => ?_, Q1en T x h'.2⟩
      rcases Q15q hy with e | e
      · subst e
        exact T.asym _ _ hd
      · exact h'.1 y e
    · rw [show decide (c x s < 0) = false by simpa using hd, cond_false]
      refine List.pairwise_cons.2 ⟨fun y hy => ?_, h⟩
      rcases List.mem_cons.1 hy with e | e
      · subst e
        exact hd
      · exact T.tr y s x (h'.1 y e) hd
theorem Q1jd (T : Tot c) (x : α) : ∀ (R : List α), F c (R.reverse ++ [x]) (insR c x R).reverse
  | [] => F.rfl
  | s :: t => by
    rw [insR]
    by_cases hd : c x s < 0
    · rw [show decide (c x s < 0) = true by simpa using hd, cond_true, List.reverse_cons, List.reverse_cons, List.append_assoc]
      have h1 : F c ([s] ++ [x]) ([x] ++ [s]) := F.swap T (by simpa using hd)
      exact (F.rfl.app h1).trans (by rw [← List.append_assoc]; exact (Q1jd T x t).app F.rfl)
    · rw [show decide (c x s < 0) = false by simpa using hd, cond_false, List.reverse_cons (a := x)]
      exact F.rfl
theorem Q12l (T : Tot c) : ∀ (M R : List α), R.Pairwise (fun a b => le c b a) → (M.foldl (fun r x => insR c x r) R).Pairwise (fun a b => le c b a) ∧ F c (R.reverse ++ M) (M.foldl (fun r x => insR c x r) R).reverse
 | [], R, h => ⟨h, by simpa using F.rfl⟩
 | x :: M, R, h => by
  obtain ⟨h1, h2⟩ := Q12l T M (insR c x R) (Q1en T x h)
  refine ⟨h1, F.trans ?_ h2⟩
  have e : R.reverse ++ x :: M = (R.reverse ++ [x]) ++ M := by simp
  rw [e]
  exact (Q1jd T x R).app F.rfl
theorem Q14k (T : Tot c) (l : List α) : Up c (Qdi c l) := by
 unfold Up Qdi
 rw [List.pairwise_reverse]
 exact (Q12l T l [] List.Pairwise.nil).1
theorem Q1e5 (T : Tot c) (l : List α) : F c l (Qdi c l) := (Q12l T l [] List.Pairwise.nil).2
def bs (g : Int → Bool) : Nat → Int → Int → Int
 | 0, i, _ => i
 | k + 1, i, j => bif decide (i < j) then (bif g ((i + j) / 2) then bs g k ((i + j) / 2 + 1) j else bs g k i ((i + j) / 2)) else i
end
end Go.Pv.Srt
end

section
/- The library's stable sort: symmetric merging and the sort as a whole answer the stably sorted list. Program-free. -/
namespace Go.Pv.Srt
section
variable {α : Type} (z : α) (c : α → α → Int)
def st1 (d : List α) (a m b : Int) : Int := bs (fun h => decide (c (gt z d h) (gt z d a) < 0)) ((b - m).toNat + 1) m b
variable {c}
end
end Go.Pv.Srt
end

section
/- The library's stable sort: merging in general, blocks, the whole. Program-free. -/
namespace Go.Pv.Srt
section
variable {α : Type} (z : α) {c : α → α → Int}
end
end Go.Pv.Srt
end

section
/- The library's stable sort: blocks, and the whole: it answers what insertion answers. Program-free. -/
namespace Go.Pv.Srt
section
variable {α : Type} (z : α) (c : α → α → Int)
inductive Bl (s : Nat) : List α → Prop
  | last {l : List α} : l.length ≤ s → Up c l → Bl s l
  | cons {l r : List α} : l.length = s → Up c l → Bl s r → Bl s (l ++ r)
inductive Fu (s : Nat) : List α → Prop
  | nil : Fu s []
  | snoc {p l : List α} : Fu s p → l.length = s → Up c l → Fu s (p ++ l)
variable {c}
theorem Bl.one {s : Nat} {Q : List α} (h : Bl c s Q) (hl : Q.length ≤ s) : Up c Q := by
 cases h with
 | last _ h => exact h
 | cons h1 h2 h3 =>
  rename_i l r
  rw [List.length_append] at hl
  rw [List.length_eq_zero_iff.1 (show r.length = 0 by omega), List.append_nil]
  exact h2
theorem Bl.split {s : Nat} {Q : List α} (h : Bl c s Q) (hl : s < Q.length) : ∃ l r, Q = l ++ r ∧ l.length = s ∧ Up c l ∧ Bl c s r := by
 cases h with
 | last h _ => omega
 | cons h1 h2 h3 => exact ⟨_, _, rfl, h1, h2, h3⟩
end
end Go.Pv.Srt
end

section
/- Comparisons that answer -1, 0 or 1; the order of strings. -/
namespace Go.Pv
def R3 (a : Int) : Prop := a = -1 ∨ a = 0 ∨ a = 1
def T3 (a b e : Int) : Prop := (a = 0 → e = b) ∧ (b = 0 → e = a) ∧ (a = b → e = a)
def lx (a b : Int) : Int := if a = 0 then b else a
def icmp (a b : Int) : Int := if a < b then -1 else if b < a then 1 else 0
theorem Q1pz (a b : Int) : lx (-a) (-b) = -lx a b := by
 unfold lx
 split <;> split <;> omega
theorem Q1u1 {a b e a' b' e' : Int} (_ha : R3 a) (_hb : R3 b) (_he : R3 e) (t : T3 a b e) (t' : T3 a' b' e') : T3 (lx a a') (lx b b') (lx e e') := by
 unfold T3 at *
 unfold lx R3 at *
 split <;> split <;> split <;> omega
theorem Q13e (a b : Int) : R3 (icmp a b) := by
  unfold icmp R3
  split
  · omega
  · split <;> omega
theorem Q1ib (a b : Int) : icmp b a = -icmp a b := by
 unfold icmp
 split <;> split <;> first | omega | (split <;> omega) | skip
 all_goals omega
theorem Q1n4 (a b e : Int) : T3 (icmp a b) (icmp b e) (icmp a e) := by
 unfold T3 icmp
 split <;> split <;> split <;> (try split) <;> (try split) <;> (try split) <;> omega
theorem Q1ge {a b : Int} : icmp a b = 0 ↔ a = b := by
  unfold icmp
  constructor
  · intro h
    split at h
    · omega
    · split at h <;> omega
  · intro h
    rw [if_neg (by omega), if_neg (by omega)]
theorem Q12k : ∀ a b : List UInt8, R3 (cmpL a b)
  | [], [] => Or.inr (Or.inl rfl)
  | [], _ :: _ => Or.inl rfl
  | _ :: _, [] => Or.inr (Or.inr rfl)
  | x :: a, y :: b => by
    rw [cmpL]
    split
    · exact Or.inl rfl
    · split
      · exact Or.inr (Or.inr rfl)
      · exact Q12k a b
theorem Q8g (x y : UInt8) (a b : List UInt8) : cmpL (x :: a) (y :: b) = lx (icmp (x.toNat : Int) (y.toNat : Int)) (cmpL a b) := by
  rw [cmpL]
  unfold lx icmp
  simp only [UInt8.lt_iff_toNat_lt]
  by_cases h1 : x.toNat < y.toNat
  · rw [if_pos h1, if_pos (show (x.toNat : Int) < (y.toNat : Int) by omega)]
    rfl
  · by_cases h2 : y.toNat < x.toNat
    · rw [if_neg h1, if_pos h2, if_neg (show ¬ (x.toNat : Int) < (y.toNat : Int) by omega), if_pos (show (y.toNat : Int) < (x.toNat : Int) by omega)]
      rfl
    · rw [if_neg h1, if_neg h2, if_neg (show ¬ (x.toNat : Int) < (y.toNat : Int) by omega), if_neg (show ¬ (y.toNat : Int) < (x.toNat : Int) by omega)]
      rfl
theorem Qus : ∀ a b : List UInt8, cmpL b a = -cmpL a b
 | [], [] => rfl
 | [], _ :: _ => rfl
 | _ :: _, [] => rfl
 | x :: a, y :: b => by rw [Q8g, Q8g, Qus a b, Q1ib (x.toNat : Int) (y.toNat : Int), Q1pz]
theorem Q1gd : ∀ a b d : List UInt8, T3 (cmpL a b) (cmpL b d) (cmpL a d)
 | [], [], [] => by simp [T3, cmpL]
 | [], [], _ :: _ => by simp [T3, cmpL]
 | [], _ :: _, [] => by simp [T3, cmpL]
 | [], _ :: _, _ :: _ => by simp [T3, cmpL]
 | _ :: _, [], [] => by simp [T3, cmpL]
 | _ :: _, [], _ :: _ => by simp [T3, cmpL]
 | x :: a, y :: b, [] => by
  have h := Q12k (x :: a) (y :: b)
  unfold R3 at h
  unfold T3
  rw [show cmpL (y :: b) [] = 1 from rfl, show cmpL (x :: a) [] = 1 from rfl]
  omega
 | x :: a, y :: b, w :: d => by
  rw [Q8g, Q8g, Q8g]
  exact Q1u1 (Q13e _ _) (Q13e _ _) (Q13e _ _) (Q1n4 _ _ _) (Q1gd a b d)
theorem Qy1 : ∀ a b : List UInt8, cmpL a b = 0 → a = b
  | [], [], _ => rfl
  | [], _ :: _, h => by simp [cmpL] at h
  | _ :: _, [], h => by simp [cmpL] at h
  | x :: a, y :: b, h => by
    rw [Q8g] at h
    unfold lx at h
    split at h
    · rename_i e
      have := Q1ge.1 e
      rw [UInt8.toNat_inj.1 (show x.toNat = y.toNat by omega), Qy1 a b h]
    · omega
theorem Q1fi (a : List UInt8) : cmpL a a = 0 := by
 have := Qus a a
 omega
theorem Qkl (a b : ByteArray) : R3 (sCmp a b) := Q12k _ _
theorem Q7o (a b : ByteArray) : sCmp b a = -sCmp a b := Qus _ _
theorem Q1gc (a b d : ByteArray) : T3 (sCmp a b) (sCmp b d) (sCmp a d) := Q1gd _ _ _
theorem Qx3 {a b : ByteArray} : sCmp a b = 0 ↔ a = b := ⟨fun h => toList_inj (Qy1 _ _ h), fun h => by rw [h]; exact Q1fi _⟩
end Go.Pv
end

section
/- Lists of fields: strictly sorted lists are known by their members; keeping the last field of each name of a sorted list; putting a field into a sorted list. -/
namespace Go.Pv
open Srt
theorem Q9j (a : ByteArray) : sCmp a a = 0 := Qx3.2 rfl
theorem Q12j {a b d : ByteArray} (h : sCmp a b < 0) (g : sCmp b d < 0) : sCmp a d < 0 := by
 have t := Q1gc a b d
 have h1 := Qkl a b
 have h2 := Qkl b d
 unfold R3 at h1 h2
 unfold T3 at t
 omega
theorem Q1j8 {a b : ByteArray} : sEq a b = false ↔ a ≠ b := by
 cases h : sEq a b with
 | true => simp [Q9d.1 h]
 | false => exact ⟨fun _ e => (by rw [Q9d.2 e] at h; cases h), fun _ => rfl⟩
theorem Qgj (a b : ByteArray) : sCmp a b < 0 ∨ a = b ∨ sCmp b a < 0 := by
  have h1 := Qkl a b
  have h2 := Q7o a b
  have h3 : sCmp a b = 0 → a = b := Qx3.1
  unfold R3 at h1
  by_cases e : sCmp a b = 0
  · exact .inr (.inl (h3 e))
  · omega
theorem Qac {α : Type} (f : α → ByteArray) : Tot (fun x y : α => sCmp (f x) (f y)) := by
  refine ⟨fun x y h => ?_, fun x y w h g => ?_⟩
  · rw [Q7o]
    omega
  · have t := Q1gc (f w) (f y) (f x)
    have h1 := Qkl (f w) (f y)
    have h2 := Qkl (f y) (f x)
    rw [Q7o] at h
    rw [Q7o] at g
    have h3 := Q7o (f w) (f y)
    have h4 := Q7o (f y) (f x)
    have h5 := Q7o (f y) (f w)
    have h6 := Q7o (f x) (f y)
    unfold R3 at h1 h2
    unfold T3 at t
    omega
abbrev nlt (x y : Fld) : Prop := sCmp x.name y.name < 0
def SS (l : List Fld) : Prop := l.Pairwise nlt
theorem SS.cons {x : Fld} {l : List Fld} : SS (x :: l) ↔ (∀ y ∈ l, nlt x y) ∧ SS l := List.pairwise_cons
theorem SS.nil : SS [] := List.Pairwise.nil
theorem Q132 (x : Fld) : ¬ nlt x x := by unfold nlt; rw [Q9j]; omega
theorem Q1ju : ∀ {l r : List Fld}, SS l → SS r → (∀ f, f ∈ l ↔ f ∈ r) → l = r
  | [], [], _, _, _ => rfl
  | [], y :: r, _, _, h => by have := (h y).2 List.mem_cons_self; cases this
  | x :: l, [], _, _, h => by have := (h x).1 List.mem_cons_self; cases this
  | x :: l, y :: r, hl, hr, h => by
    obtain ⟨hx, hl'⟩ := SS.cons.1 hl
    obtain ⟨hy, hr'⟩ := SS.cons.1 hr
    have e : x = y := by
      rcases List.mem_cons.1 ((h x).1 List.mem_cons_self) with e | e
      · exact e
      · rcases List.mem_cons.1 ((h y).2 List.mem_cons_self) with e' | e'
        · exact e'.symm
        · exact absurd (Q12j (hx y e') (hy x e)) (Q132 x)
    subst e
    have k1 : ∀ f, f ∈ l → f ∈ r := fun f hf => by
      rcases List.mem_cons.1 ((h f).1 (List.mem_cons_of_mem _ hf)) with e | e
      · subst e; exact absurd (hx _ hf) (Q132 _)
      · exact e
    have k2 : ∀ f, f ∈ r → f ∈ l := fun f hf => by
      rcases List.mem_cons.1 ((h f).2 (List.mem_cons_of_mem _ hf)) with e | e
      · subst e; exact absurd (hy _ hf) (Q132 _)
      · exact e
    rw [Q1ju hl' hr' fun f => ⟨k1 f, k2 f⟩]
theorem SS.filter {l : List Fld} (h : SS l) (p : Fld → Bool) : SS (l.filter p) := h.sublist List.filter_sublist
theorem SS.inj {l : List Fld} (h : SS l) {x y : Fld} (hx : x ∈ l) (hy : y ∈ l) (e : x.name = y.name) : x = y := by
  induction l with
  | nil => cases hx
  | cons z l ih =>
    obtain ⟨hz, hl⟩ := SS.cons.1 h
    rcases List.mem_cons.1 hx with e1 | hx' <;> rcases List.mem_cons.1 hy with e2 | hy'
    · rw [e1, e2]
    · subst e1; have := hz y hy'; unfold nlt at this; rw [e, Q9j] at this; omega
    · subst e2; have := hz x hx'; unfold nlt at this; rw [e, Q9j] at this; omega
    · exact ih hl hx' hy'
def lastOf (l : List Fld) (f : Fld) : Prop := (l.filter fun y => decide (y.name = f.name)).getLast? = some f
theorem Qef (f : Fld) : ¬ lastOf [] f := by simp [lastOf]
theorem Qbi (x f : Fld) (l : List Fld) : lastOf (x :: l) f ↔ lastOf l f ∨ (f = x ∧ ∀ y ∈ l, y.name ≠ x.name) := by
  unfold lastOf
  by_cases h : x.name = f.name
  · rw [List.filter_cons_of_pos (by simpa using h)]
    cases e : l.filter fun y => decide (y.name = f.name) with
    | nil =>
      have := List.filter_eq_nil_iff.1 e
      simp only [List.getLast?_singleton, Option.some.injEq, List.getLast?_nil, reduceCtorEq, false_or]
      exact ⟨fun g => ⟨g.symm, fun y hy => by have := this y hy; rw [h]; simpa using this⟩, fun g => g.1.symm⟩
    | cons a r =>
      rw [List.getLast?_cons_cons]
      refine ⟨.inl, fun g => ?_⟩
      rcases g with g | g
      · exact g
      · have : a ∈ l.filter fun y => decide (y.name = f.name) := by rw [e]; exact List.mem_cons_self
        obtain ⟨h1, h2⟩ := List.mem_filter.1 this
        exact absurd ((of_decide_eq_true h2).trans (by rw [g.1])) (g.2 a h1)
  · rw [List.filter_cons_of_neg (by simpa using h)]
    exact ⟨.inl, fun g => by
      rcases g with g | g
      · exact g
      · exact absurd (by rw [g.1]) h⟩
theorem Q1cp {l : List Fld} {f : Fld} (h : lastOf l f) : f ∈ l := (List.mem_filter.1 (List.mem_of_getLast? h)).1
theorem Q1do {l : List Fld} (h : SS l) (f : Fld) : lastOf l f ↔ f ∈ l := by
 induction l with
 | nil => exact ⟨fun g => absurd g (Qef f), fun g => by cases g⟩
 | cons x l ih =>
  obtain ⟨hx, hl⟩ := SS.cons.1 h
  rw [Qbi, ih hl, List.mem_cons]
  exact ⟨fun g => g.elim .inr fun g => .inl g.1, fun g => g.elim (fun g => .inr ⟨g, fun y hy e => by have := hx y hy; unfold nlt at this; rw [e, Q9j] at this; omega⟩) .inl⟩
def lasts : List Fld → List Fld
 | [] => []
 | [x] => [x]
 | x :: y :: r => bif sEq y.name x.name then lasts (y :: r) else x :: lasts (y :: r)
abbrev cNm (x y : Fld) : Int := sCmp x.name y.name
theorem Qzd : ∀ (l : List Fld), Up cNm l → ∀ f, f ∈ lasts l ↔ lastOf l f
  | [], _, f => ⟨fun g => (by cases g), fun g => absurd g (Qef f)⟩
  | [x], _, f => by
    rw [Qbi]
    simp [lasts, Qef]
  | x :: y :: r, h, f => by
    have h' := List.pairwise_cons.1 h
    have ih := Qzd (y :: r) h'.2 f
    rw [lasts, Qbi]
    cases e : sEq y.name x.name with
    | true =>
      rw [cond_true, ih]
      exact ⟨.inl, fun g => g.elim id fun g => absurd (Q9d.1 e) (g.2 y List.mem_cons_self)⟩
    | false =>
      rw [cond_false, List.mem_cons, ih]
      refine ⟨fun g => g.elim (fun g => .inr ⟨g, fun w hw hn => ?_⟩) .inl, fun g => g.elim .inr fun g => .inl g.1⟩
      have e := Q1j8.1 e
      rcases List.mem_cons.1 hw with rfl | hw
      · exact e hn
      · have h1 := (List.pairwise_cons.1 h'.2).1 w hw
        have h2 := h'.1 y List.mem_cons_self
        unfold le cNm at h1 h2
        rw [hn] at h1
        rcases Qgj x.name y.name with g | g | g
        · exact h1 g
        · exact e g.symm
        · exact h2 g
theorem Qbr : ∀ (l : List Fld), (lasts l).Sublist l
 | [] => List.Sublist.slnil
 | [x] => List.Sublist.refl _
 | x :: y :: r => by
  rw [lasts]
  cases sEq y.name x.name with
  | true => exact (Qbr (y :: r)).cons x
  | false => exact (Qbr (y :: r)).cons_cons x
theorem Q1hn (l : List Fld) (h : Up cNm l) : SS (lasts l) := by
  induction l with
  | nil => exact SS.nil
  | cons x l ih =>
    cases l with
    | nil => exact SS.cons.2 ⟨fun _ g => (by cases g), SS.nil⟩
    | cons y r =>
      have h' := List.pairwise_cons.1 h
      rw [lasts]
      cases e : sEq y.name x.name with
      | true => exact ih h'.2
      | false =>
        rw [cond_false]
        refine SS.cons.2 ⟨fun w hw => ?_, ih h'.2⟩
        have e := Q1j8.1 e
        have h2 := h'.1 y List.mem_cons_self
        unfold le cNm at h2
        have hxy : sCmp x.name y.name < 0 := by
          rcases Qgj x.name y.name with g | g | g
          · exact g
          · exact absurd g.symm e
          · exact absurd g h2
        rcases List.mem_cons.1 ((Qbr _).mem hw) with rfl | hw
        · exact hxy
        · have h1 := (List.pairwise_cons.1 h'.2).1 w hw
          unfold le cNm at h1
          unfold nlt
          rcases Qgj y.name w.name with g | g | g
          · exact Q12j hxy g
          · rw [← g]; exact hxy
          · exact absurd g h1
theorem Q1pa (x y : Fld) : Srt.eqv cNm x y = decide (y.name = x.name) := by
  unfold Srt.eqv cNm
  have h1 : (y.name = x.name) ↔ (¬ sCmp x.name y.name < 0 ∧ ¬ sCmp y.name x.name < 0) := by
    constructor
    · intro e; rw [e, Q9j]; omega
    · intro ⟨g1, g2⟩
      rcases Qgj x.name y.name with g | g | g
      · exact absurd g g1
      · exact g.symm
      · exact absurd g g2
  rw [← Bool.decide_and]
  exact decide_eq_decide.2 h1.symm
theorem Q1il {l r : List Fld} (h : F cNm l r) (f : Fld) : lastOf l f ↔ lastOf r f := by
 have := h.2 f
 unfold lastOf
 rw [show (fun y : Fld => decide (y.name = f.name)) = Srt.eqv cNm f from funext fun y => (Q1pa f y).symm, this]
def mapOf (l : List Fld) : List Fld := lasts (Qdi cNm l)
theorem Q1ig (l : List Fld) : SS (mapOf l) := Q1hn _ (Q14k (Qac Fld.name) l)
theorem Q10b (l : List Fld) (f : Fld) : f ∈ mapOf l ↔ lastOf l f := by
 unfold mapOf
 rw [Qzd _ (Q14k (Qac Fld.name) l)]
 exact (Q1il (Q1e5 (Qac Fld.name) l) f).symm
theorem Q12w {l : List Fld} (h : SS l) : mapOf l = l := Q1ju (Q1ig l) h fun f => by rw [Q10b, Q1do h]
theorem Qkc {α : Type} (c : α → α → Int) (T : Tot c) (l : List α) : (Qdi c l).length = l.length := (Q1e5 T l).1.symm
theorem Q1d8 (l : List Fld) : (mapOf l).length ≤ l.length := Nat.le_trans (Qbr _).length_le (Nat.le_of_eq (Qkc _ (Qac Fld.name) l))
theorem Q1e2 {l : List Fld} {f : Fld} (h : f ∈ mapOf l) : f ∈ l := Q1cp ((Q10b l f).1 h)
end Go.Pv
end

section
/- How many values a value holds; what that bounds. -/
namespace Go.Pv
open Srt
end Go.Pv
end

section
/- Structures as values: the parts of a map, their kinds; what decodes what was encoded. No program is in sight here. -/
namespace Go.Pv
abbrev vZ : Val := .mk 0 0 (⟨#[]⟩ : ByteArray) [] []
abbrev vN (n : Int) : Val := .mk 2 n (⟨#[]⟩ : ByteArray) [] []
abbrev vS (s : ByteArray) : Val := .mk 3 0 s [] []
abbrev vB (b : Bool) : Val := .mk 1 (bif b then 1 else 0) (⟨#[]⟩ : ByteArray) [] []
abbrev vL (l : List Val) : Val := .mk 4 0 (⟨#[]⟩ : ByteArray) l []
abbrev vM (l : List Fld) : Val := .mk 5 0 (⟨#[]⟩ : ByteArray) [] l
def Q18u (n : ByteArray) : List Fld → Val
 | [] => vZ
 | x :: r => bif sEq x.name n then x.v else Q18u n r
def prt (v : Val) (n : ByteArray) : Val := bif v.kind == 5 then Q18u n v.fields else vZ
def isM (v : Val) : Bool := v.kind == 5 || v.kind == 0
def xN (x : Val) : Int × Bool := bif x.kind == 2 then (x.n, true) else (0, x.kind == 0)
def xS (x : Val) : ByteArray × Bool := bif x.kind == 3 then (x.s, true) else ((⟨#[]⟩ : ByteArray), x.kind == 0)
def xB (x : Val) : Bool × Bool := bif x.kind == 1 then (!(x.n == 0), true) else (false, x.kind == 0)
def xL (x : Val) : List Val × Bool := bif x.kind == 4 then (x.list, true) else ([], x.kind == 0)
def xE {α : Type} (f : Val → α × Bool) (x : Val) : List α × Bool := ((xL x).1.map fun y => (f y).1, (xL x).2 && (xL x).1.all fun y => (f y).2)
abbrev dN (v : Val) (n : ByteArray) : Int × Bool := xN (prt v n)
abbrev dS (v : Val) (n : ByteArray) : ByteArray × Bool := xS (prt v n)
abbrev dB (v : Val) (n : ByteArray) : Bool × Bool := xB (prt v n)
abbrev dL (v : Val) (n : ByteArray) : List Val × Bool := xL (prt v n)
abbrev dE {α : Type} (f : Val → α × Bool) (v : Val) (n : ByteArray) : List α × Bool := xE f (prt v n)
abbrev dT {α : Type} (f : Val → α × Bool) (v : Val) (n : ByteArray) : α × Bool := f (prt v n)
theorem Q4m {v : Val} (h : (v.kind == 5) = false) (n : ByteArray) : prt v n = vZ := by unfold prt; rw [h]; rfl
theorem Q1ek {v : Val} (h : (v.kind == 5) = true) : isM v = true := by unfold isM; rw [h]; rfl
theorem Q43 {v : Val} (h : (v.kind == 5) = false) : isM v = (v.kind == 0) := by unfold isM; rw [h]; rfl
theorem xB_b (b : Bool) : xB (vB b) = (b, true) := by cases b <;> rfl
theorem Q6b {α : Type} {f : Val → α × Bool} {e : α → Val} (h : ∀ y, f (e y) = (y, true)) (l : List α) : xE f (vL (l.map e)) = (l, true) := by
 have h1 : ∀ l : List α, (l.map e).map (fun y => (f y).1) = l := by
  intro l
  induction l with
  | nil => rfl
  | cons y l ih => rw [List.map_cons, List.map_cons, ih, h y]
 have h2 : ∀ l : List α, ((l.map e).all fun y => (f y).2) = true := by
  intro l
  induction l with
  | nil => rfl
  | cons y l ih => rw [List.map_cons, List.all_cons, ih, h y]; rfl
 show ((l.map e).map (fun y => (f y).1), true && (l.map e).all fun y => (f y).2) = _
 rw [h1, h2]
 rfl
abbrev sB : Nat := 1000000000
theorem Q1v0 : Val.Sm sB vZ := Val.Sm.leaf 0 0 _
theorem Q1ub {l : List Val} (h : l.length ≤ sB) (g : ∀ x ∈ l, Val.Sm sB x) : Val.Sm sB (vL l) := .mk _ h (Nat.zero_le _) g (fun _ h => by cases h)
theorem Q9z {l : List Fld} (h : l.length ≤ sB) (g : ∀ x ∈ l, Val.Sm sB x.v) : Val.Sm sB (vM l) := .mk _ (Nat.zero_le _) h (fun _ h => by cases h) g
theorem Q1gf {B : Nat} (n : ByteArray) : ∀ {l : List Fld}, (∀ x ∈ l, Val.Sm B x.v) → Val.Sm B (Q18u n l)
 | [], _ => Val.Sm.leaf 0 0 _
 | x :: l, h => by
  unfold Q18u
  cases sEq x.name n with
  | true => exact h x List.mem_cons_self
  | false => exact Q1gf n fun y hy => h y (List.mem_cons_of_mem _ hy)
theorem Q3t {B : Nat} {v : Val} (h : Val.Sm B v) (n : ByteArray) : Val.Sm B (prt v n) := by
 unfold prt
 cases v.kind == 5 with
 | true => exact Q1gf n h.all.2.2.2
 | false => exact Val.Sm.leaf 0 0 _
def LSm {α : Type} (p : α → Prop) (l : List α) : Prop := l.length ≤ sB ∧ ∀ x ∈ l, p x
theorem LSm.leaf {α : Type} {l : List α} (h : l.length ≤ sB) : LSm (fun _ => True) l := ⟨h, fun _ _ => trivial⟩
theorem LSm.nil {α : Type} {p : α → Prop} : LSm p [] := ⟨Nat.zero_le _, fun _ h => by cases h⟩
theorem Qf8 {x : Val} (h : Val.Sm sB x) : (xL x).1.length ≤ sB ∧ ∀ y ∈ (xL x).1, Val.Sm sB y := by
 unfold xL
 cases x.kind == 4 with
 | true => exact ⟨h.all.1, h.all.2.2.1⟩
 | false => exact ⟨Nat.zero_le _, fun _ h => by cases h⟩
theorem Q32 {α : Type} {e : α → Val} {p : α → Prop} (he : ∀ x, p x → Val.Sm sB (e x)) {l : List α} (h : LSm p l) : Val.Sm sB (vL (l.map e)) :=
 Q1ub (by rw [List.length_map]; exact h.1) fun z hz => by
  obtain ⟨x, hx, rfl⟩ := List.mem_map.1 hz
  exact he x (h.2 x hx)
def ssb : List Fld → Bool
 | [] => true
 | [_] => true
 | x :: y :: r => decide (sCmp x.name y.name < 0) && ssb (y :: r)
theorem Q1jg : ∀ {l : List Fld}, ssb l = true → SS l
  | [], _ => SS.nil
  | [x], _ => SS.cons.2 ⟨(fun _ h => by cases h), SS.nil⟩
  | x :: y :: r, h => by
    unfold ssb at h
    rw [Bool.and_eq_true] at h
    have h1 := of_decide_eq_true h.1
    have h2 := Q1jg h.2
    refine SS.cons.2 ⟨fun z hz => ?_, h2⟩
    rcases List.mem_cons.1 hz with rfl | hz
    · exact h1
    · exact Q12j h1 ((SS.cons.1 h2).1 z hz)
theorem Q1fy {l : List Fld} (h : ssb l = true) : mapOf l = l := Q12w (Q1jg h)
def s5 (x : Val) : Val := bif x.kind == 5 then x else vZ
theorem Qas {x : Val} (h : Val.Sm sB x) : Val.Sm sB (s5 x) := by
 unfold s5
 cases x.kind == 5 with
 | true => exact h
 | false => exact Q1v0
theorem Q3k {α : Type} {f : Val → α × Bool} (hn : ∀ v, (v.kind == 5) = false → f v = ((f vZ).1, v.kind == 0)) (hz : (f vZ).2 = true) (x : Val) : (f (s5 x)).1 = (f x).1 ∧ (f x).2 = (isM x && (f (s5 x)).2) := by
 unfold s5
 cases h : x.kind == 5 with
 | true => exact ⟨rfl, by rw [Q1ek h, cond_true, Bool.true_and]⟩
 | false => rw [hn x h, cond_false, Q43 h, hz]; exact ⟨rfl, by rw [Bool.and_true]⟩
end Go.Pv
end

section
/- Maps of at most 20 fields, fields of a name and equality in plain words. -/
namespace Go.Proofs.YtiflaadeikaghaaGreat
open Go.Pv Go.Pv.Srt
theorem vind {P : Val → Prop} (h : ∀ v : Val, (∀ x ∈ v.list, P x) → (∀ f ∈ v.fields, P f.v) → P v) : ∀ v, P v := by
  have key : ∀ (k : Nat) (v : Val), SizeOf.sizeOf v < k → P v := by
    intro k
    induction k with
    | zero => intro v hv; exact absurd hv (Nat.not_lt_zero _)
    | succ k ih => intro v hv; exact h v (fun x hx => ih x (by have := szM hx; omega)) (fun f hf => ih f.v (by have := szN hf; omega))
  exact fun v => key _ v (Nat.lt_succ_self _)
theorem Q152 (p q : Val) : ∀ (r : List Val) (i : Nat), p.list.drop i = r → p.list.length = q.list.length → (∀ x ∈ r, ∀ y, Q7w x y = true ↔ x = y) → (Q67 p q r i = .k0 ↔ q.list.drop i = r)
  | [], i, hd, hl, _ => by
    rw [Q67]
    have := List.drop_eq_nil_iff.1 hd
    simp [List.drop_eq_nil_iff.2 (hl ▸ this)]
  | x :: r, i, hd, hl, hx => by
    obtain ⟨h1, h2, h3⟩ := Q11 hd
    have hq : i < q.list.length := by omega
    rw [Q67, List.drop_eq_getElem_cons hq, List.getD_eq_getElem?_getD, List.getElem?_eq_getElem hq, Option.getD_some]
    have ih := Q152 p q r (i + 1) h3 hl fun y hy => hx y (List.mem_cons_of_mem _ hy)
    have k := hx x List.mem_cons_self q.list[i]
    cases e : Q7w x q.list[i] with
    | true =>
      rw [cond_true, ih]
      have e' := k.1 e
      constructor
      · intro g; rw [g, ← e']
      · intro g; injection g
    | false =>
      rw [cond_false]
      constructor
      · intro g; cases g
      · intro g
        injection g with g1 g2
        rw [k.2 g1.symm] at e
        cases e
theorem Q168 (p q : Val) : ∀ (r : List Fld) (i : Nat), p.fields.drop i = r → p.fields.length = q.fields.length → (∀ x ∈ r, ∀ y, Q7w x.v y = true ↔ x.v = y) → (Q68 p q r i = .k0 ↔ q.fields.drop i = r)
  | [], i, hd, hl, _ => by
    rw [Q68]
    have := List.drop_eq_nil_iff.1 hd
    simp [List.drop_eq_nil_iff.2 (hl ▸ this)]
  | x :: r, i, hd, hl, hx => by
    obtain ⟨h1, h2, h3⟩ := Q11 hd
    have hq : i < q.fields.length := by omega
    rw [Q68, List.drop_eq_getElem_cons hq, List.getD_eq_getElem?_getD, List.getElem?_eq_getElem hq, Option.getD_some]
    have ih := Q168 p q r (i + 1) h3 hl fun y hy => hx y (List.mem_cons_of_mem _ hy)
    have k := hx x List.mem_cons_self q.fields[i].v
    cases en : sEq x.name q.fields[i].name with
    | false =>
      rw [cond_false]
      constructor
      · intro g; cases g
      · intro g
        injection g with g1 g2
        rw [g1] at en
        exact absurd (Q9d.2 rfl) (by rw [en]; simp)
    | true =>
      rw [cond_true]
      cases e : Q7w x.v q.fields[i].v with
      | true =>
        rw [cond_true, ih]
        have e' := k.1 e
        have e1 : x = q.fields[i] := by
          have n := Q9d.1 en
          revert e' n
          generalize q.fields[i] = y
          intro a b
          cases x; cases y
          simp only [Fld.name, Fld.v] at a b
          rw [a, b]
        constructor
        · intro g; rw [g, ← e1]
        · intro g; injection g
      | false =>
        rw [cond_false]
        constructor
        · intro g; cases g
        · intro g
          injection g with g1 g2
          rw [k.2 (by rw [g1])] at e
          cases e
theorem Q1g7 : ∀ a b : Val, Q7w a b = true ↔ a = b := vind fun a h1 h2 b => by
  have b0 := fun hl => Q152 a b a.list 0 rfl hl h1
  have b1 := fun hl => Q168 a b a.fields 0 rfl hl h2
  rw [Q7w]
  constructor
  · intro h
    cases c1 : a.kind == b.kind with
    | false => rw [c1] at h; cases h
    | true =>
      rw [c1, cond_true] at h
      cases c2 : a.n == b.n with
      | false => rw [c2] at h; cases h
      | true =>
        rw [c2, cond_true] at h
        cases c3 : sEq a.s b.s with
        | false => rw [c3] at h; cases h
        | true =>
          rw [c3, cond_true] at h
          cases c4 : ((a.list.length : Int) == (b.list.length : Int)) with
          | false => rw [c4] at h; cases h
          | true =>
            rw [c4, cond_true] at h
            cases c5 : ((a.fields.length : Int) == (b.fields.length : Int)) with
            | false => rw [c5] at h; cases h
            | true =>
              rw [c5, cond_true] at h
              have e4 := eq_of_beq c4
              have e5 := eq_of_beq c5
              cases l0 : Q67 a b a.list 0 with
              | k1 => rw [l0] at h; cases h
              | k0 =>
                rw [l0] at h
                cases l1 : Q68 a b a.fields 0 with
                | k1 => rw [l1] at h; cases h
                | k0 =>
                  have g0 := (b0 (by omega)).1 l0
                  have g1 := (b1 (by omega)).1 l1
                  rw [List.drop_zero] at g0 g1
                  have q1 := eq_of_beq c1
                  have q2 := eq_of_beq c2
                  have q3 := Q9d.1 c3
                  revert q1 q2 q3 g0 g1
                  clear h b0 b1 h1 h2 l0 l1 c1 c2 c3 c4 c5 e4 e5
                  cases a; cases b
                  simp only [Val.kind, Val.n, Val.s, Val.list, Val.fields]
                  intro q1 q2 q3 g0 g1
                  rw [q1, q2, q3, g0, g1]
  · rintro rfl
    rw [(b0 rfl).2 rfl, (b1 rfl).2 rfl, Q9d.2 rfl]
    simp
theorem Qdw (v : Val) : Q7w v v = true := (Q1g7 v v).2 rfl
theorem vprt (v : Val) (n : BA) : (Qw7 v n).1 = prt v n := by
  unfold Qw7 prt
  cases v.kind == 5 with
  | false => rfl
  | true =>
    simp only [cond_true]
    have : ∀ (l : List Fld) (i : Nat), (match Q7n v n l i with | .k0 => (Val.mk 0 0 ⟨#[]⟩ [] [], false) | .k1 y => (y, true)).1 = Q18u n l := by
      intro l
      induction l with
      | nil => intro i; rfl
      | cons x l ih =>
        intro i
        rw [Q7n, Q18u]
        cases sEq x.name n with
        | true => rfl
        | false => exact ih (i + 1)
    exact this _ _
abbrev Qed : Fld := zF
theorem Q1iw (n0 : Nat) (a b i : Int) : ∀ (k : Nat) (v : List Fld) (j : Int), Q3p n0 a b i k v j = ins1 Qed cNm a k v j
  | 0, _, _ => rfl
  | k + 1, v, j => by
    rw [Q3p, ins1, Q1iw n0 a b i k]
    rfl
theorem Q1k8 (n0 : Nat) (a b : Int) : ∀ (k : Nat) (i : Int) (v : List Fld), Q46 n0 a b k i v = ins0 Qed cNm a b k i v
  | 0, _, _ => rfl
  | k + 1, i, v => by
    rw [Q46, ins0, Q1k8 n0 a b k, Q1iw]
theorem Q1ni (n0 : Nat) (d : List Fld) (a b : Int) : Q29 n0 d a b = ins Qed cNm d a b := Q1k8 n0 a b _ _ _
theorem Qx0 {l : List Fld} (h : l.length ≤ 20) : Qr l.length l = Qdi cNm l := by
  unfold Qr Q5q
  have i1 : ∀ v, Q5v l.length (l.length : Int) (0 + 1) v = v := fun v => rfl
  rw [i1, Q1ni, Q3f]
  by_cases c : (20 : Int) ≤ (l.length : Int)
  · rw [show decide ((20 : Int) ≤ (l.length : Int)) = true by simpa using c, cond_true, Q1ni, show Int.toNat ((l.length : Int) + 20 - 20) = 19 + 1 by omega, Q3f, show decide ((20 : Int) + 20 ≤ (l.length : Int)) = false by simp; omega, cond_false]
    have e1 := Qvw (z := Qed) (c := cNm) (d := l) (A := []) (M := l) (C := []) (a := 0) (b := 20) (by simp) rfl (by omega)
    rw [List.nil_append, List.append_nil] at e1
    rw [e1, Qvw (z := Qed) (c := cNm) (d := Qdi cNm l) (A := Qdi cNm l) (M := []) (C := []) (by simp) (by rw [Qkc _ (Qac Fld.name)]; omega) (by simp; omega)]
    simp [Qdi]
  · rw [show decide ((20 : Int) ≤ (l.length : Int)) = false by simpa using c, cond_false]
    have e1 := Qvw (z := Qed) (c := cNm) (d := l) (A := []) (M := l) (C := []) (a := 0) (b := (l.length : Int)) (by simp) rfl (by omega)
    rw [List.nil_append, List.append_nil] at e1
    exact e1
theorem Qen (p : List Fld) : (Qdi cNm p).length = p.length := Qkc _ (Qac Fld.name) p
theorem Q1gg {p : List Fld} (hp : p.length ≤ 20) : ∀ (r : List Fld) (i : Nat) (a : List Fld), (Qdi cNm p).drop i = r → Q3i p r i a = a ++ lasts r
  | [], i, a, _ => by rw [Q3i, lasts]; simp
  | [x], i, a, hd => by
    have hl := Qen p
    have h := congrArg List.length hd
    rw [List.length_drop, List.length_singleton] at h
    rw [Q3i, show (((i + 1 : Nat) : Int) == (List.length p : Int)) = true by simp; omega, cond_true, Q3i]
    rfl
  | x :: y :: r, i, a, hd => by
    have hl := Qen p
    have h := congrArg List.length hd
    rw [List.length_drop, List.length_cons, List.length_cons] at h
    obtain ⟨_, _, hd'⟩ := Q11 hd
    obtain ⟨hy, _, _⟩ := Q11 hd'
    rw [Q3i, show (((i + 1 : Nat) : Int) == (List.length p : Int)) = false by simp; omega, cond_false, Qx0 hp, Int.toNat_natCast, List.getD_eq_getElem?_getD, hy, Option.getD_some, lasts]
    cases sEq y.name x.name with
    | true => rw [cond_true, cond_true, Q1gg hp (y :: r) (i + 1) a hd']
    | false => rw [cond_false, cond_false, Q1gg hp (y :: r) (i + 1) _ hd']; simp
theorem Qmn {p : List Fld} (hp : p.length ≤ 20) : Q3i p (Qr p.length p) 0 [] = mapOf p := by
  rw [Q1gg hp _ 0 [] (by rw [Qx0 hp]; rfl), Qx0 hp]
  rfl
theorem vmap {p : List Fld} (hp : p.length ≤ 20) : Q6d p = vM (mapOf p) := by
  unfold Q6d
  rw [Qmn hp]
theorem Q3q {p : List Fld} (hp : p.length ≤ 20) (hs : ssb p = true) : Q6d p = vM p := by rw [vmap hp, Q1fy hs]
theorem Q1ok {l : List Fld} (hl : l.length ≤ 20) (h : ∀ f ∈ l, Val.Sm sB f.v) : Val.Sm sB (vM (mapOf l)) :=
  .mk _ (Nat.zero_le _) (Nat.le_trans (Q1d8 l) (by show l.length ≤ 1000000000; omega)) (fun _ g => by cases g) fun f hf => h f (Q1e2 hf)
theorem Q9y {l : List Fld} (hl : l.length ≤ 20) (h : ∀ f ∈ l, Val.Sm sB f.v) : Q8y l := by
  refine ⟨by omega, by omega, ⟨?_, trivial⟩, ?_, trivial⟩
  · rw [Qx0 hl, Qen]
    omega
  · rw [Qmn hl]
    exact Q1ok hl h
theorem Q1wx {v : Val} (h : Val.Sm sB v) (n : BA) : Q1mi v n := ⟨⟨Nat.le_trans h.all.2.1 (Nat.le_of_ble_eq_true rfl), h.all.2.2.2, trivial⟩, trivial⟩
end Go.Proofs.YtiflaadeikaghaaGreat
end

section
/- Structures as values: what encodes and what decodes them, in plain words (printed by a program). -/
namespace Go.Proofs.YtiflaadeikaghaaGreat
open Go.Pv
structure Probe where
  delay : Int
  period : Int
  success : Int
  failure : Int
def Probe.cells (x : Probe) : List PV :=
  [.int .i64 x.delay, .int .i64 x.period, .int .i64 x.success, .int .i64 x.failure]
def Probe.rows (l : List Probe) : List (List PV) := l.map Probe.cells
theorem Probe.Q5 (l : List Probe) : (Probe.rows l).length = l.length := by simp [Probe.rows]
theorem Probe.Qc {l : List Probe} {i : Nat} {x : Probe} (h : l[i]? = some x) : (Probe.rows l)[i]? = some (Probe.cells x) := Go.Pv.Qc h
theorem Probe.Q14 (l : List Probe) (x : Probe) : Probe.rows (l ++ [x]) = Probe.rows l ++ [Probe.cells x] := by simp [Probe.rows]
theorem Probe.Q39 (l : List Probe) (k : Nat) (x : Probe) : Probe.rows (l.set k x) = (Probe.rows l).set k (Probe.cells x) := by simp [Probe.rows, List.map_set]
theorem Probe.Qm (l : List Probe) : ∀ r ∈ Probe.rows l, r.length = 4 := Q3a (f := Probe.cells) (fun _ => rfl) l
theorem Probe.Q9 (l : List Probe) (sz : Nat) (h : sz = 4) : ViewOK sz (Probe.rows l).flatten (Probe.rows l) := by subst h; exact ⟨rfl, Probe.Qm l, Q2q (f := Probe.cells) (fun _ => rfl) l⟩
structure Resources where
  cPU : Int
  memory : Int
  disk : Int
def Resources.cells (x : Resources) : List PV :=
  [.int .i64 x.cPU, .int .i64 x.memory, .int .i64 x.disk]
def Resources.rows (l : List Resources) : List (List PV) := l.map Resources.cells
theorem Resources.Q5 (l : List Resources) : (Resources.rows l).length = l.length := by simp [Resources.rows]
theorem Resources.Qc {l : List Resources} {i : Nat} {x : Resources} (h : l[i]? = some x) : (Resources.rows l)[i]? = some (Resources.cells x) := Go.Pv.Qc h
theorem Resources.Q14 (l : List Resources) (x : Resources) : Resources.rows (l ++ [x]) = Resources.rows l ++ [Resources.cells x] := by simp [Resources.rows]
theorem Resources.Q39 (l : List Resources) (k : Nat) (x : Resources) : Resources.rows (l.set k x) = (Resources.rows l).set k (Resources.cells x) := by simp [Resources.rows, List.map_set]
theorem Resources.Qm (l : List Resources) : ∀ r ∈ Resources.rows l, r.length = 3 := Q3a (f := Resources.cells) (fun _ => rfl) l
theorem Resources.Q9 (l : List Resources) (sz : Nat) (h : sz = 3) : ViewOK sz (Resources.rows l).flatten (Resources.rows l) := by subst h; exact ⟨rfl, Resources.Qm l, Q2q (f := Resources.cells) (fun _ => rfl) l⟩
structure Container where
  name : ByteArray
  image : ByteArray
  request : Resources
  limit : Resources
  live : List Probe
  ready : List Probe
  startup : List Probe
def Container.cells (x : Container) : List PV :=
  [.str x.name, .str x.image, .int .i64 x.request.cPU, .int .i64 x.request.memory, .int .i64 x.request.disk, .int .i64 x.limit.cPU, .int .i64 x.limit.memory, .int .i64 x.limit.disk, .sl (Probe.rows x.live), .sl (Probe.rows x.ready), .sl (Probe.rows x.startup)]
def Container.rows (l : List Container) : List (List PV) := l.map Container.cells
theorem Container.Q5 (l : List Container) : (Container.rows l).length = l.length := by simp [Container.rows]
theorem Container.Qc {l : List Container} {i : Nat} {x : Container} (h : l[i]? = some x) : (Container.rows l)[i]? = some (Container.cells x) := Go.Pv.Qc h
theorem Container.Q14 (l : List Container) (x : Container) : Container.rows (l ++ [x]) = Container.rows l ++ [Container.cells x] := by simp [Container.rows]
theorem Container.Q39 (l : List Container) (k : Nat) (x : Container) : Container.rows (l.set k x) = (Container.rows l).set k (Container.cells x) := by simp [Container.rows, List.map_set]
theorem Container.Qm (l : List Container) : ∀ r ∈ Container.rows l, r.length = 11 := Q3a (f := Container.cells) (fun _ => rfl) l
theorem Container.Q9 (l : List Container) (sz : Nat) (h : sz = 11) : ViewOK sz (Container.rows l).flatten (Container.rows l) := by subst h; exact ⟨rfl, Container.Qm l, Q2q (f := Container.cells) (fun _ => rfl) l⟩
structure Requirement where
  key : ByteArray
  op : Int
  values : List ByteArray
def Requirement.cells (x : Requirement) : List PV :=
  [.str x.key, .int .i64 x.op, .sl (Qj x.values)]
def Requirement.rows (l : List Requirement) : List (List PV) := l.map Requirement.cells
theorem Requirement.Q5 (l : List Requirement) : (Requirement.rows l).length = l.length := by simp [Requirement.rows]
theorem Requirement.Qc {l : List Requirement} {i : Nat} {x : Requirement} (h : l[i]? = some x) : (Requirement.rows l)[i]? = some (Requirement.cells x) := Go.Pv.Qc h
theorem Requirement.Q14 (l : List Requirement) (x : Requirement) : Requirement.rows (l ++ [x]) = Requirement.rows l ++ [Requirement.cells x] := by simp [Requirement.rows]
theorem Requirement.Q39 (l : List Requirement) (k : Nat) (x : Requirement) : Requirement.rows (l.set k x) = (Requirement.rows l).set k (Requirement.cells x) := by simp [Requirement.rows, List.map_set]
theorem Requirement.Qm (l : List Requirement) : ∀ r ∈ Requirement.rows l, r.length = 3 := Q3a (f := Requirement.cells) (fun _ => rfl) l
theorem Requirement.Q9 (l : List Requirement) (sz : Nat) (h : sz = 3) : ViewOK sz (Requirement.rows l).flatten (Requirement.rows l) := by subst h; exact ⟨rfl, Requirement.Qm l, Q2q (f := Requirement.cells) (fun _ => rfl) l⟩
structure NodeTerm where
  required : Bool
  selector : List Requirement
  weight : Int
def NodeTerm.cells (x : NodeTerm) : List PV :=
  [.bool x.required, .sl (Requirement.rows x.selector), .int .i64 x.weight]
def NodeTerm.rows (l : List NodeTerm) : List (List PV) := l.map NodeTerm.cells
theorem NodeTerm.Q5 (l : List NodeTerm) : (NodeTerm.rows l).length = l.length := by simp [NodeTerm.rows]
theorem NodeTerm.Qc {l : List NodeTerm} {i : Nat} {x : NodeTerm} (h : l[i]? = some x) : (NodeTerm.rows l)[i]? = some (NodeTerm.cells x) := Go.Pv.Qc h
theorem NodeTerm.Q14 (l : List NodeTerm) (x : NodeTerm) : NodeTerm.rows (l ++ [x]) = NodeTerm.rows l ++ [NodeTerm.cells x] := by simp [NodeTerm.rows]
theorem NodeTerm.Q39 (l : List NodeTerm) (k : Nat) (x : NodeTerm) : NodeTerm.rows (l.set k x) = (NodeTerm.rows l).set k (NodeTerm.cells x) := by simp [NodeTerm.rows, List.map_set]
theorem NodeTerm.Qm (l : List NodeTerm) : ∀ r ∈ NodeTerm.rows l, r.length = 3 := Q3a (f := NodeTerm.cells) (fun _ => rfl) l
theorem NodeTerm.Q9 (l : List NodeTerm) (sz : Nat) (h : sz = 3) : ViewOK sz (NodeTerm.rows l).flatten (NodeTerm.rows l) := by subst h; exact ⟨rfl, NodeTerm.Qm l, Q2q (f := NodeTerm.cells) (fun _ => rfl) l⟩
structure PodTerm where
  required : Bool
  anti : Bool
  selector : List Requirement
  topology : ByteArray
  weight : Int
def PodTerm.cells (x : PodTerm) : List PV :=
  [.bool x.required, .bool x.anti, .sl (Requirement.rows x.selector), .str x.topology, .int .i64 x.weight]
def PodTerm.rows (l : List PodTerm) : List (List PV) := l.map PodTerm.cells
theorem PodTerm.Q5 (l : List PodTerm) : (PodTerm.rows l).length = l.length := by simp [PodTerm.rows]
theorem PodTerm.Qc {l : List PodTerm} {i : Nat} {x : PodTerm} (h : l[i]? = some x) : (PodTerm.rows l)[i]? = some (PodTerm.cells x) := Go.Pv.Qc h
theorem PodTerm.Q14 (l : List PodTerm) (x : PodTerm) : PodTerm.rows (l ++ [x]) = PodTerm.rows l ++ [PodTerm.cells x] := by simp [PodTerm.rows]
theorem PodTerm.Q39 (l : List PodTerm) (k : Nat) (x : PodTerm) : PodTerm.rows (l.set k x) = (PodTerm.rows l).set k (PodTerm.cells x) := by simp [PodTerm.rows, List.map_set]
theorem PodTerm.Qm (l : List PodTerm) : ∀ r ∈ PodTerm.rows l, r.length = 5 := Q3a (f := PodTerm.cells) (fun _ => rfl) l
theorem PodTerm.Q9 (l : List PodTerm) (sz : Nat) (h : sz = 5) : ViewOK sz (PodTerm.rows l).flatten (PodTerm.rows l) := by subst h; exact ⟨rfl, PodTerm.Qm l, Q2q (f := PodTerm.cells) (fun _ => rfl) l⟩
structure SpreadRule where
  maxSkew : Int
  topology : ByteArray
  selector : List Requirement
  required : Bool
def SpreadRule.cells (x : SpreadRule) : List PV :=
  [.int .i64 x.maxSkew, .str x.topology, .sl (Requirement.rows x.selector), .bool x.required]
def SpreadRule.rows (l : List SpreadRule) : List (List PV) := l.map SpreadRule.cells
theorem SpreadRule.Q5 (l : List SpreadRule) : (SpreadRule.rows l).length = l.length := by simp [SpreadRule.rows]
theorem SpreadRule.Qc {l : List SpreadRule} {i : Nat} {x : SpreadRule} (h : l[i]? = some x) : (SpreadRule.rows l)[i]? = some (SpreadRule.cells x) := Go.Pv.Qc h
theorem SpreadRule.Q14 (l : List SpreadRule) (x : SpreadRule) : SpreadRule.rows (l ++ [x]) = SpreadRule.rows l ++ [SpreadRule.cells x] := by simp [SpreadRule.rows]
theorem SpreadRule.Q39 (l : List SpreadRule) (k : Nat) (x : SpreadRule) : SpreadRule.rows (l.set k x) = (SpreadRule.rows l).set k (SpreadRule.cells x) := by simp [SpreadRule.rows, List.map_set]
theorem SpreadRule.Qm (l : List SpreadRule) : ∀ r ∈ SpreadRule.rows l, r.length = 4 := Q3a (f := SpreadRule.cells) (fun _ => rfl) l
theorem SpreadRule.Q9 (l : List SpreadRule) (sz : Nat) (h : sz = 4) : ViewOK sz (SpreadRule.rows l).flatten (SpreadRule.rows l) := by subst h; exact ⟨rfl, SpreadRule.Qm l, Q2q (f := SpreadRule.cells) (fun _ => rfl) l⟩
structure Toleration where
  key : ByteArray
  value : ByteArray
  exists_ : Bool
  effect : Int
  seconds : Int
def Toleration.cells (x : Toleration) : List PV :=
  [.str x.key, .str x.value, .bool x.exists_, .int .i64 x.effect, .int .i64 x.seconds]
def Toleration.rows (l : List Toleration) : List (List PV) := l.map Toleration.cells
theorem Toleration.Q5 (l : List Toleration) : (Toleration.rows l).length = l.length := by simp [Toleration.rows]
theorem Toleration.Qc {l : List Toleration} {i : Nat} {x : Toleration} (h : l[i]? = some x) : (Toleration.rows l)[i]? = some (Toleration.cells x) := Go.Pv.Qc h
theorem Toleration.Q14 (l : List Toleration) (x : Toleration) : Toleration.rows (l ++ [x]) = Toleration.rows l ++ [Toleration.cells x] := by simp [Toleration.rows]
theorem Toleration.Q39 (l : List Toleration) (k : Nat) (x : Toleration) : Toleration.rows (l.set k x) = (Toleration.rows l).set k (Toleration.cells x) := by simp [Toleration.rows, List.map_set]
theorem Toleration.Qm (l : List Toleration) : ∀ r ∈ Toleration.rows l, r.length = 5 := Q3a (f := Toleration.cells) (fun _ => rfl) l
theorem Toleration.Q9 (l : List Toleration) (sz : Nat) (h : sz = 5) : ViewOK sz (Toleration.rows l).flatten (Toleration.rows l) := by subst h; exact ⟨rfl, Toleration.Qm l, Q2q (f := Toleration.cells) (fun _ => rfl) l⟩
structure PodSpec where
  node : ByteArray
  priority : Int
  restart : Int
  grace : Int
  containers : List Container
  nodeSelector : List Requirement
  nodeTerms : List NodeTerm
  podTerms : List PodTerm
  spread : List SpreadRule
  tolerations : List Toleration
def PodSpec.cells (x : PodSpec) : List PV :=
  [.str x.node, .int .i64 x.priority, .int .i64 x.restart, .int .i64 x.grace, .sl (Container.rows x.containers), .sl (Requirement.rows x.nodeSelector), .sl (NodeTerm.rows x.nodeTerms), .sl (PodTerm.rows x.podTerms), .sl (SpreadRule.rows x.spread), .sl (Toleration.rows x.tolerations)]
def PodSpec.rows (l : List PodSpec) : List (List PV) := l.map PodSpec.cells
theorem PodSpec.Q5 (l : List PodSpec) : (PodSpec.rows l).length = l.length := by simp [PodSpec.rows]
theorem PodSpec.Qc {l : List PodSpec} {i : Nat} {x : PodSpec} (h : l[i]? = some x) : (PodSpec.rows l)[i]? = some (PodSpec.cells x) := Go.Pv.Qc h
theorem PodSpec.Q14 (l : List PodSpec) (x : PodSpec) : PodSpec.rows (l ++ [x]) = PodSpec.rows l ++ [PodSpec.cells x] := by simp [PodSpec.rows]
theorem PodSpec.Q39 (l : List PodSpec) (k : Nat) (x : PodSpec) : PodSpec.rows (l.set k x) = (PodSpec.rows l).set k (PodSpec.cells x) := by simp [PodSpec.rows, List.map_set]
theorem PodSpec.Qm (l : List PodSpec) : ∀ r ∈ PodSpec.rows l, r.length = 10 := Q3a (f := PodSpec.cells) (fun _ => rfl) l
theorem PodSpec.Q9 (l : List PodSpec) (sz : Nat) (h : sz = 10) : ViewOK sz (PodSpec.rows l).flatten (PodSpec.rows l) := by subst h; exact ⟨rfl, PodSpec.Qm l, Q2q (f := PodSpec.cells) (fun _ => rfl) l⟩
structure ContainerStatus where
  name : ByteArray
  state : Int
  restarts : Int
  exitCode : Int
  since : Int
  ready : Bool
  started : Bool
def ContainerStatus.cells (x : ContainerStatus) : List PV :=
  [.str x.name, .int .i64 x.state, .int .i64 x.restarts, .int .i64 x.exitCode, .int .i64 x.since, .bool x.ready, .bool x.started]
def ContainerStatus.rows (l : List ContainerStatus) : List (List PV) := l.map ContainerStatus.cells
theorem ContainerStatus.Q5 (l : List ContainerStatus) : (ContainerStatus.rows l).length = l.length := by simp [ContainerStatus.rows]
theorem ContainerStatus.Qc {l : List ContainerStatus} {i : Nat} {x : ContainerStatus} (h : l[i]? = some x) : (ContainerStatus.rows l)[i]? = some (ContainerStatus.cells x) := Go.Pv.Qc h
theorem ContainerStatus.Q14 (l : List ContainerStatus) (x : ContainerStatus) : ContainerStatus.rows (l ++ [x]) = ContainerStatus.rows l ++ [ContainerStatus.cells x] := by simp [ContainerStatus.rows]
theorem ContainerStatus.Q39 (l : List ContainerStatus) (k : Nat) (x : ContainerStatus) : ContainerStatus.rows (l.set k x) = (ContainerStatus.rows l).set k (ContainerStatus.cells x) := by simp [ContainerStatus.rows, List.map_set]
theorem ContainerStatus.Qm (l : List ContainerStatus) : ∀ r ∈ ContainerStatus.rows l, r.length = 7 := Q3a (f := ContainerStatus.cells) (fun _ => rfl) l
theorem ContainerStatus.Q9 (l : List ContainerStatus) (sz : Nat) (h : sz = 7) : ViewOK sz (ContainerStatus.rows l).flatten (ContainerStatus.rows l) := by subst h; exact ⟨rfl, ContainerStatus.Qm l, Q2q (f := ContainerStatus.cells) (fun _ => rfl) l⟩
structure PodStatus where
  phase : Int
  ready : Bool
  readySince : Int
  started : Int
  finished : Int
  containers : List ContainerStatus
  address : Int
  nominated : ByteArray
  reason : ByteArray
def PodStatus.cells (x : PodStatus) : List PV :=
  [.int .i64 x.phase, .bool x.ready, .int .i64 x.readySince, .int .i64 x.started, .int .i64 x.finished, .sl (ContainerStatus.rows x.containers), .int .i64 x.address, .str x.nominated, .str x.reason]
def PodStatus.rows (l : List PodStatus) : List (List PV) := l.map PodStatus.cells
theorem PodStatus.Q5 (l : List PodStatus) : (PodStatus.rows l).length = l.length := by simp [PodStatus.rows]
theorem PodStatus.Qc {l : List PodStatus} {i : Nat} {x : PodStatus} (h : l[i]? = some x) : (PodStatus.rows l)[i]? = some (PodStatus.cells x) := Go.Pv.Qc h
theorem PodStatus.Q14 (l : List PodStatus) (x : PodStatus) : PodStatus.rows (l ++ [x]) = PodStatus.rows l ++ [PodStatus.cells x] := by simp [PodStatus.rows]
theorem PodStatus.Q39 (l : List PodStatus) (k : Nat) (x : PodStatus) : PodStatus.rows (l.set k x) = (PodStatus.rows l).set k (PodStatus.cells x) := by simp [PodStatus.rows, List.map_set]
theorem PodStatus.Qm (l : List PodStatus) : ∀ r ∈ PodStatus.rows l, r.length = 9 := Q3a (f := PodStatus.cells) (fun _ => rfl) l
theorem PodStatus.Q9 (l : List PodStatus) (sz : Nat) (h : sz = 9) : ViewOK sz (PodStatus.rows l).flatten (PodStatus.rows l) := by subst h; exact ⟨rfl, PodStatus.Qm l, Q2q (f := PodStatus.cells) (fun _ => rfl) l⟩
structure Taint where
  key : ByteArray
  value : ByteArray
  effect : Int
  since : Int
def Taint.cells (x : Taint) : List PV :=
  [.str x.key, .str x.value, .int .i64 x.effect, .int .i64 x.since]
def Taint.rows (l : List Taint) : List (List PV) := l.map Taint.cells
theorem Taint.Q5 (l : List Taint) : (Taint.rows l).length = l.length := by simp [Taint.rows]
theorem Taint.Qc {l : List Taint} {i : Nat} {x : Taint} (h : l[i]? = some x) : (Taint.rows l)[i]? = some (Taint.cells x) := Go.Pv.Qc h
theorem Taint.Q14 (l : List Taint) (x : Taint) : Taint.rows (l ++ [x]) = Taint.rows l ++ [Taint.cells x] := by simp [Taint.rows]
theorem Taint.Q39 (l : List Taint) (k : Nat) (x : Taint) : Taint.rows (l.set k x) = (Taint.rows l).set k (Taint.cells x) := by simp [Taint.rows, List.map_set]
theorem Taint.Qm (l : List Taint) : ∀ r ∈ Taint.rows l, r.length = 4 := Q3a (f := Taint.cells) (fun _ => rfl) l
theorem Taint.Q9 (l : List Taint) (sz : Nat) (h : sz = 4) : ViewOK sz (Taint.rows l).flatten (Taint.rows l) := by subst h; exact ⟨rfl, Taint.Qm l, Q2q (f := Taint.cells) (fun _ => rfl) l⟩
structure Image where
  name : ByteArray
  size : Int
  used : Int
def Image.cells (x : Image) : List PV :=
  [.str x.name, .int .i64 x.size, .int .i64 x.used]
def Image.rows (l : List Image) : List (List PV) := l.map Image.cells
theorem Image.Q5 (l : List Image) : (Image.rows l).length = l.length := by simp [Image.rows]
theorem Image.Qc {l : List Image} {i : Nat} {x : Image} (h : l[i]? = some x) : (Image.rows l)[i]? = some (Image.cells x) := Go.Pv.Qc h
theorem Image.Q14 (l : List Image) (x : Image) : Image.rows (l ++ [x]) = Image.rows l ++ [Image.cells x] := by simp [Image.rows]
theorem Image.Q39 (l : List Image) (k : Nat) (x : Image) : Image.rows (l.set k x) = (Image.rows l).set k (Image.cells x) := by simp [Image.rows, List.map_set]
theorem Image.Qm (l : List Image) : ∀ r ∈ Image.rows l, r.length = 3 := Q3a (f := Image.cells) (fun _ => rfl) l
theorem Image.Q9 (l : List Image) (sz : Nat) (h : sz = 3) : ViewOK sz (Image.rows l).flatten (Image.rows l) := by subst h; exact ⟨rfl, Image.Qm l, Q2q (f := Image.cells) (fun _ => rfl) l⟩
structure Label where
  key : ByteArray
  value : ByteArray
def Label.cells (x : Label) : List PV :=
  [.str x.key, .str x.value]
def Label.rows (l : List Label) : List (List PV) := l.map Label.cells
theorem Label.Q5 (l : List Label) : (Label.rows l).length = l.length := by simp [Label.rows]
theorem Label.Qc {l : List Label} {i : Nat} {x : Label} (h : l[i]? = some x) : (Label.rows l)[i]? = some (Label.cells x) := Go.Pv.Qc h
theorem Label.Q14 (l : List Label) (x : Label) : Label.rows (l ++ [x]) = Label.rows l ++ [Label.cells x] := by simp [Label.rows]
theorem Label.Q39 (l : List Label) (k : Nat) (x : Label) : Label.rows (l.set k x) = (Label.rows l).set k (Label.cells x) := by simp [Label.rows, List.map_set]
theorem Label.Qm (l : List Label) : ∀ r ∈ Label.rows l, r.length = 2 := Q3a (f := Label.cells) (fun _ => rfl) l
theorem Label.Q9 (l : List Label) (sz : Nat) (h : sz = 2) : ViewOK sz (Label.rows l).flatten (Label.rows l) := by subst h; exact ⟨rfl, Label.Qm l, Q2q (f := Label.cells) (fun _ => rfl) l⟩
structure Template where
  labels : List Label
  spec : PodSpec
def Template.cells (x : Template) : List PV :=
  [.sl (Label.rows x.labels), .str x.spec.node, .int .i64 x.spec.priority, .int .i64 x.spec.restart, .int .i64 x.spec.grace, .sl (Container.rows x.spec.containers), .sl (Requirement.rows x.spec.nodeSelector), .sl (NodeTerm.rows x.spec.nodeTerms), .sl (PodTerm.rows x.spec.podTerms), .sl (SpreadRule.rows x.spec.spread), .sl (Toleration.rows x.spec.tolerations)]
def Template.rows (l : List Template) : List (List PV) := l.map Template.cells
theorem Template.Q5 (l : List Template) : (Template.rows l).length = l.length := by simp [Template.rows]
theorem Template.Qc {l : List Template} {i : Nat} {x : Template} (h : l[i]? = some x) : (Template.rows l)[i]? = some (Template.cells x) := Go.Pv.Qc h
theorem Template.Q14 (l : List Template) (x : Template) : Template.rows (l ++ [x]) = Template.rows l ++ [Template.cells x] := by simp [Template.rows]
theorem Template.Q39 (l : List Template) (k : Nat) (x : Template) : Template.rows (l.set k x) = (Template.rows l).set k (Template.cells x) := by simp [Template.rows, List.map_set]
theorem Template.Qm (l : List Template) : ∀ r ∈ Template.rows l, r.length = 11 := Q3a (f := Template.cells) (fun _ => rfl) l
theorem Template.Q9 (l : List Template) (sz : Nat) (h : sz = 11) : ViewOK sz (Template.rows l).flatten (Template.rows l) := by subst h; exact ⟨rfl, Template.Qm l, Q2q (f := Template.cells) (fun _ => rfl) l⟩
def Q6 : ByteArray := ⟨#[78, 111, 100, 101]⟩
def Q33 : ByteArray := ⟨#[80, 111, 100]⟩
def Q2g : ByteArray := ⟨#[97, 100, 100, 114, 101, 115, 115]⟩
def Q2l : ByteArray := ⟨#[97, 110, 116, 105]⟩
def Q2y : ByteArray := ⟨#[98, 101, 97, 116]⟩
def Qf : ByteArray := ⟨#[99, 97, 112, 97, 99, 105, 116, 121]⟩
def Qt : ByteArray := ⟨#[99, 111, 110, 116, 97, 105, 110, 101, 114, 115]⟩
def Q13 : ByteArray := ⟨#[99, 111, 114, 100, 111, 110, 101, 100]⟩
def Q4r : ByteArray := ⟨#[99, 112, 117]⟩
def Q26 : ByteArray := ⟨#[100, 101, 108, 97, 121]⟩
def Q44 : ByteArray := ⟨#[100, 105, 115, 107]⟩
def Qu : ByteArray := ⟨#[101, 102, 102, 101, 99, 116]⟩
def Q1v : ByteArray := ⟨#[101, 120, 105, 115, 116, 115]⟩
def Q18 : ByteArray := ⟨#[101, 120, 105, 116, 67, 111, 100, 101]⟩
def Q1q : ByteArray := ⟨#[102, 97, 105, 108, 117, 114, 101]⟩
def Q2p : ByteArray := ⟨#[102, 105, 110, 105, 115, 104, 101, 100]⟩
def Q3j : ByteArray := ⟨#[103, 114, 97, 99, 101]⟩
def Q1z : ByteArray := ⟨#[105, 109, 97, 103, 101]⟩
def Q2t : ByteArray := ⟨#[105, 109, 97, 103, 101, 115]⟩
def Qs : ByteArray := ⟨#[107, 101, 121]⟩
def Q1s : ByteArray := ⟨#[108, 97, 98, 101, 108, 115]⟩
def Q2k : ByteArray := ⟨#[108, 105, 109, 105, 116]⟩
def Q2o : ByteArray := ⟨#[108, 105, 118, 101]⟩
def Q2b : ByteArray := ⟨#[108, 111, 119, 68, 105, 115, 107]⟩
def Q2c : ByteArray := ⟨#[108, 111, 119, 77, 101, 109]⟩
def Q17 : ByteArray := ⟨#[109, 97, 120, 80, 111, 100, 115]⟩
def Q1i : ByteArray := ⟨#[109, 97, 120, 83, 107, 101, 119]⟩
def Q31 : ByteArray := ⟨#[109, 101, 109, 111, 114, 121]⟩
def Qp : ByteArray := ⟨#[110, 97, 109, 101]⟩
def Q3e : ByteArray := ⟨#[110, 111, 100, 101]⟩
def Q12 : ByteArray := ⟨#[110, 111, 100, 101, 83, 101, 108, 101, 99, 116, 111, 114]⟩
def Q1n : ByteArray := ⟨#[110, 111, 100, 101, 84, 101, 114, 109, 115]⟩
def Q24 : ByteArray := ⟨#[110, 111, 109, 105, 110, 97, 116, 101, 100]⟩
def Q5j : ByteArray := ⟨#[111, 112]⟩
def Q1u : ByteArray := ⟨#[112, 101, 114, 105, 111, 100]⟩
def Q2w : ByteArray := ⟨#[112, 104, 97, 115, 101]⟩
def Q28 : ByteArray := ⟨#[112, 111, 100, 84, 101, 114, 109, 115]⟩
def Q23 : ByteArray := ⟨#[112, 114, 105, 111, 114, 105, 116, 121]⟩
def Qi : ByteArray := ⟨#[114, 101, 97, 100, 121]⟩
def Q1o : ByteArray := ⟨#[114, 101, 97, 100, 121, 83, 105, 110, 99, 101]⟩
def Q38 : ByteArray := ⟨#[114, 101, 97, 115, 111, 110]⟩
def Q1c : ByteArray := ⟨#[114, 101, 113, 117, 101, 115, 116]⟩
def Qa : ByteArray := ⟨#[114, 101, 113, 117, 105, 114, 101, 100]⟩
def Q2j : ByteArray := ⟨#[114, 101, 115, 116, 97, 114, 116]⟩
def Q16 : ByteArray := ⟨#[114, 101, 115, 116, 97, 114, 116, 115]⟩
def Q1r : ByteArray := ⟨#[115, 101, 99, 111, 110, 100, 115]⟩
def Qb : ByteArray := ⟨#[115, 101, 108, 101, 99, 116, 111, 114]⟩
def Q10 : ByteArray := ⟨#[115, 105, 110, 99, 101]⟩
def Q2s : ByteArray := ⟨#[115, 105, 122, 101]⟩
def Q2r : ByteArray := ⟨#[115, 112, 101, 99]⟩
def Q30 : ByteArray := ⟨#[115, 112, 114, 101, 97, 100]⟩
def Qx : ByteArray := ⟨#[115, 116, 97, 114, 116, 101, 100]⟩
def Q1p : ByteArray := ⟨#[115, 116, 97, 114, 116, 117, 112]⟩
def Q1w : ByteArray := ⟨#[115, 116, 97, 116, 101]⟩
def Q1k : ByteArray := ⟨#[115, 117, 99, 99, 101, 115, 115]⟩
def Q1m : ByteArray := ⟨#[116, 97, 105, 110, 116, 115]⟩
def Q1x : ByteArray := ⟨#[116, 111, 108, 101, 114, 97, 116, 105, 111, 110, 115]⟩
def Ql : ByteArray := ⟨#[116, 111, 112, 111, 108, 111, 103, 121]⟩
def Q2z : ByteArray := ⟨#[117, 115, 101, 100]⟩
def Qn : ByteArray := ⟨#[118, 97, 108, 117, 101]⟩
def Q27 : ByteArray := ⟨#[118, 97, 108, 117, 101, 115]⟩
def Qw : ByteArray := ⟨#[119, 101, 105, 103, 104, 116]⟩
def Probe.enc (x : Probe) : Val := vM [.mk Q26 (vN x.delay), .mk Q1q (vN x.failure), .mk Q1u (vN x.period), .mk Q1k (vN x.success)]
def Probe.dec (v : Val) : Probe × Bool := (Probe.mk (dN v Q26).1 (dN v Q1u).1 (dN v Q1k).1 (dN v Q1q).1, isM v && (dN v Q26).2 && (dN v Q1q).2 && (dN v Q1u).2 && (dN v Q1k).2)
def Probe.sm (_ : Probe) : Prop := True
theorem Probe.Q1y {x : Probe} (_ : Probe.sm x) : Val.Sm sB (Probe.enc x) := Q9z (Nat.le_of_ble_eq_true rfl) (List.forall_mem_cons.2 ⟨Val.Sm.leaf 2 _ _, List.forall_mem_cons.2 ⟨Val.Sm.leaf 2 _ _, List.forall_mem_cons.2 ⟨Val.Sm.leaf 2 _ _, List.forall_mem_cons.2 ⟨Val.Sm.leaf 2 _ _, fun _ h => by cases h⟩⟩⟩⟩)
theorem Probe.Q1ku (x : Probe) : prt (Probe.enc x) Q26 = vN x.delay := by kernel_rfl
theorem Probe.Q1ij (x : Probe) : prt (Probe.enc x) Q1u = vN x.period := by kernel_rfl
theorem Probe.Q1g9 (x : Probe) : prt (Probe.enc x) Q1k = vN x.success := by kernel_rfl
theorem Probe.Q1fl (x : Probe) : prt (Probe.enc x) Q1q = vN x.failure := by kernel_rfl
theorem Probe.Q2h (x : Probe) : Probe.dec (Probe.enc x) = (x, true) := by
  have h0 : dN (Probe.enc x) Q26 = (x.delay, true) := by unfold dN; rw [Probe.Q1ku]; rfl
  have h1 : dN (Probe.enc x) Q1u = (x.period, true) := by unfold dN; rw [Probe.Q1ij]; rfl
  have h2 : dN (Probe.enc x) Q1k = (x.success, true) := by unfold dN; rw [Probe.Q1g9]; rfl
  have h3 : dN (Probe.enc x) Q1q = (x.failure, true) := by unfold dN; rw [Probe.Q1fl]; rfl
  unfold Probe.dec
  rw [h0, h1, h2, h3]
  rfl
theorem Probe.Q25 {v : Val} (h : (v.kind == 5) = false) : Probe.dec v = ((Probe.dec vZ).1, v.kind == 0) := by
  unfold Probe.dec
  simp only [dN, Q4m h, Q43 h]
  generalize (v.kind == 0) = b
  cases b <;> rfl
theorem Probe.sub1 (x : Val) : (Probe.dec (s5 x)).1 = (Probe.dec x).1 := (Q3k (f := Probe.dec) (fun _ h => Probe.Q25 h) rfl x).1
theorem Probe.sub2 (v : Val) (k : BA) : (Probe.dec (prt v k)).2 = (isM (prt v k) && (Probe.dec (s5 (prt v k))).2) := (Q3k (f := Probe.dec) (fun _ h => Probe.Q25 h) rfl _).2
def Resources.enc (x : Resources) : Val := vM [.mk Q4r (vN x.cPU), .mk Q44 (vN x.disk), .mk Q31 (vN x.memory)]
def Resources.dec (v : Val) : Resources × Bool := (Resources.mk (dN v Q4r).1 (dN v Q31).1 (dN v Q44).1, isM v && (dN v Q4r).2 && (dN v Q44).2 && (dN v Q31).2)
def Resources.sm (_ : Resources) : Prop := True
theorem Resources.Q1y {x : Resources} (_ : Resources.sm x) : Val.Sm sB (Resources.enc x) := Q9z (Nat.le_of_ble_eq_true rfl) (List.forall_mem_cons.2 ⟨Val.Sm.leaf 2 _ _, List.forall_mem_cons.2 ⟨Val.Sm.leaf 2 _ _, List.forall_mem_cons.2 ⟨Val.Sm.leaf 2 _ _, fun _ h => by cases h⟩⟩⟩)
theorem Resources.Q1wu (x : Resources) : prt (Resources.enc x) Q4r = vN x.cPU := by kernel_rfl
theorem Resources.Q1im (x : Resources) : prt (Resources.enc x) Q31 = vN x.memory := by kernel_rfl
theorem Resources.Q1p3 (x : Resources) : prt (Resources.enc x) Q44 = vN x.disk := by kernel_rfl
theorem Resources.Q2h (x : Resources) : Resources.dec (Resources.enc x) = (x, true) := by
  have h0 : dN (Resources.enc x) Q4r = (x.cPU, true) := by unfold dN; rw [Resources.Q1wu]; rfl
  have h1 : dN (Resources.enc x) Q31 = (x.memory, true) := by unfold dN; rw [Resources.Q1im]; rfl
  have h2 : dN (Resources.enc x) Q44 = (x.disk, true) := by unfold dN; rw [Resources.Q1p3]; rfl
  unfold Resources.dec
  rw [h0, h1, h2]
  rfl
theorem Resources.Q25 {v : Val} (h : (v.kind == 5) = false) : Resources.dec v = ((Resources.dec vZ).1, v.kind == 0) := by
  unfold Resources.dec
  simp only [dN, Q4m h, Q43 h]
  generalize (v.kind == 0) = b
  cases b <;> rfl
theorem Resources.sub1 (x : Val) : (Resources.dec (s5 x)).1 = (Resources.dec x).1 := (Q3k (f := Resources.dec) (fun _ h => Resources.Q25 h) rfl x).1
theorem Resources.sub2 (v : Val) (k : BA) : (Resources.dec (prt v k)).2 = (isM (prt v k) && (Resources.dec (s5 (prt v k))).2) := (Q3k (f := Resources.dec) (fun _ h => Resources.Q25 h) rfl _).2
def Container.enc (x : Container) : Val := vM [.mk Q1z (vS x.image), .mk Q2k (Resources.enc x.limit), .mk Q2o (vL (x.live.map Probe.enc)), .mk Qp (vS x.name), .mk Qi (vL (x.ready.map Probe.enc)), .mk Q1c (Resources.enc x.request), .mk Q1p (vL (x.startup.map Probe.enc))]
def Container.dec (v : Val) : Container × Bool := (Container.mk (dS v Qp).1 (dS v Q1z).1 (dT Resources.dec v Q1c).1 (dT Resources.dec v Q2k).1 (dE Probe.dec v Q2o).1 (dE Probe.dec v Qi).1 (dE Probe.dec v Q1p).1, isM v && (dS v Q1z).2 && (dT Resources.dec v Q2k).2 && (dE Probe.dec v Q2o).2 && (dS v Qp).2 && (dE Probe.dec v Qi).2 && (dT Resources.dec v Q1c).2 && (dE Probe.dec v Q1p).2)
def Container.sm (x : Container) : Prop := Resources.sm x.request ∧ Resources.sm x.limit ∧ LSm Probe.sm x.live ∧ LSm Probe.sm x.ready ∧ LSm Probe.sm x.startup ∧ True
theorem Container.Q1y {x : Container} (h : Container.sm x) : Val.Sm sB (Container.enc x) := Q9z (Nat.le_of_ble_eq_true rfl) (List.forall_mem_cons.2 ⟨Val.Sm.leaf 3 _ _, List.forall_mem_cons.2 ⟨Resources.Q1y h.2.1, List.forall_mem_cons.2 ⟨Q32 (fun _ h => Probe.Q1y h) h.2.2.1, List.forall_mem_cons.2 ⟨Val.Sm.leaf 3 _ _, List.forall_mem_cons.2 ⟨Q32 (fun _ h => Probe.Q1y h) h.2.2.2.1, List.forall_mem_cons.2 ⟨Resources.Q1y h.1, List.forall_mem_cons.2 ⟨Q32 (fun _ h => Probe.Q1y h) h.2.2.2.2.1, fun _ h => by cases h⟩⟩⟩⟩⟩⟩⟩)
theorem Container.Qym (x : Container) : prt (Container.enc x) Qp = vS x.name := by kernel_rfl
theorem Container.Q1kz (x : Container) : prt (Container.enc x) Q1z = vS x.image := by kernel_rfl
theorem Container.Q1d0 (x : Container) : prt (Container.enc x) Q1c = Resources.enc x.request := by kernel_rfl
theorem Container.Q1m6 (x : Container) : prt (Container.enc x) Q2k = Resources.enc x.limit := by kernel_rfl
theorem Container.Q1pr (x : Container) : prt (Container.enc x) Q2o = vL (x.live.map Probe.enc) := by kernel_rfl
theorem Container.Qk5 (x : Container) : prt (Container.enc x) Qi = vL (x.ready.map Probe.enc) := by kernel_rfl
theorem Container.Q1e7 (x : Container) : prt (Container.enc x) Q1p = vL (x.startup.map Probe.enc) := by kernel_rfl
theorem Container.Q2h (x : Container) : Container.dec (Container.enc x) = (x, true) := by
  have h0 : dS (Container.enc x) Qp = (x.name, true) := by unfold dS; rw [Container.Qym]; rfl
  have h1 : dS (Container.enc x) Q1z = (x.image, true) := by unfold dS; rw [Container.Q1kz]; rfl
  have h2 : dT Resources.dec (Container.enc x) Q1c = (x.request, true) := by unfold dT; rw [Container.Q1d0]; exact Resources.Q2h _
  have h3 : dT Resources.dec (Container.enc x) Q2k = (x.limit, true) := by unfold dT; rw [Container.Q1m6]; exact Resources.Q2h _
  have h4 : dE Probe.dec (Container.enc x) Q2o = (x.live, true) := by unfold dE; rw [Container.Q1pr]; exact Q6b Probe.Q2h _
  have h5 : dE Probe.dec (Container.enc x) Qi = (x.ready, true) := by unfold dE; rw [Container.Qk5]; exact Q6b Probe.Q2h _
  have h6 : dE Probe.dec (Container.enc x) Q1p = (x.startup, true) := by unfold dE; rw [Container.Q1e7]; exact Q6b Probe.Q2h _
  unfold Container.dec
  rw [h0, h1, h2, h3, h4, h5, h6]
  rfl
theorem Container.Q25 {v : Val} (h : (v.kind == 5) = false) : Container.dec v = ((Container.dec vZ).1, v.kind == 0) := by
  unfold Container.dec
  simp only [dS, dE, dT, Q4m h, Q43 h]
  generalize (v.kind == 0) = b
  cases b <;> rfl
theorem Container.sub1 (x : Val) : (Container.dec (s5 x)).1 = (Container.dec x).1 := (Q3k (f := Container.dec) (fun _ h => Container.Q25 h) rfl x).1
theorem Container.sub2 (v : Val) (k : BA) : (Container.dec (prt v k)).2 = (isM (prt v k) && (Container.dec (s5 (prt v k))).2) := (Q3k (f := Container.dec) (fun _ h => Container.Q25 h) rfl _).2
def Requirement.enc (x : Requirement) : Val := vM [.mk Qs (vS x.key), .mk Q5j (vN x.op), .mk Q27 (vL (x.values.map vS))]
def Requirement.dec (v : Val) : Requirement × Bool := (Requirement.mk (dS v Qs).1 (dN v Q5j).1 (dE xS v Q27).1, isM v && (dS v Qs).2 && (dN v Q5j).2 && (dE xS v Q27).2)
def Requirement.sm (x : Requirement) : Prop := LSm (fun _ : ByteArray => True) x.values ∧ True
theorem Requirement.Q1y {x : Requirement} (h : Requirement.sm x) : Val.Sm sB (Requirement.enc x) := Q9z (Nat.le_of_ble_eq_true rfl) (List.forall_mem_cons.2 ⟨Val.Sm.leaf 3 _ _, List.forall_mem_cons.2 ⟨Val.Sm.leaf 2 _ _, List.forall_mem_cons.2 ⟨Q32 (fun _ h => Val.Sm.leaf _ _ _) h.1, fun _ h => by cases h⟩⟩⟩)
theorem Requirement.Q12z (x : Requirement) : prt (Requirement.enc x) Qs = vS x.key := by kernel_rfl
theorem Requirement.p_op (x : Requirement) : prt (Requirement.enc x) Q5j = vN x.op := by kernel_rfl
theorem Requirement.Q1gw (x : Requirement) : prt (Requirement.enc x) Q27 = vL (x.values.map vS) := by kernel_rfl
theorem Requirement.Q2h (x : Requirement) : Requirement.dec (Requirement.enc x) = (x, true) := by
  have h0 : dS (Requirement.enc x) Qs = (x.key, true) := by unfold dS; rw [Requirement.Q12z]; rfl
  have h1 : dN (Requirement.enc x) Q5j = (x.op, true) := by unfold dN; rw [Requirement.p_op]; rfl
  have h2 : dE xS (Requirement.enc x) Q27 = (x.values, true) := by unfold dE; rw [Requirement.Q1gw]; exact Q6b (fun _ => rfl) _
  unfold Requirement.dec
  rw [h0, h1, h2]
  rfl
theorem Requirement.Q25 {v : Val} (h : (v.kind == 5) = false) : Requirement.dec v = ((Requirement.dec vZ).1, v.kind == 0) := by
  unfold Requirement.dec
  simp only [dN, dS, dE, Q4m h, Q43 h]
  generalize (v.kind == 0) = b
  cases b <;> rfl
theorem Requirement.sub1 (x : Val) : (Requirement.dec (s5 x)).1 = (Requirement.dec x).1 := (Q3k (f := Requirement.dec) (fun _ h => Requirement.Q25 h) rfl x).1
theorem Requirement.sub2 (v : Val) (k : BA) : (Requirement.dec (prt v k)).2 = (isM (prt v k) && (Requirement.dec (s5 (prt v k))).2) := (Q3k (f := Requirement.dec) (fun _ h => Requirement.Q25 h) rfl _).2
def NodeTerm.enc (x : NodeTerm) : Val := vM [.mk Qa (vB x.required), .mk Qb (vL (x.selector.map Requirement.enc)), .mk Qw (vN x.weight)]
def NodeTerm.dec (v : Val) : NodeTerm × Bool := (NodeTerm.mk (dB v Qa).1 (dE Requirement.dec v Qb).1 (dN v Qw).1, isM v && (dB v Qa).2 && (dE Requirement.dec v Qb).2 && (dN v Qw).2)
def NodeTerm.sm (x : NodeTerm) : Prop := LSm Requirement.sm x.selector ∧ True
theorem NodeTerm.Q1y {x : NodeTerm} (h : NodeTerm.sm x) : Val.Sm sB (NodeTerm.enc x) := Q9z (Nat.le_of_ble_eq_true rfl) (List.forall_mem_cons.2 ⟨Val.Sm.leaf 1 _ _, List.forall_mem_cons.2 ⟨Q32 (fun _ h => Requirement.Q1y h) h.1, List.forall_mem_cons.2 ⟨Val.Sm.leaf 2 _ _, fun _ h => by cases h⟩⟩⟩)
theorem NodeTerm.Q88 (x : NodeTerm) : prt (NodeTerm.enc x) Qa = vB x.required := by kernel_rfl
theorem NodeTerm.Q89 (x : NodeTerm) : prt (NodeTerm.enc x) Qb = vL (x.selector.map Requirement.enc) := by kernel_rfl
theorem NodeTerm.Quy (x : NodeTerm) : prt (NodeTerm.enc x) Qw = vN x.weight := by kernel_rfl
theorem NodeTerm.Q2h (x : NodeTerm) : NodeTerm.dec (NodeTerm.enc x) = (x, true) := by
  have h0 : dB (NodeTerm.enc x) Qa = (x.required, true) := by unfold dB; rw [NodeTerm.Q88]; exact xB_b _
  have h1 : dE Requirement.dec (NodeTerm.enc x) Qb = (x.selector, true) := by unfold dE; rw [NodeTerm.Q89]; exact Q6b Requirement.Q2h _
  have h2 : dN (NodeTerm.enc x) Qw = (x.weight, true) := by unfold dN; rw [NodeTerm.Quy]; rfl
  unfold NodeTerm.dec
  rw [h0, h1, h2]
  rfl
theorem NodeTerm.Q25 {v : Val} (h : (v.kind == 5) = false) : NodeTerm.dec v = ((NodeTerm.dec vZ).1, v.kind == 0) := by
  unfold NodeTerm.dec
  simp only [dN, dB, dE, Q4m h, Q43 h]
  generalize (v.kind == 0) = b
  cases b <;> rfl
theorem NodeTerm.sub1 (x : Val) : (NodeTerm.dec (s5 x)).1 = (NodeTerm.dec x).1 := (Q3k (f := NodeTerm.dec) (fun _ h => NodeTerm.Q25 h) rfl x).1
theorem NodeTerm.sub2 (v : Val) (k : BA) : (NodeTerm.dec (prt v k)).2 = (isM (prt v k) && (NodeTerm.dec (s5 (prt v k))).2) := (Q3k (f := NodeTerm.dec) (fun _ h => NodeTerm.Q25 h) rfl _).2
def PodTerm.enc (x : PodTerm) : Val := vM [.mk Q2l (vB x.anti), .mk Qa (vB x.required), .mk Qb (vL (x.selector.map Requirement.enc)), .mk Ql (vS x.topology), .mk Qw (vN x.weight)]
def PodTerm.dec (v : Val) : PodTerm × Bool := (PodTerm.mk (dB v Qa).1 (dB v Q2l).1 (dE Requirement.dec v Qb).1 (dS v Ql).1 (dN v Qw).1, isM v && (dB v Q2l).2 && (dB v Qa).2 && (dE Requirement.dec v Qb).2 && (dS v Ql).2 && (dN v Qw).2)
def PodTerm.sm (x : PodTerm) : Prop := LSm Requirement.sm x.selector ∧ True
theorem PodTerm.Q1y {x : PodTerm} (h : PodTerm.sm x) : Val.Sm sB (PodTerm.enc x) := Q9z (Nat.le_of_ble_eq_true rfl) (List.forall_mem_cons.2 ⟨Val.Sm.leaf 1 _ _, List.forall_mem_cons.2 ⟨Val.Sm.leaf 1 _ _, List.forall_mem_cons.2 ⟨Q32 (fun _ h => Requirement.Q1y h) h.1, List.forall_mem_cons.2 ⟨Val.Sm.leaf 3 _ _, List.forall_mem_cons.2 ⟨Val.Sm.leaf 2 _ _, fun _ h => by cases h⟩⟩⟩⟩⟩)
theorem PodTerm.Q88 (x : PodTerm) : prt (PodTerm.enc x) Qa = vB x.required := by kernel_rfl
theorem PodTerm.Q1nn (x : PodTerm) : prt (PodTerm.enc x) Q2l = vB x.anti := by kernel_rfl
theorem PodTerm.Q89 (x : PodTerm) : prt (PodTerm.enc x) Qb = vL (x.selector.map Requirement.enc) := by kernel_rfl
theorem PodTerm.Qdq (x : PodTerm) : prt (PodTerm.enc x) Ql = vS x.topology := by kernel_rfl
theorem PodTerm.Quy (x : PodTerm) : prt (PodTerm.enc x) Qw = vN x.weight := by kernel_rfl
theorem PodTerm.Q2h (x : PodTerm) : PodTerm.dec (PodTerm.enc x) = (x, true) := by
  have h0 : dB (PodTerm.enc x) Qa = (x.required, true) := by unfold dB; rw [PodTerm.Q88]; exact xB_b _
  have h1 : dB (PodTerm.enc x) Q2l = (x.anti, true) := by unfold dB; rw [PodTerm.Q1nn]; exact xB_b _
  have h2 : dE Requirement.dec (PodTerm.enc x) Qb = (x.selector, true) := by unfold dE; rw [PodTerm.Q89]; exact Q6b Requirement.Q2h _
  have h3 : dS (PodTerm.enc x) Ql = (x.topology, true) := by unfold dS; rw [PodTerm.Qdq]; rfl
  have h4 : dN (PodTerm.enc x) Qw = (x.weight, true) := by unfold dN; rw [PodTerm.Quy]; rfl
  unfold PodTerm.dec
  rw [h0, h1, h2, h3, h4]
  rfl
theorem PodTerm.Q25 {v : Val} (h : (v.kind == 5) = false) : PodTerm.dec v = ((PodTerm.dec vZ).1, v.kind == 0) := by
  unfold PodTerm.dec
  simp only [dN, dS, dB, dE, Q4m h, Q43 h]
  generalize (v.kind == 0) = b
  cases b <;> rfl
theorem PodTerm.sub1 (x : Val) : (PodTerm.dec (s5 x)).1 = (PodTerm.dec x).1 := (Q3k (f := PodTerm.dec) (fun _ h => PodTerm.Q25 h) rfl x).1
theorem PodTerm.sub2 (v : Val) (k : BA) : (PodTerm.dec (prt v k)).2 = (isM (prt v k) && (PodTerm.dec (s5 (prt v k))).2) := (Q3k (f := PodTerm.dec) (fun _ h => PodTerm.Q25 h) rfl _).2
def SpreadRule.enc (x : SpreadRule) : Val := vM [.mk Q1i (vN x.maxSkew), .mk Qa (vB x.required), .mk Qb (vL (x.selector.map Requirement.enc)), .mk Ql (vS x.topology)]
def SpreadRule.dec (v : Val) : SpreadRule × Bool := (SpreadRule.mk (dN v Q1i).1 (dS v Ql).1 (dE Requirement.dec v Qb).1 (dB v Qa).1, isM v && (dN v Q1i).2 && (dB v Qa).2 && (dE Requirement.dec v Qb).2 && (dS v Ql).2)
def SpreadRule.sm (x : SpreadRule) : Prop := LSm Requirement.sm x.selector ∧ True
theorem SpreadRule.Q1y {x : SpreadRule} (h : SpreadRule.sm x) : Val.Sm sB (SpreadRule.enc x) := Q9z (Nat.le_of_ble_eq_true rfl) (List.forall_mem_cons.2 ⟨Val.Sm.leaf 2 _ _, List.forall_mem_cons.2 ⟨Val.Sm.leaf 1 _ _, List.forall_mem_cons.2 ⟨Q32 (fun _ h => Requirement.Q1y h) h.1, List.forall_mem_cons.2 ⟨Val.Sm.leaf 3 _ _, fun _ h => by cases h⟩⟩⟩⟩)
theorem SpreadRule.Q1fv (x : SpreadRule) : prt (SpreadRule.enc x) Q1i = vN x.maxSkew := by kernel_rfl
theorem SpreadRule.Qdq (x : SpreadRule) : prt (SpreadRule.enc x) Ql = vS x.topology := by kernel_rfl
theorem SpreadRule.Q89 (x : SpreadRule) : prt (SpreadRule.enc x) Qb = vL (x.selector.map Requirement.enc) := by kernel_rfl
theorem SpreadRule.Q88 (x : SpreadRule) : prt (SpreadRule.enc x) Qa = vB x.required := by kernel_rfl
theorem SpreadRule.Q2h (x : SpreadRule) : SpreadRule.dec (SpreadRule.enc x) = (x, true) := by
  have h0 : dN (SpreadRule.enc x) Q1i = (x.maxSkew, true) := by unfold dN; rw [SpreadRule.Q1fv]; rfl
  have h1 : dS (SpreadRule.enc x) Ql = (x.topology, true) := by unfold dS; rw [SpreadRule.Qdq]; rfl
  have h2 : dE Requirement.dec (SpreadRule.enc x) Qb = (x.selector, true) := by unfold dE; rw [SpreadRule.Q89]; exact Q6b Requirement.Q2h _
  have h3 : dB (SpreadRule.enc x) Qa = (x.required, true) := by unfold dB; rw [SpreadRule.Q88]; exact xB_b _
  unfold SpreadRule.dec
  rw [h0, h1, h2, h3]
  rfl
theorem SpreadRule.Q25 {v : Val} (h : (v.kind == 5) = false) : SpreadRule.dec v = ((SpreadRule.dec vZ).1, v.kind == 0) := by
  unfold SpreadRule.dec
  simp only [dN, dS, dB, dE, Q4m h, Q43 h]
  generalize (v.kind == 0) = b
  cases b <;> rfl
theorem SpreadRule.sub1 (x : Val) : (SpreadRule.dec (s5 x)).1 = (SpreadRule.dec x).1 := (Q3k (f := SpreadRule.dec) (fun _ h => SpreadRule.Q25 h) rfl x).1
theorem SpreadRule.sub2 (v : Val) (k : BA) : (SpreadRule.dec (prt v k)).2 = (isM (prt v k) && (SpreadRule.dec (s5 (prt v k))).2) := (Q3k (f := SpreadRule.dec) (fun _ h => SpreadRule.Q25 h) rfl _).2
def Toleration.enc (x : Toleration) : Val := vM [.mk Qu (vN x.effect), .mk Q1v (vB x.exists_), .mk Qs (vS x.key), .mk Q1r (vN x.seconds), .mk Qn (vS x.value)]
def Toleration.dec (v : Val) : Toleration × Bool := (Toleration.mk (dS v Qs).1 (dS v Qn).1 (dB v Q1v).1 (dN v Qu).1 (dN v Q1r).1, isM v && (dN v Qu).2 && (dB v Q1v).2 && (dS v Qs).2 && (dN v Q1r).2 && (dS v Qn).2)
def Toleration.sm (_ : Toleration) : Prop := True
theorem Toleration.Q1y {x : Toleration} (_ : Toleration.sm x) : Val.Sm sB (Toleration.enc x) := Q9z (Nat.le_of_ble_eq_true rfl) (List.forall_mem_cons.2 ⟨Val.Sm.leaf 2 _ _, List.forall_mem_cons.2 ⟨Val.Sm.leaf 1 _ _, List.forall_mem_cons.2 ⟨Val.Sm.leaf 3 _ _, List.forall_mem_cons.2 ⟨Val.Sm.leaf 2 _ _, List.forall_mem_cons.2 ⟨Val.Sm.leaf 3 _ _, fun _ h => by cases h⟩⟩⟩⟩⟩)
theorem Toleration.Q12z (x : Toleration) : prt (Toleration.enc x) Qs = vS x.key := by kernel_rfl
theorem Toleration.Ql6 (x : Toleration) : prt (Toleration.enc x) Qn = vS x.value := by kernel_rfl
theorem Toleration.Q1fa (x : Toleration) : prt (Toleration.enc x) Q1v = vB x.exists_ := by kernel_rfl
theorem Toleration.Qw6 (x : Toleration) : prt (Toleration.enc x) Qu = vN x.effect := by kernel_rfl
theorem Toleration.Q1e0 (x : Toleration) : prt (Toleration.enc x) Q1r = vN x.seconds := by kernel_rfl
theorem Toleration.Q2h (x : Toleration) : Toleration.dec (Toleration.enc x) = (x, true) := by
  have h0 : dS (Toleration.enc x) Qs = (x.key, true) := by unfold dS; rw [Toleration.Q12z]; rfl
  have h1 : dS (Toleration.enc x) Qn = (x.value, true) := by unfold dS; rw [Toleration.Ql6]; rfl
  have h2 : dB (Toleration.enc x) Q1v = (x.exists_, true) := by unfold dB; rw [Toleration.Q1fa]; exact xB_b _
  have h3 : dN (Toleration.enc x) Qu = (x.effect, true) := by unfold dN; rw [Toleration.Qw6]; rfl
  have h4 : dN (Toleration.enc x) Q1r = (x.seconds, true) := by unfold dN; rw [Toleration.Q1e0]; rfl
  unfold Toleration.dec
  rw [h0, h1, h2, h3, h4]
  rfl
theorem Toleration.Q25 {v : Val} (h : (v.kind == 5) = false) : Toleration.dec v = ((Toleration.dec vZ).1, v.kind == 0) := by
  unfold Toleration.dec
  simp only [dN, dS, dB, Q4m h, Q43 h]
  generalize (v.kind == 0) = b
  cases b <;> rfl
theorem Toleration.sub1 (x : Val) : (Toleration.dec (s5 x)).1 = (Toleration.dec x).1 := (Q3k (f := Toleration.dec) (fun _ h => Toleration.Q25 h) rfl x).1
theorem Toleration.sub2 (v : Val) (k : BA) : (Toleration.dec (prt v k)).2 = (isM (prt v k) && (Toleration.dec (s5 (prt v k))).2) := (Q3k (f := Toleration.dec) (fun _ h => Toleration.Q25 h) rfl _).2
def PodSpec.enc (x : PodSpec) : Val := vM [.mk Qt (vL (x.containers.map Container.enc)), .mk Q3j (vN x.grace), .mk Q3e (vS x.node), .mk Q12 (vL (x.nodeSelector.map Requirement.enc)), .mk Q1n (vL (x.nodeTerms.map NodeTerm.enc)), .mk Q28 (vL (x.podTerms.map PodTerm.enc)), .mk Q23 (vN x.priority), .mk Q2j (vN x.restart), .mk Q30 (vL (x.spread.map SpreadRule.enc)), .mk Q1x (vL (x.tolerations.map Toleration.enc))]
def PodSpec.dec (v : Val) : PodSpec × Bool := (PodSpec.mk (dS v Q3e).1 (dN v Q23).1 (dN v Q2j).1 (dN v Q3j).1 (dE Container.dec v Qt).1 (dE Requirement.dec v Q12).1 (dE NodeTerm.dec v Q1n).1 (dE PodTerm.dec v Q28).1 (dE SpreadRule.dec v Q30).1 (dE Toleration.dec v Q1x).1, isM v && (dE Container.dec v Qt).2 && (dN v Q3j).2 && (dS v Q3e).2 && (dE Requirement.dec v Q12).2 && (dE NodeTerm.dec v Q1n).2 && (dE PodTerm.dec v Q28).2 && (dN v Q23).2 && (dN v Q2j).2 && (dE SpreadRule.dec v Q30).2 && (dE Toleration.dec v Q1x).2)
def PodSpec.sm (x : PodSpec) : Prop := LSm Container.sm x.containers ∧ LSm Requirement.sm x.nodeSelector ∧ LSm NodeTerm.sm x.nodeTerms ∧ LSm PodTerm.sm x.podTerms ∧ LSm SpreadRule.sm x.spread ∧ LSm Toleration.sm x.tolerations ∧ True
theorem PodSpec.Q1y {x : PodSpec} (h : PodSpec.sm x) : Val.Sm sB (PodSpec.enc x) := Q9z (Nat.le_of_ble_eq_true rfl) (List.forall_mem_cons.2 ⟨Q32 (fun _ h => Container.Q1y h) h.1, List.forall_mem_cons.2 ⟨Val.Sm.leaf 2 _ _, List.forall_mem_cons.2 ⟨Val.Sm.leaf 3 _ _, List.forall_mem_cons.2 ⟨Q32 (fun _ h => Requirement.Q1y h) h.2.1, List.forall_mem_cons.2 ⟨Q32 (fun _ h => NodeTerm.Q1y h) h.2.2.1, List.forall_mem_cons.2 ⟨Q32 (fun _ h => PodTerm.Q1y h) h.2.2.2.1, List.forall_mem_cons.2 ⟨Val.Sm.leaf 2 _ _, List.forall_mem_cons.2 ⟨Val.Sm.leaf 2 _ _, List.forall_mem_cons.2 ⟨Q32 (fun _ h => SpreadRule.Q1y h) h.2.2.2.2.1, List.forall_mem_cons.2 ⟨Q32 (fun _ h => Toleration.Q1y h) h.2.2.2.2.2.1, fun _ h => by cases h⟩⟩⟩⟩⟩⟩⟩⟩⟩⟩)
theorem PodSpec.Q1qk (x : PodSpec) : prt (PodSpec.enc x) Q3e = vS x.node := by kernel_rfl
theorem PodSpec.Q1ay (x : PodSpec) : prt (PodSpec.enc x) Q23 = vN x.priority := by kernel_rfl
theorem PodSpec.Q1eh (x : PodSpec) : prt (PodSpec.enc x) Q2j = vN x.restart := by kernel_rfl
theorem PodSpec.Q1ks (x : PodSpec) : prt (PodSpec.enc x) Q3j = vN x.grace := by kernel_rfl
theorem PodSpec.Q97 (x : PodSpec) : prt (PodSpec.enc x) Qt = vL (x.containers.map Container.enc) := by kernel_rfl
theorem PodSpec.Qp5 (x : PodSpec) : prt (PodSpec.enc x) Q12 = vL (x.nodeSelector.map Requirement.enc) := by kernel_rfl
theorem PodSpec.Q12c (x : PodSpec) : prt (PodSpec.enc x) Q1n = vL (x.nodeTerms.map NodeTerm.enc) := by kernel_rfl
theorem PodSpec.Q1bt (x : PodSpec) : prt (PodSpec.enc x) Q28 = vL (x.podTerms.map PodTerm.enc) := by kernel_rfl
theorem PodSpec.Q1i2 (x : PodSpec) : prt (PodSpec.enc x) Q30 = vL (x.spread.map SpreadRule.enc) := by kernel_rfl
theorem PodSpec.Qvl (x : PodSpec) : prt (PodSpec.enc x) Q1x = vL (x.tolerations.map Toleration.enc) := by kernel_rfl
theorem PodSpec.Q2h (x : PodSpec) : PodSpec.dec (PodSpec.enc x) = (x, true) := by
  have h0 : dS (PodSpec.enc x) Q3e = (x.node, true) := by unfold dS; rw [PodSpec.Q1qk]; rfl
  have h1 : dN (PodSpec.enc x) Q23 = (x.priority, true) := by unfold dN; rw [PodSpec.Q1ay]; rfl
  have h2 : dN (PodSpec.enc x) Q2j = (x.restart, true) := by unfold dN; rw [PodSpec.Q1eh]; rfl
  have h3 : dN (PodSpec.enc x) Q3j = (x.grace, true) := by unfold dN; rw [PodSpec.Q1ks]; rfl
  have h4 : dE Container.dec (PodSpec.enc x) Qt = (x.containers, true) := by unfold dE; rw [PodSpec.Q97]; exact Q6b Container.Q2h _
  have h5 : dE Requirement.dec (PodSpec.enc x) Q12 = (x.nodeSelector, true) := by unfold dE; rw [PodSpec.Qp5]; exact Q6b Requirement.Q2h _
  have h6 : dE NodeTerm.dec (PodSpec.enc x) Q1n = (x.nodeTerms, true) := by unfold dE; rw [PodSpec.Q12c]; exact Q6b NodeTerm.Q2h _
  have h7 : dE PodTerm.dec (PodSpec.enc x) Q28 = (x.podTerms, true) := by unfold dE; rw [PodSpec.Q1bt]; exact Q6b PodTerm.Q2h _
  have h8 : dE SpreadRule.dec (PodSpec.enc x) Q30 = (x.spread, true) := by unfold dE; rw [PodSpec.Q1i2]; exact Q6b SpreadRule.Q2h _
  have h9 : dE Toleration.dec (PodSpec.enc x) Q1x = (x.tolerations, true) := by unfold dE; rw [PodSpec.Qvl]; exact Q6b Toleration.Q2h _
  unfold PodSpec.dec
  rw [h0, h1, h2, h3, h4, h5, h6, h7, h8, h9]
  rfl
theorem PodSpec.Q25 {v : Val} (h : (v.kind == 5) = false) : PodSpec.dec v = ((PodSpec.dec vZ).1, v.kind == 0) := by
  unfold PodSpec.dec
  simp only [dN, dS, dE, Q4m h, Q43 h]
  generalize (v.kind == 0) = b
  cases b <;> rfl
theorem PodSpec.sub1 (x : Val) : (PodSpec.dec (s5 x)).1 = (PodSpec.dec x).1 := (Q3k (f := PodSpec.dec) (fun _ h => PodSpec.Q25 h) rfl x).1
theorem PodSpec.sub2 (v : Val) (k : BA) : (PodSpec.dec (prt v k)).2 = (isM (prt v k) && (PodSpec.dec (s5 (prt v k))).2) := (Q3k (f := PodSpec.dec) (fun _ h => PodSpec.Q25 h) rfl _).2
def ContainerStatus.enc (x : ContainerStatus) : Val := vM [.mk Q18 (vN x.exitCode), .mk Qp (vS x.name), .mk Qi (vB x.ready), .mk Q16 (vN x.restarts), .mk Q10 (vN x.since), .mk Qx (vB x.started), .mk Q1w (vN x.state)]
def ContainerStatus.dec (v : Val) : ContainerStatus × Bool := (ContainerStatus.mk (dS v Qp).1 (dN v Q1w).1 (dN v Q16).1 (dN v Q18).1 (dN v Q10).1 (dB v Qi).1 (dB v Qx).1, isM v && (dN v Q18).2 && (dS v Qp).2 && (dB v Qi).2 && (dN v Q16).2 && (dN v Q10).2 && (dB v Qx).2 && (dN v Q1w).2)
def ContainerStatus.sm (_ : ContainerStatus) : Prop := True
theorem ContainerStatus.Q1y {x : ContainerStatus} (_ : ContainerStatus.sm x) : Val.Sm sB (ContainerStatus.enc x) := Q9z (Nat.le_of_ble_eq_true rfl) (List.forall_mem_cons.2 ⟨Val.Sm.leaf 2 _ _, List.forall_mem_cons.2 ⟨Val.Sm.leaf 3 _ _, List.forall_mem_cons.2 ⟨Val.Sm.leaf 1 _ _, List.forall_mem_cons.2 ⟨Val.Sm.leaf 2 _ _, List.forall_mem_cons.2 ⟨Val.Sm.leaf 2 _ _, List.forall_mem_cons.2 ⟨Val.Sm.leaf 1 _ _, List.forall_mem_cons.2 ⟨Val.Sm.leaf 2 _ _, fun _ h => by cases h⟩⟩⟩⟩⟩⟩⟩)
theorem ContainerStatus.Qym (x : ContainerStatus) : prt (ContainerStatus.enc x) Qp = vS x.name := by kernel_rfl
theorem ContainerStatus.Q1ml (x : ContainerStatus) : prt (ContainerStatus.enc x) Q1w = vN x.state := by kernel_rfl
theorem ContainerStatus.Q18q (x : ContainerStatus) : prt (ContainerStatus.enc x) Q16 = vN x.restarts := by kernel_rfl
theorem ContainerStatus.Q1ae (x : ContainerStatus) : prt (ContainerStatus.enc x) Q18 = vN x.exitCode := by kernel_rfl
theorem ContainerStatus.Q13c (x : ContainerStatus) : prt (ContainerStatus.enc x) Q10 = vN x.since := by kernel_rfl
theorem ContainerStatus.Qk5 (x : ContainerStatus) : prt (ContainerStatus.enc x) Qi = vB x.ready := by kernel_rfl
theorem ContainerStatus.Qns (x : ContainerStatus) : prt (ContainerStatus.enc x) Qx = vB x.started := by kernel_rfl
theorem ContainerStatus.Q2h (x : ContainerStatus) : ContainerStatus.dec (ContainerStatus.enc x) = (x, true) := by
  have h0 : dS (ContainerStatus.enc x) Qp = (x.name, true) := by unfold dS; rw [ContainerStatus.Qym]; rfl
  have h1 : dN (ContainerStatus.enc x) Q1w = (x.state, true) := by unfold dN; rw [ContainerStatus.Q1ml]; rfl
  have h2 : dN (ContainerStatus.enc x) Q16 = (x.restarts, true) := by unfold dN; rw [ContainerStatus.Q18q]; rfl
  have h3 : dN (ContainerStatus.enc x) Q18 = (x.exitCode, true) := by unfold dN; rw [ContainerStatus.Q1ae]; rfl
  have h4 : dN (ContainerStatus.enc x) Q10 = (x.since, true) := by unfold dN; rw [ContainerStatus.Q13c]; rfl
  have h5 : dB (ContainerStatus.enc x) Qi = (x.ready, true) := by unfold dB; rw [ContainerStatus.Qk5]; exact xB_b _
  have h6 : dB (ContainerStatus.enc x) Qx = (x.started, true) := by unfold dB; rw [ContainerStatus.Qns]; exact xB_b _
  unfold ContainerStatus.dec
  rw [h0, h1, h2, h3, h4, h5, h6]
  rfl
theorem ContainerStatus.Q25 {v : Val} (h : (v.kind == 5) = false) : ContainerStatus.dec v = ((ContainerStatus.dec vZ).1, v.kind == 0) := by
  unfold ContainerStatus.dec
  simp only [dN, dS, dB, Q4m h, Q43 h]
  generalize (v.kind == 0) = b
  cases b <;> rfl
theorem ContainerStatus.sub1 (x : Val) : (ContainerStatus.dec (s5 x)).1 = (ContainerStatus.dec x).1 := (Q3k (f := ContainerStatus.dec) (fun _ h => ContainerStatus.Q25 h) rfl x).1
theorem ContainerStatus.sub2 (v : Val) (k : BA) : (ContainerStatus.dec (prt v k)).2 = (isM (prt v k) && (ContainerStatus.dec (s5 (prt v k))).2) := (Q3k (f := ContainerStatus.dec) (fun _ h => ContainerStatus.Q25 h) rfl _).2
def PodStatus.enc (x : PodStatus) : Val := vM [.mk Q2g (vN x.address), .mk Qt (vL (x.containers.map ContainerStatus.enc)), .mk Q2p (vN x.finished), .mk Q24 (vS x.nominated), .mk Q2w (vN x.phase), .mk Qi (vB x.ready), .mk Q1o (vN x.readySince), .mk Q38 (vS x.reason), .mk Qx (vN x.started)]
def PodStatus.dec (v : Val) : PodStatus × Bool := (PodStatus.mk (dN v Q2w).1 (dB v Qi).1 (dN v Q1o).1 (dN v Qx).1 (dN v Q2p).1 (dE ContainerStatus.dec v Qt).1 (dN v Q2g).1 (dS v Q24).1 (dS v Q38).1, isM v && (dN v Q2g).2 && (dE ContainerStatus.dec v Qt).2 && (dN v Q2p).2 && (dS v Q24).2 && (dN v Q2w).2 && (dB v Qi).2 && (dN v Q1o).2 && (dS v Q38).2 && (dN v Qx).2)
def PodStatus.sm (x : PodStatus) : Prop := LSm ContainerStatus.sm x.containers ∧ True
theorem PodStatus.Q1y {x : PodStatus} (h : PodStatus.sm x) : Val.Sm sB (PodStatus.enc x) := Q9z (Nat.le_of_ble_eq_true rfl) (List.forall_mem_cons.2 ⟨Val.Sm.leaf 2 _ _, List.forall_mem_cons.2 ⟨Q32 (fun _ h => ContainerStatus.Q1y h) h.1, List.forall_mem_cons.2 ⟨Val.Sm.leaf 2 _ _, List.forall_mem_cons.2 ⟨Val.Sm.leaf 3 _ _, List.forall_mem_cons.2 ⟨Val.Sm.leaf 2 _ _, List.forall_mem_cons.2 ⟨Val.Sm.leaf 1 _ _, List.forall_mem_cons.2 ⟨Val.Sm.leaf 2 _ _, List.forall_mem_cons.2 ⟨Val.Sm.leaf 3 _ _, List.forall_mem_cons.2 ⟨Val.Sm.leaf 2 _ _, fun _ h => by cases h⟩⟩⟩⟩⟩⟩⟩⟩⟩)
theorem PodStatus.Q1kw (x : PodStatus) : prt (PodStatus.enc x) Q2w = vN x.phase := by kernel_rfl
theorem PodStatus.Qk5 (x : PodStatus) : prt (PodStatus.enc x) Qi = vB x.ready := by kernel_rfl
theorem PodStatus.Qz8 (x : PodStatus) : prt (PodStatus.enc x) Q1o = vN x.readySince := by kernel_rfl
theorem PodStatus.Qns (x : PodStatus) : prt (PodStatus.enc x) Qx = vN x.started := by kernel_rfl
theorem PodStatus.Q17z (x : PodStatus) : prt (PodStatus.enc x) Q2p = vN x.finished := by kernel_rfl
theorem PodStatus.Q97 (x : PodStatus) : prt (PodStatus.enc x) Qt = vL (x.containers.map ContainerStatus.enc) := by kernel_rfl
theorem PodStatus.Q1ey (x : PodStatus) : prt (PodStatus.enc x) Q2g = vN x.address := by kernel_rfl
theorem PodStatus.Q128 (x : PodStatus) : prt (PodStatus.enc x) Q24 = vS x.nominated := by kernel_rfl
theorem PodStatus.Q1hc (x : PodStatus) : prt (PodStatus.enc x) Q38 = vS x.reason := by kernel_rfl
theorem PodStatus.Q2h (x : PodStatus) : PodStatus.dec (PodStatus.enc x) = (x, true) := by
  have h0 : dN (PodStatus.enc x) Q2w = (x.phase, true) := by unfold dN; rw [PodStatus.Q1kw]; rfl
  have h1 : dB (PodStatus.enc x) Qi = (x.ready, true) := by unfold dB; rw [PodStatus.Qk5]; exact xB_b _
  have h2 : dN (PodStatus.enc x) Q1o = (x.readySince, true) := by unfold dN; rw [PodStatus.Qz8]; rfl
  have h3 : dN (PodStatus.enc x) Qx = (x.started, true) := by unfold dN; rw [PodStatus.Qns]; rfl
  have h4 : dN (PodStatus.enc x) Q2p = (x.finished, true) := by unfold dN; rw [PodStatus.Q17z]; rfl
  have h5 : dE ContainerStatus.dec (PodStatus.enc x) Qt = (x.containers, true) := by unfold dE; rw [PodStatus.Q97]; exact Q6b ContainerStatus.Q2h _
  have h6 : dN (PodStatus.enc x) Q2g = (x.address, true) := by unfold dN; rw [PodStatus.Q1ey]; rfl
  have h7 : dS (PodStatus.enc x) Q24 = (x.nominated, true) := by unfold dS; rw [PodStatus.Q128]; rfl
  have h8 : dS (PodStatus.enc x) Q38 = (x.reason, true) := by unfold dS; rw [PodStatus.Q1hc]; rfl
  unfold PodStatus.dec
  rw [h0, h1, h2, h3, h4, h5, h6, h7, h8]
  rfl
theorem PodStatus.Q25 {v : Val} (h : (v.kind == 5) = false) : PodStatus.dec v = ((PodStatus.dec vZ).1, v.kind == 0) := by
  unfold PodStatus.dec
  simp only [dN, dS, dB, dE, Q4m h, Q43 h]
  generalize (v.kind == 0) = b
  cases b <;> rfl
theorem PodStatus.sub1 (x : Val) : (PodStatus.dec (s5 x)).1 = (PodStatus.dec x).1 := (Q3k (f := PodStatus.dec) (fun _ h => PodStatus.Q25 h) rfl x).1
theorem PodStatus.sub2 (v : Val) (k : BA) : (PodStatus.dec (prt v k)).2 = (isM (prt v k) && (PodStatus.dec (s5 (prt v k))).2) := (Q3k (f := PodStatus.dec) (fun _ h => PodStatus.Q25 h) rfl _).2
def Taint.enc (x : Taint) : Val := vM [.mk Qu (vN x.effect), .mk Qs (vS x.key), .mk Q10 (vN x.since), .mk Qn (vS x.value)]
def Taint.dec (v : Val) : Taint × Bool := (Taint.mk (dS v Qs).1 (dS v Qn).1 (dN v Qu).1 (dN v Q10).1, isM v && (dN v Qu).2 && (dS v Qs).2 && (dN v Q10).2 && (dS v Qn).2)
def Taint.sm (_ : Taint) : Prop := True
theorem Taint.Q1y {x : Taint} (_ : Taint.sm x) : Val.Sm sB (Taint.enc x) := Q9z (Nat.le_of_ble_eq_true rfl) (List.forall_mem_cons.2 ⟨Val.Sm.leaf 2 _ _, List.forall_mem_cons.2 ⟨Val.Sm.leaf 3 _ _, List.forall_mem_cons.2 ⟨Val.Sm.leaf 2 _ _, List.forall_mem_cons.2 ⟨Val.Sm.leaf 3 _ _, fun _ h => by cases h⟩⟩⟩⟩)
theorem Taint.Q12z (x : Taint) : prt (Taint.enc x) Qs = vS x.key := by kernel_rfl
theorem Taint.Ql6 (x : Taint) : prt (Taint.enc x) Qn = vS x.value := by kernel_rfl
theorem Taint.Qw6 (x : Taint) : prt (Taint.enc x) Qu = vN x.effect := by kernel_rfl
theorem Taint.Q13c (x : Taint) : prt (Taint.enc x) Q10 = vN x.since := by kernel_rfl
theorem Taint.Q2h (x : Taint) : Taint.dec (Taint.enc x) = (x, true) := by
  have h0 : dS (Taint.enc x) Qs = (x.key, true) := by unfold dS; rw [Taint.Q12z]; rfl
  have h1 : dS (Taint.enc x) Qn = (x.value, true) := by unfold dS; rw [Taint.Ql6]; rfl
  have h2 : dN (Taint.enc x) Qu = (x.effect, true) := by unfold dN; rw [Taint.Qw6]; rfl
  have h3 : dN (Taint.enc x) Q10 = (x.since, true) := by unfold dN; rw [Taint.Q13c]; rfl
  unfold Taint.dec
  rw [h0, h1, h2, h3]
  rfl
theorem Taint.Q25 {v : Val} (h : (v.kind == 5) = false) : Taint.dec v = ((Taint.dec vZ).1, v.kind == 0) := by
  unfold Taint.dec
  simp only [dN, dS, Q4m h, Q43 h]
  generalize (v.kind == 0) = b
  cases b <;> rfl
theorem Taint.sub1 (x : Val) : (Taint.dec (s5 x)).1 = (Taint.dec x).1 := (Q3k (f := Taint.dec) (fun _ h => Taint.Q25 h) rfl x).1
theorem Taint.sub2 (v : Val) (k : BA) : (Taint.dec (prt v k)).2 = (isM (prt v k) && (Taint.dec (s5 (prt v k))).2) := (Q3k (f := Taint.dec) (fun _ h => Taint.Q25 h) rfl _).2
def Image.enc (x : Image) : Val := vM [.mk Qp (vS x.name), .mk Q2s (vN x.size), .mk Q2z (vN x.used)]
def Image.dec (v : Val) : Image × Bool := (Image.mk (dS v Qp).1 (dN v Q2s).1 (dN v Q2z).1, isM v && (dS v Qp).2 && (dN v Q2s).2 && (dN v Q2z).2)
def Image.sm (_ : Image) : Prop := True
theorem Image.Q1y {x : Image} (_ : Image.sm x) : Val.Sm sB (Image.enc x) := Q9z (Nat.le_of_ble_eq_true rfl) (List.forall_mem_cons.2 ⟨Val.Sm.leaf 3 _ _, List.forall_mem_cons.2 ⟨Val.Sm.leaf 2 _ _, List.forall_mem_cons.2 ⟨Val.Sm.leaf 2 _ _, fun _ h => by cases h⟩⟩⟩)
theorem Image.Qym (x : Image) : prt (Image.enc x) Qp = vS x.name := by kernel_rfl
theorem Image.Q1nm (x : Image) : prt (Image.enc x) Q2s = vN x.size := by kernel_rfl
theorem Image.Q1oj (x : Image) : prt (Image.enc x) Q2z = vN x.used := by kernel_rfl
theorem Image.Q2h (x : Image) : Image.dec (Image.enc x) = (x, true) := by
  have h0 : dS (Image.enc x) Qp = (x.name, true) := by unfold dS; rw [Image.Qym]; rfl
  have h1 : dN (Image.enc x) Q2s = (x.size, true) := by unfold dN; rw [Image.Q1nm]; rfl
  have h2 : dN (Image.enc x) Q2z = (x.used, true) := by unfold dN; rw [Image.Q1oj]; rfl
  unfold Image.dec
  rw [h0, h1, h2]
  rfl
theorem Image.Q25 {v : Val} (h : (v.kind == 5) = false) : Image.dec v = ((Image.dec vZ).1, v.kind == 0) := by
  unfold Image.dec
  simp only [dN, dS, Q4m h, Q43 h]
  generalize (v.kind == 0) = b
  cases b <;> rfl
theorem Image.sub1 (x : Val) : (Image.dec (s5 x)).1 = (Image.dec x).1 := (Q3k (f := Image.dec) (fun _ h => Image.Q25 h) rfl x).1
theorem Image.sub2 (v : Val) (k : BA) : (Image.dec (prt v k)).2 = (isM (prt v k) && (Image.dec (s5 (prt v k))).2) := (Q3k (f := Image.dec) (fun _ h => Image.Q25 h) rfl _).2
def Label.enc (x : Label) : Val := vM [.mk Qs (vS x.key), .mk Qn (vS x.value)]
def Label.dec (v : Val) : Label × Bool := (Label.mk (dS v Qs).1 (dS v Qn).1, isM v && (dS v Qs).2 && (dS v Qn).2)
def Label.sm (_ : Label) : Prop := True
theorem Label.Q1y {x : Label} (_ : Label.sm x) : Val.Sm sB (Label.enc x) := Q9z (Nat.le_of_ble_eq_true rfl) (List.forall_mem_cons.2 ⟨Val.Sm.leaf 3 _ _, List.forall_mem_cons.2 ⟨Val.Sm.leaf 3 _ _, fun _ h => by cases h⟩⟩)
theorem Label.Q12z (x : Label) : prt (Label.enc x) Qs = vS x.key := by kernel_rfl
theorem Label.Ql6 (x : Label) : prt (Label.enc x) Qn = vS x.value := by kernel_rfl
theorem Label.Q2h (x : Label) : Label.dec (Label.enc x) = (x, true) := by
  have h0 : dS (Label.enc x) Qs = (x.key, true) := by unfold dS; rw [Label.Q12z]; rfl
  have h1 : dS (Label.enc x) Qn = (x.value, true) := by unfold dS; rw [Label.Ql6]; rfl
  unfold Label.dec
  rw [h0, h1]
  rfl
theorem Label.Q25 {v : Val} (h : (v.kind == 5) = false) : Label.dec v = ((Label.dec vZ).1, v.kind == 0) := by
  unfold Label.dec
  simp only [dS, Q4m h, Q43 h]
  generalize (v.kind == 0) = b
  cases b <;> rfl
theorem Label.sub1 (x : Val) : (Label.dec (s5 x)).1 = (Label.dec x).1 := (Q3k (f := Label.dec) (fun _ h => Label.Q25 h) rfl x).1
theorem Label.sub2 (v : Val) (k : BA) : (Label.dec (prt v k)).2 = (isM (prt v k) && (Label.dec (s5 (prt v k))).2) := (Q3k (f := Label.dec) (fun _ h => Label.Q25 h) rfl _).2
def Template.enc (x : Template) : Val := vM [.mk Q1s (vL (x.labels.map Label.enc)), .mk Q2r (PodSpec.enc x.spec)]
def Template.dec (v : Val) : Template × Bool := (Template.mk (dE Label.dec v Q1s).1 (dT PodSpec.dec v Q2r).1, isM v && (dE Label.dec v Q1s).2 && (dT PodSpec.dec v Q2r).2)
def Template.sm (x : Template) : Prop := LSm Label.sm x.labels ∧ PodSpec.sm x.spec ∧ True
theorem Template.Q1y {x : Template} (h : Template.sm x) : Val.Sm sB (Template.enc x) := Q9z (Nat.le_of_ble_eq_true rfl) (List.forall_mem_cons.2 ⟨Q32 (fun _ h => Label.Q1y h) h.1, List.forall_mem_cons.2 ⟨PodSpec.Q1y h.2.1, fun _ h => by cases h⟩⟩)
theorem Template.Q1h5 (x : Template) : prt (Template.enc x) Q1s = vL (x.labels.map Label.enc) := by kernel_rfl
theorem Template.Q1o0 (x : Template) : prt (Template.enc x) Q2r = PodSpec.enc x.spec := by kernel_rfl
theorem Template.Q2h (x : Template) : Template.dec (Template.enc x) = (x, true) := by
  have h0 : dE Label.dec (Template.enc x) Q1s = (x.labels, true) := by unfold dE; rw [Template.Q1h5]; exact Q6b Label.Q2h _
  have h1 : dT PodSpec.dec (Template.enc x) Q2r = (x.spec, true) := by unfold dT; rw [Template.Q1o0]; exact PodSpec.Q2h _
  unfold Template.dec
  rw [h0, h1]
  rfl
theorem Template.Q25 {v : Val} (h : (v.kind == 5) = false) : Template.dec v = ((Template.dec vZ).1, v.kind == 0) := by
  unfold Template.dec
  simp only [dE, dT, Q4m h, Q43 h]
  generalize (v.kind == 0) = b
  cases b <;> rfl
theorem Template.sub1 (x : Val) : (Template.dec (s5 x)).1 = (Template.dec x).1 := (Q3k (f := Template.dec) (fun _ h => Template.Q25 h) rfl x).1
theorem Template.sub2 (v : Val) (k : BA) : (Template.dec (prt v k)).2 = (isM (prt v k) && (Template.dec (s5 (prt v k))).2) := (Q3k (f := Template.dec) (fun _ h => Template.Q25 h) rfl _).2
end Go.Proofs.YtiflaadeikaghaaGreat
end

