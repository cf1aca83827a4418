/- Texts of the claim, merged by a program; what the statement does not reach is left out. -/
import Derived.Test.YtnhhddbbppbblaaBPatchDiffs3

section
/- What the functions on values compute (printed by a program). -/
namespace Go.Proofs.Ytnhhddbbppbblaa
open Go.Pv
mutual
def s_Ki (p0 : Val) (p1 : Val) : Int :=
 bif ((s_Kt (decide (p0.kind < p1.kind)) (decide (p1.kind < p0.kind))) == 0) then
  bif ((s_Kt (decide (p0.n < p1.n)) (decide (p1.n < p0.n))) == 0) then
   bif ((Qv p0 p1 p0.list 0 (s_Kt (sLt p0.s p1.s) (!((sLt p0.s p1.s) || (sEq p0.s p1.s))))) == 0) then
    bif ((Qy p0 p1 p0.fields 0 (s_Kt (decide (((List.length p0.list) : Int) < ((List.length p1.list) : Int))) (decide (((List.length p1.list) : Int) < ((List.length p0.list) : Int))))) == 0) then
     (s_Kt (decide (((List.length p0.fields) : Int) < ((List.length p1.fields) : Int))) (decide (((List.length p1.fields) : Int) < ((List.length p0.fields) : Int))))
    else
     (Qy p0 p1 p0.fields 0 (s_Kt (decide (((List.length p0.list) : Int) < ((List.length p1.list) : Int))) (decide (((List.length p1.list) : Int) < ((List.length p0.list) : Int)))))
   else
    bif ((Qy p0 p1 p0.fields 0 (Qv p0 p1 p0.list 0 (s_Kt (sLt p0.s p1.s) (!((sLt p0.s p1.s) || (sEq p0.s p1.s)))))) == 0) then
     (s_Kt (decide (((List.length p0.fields) : Int) < ((List.length p1.fields) : Int))) (decide (((List.length p1.fields) : Int) < ((List.length p0.fields) : Int))))
    else
     (Qy p0 p1 p0.fields 0 (Qv p0 p1 p0.list 0 (s_Kt (sLt p0.s p1.s) (!((sLt p0.s p1.s) || (sEq p0.s p1.s))))))
  else
   bif ((Qv p0 p1 p0.list 0 (s_Kt (decide (p0.n < p1.n)) (decide (p1.n < p0.n)))) == 0) then
    bif ((Qy p0 p1 p0.fields 0 (s_Kt (decide (((List.length p0.list) : Int) < ((List.length p1.list) : Int))) (decide (((List.length p1.list) : Int) < ((List.length p0.list) : Int))))) == 0) then
     (s_Kt (decide (((List.length p0.fields) : Int) < ((List.length p1.fields) : Int))) (decide (((List.length p1.fields) : Int) < ((List.length p0.fields) : Int))))
    else
     (Qy p0 p1 p0.fields 0 (s_Kt (decide (((List.length p0.list) : Int) < ((List.length p1.list) : Int))) (decide (((List.length p1.list) : Int) < ((List.length p0.list) : Int)))))
   else
    bif ((Qy p0 p1 p0.fields 0 (Qv p0 p1 p0.list 0 (s_Kt (decide (p0.n < p1.n)) (decide (p1.n < p0.n))))) == 0) then
     (s_Kt (decide (((List.length p0.fields) : Int) < ((List.length p1.fields) : Int))) (decide (((List.length p1.fields) : Int) < ((List.length p0.fields) : Int))))
    else
     (Qy p0 p1 p0.fields 0 (Qv p0 p1 p0.list 0 (s_Kt (decide (p0.n < p1.n)) (decide (p1.n < p0.n)))))
 else
  bif ((Qv p0 p1 p0.list 0 (s_Kt (decide (p0.kind < p1.kind)) (decide (p1.kind < p0.kind)))) == 0) then
   bif ((Qy p0 p1 p0.fields 0 (s_Kt (decide (((List.length p0.list) : Int) < ((List.length p1.list) : Int))) (decide (((List.length p1.list) : Int) < ((List.length p0.list) : Int))))) == 0) then
    (s_Kt (decide (((List.length p0.fields) : Int) < ((List.length p1.fields) : Int))) (decide (((List.length p1.fields) : Int) < ((List.length p0.fields) : Int))))
   else
    (Qy p0 p1 p0.fields 0 (s_Kt (decide (((List.length p0.list) : Int) < ((List.length p1.list) : Int))) (decide (((List.length p1.list) : Int) < ((List.length p0.list) : Int)))))
  else
   bif ((Qy p0 p1 p0.fields 0 (Qv p0 p1 p0.list 0 (s_Kt (decide (p0.kind < p1.kind)) (decide (p1.kind < p0.kind))))) == 0) then
    (s_Kt (decide (((List.length p0.fields) : Int) < ((List.length p1.fields) : Int))) (decide (((List.length p1.fields) : Int) < ((List.length p0.fields) : Int))))
   else
    (Qy p0 p1 p0.fields 0 (Qv p0 p1 p0.list 0 (s_Kt (decide (p0.kind < p1.kind)) (decide (p1.kind < p0.kind)))))
termination_by SizeOf.sizeOf p0
decreasing_by all_goals first | exact Val.Q4f _ | exact Val.Q2e _
def Qv (p0 : Val) (p1 : Val) : List Val → Nat → Int → Int
 | [], _i0, v0_1 =>
  v0_1
 | x0 :: r0, i0, v0_1 =>
  bif (decide ((i0 : Int) < ((List.length p1.list) : Int))) then
   bif (v0_1 == 0) then
    Qv p0 p1 r0 (i0 + 1) (s_Ki x0 (List.getD p1.list i0 (Val.mk 0 0 eB [] [])))
   else
    v0_1
  else
   v0_1
termination_by l => SizeOf.sizeOf l
decreasing_by all_goals first | exact Q2j _ _ | exact Q2d _ _ | exact Q1z _ _
def Qy (p0 : Val) (p1 : Val) : List Fld → Nat → Int → Int
 | [], _i1, v1_1 =>
  v1_1
 | x1 :: r1, i1, v1_1 =>
  bif (decide ((i1 : Int) < ((List.length p1.fields) : Int))) then
   bif (v1_1 == 0) then
    bif ((s_Kt (sLt x1.name (List.getD p1.fields i1 zF).name) (!((sLt x1.name (List.getD p1.fields i1 zF).name) || (sEq x1.name (List.getD p1.fields i1 zF).name)))) == 0) then
     Qy p0 p1 r1 (i1 + 1) (s_Ki x1.v (List.getD p1.fields i1 zF).v)
    else
     Qy p0 p1 r1 (i1 + 1) (s_Kt (sLt x1.name (List.getD p1.fields i1 zF).name) (!((sLt x1.name (List.getD p1.fields i1 zF).name) || (sEq x1.name (List.getD p1.fields i1 zF).name))))
   else
    v1_1
  else
   v1_1
termination_by l => SizeOf.sizeOf l
decreasing_by all_goals first | exact Q2j _ _ | exact Q2d _ _ | exact Q1z _ _
end
def Qul (_p0 : Val) (_p1 : Val) (i0 : Nat) (v0_1 : Int) : List PV :=
  [.un, .un, .bx 0 0, .bx 1 0, .un, .int .i64 v0_1, .int .i64 (i0 : Int), .un, .un, .un, .un, .un, .un, .un, .un, .un, .un, .un, .un, .un, .un, .un, .un, .un, .un, .un, .un, .un, .un, .un, .un, .un, .un, .un, .un, .un, .un, .un, .un, .un, .un, .un, .un, .un, .un, .un, .un, .un, .un, .un, .un, .un, .un, .un, .un, .un, .un, .un, .un, .un, .un, .un, .un, .un, .un, .un, .un, .un, .un, .un, .un, .un, .un, .un, .un, .un, .un, .un, .un, .un, .un, .un, .un, .un, .un, .un, .un, .un, .un, .un, .un, .un, .un, .un, .un, .un, .un, .un, .un, .un, .un, .un, .un, .un, .un, .un, .un, .un, .un, .un, .un, .un, .un, .un, .un, .un, .un, .un, .un, .un, .un, .un, .un, .un, .un, .un, .un, .un, .un, .un, .un, .un, .un, .un, .un, .un, .un, .un, .un, .un, .un, .un, .un, .un, .un, .un, .un, .un, .un, .un, .un, .un, .un, .un, .un, .un, .un, .un, .un, .un, .un, .un, .un, .un, .un, .un, .un, .un, .un]
def Qwi (p0 : Val) (p1 : Val) (_i0 : Nat) (_v0_1 : Int) : List Ob :=
  [⟨5, 0, true, [.int .i64 p0.kind, .int .i64 p0.n, .str p0.s, .sl (Val.rows p0.list), .sl (Fld.rows p0.fields)]⟩, ⟨5, 0, true, [.int .i64 p1.kind, .int .i64 p1.n, .str p1.s, .sl (Val.rows p1.list), .sl (Fld.rows p1.fields)]⟩]
def Q4c (p0 : Val) (p1 : Val) (i0 : Nat) (v0_1 : Int) : En := .loop 0 Ir.Qi9 Ir.Q1af (Qul p0 p1 i0 v0_1) (Qwi p0 p1 i0 v0_1)
def Q37 (p0 : Val) (p1 : Val) (q0 : Int) (z : Nat → PV) (_zo : Nat → List PV) : St :=
  ⟨[z 0, z 1, .bx 0 0, .bx 1 0, z 4, .int .i64 q0, z 6, z 7, z 8, z 9, z 10, z 11, z 12, z 13, z 14, z 15, z 16, z 17, z 18, z 19, z 20, z 21, z 22, z 23, z 24, z 25, z 26, z 27, z 28, z 29, z 30, z 31, z 32, z 33, z 34, z 35, z 36, z 37, z 38, z 39, z 40, z 41, z 42, z 43, z 44, z 45, z 46, z 47, z 48, z 49, z 50, z 51, z 52, z 53, z 54, z 55, z 56, z 57, z 58, z 59, z 60, z 61, z 62, z 63, z 64, z 65, z 66, z 67, z 68, z 69, z 70, z 71, z 72, z 73, z 74, z 75, z 76, z 77, z 78, z 79, z 80, z 81, z 82, z 83, z 84, z 85, z 86, z 87, z 88, z 89, z 90, z 91, z 92, z 93, z 94, z 95, z 96, z 97, z 98, z 99, z 100, z 101, z 102, z 103, z 104, z 105, z 106, z 107, z 108, z 109, z 110, z 111, z 112, z 113, z 114, z 115, z 116, z 117, z 118, z 119, z 120, z 121, z 122, z 123, z 124, z 125, z 126, z 127, z 128, z 129, z 130, z 131, z 132, z 133, z 134, z 135, z 136, z 137, z 138, z 139, z 140, z 141, z 142, z 143, z 144, z 145, z 146, z 147, z 148, z 149, z 150, z 151, z 152, z 153, z 154, z 155, z 156, z 157, z 158, z 159, z 160, z 161, z 162, z 163, z 164, z 165, z 166, z 167, z 168], [(0, ⟨5, 0, true, [.int .i64 p0.kind, .int .i64 p0.n, .str p0.s, .sl (Val.rows p0.list), .sl (Fld.rows p0.fields)]⟩), (1, ⟨5, 0, true, [.int .i64 p1.kind, .int .i64 p1.n, .str p1.s, .sl (Val.rows p1.list), .sl (Fld.rows p1.fields)]⟩)], 1026⟩
def Qan (p0 : Val) (p1 : Val) (e : En) (q : Int) : Prop := ∃ z zo, Q7 G e (.st (.exit 0) (Q37 p0 p1 q z zo))
theorem Qpx (p0 : Val) (p1 : Val) {e e' : En} (h : ∀ r, Q7 G e r → Q7 G e' r) : ∀ q, Qan p0 p1 e q → Qan p0 p1 e' q
  | _, ⟨z, zo, hz⟩ => ⟨z, zo, h _ hz⟩
def Qo8 (_p0 : Val) (_p1 : Val) (i1 : Nat) (v1_1 : Int) : List PV :=
  [.un, .un, .bx 0 0, .bx 1 0, .un, .int .i64 v1_1, .un, .int .i64 (i1 : Int), .un, .un, .un, .un, .un, .un, .un, .un, .un, .un, .un, .un, .un, .un, .un, .un, .un, .un, .un, .un, .un, .un, .un, .un, .un, .un, .un, .un, .un, .un, .un, .un, .un, .un, .un, .un, .un, .un, .un, .un, .un, .un, .un, .un, .un, .un, .un, .un, .un, .un, .un, .un, .un, .un, .un, .un, .un, .un, .un, .un, .un, .un, .un, .un, .un, .un, .un, .un, .un, .un, .un, .un, .un, .un, .un, .un, .un, .un, .un, .un, .un, .un, .un, .un, .un, .un, .un, .un, .un, .un, .un, .un, .un, .un, .un, .un, .un, .un, .un, .un, .un, .un, .un, .un, .un, .un, .un, .un, .un, .un, .un, .un, .un, .un, .un, .un, .un, .un, .un, .un, .un, .un, .un, .un, .un, .un, .un, .un, .un, .un, .un, .un, .un, .un, .un, .un, .un, .un, .un, .un, .un, .un, .un, .un, .un, .un, .un, .un, .un, .un, .un, .un, .un, .un, .un, .un, .un, .un, .un, .un, .un]
def Qn0 (p0 : Val) (p1 : Val) (_i1 : Nat) (_v1_1 : Int) : List Ob :=
  [⟨5, 0, true, [.int .i64 p0.kind, .int .i64 p0.n, .str p0.s, .sl (Val.rows p0.list), .sl (Fld.rows p0.fields)]⟩, ⟨5, 0, true, [.int .i64 p1.kind, .int .i64 p1.n, .str p1.s, .sl (Val.rows p1.list), .sl (Fld.rows p1.fields)]⟩]
def Q3o (p0 : Val) (p1 : Val) (i1 : Nat) (v1_1 : Int) : En := .loop 0 Ir.Qjq Ir.Q1bg (Qo8 p0 p1 i1 v1_1) (Qn0 p0 p1 i1 v1_1)
def Q35 (p0 : Val) (p1 : Val) (q0 : Int) (z : Nat → PV) (_zo : Nat → List PV) : St :=
  ⟨[z 0, z 1, .bx 0 0, .bx 1 0, z 4, .int .i64 q0, z 6, z 7, z 8, z 9, z 10, z 11, z 12, z 13, z 14, z 15, z 16, z 17, z 18, z 19, z 20, z 21, z 22, z 23, z 24, z 25, z 26, z 27, z 28, z 29, z 30, z 31, z 32, z 33, z 34, z 35, z 36, z 37, z 38, z 39, z 40, z 41, z 42, z 43, z 44, z 45, z 46, z 47, z 48, z 49, z 50, z 51, z 52, z 53, z 54, z 55, z 56, z 57, z 58, z 59, z 60, z 61, z 62, z 63, z 64, z 65, z 66, z 67, z 68, z 69, z 70, z 71, z 72, z 73, z 74, z 75, z 76, z 77, z 78, z 79, z 80, z 81, z 82, z 83, z 84, z 85, z 86, z 87, z 88, z 89, z 90, z 91, z 92, z 93, z 94, z 95, z 96, z 97, z 98, z 99, z 100, z 101, z 102, z 103, z 104, z 105, z 106, z 107, z 108, z 109, z 110, z 111, z 112, z 113, z 114, z 115, z 116, z 117, z 118, z 119, z 120, z 121, z 122, z 123, z 124, z 125, z 126, z 127, z 128, z 129, z 130, z 131, z 132, z 133, z 134, z 135, z 136, z 137, z 138, z 139, z 140, z 141, z 142, z 143, z 144, z 145, z 146, z 147, z 148, z 149, z 150, z 151, z 152, z 153, z 154, z 155, z 156, z 157, z 158, z 159, z 160, z 161, z 162, z 163, z 164, z 165, z 166, z 167, z 168], [(0, ⟨5, 0, true, [.int .i64 p0.kind, .int .i64 p0.n, .str p0.s, .sl (Val.rows p0.list), .sl (Fld.rows p0.fields)]⟩), (1, ⟨5, 0, true, [.int .i64 p1.kind, .int .i64 p1.n, .str p1.s, .sl (Val.rows p1.list), .sl (Fld.rows p1.fields)]⟩)], 1026⟩
def Qau (p0 : Val) (p1 : Val) (e : En) (q : Int) : Prop := ∃ z zo, Q7 G e (.st (.exit 2) (Q35 p0 p1 q z zo))
theorem Qbf (p0 : Val) (p1 : Val) {e e' : En} (h : ∀ r, Q7 G e r → Q7 G e' r) : ∀ q, Qau p0 p1 e q → Qau p0 p1 e' q
  | _, ⟨z, zo, hz⟩ => ⟨z, zo, h _ hz⟩
def c_Ki (p0 : Val) (p1 : Val) : En := .call 50 [.agg (Val.cells p0), .agg (Val.cells p1)] []
def a_Ki (p0 : Val) (p1 : Val) : Rs := .ret (.int .i64 (s_Ki p0 p1)) []
abbrev H_Ki (p0 : Val) : Prop := Val.Sm 4611686018427387904 p0
def Q3p (p0 : Val) : Prop := ∀ (q : Val), SizeOf.sizeOf q < SizeOf.sizeOf p0 → ∀ (p1 : Val), H_Ki q → Q7 G (c_Ki q p1) (a_Ki q p1)
def Q8q (p0 : Val) (_p1 : Val) : Prop := (List.length p0.list ≤ 4611686018427387904) ∧ (∀ x0 ∈ p0.list, H_Ki x0) ∧ True
def Q6y (p0 : Val) (_p1 : Val) : Prop := (List.length p0.fields ≤ 4611686018427387904) ∧ (∀ x1 ∈ p0.fields, H_Ki x1.v) ∧ True
theorem Q6g (p0 : Val) (p1 : Val) (H : H_Ki p0) : (Q8q p0 p1) ∧ (Q6y p0 p1) ∧ True := by
  obtain ⟨h1, h2, h3, h4⟩ := H.all
  simp only [Q8q, Q6y]
  exact ⟨⟨h1, h3, trivial⟩, ⟨h2, h4, trivial⟩, trivial⟩
def Qp2 (p0 : Val) (_p1 : Val) (i0 : Nat) (_v0_1 : Int) : List PV :=
  [.un, .un, .un, .un, .un, .un, .int .i64 (i0 : Int), .un, .un, .un, .un, .un, .un, .un, .un, .un, .un, .un, .un, .un, .un, .un, .un, .un, .un, .un, .un, .un, .un, .un, .un, .un, .un, .un, .un, .un, .un, .un, .un, .un, .un, .un, .un, .un, .un, .int .i64 (i0 : Int), .bx 0 3, .sl (Val.rows p0.list), .int .i64 ((List.length p0.list) : Int), .bool false, .bool false, .tup [], .tup [], .tup [], .tup [], .tup [], .bool false, .bool false, .tup [], .tup [], .bool false]
def Ql7 (_p0 : Val) (_p1 : Val) (_i0 : Nat) (_v0_1 : Int) : List (Nat × List PV) :=
  []
theorem Q14n (p0 : Val) (p1 : Val) (_H : Q8q p0 p1) (_rec : Q3p p0) (i0 : Nat) (v0_1 : Int) (hc0 : (decide ((i0 : Int) < ((List.length p0.list) : Int))) = false) : Qan p0 p1 (Q4c p0 p1 i0 v0_1) v0_1 := by
 exact ⟨(envF (Qp2 p0 p1 i0 v0_1)), (zoF (Ql7 p0 p1 i0 v0_1)), Qf VOK.nil (x := ((.exit 0), Q37 p0 p1 v0_1 (envF (Qp2 p0 p1 i0 v0_1)) (zoF (Ql7 p0 p1 i0 v0_1)))) [hP 3 (Qe (Val.rows p0.list) (List.length p0.list) (Val.Q8 p0.list)), hB 0 hc0] [] (by kernel_rfl)⟩
theorem Q14a (p0 : Val) (p1 : Val) (H : Q8q p0 p1) (rec : Q3p p0) (x0 : Val) (i0 : Nat) (v0_1 : Int) (hx0 : p0.list[i0]? = some x0) (hi0 : i0 < List.length p0.list) (hc0 : (decide ((i0 : Int) < ((List.length p0.list) : Int))) = true) (h0 : (decide ((i0 : Int) < ((List.length p1.list) : Int))) = true) (h1 : (v0_1 == 0) = true) {r : Rs} (hr : Q7 G (Q4c p0 p1 (i0 + 1) (s_Ki x0 (List.getD p1.list i0 (Val.mk 0 0 eB [] [])))) r) : Q7 G (Q4c p0 p1 i0 v0_1) r := by
 have hB0 := H.1; have e0 := of_decide_eq_true h0; have e1 := eq_of_beq h1
 exact Qa VOK.nil (y := (Qul p0 p1 (i0 + 1) (s_Ki x0 (List.getD p1.list i0 (Val.mk 0 0 eB [] []))), Qwi p0 p1 (i0 + 1) (s_Ki x0 (List.getD p1.list i0 (Val.mk 0 0 eB [] []))))) [hP 3 (Qe (Val.rows p0.list) (List.length p0.list) (Val.Q8 p0.list)), hB 0 hc0, hP 4 (Qe (Val.rows p1.list) (List.length p1.list) (Val.Q8 p1.list)), hB 0 h0, hB 3 h1, hP 4 (Q10 5 (Val.rows p0.list) i0 _ (Val.Qg hx0) rfl), hP 4 (Q55 5 (Val.rows p1.list) (i0 : Int) _ (by omega) (Val.Qg (Qu p1.list (Int.toNat (i0 : Int)) (Val.mk 0 0 eB [] []) (by omega))) rfl), hP 4 (Qr i0 (by omega))] [aN (rec x0 (szL hx0) (List.getD p1.list i0 (Val.mk 0 0 eB [] [])) (H.2.1 x0 (Qt hx0)))] (by kernel_rfl) hr
def Qrp (p0 : Val) (p1 : Val) (i0 : Nat) (v0_1 : Int) (_x0 : Val) : List PV :=
  [.un, .un, .un, .un, .un, .un, .int .i64 (i0 : Int), .un, .un, .un, .un, .un, .un, .un, .un, .un, .un, .un, .un, .un, .un, .un, .un, .un, .un, .un, .un, .un, .un, .un, .un, .un, .un, .un, .un, .un, .un, .un, .un, .un, .un, .un, .un, .un, .un, .int .i64 (i0 : Int), .bx 0 3, .sl (Val.rows p0.list), .int .i64 ((List.length p0.list) : Int), .bool true, .bool true, .int .i64 (i0 : Int), .bx 1 3, .sl (Val.rows p1.list), .int .i64 ((List.length p1.list) : Int), .bool true, .bool true, .bool true, .int .i64 v0_1, .bool false, .bool false]
def Qkj (_p0 : Val) (_p1 : Val) (_i0 : Nat) (_v0_1 : Int) (_x0 : Val) : List (Nat × List PV) :=
  []
theorem Q12q (p0 : Val) (p1 : Val) (_H : Q8q p0 p1) (_rec : Q3p p0) (x0 : Val) (i0 : Nat) (v0_1 : Int) (_hx0 : p0.list[i0]? = some x0) (_hi0 : i0 < List.length p0.list) (hc0 : (decide ((i0 : Int) < ((List.length p0.list) : Int))) = true) (h0 : (decide ((i0 : Int) < ((List.length p1.list) : Int))) = true) (h1 : (v0_1 == 0) = false) : Qan p0 p1 (Q4c p0 p1 i0 v0_1) v0_1 := by
 exact ⟨(envF (Qrp p0 p1 i0 v0_1 x0)), (zoF (Qkj p0 p1 i0 v0_1 x0)), Qf VOK.nil (x := ((.exit 0), Q37 p0 p1 v0_1 (envF (Qrp p0 p1 i0 v0_1 x0)) (zoF (Qkj p0 p1 i0 v0_1 x0)))) [hP 3 (Qe (Val.rows p0.list) (List.length p0.list) (Val.Q8 p0.list)), hB 0 hc0, hP 4 (Qe (Val.rows p1.list) (List.length p1.list) (Val.Q8 p1.list)), hB 0 h0, hB 3 h1] [] (by kernel_rfl)⟩
def Qq2 (p0 : Val) (p1 : Val) (i0 : Nat) (_v0_1 : Int) (_x0 : Val) : List PV :=
  [.un, .un, .un, .un, .un, .un, .int .i64 (i0 : Int), .un, .un, .un, .un, .un, .un, .un, .un, .un, .un, .un, .un, .un, .un, .un, .un, .un, .un, .un, .un, .un, .un, .un, .un, .un, .un, .un, .un, .un, .un, .un, .un, .un, .un, .un, .un, .un, .un, .int .i64 (i0 : Int), .bx 0 3, .sl (Val.rows p0.list), .int .i64 ((List.length p0.list) : Int), .bool true, .bool true, .int .i64 (i0 : Int), .bx 1 3, .sl (Val.rows p1.list), .int .i64 ((List.length p1.list) : Int), .bool false, .bool false, .bool false, .tup [], .tup [], .bool false]
def Qk2 (_p0 : Val) (_p1 : Val) (_i0 : Nat) (_v0_1 : Int) (_x0 : Val) : List (Nat × List PV) :=
  []
theorem Q11z (p0 : Val) (p1 : Val) (_H : Q8q p0 p1) (_rec : Q3p p0) (x0 : Val) (i0 : Nat) (v0_1 : Int) (_hx0 : p0.list[i0]? = some x0) (_hi0 : i0 < List.length p0.list) (hc0 : (decide ((i0 : Int) < ((List.length p0.list) : Int))) = true) (h0 : (decide ((i0 : Int) < ((List.length p1.list) : Int))) = false) : Qan p0 p1 (Q4c p0 p1 i0 v0_1) v0_1 := by
 exact ⟨(envF (Qq2 p0 p1 i0 v0_1 x0)), (zoF (Qk2 p0 p1 i0 v0_1 x0)), Qf VOK.nil (x := ((.exit 0), Q37 p0 p1 v0_1 (envF (Qq2 p0 p1 i0 v0_1 x0)) (zoF (Qk2 p0 p1 i0 v0_1 x0)))) [hP 3 (Qe (Val.rows p0.list) (List.length p0.list) (Val.Q8 p0.list)), hB 0 hc0, hP 4 (Qe (Val.rows p1.list) (List.length p1.list) (Val.Q8 p1.list)), hB 0 h0] [] (by kernel_rfl)⟩
theorem Qcf (p0 : Val) (p1 : Val) (H : Q8q p0 p1) (rec : Q3p p0) : ∀ (r0 : List Val) (i0 : Nat) (v0_1 : Int), List.drop i0 p0.list = r0 → Qan p0 p1 (Q4c p0 p1 i0 v0_1) (Qv p0 p1 r0 i0 v0_1)
 | [], i0, v0_1, hd => by
  have hc0 : (decide ((i0 : Int) < ((List.length p0.list) : Int))) = false := by have := Q1d hd; simp; omega
  rw [Qv]
  exact Q14n p0 p1 H rec i0 v0_1 hc0
 | x0 :: r0, i0, v0_1, hd => by
  obtain ⟨hx0, hi0, hd'⟩ := Qz hd
  have hc0 : (decide ((i0 : Int) < ((List.length p0.list) : Int))) = true := by simp; omega
  rw [Qv]
  cases h0 : (decide ((i0 : Int) < ((List.length p1.list) : Int))) with
  | true =>
   cases h1 : (v0_1 == 0) with
   | true =>
    exact Qpx p0 p1 (fun r hr => Q14a p0 p1 H rec x0 i0 v0_1 hx0 hi0 hc0 h0 h1 hr) _ (Qcf p0 p1 H rec r0 (i0 + 1) (s_Ki x0 (List.getD p1.list i0 (Val.mk 0 0 eB [] []))) hd')
   | false =>
    exact Q12q p0 p1 H rec x0 i0 v0_1 hx0 hi0 hc0 h0 h1
  | false =>
   exact Q11z p0 p1 H rec x0 i0 v0_1 hx0 hi0 hc0 h0
def Qp5 (p0 : Val) (_p1 : Val) (i1 : Nat) (_v1_1 : Int) : List PV :=
  [.un, .un, .un, .un, .un, .un, .un, .int .i64 (i1 : Int), .un, .un, .un, .un, .un, .un, .un, .un, .un, .un, .un, .un, .un, .un, .un, .un, .un, .un, .un, .un, .un, .un, .un, .un, .un, .un, .un, .un, .un, .un, .un, .un, .un, .un, .un, .un, .un, .un, .un, .un, .un, .un, .un, .un, .un, .un, .un, .un, .un, .un, .un, .un, .un, .un, .un, .un, .un, .un, .un, .un, .un, .un, .un, .un, .un, .un, .un, .un, .un, .un, .un, .un, .un, .un, .un, .un, .un, .un, .un, .un, .un, .un, .un, .int .i64 (i1 : Int), .bx 0 4, .sl (Fld.rows p0.fields), .int .i64 ((List.length p0.fields) : Int), .bool false, .bool false, .tup [], .tup [], .tup [], .tup [], .tup [], .bool false, .bool false, .tup [], .tup [], .bool false]
def Qjp (_p0 : Val) (_p1 : Val) (_i1 : Nat) (_v1_1 : Int) : List (Nat × List PV) :=
  []
theorem Q157 (p0 : Val) (p1 : Val) (_H : Q6y p0 p1) (_rec : Q3p p0) (i1 : Nat) (v1_1 : Int) (hc1 : (decide ((i1 : Int) < ((List.length p0.fields) : Int))) = false) : Qau p0 p1 (Q3o p0 p1 i1 v1_1) v1_1 := by
 exact ⟨(envF (Qp5 p0 p1 i1 v1_1)), (zoF (Qjp p0 p1 i1 v1_1)), Qf VOK.nil (x := ((.exit 2), Q35 p0 p1 v1_1 (envF (Qp5 p0 p1 i1 v1_1)) (zoF (Qjp p0 p1 i1 v1_1)))) [hP 3 (Qe (Fld.rows p0.fields) (List.length p0.fields) (Fld.Q8 p0.fields)), hB 0 hc1] [] (by kernel_rfl)⟩
theorem Q155 (p0 : Val) (p1 : Val) (H : Q6y p0 p1) (rec : Q3p p0) (x1 : Fld) (i1 : Nat) (v1_1 : Int) (hx1 : p0.fields[i1]? = some x1) (hi1 : i1 < List.length p0.fields) (hc1 : (decide ((i1 : Int) < ((List.length p0.fields) : Int))) = true) (h0 : (decide ((i1 : Int) < ((List.length p1.fields) : Int))) = true) (h1 : (v1_1 == 0) = true) (h2 : ((s_Kt (sLt x1.name (List.getD p1.fields i1 zF).name) (!((sLt x1.name (List.getD p1.fields i1 zF).name) || (sEq x1.name (List.getD p1.fields i1 zF).name)))) == 0) = true) {r : Rs} (hr : Q7 G (Q3o p0 p1 (i1 + 1) (s_Ki x1.v (List.getD p1.fields i1 zF).v)) r) : Q7 G (Q3o p0 p1 i1 v1_1) r := by
 have hB0 := H.1; have e0 := of_decide_eq_true h0; have e1 := eq_of_beq h1; have e2 := eq_of_beq h2
 exact Qa VOK.nil (y := (Qo8 p0 p1 (i1 + 1) (s_Ki x1.v (List.getD p1.fields i1 zF).v), Qn0 p0 p1 (i1 + 1) (s_Ki x1.v (List.getD p1.fields i1 zF).v))) [hP 3 (Qe (Fld.rows p0.fields) (List.length p0.fields) (Fld.Q8 p0.fields)), hB 0 hc1, hP 4 (Qe (Fld.rows p1.fields) (List.length p1.fields) (Fld.Q8 p1.fields)), hB 0 h0, hB 3 h1, hP 4 (Q10 6 (Fld.rows p0.fields) i1 _ (Fld.Qg hx1) rfl), hP 5 (Q55 6 (Fld.rows p1.fields) (i1 : Int) _ (by omega) (Fld.Qg (Qu p1.fields (Int.toNat (i1 : Int)) zF (by omega))) rfl), hP 6 (Q10 6 (Fld.rows p0.fields) i1 _ (Fld.Qg hx1) rfl), hP 5 (Q55 6 (Fld.rows p1.fields) (i1 : Int) _ (by omega) (Fld.Qg (Qu p1.fields (Int.toNat (i1 : Int)) zF (by omega))) rfl), hB 6 h2, hP 3 (Q10 6 (Fld.rows p0.fields) i1 _ (Fld.Qg hx1) rfl), hP 5 (Q55 6 (Fld.rows p1.fields) (i1 : Int) _ (by omega) (Fld.Qg (Qu p1.fields (Int.toNat (i1 : Int)) zF (by omega))) rfl), hP 5 (Qr i1 (by omega))] [aN (t_Kt (sLt x1.name (List.getD p1.fields i1 zF).name) (!((sLt x1.name (List.getD p1.fields i1 zF).name) || (sEq x1.name (List.getD p1.fields i1 zF).name)))), aN (rec x1.v (szF hx1) (List.getD p1.fields i1 zF).v (H.2.1 x1 (Qt hx1)))] (by kernel_rfl) hr
theorem Q137 (p0 : Val) (p1 : Val) (H : Q6y p0 p1) (_rec : Q3p p0) (x1 : Fld) (i1 : Nat) (v1_1 : Int) (hx1 : p0.fields[i1]? = some x1) (hi1 : i1 < List.length p0.fields) (hc1 : (decide ((i1 : Int) < ((List.length p0.fields) : Int))) = true) (h0 : (decide ((i1 : Int) < ((List.length p1.fields) : Int))) = true) (h1 : (v1_1 == 0) = true) (h2 : ((s_Kt (sLt x1.name (List.getD p1.fields i1 zF).name) (!((sLt x1.name (List.getD p1.fields i1 zF).name) || (sEq x1.name (List.getD p1.fields i1 zF).name)))) == 0) = false) {r : Rs} (hr : Q7 G (Q3o p0 p1 (i1 + 1) (s_Kt (sLt x1.name (List.getD p1.fields i1 zF).name) (!((sLt x1.name (List.getD p1.fields i1 zF).name) || (sEq x1.name (List.getD p1.fields i1 zF).name))))) r) : Q7 G (Q3o p0 p1 i1 v1_1) r := by
 have hB0 := H.1; have e0 := of_decide_eq_true h0; have e1 := eq_of_beq h1; have e2 := beq_eq_false_iff_ne.1 h2
 exact Qa VOK.nil (y := (Qo8 p0 p1 (i1 + 1) (s_Kt (sLt x1.name (List.getD p1.fields i1 zF).name) (!((sLt x1.name (List.getD p1.fields i1 zF).name) || (sEq x1.name (List.getD p1.fields i1 zF).name)))), Qn0 p0 p1 (i1 + 1) (s_Kt (sLt x1.name (List.getD p1.fields i1 zF).name) (!((sLt x1.name (List.getD p1.fields i1 zF).name) || (sEq x1.name (List.getD p1.fields i1 zF).name)))))) [hP 3 (Qe (Fld.rows p0.fields) (List.length p0.fields) (Fld.Q8 p0.fields)), hB 0 hc1, hP 4 (Qe (Fld.rows p1.fields) (List.length p1.fields) (Fld.Q8 p1.fields)), hB 0 h0, hB 3 h1, hP 4 (Q10 6 (Fld.rows p0.fields) i1 _ (Fld.Qg hx1) rfl), hP 5 (Q55 6 (Fld.rows p1.fields) (i1 : Int) _ (by omega) (Fld.Qg (Qu p1.fields (Int.toNat (i1 : Int)) zF (by omega))) rfl), hP 6 (Q10 6 (Fld.rows p0.fields) i1 _ (Fld.Qg hx1) rfl), hP 5 (Q55 6 (Fld.rows p1.fields) (i1 : Int) _ (by omega) (Fld.Qg (Qu p1.fields (Int.toNat (i1 : Int)) zF (by omega))) rfl), hB 6 h2, hP 1 (Qr i1 (by omega))] [aN (t_Kt (sLt x1.name (List.getD p1.fields i1 zF).name) (!((sLt x1.name (List.getD p1.fields i1 zF).name) || (sEq x1.name (List.getD p1.fields i1 zF).name))))] (by kernel_rfl) hr
def Qr9 (p0 : Val) (p1 : Val) (i1 : Nat) (v1_1 : Int) (_x1 : Fld) : List PV :=
  [.un, .un, .un, .un, .un, .un, .un, .int .i64 (i1 : Int), .un, .un, .un, .un, .un, .un, .un, .un, .un, .un, .un, .un, .un, .un, .un, .un, .un, .un, .un, .un, .un, .un, .un, .un, .un, .un, .un, .un, .un, .un, .un, .un, .un, .un, .un, .un, .un, .un, .un, .un, .un, .un, .un, .un, .un, .un, .un, .un, .un, .un, .un, .un, .un, .un, .un, .un, .un, .un, .un, .un, .un, .un, .un, .un, .un, .un, .un, .un, .un, .un, .un, .un, .un, .un, .un, .un, .un, .un, .un, .un, .un, .un, .un, .int .i64 (i1 : Int), .bx 0 4, .sl (Fld.rows p0.fields), .int .i64 ((List.length p0.fields) : Int), .bool true, .bool true, .int .i64 (i1 : Int), .bx 1 4, .sl (Fld.rows p1.fields), .int .i64 ((List.length p1.fields) : Int), .bool true, .bool true, .bool true, .int .i64 v1_1, .bool false, .bool false]
def Qkz (_p0 : Val) (_p1 : Val) (_i1 : Nat) (_v1_1 : Int) (_x1 : Fld) : List (Nat × List PV) :=
  []
theorem Q10r (p0 : Val) (p1 : Val) (_H : Q6y p0 p1) (_rec : Q3p p0) (x1 : Fld) (i1 : Nat) (v1_1 : Int) (_hx1 : p0.fields[i1]? = some x1) (_hi1 : i1 < List.length p0.fields) (hc1 : (decide ((i1 : Int) < ((List.length p0.fields) : Int))) = true) (h0 : (decide ((i1 : Int) < ((List.length p1.fields) : Int))) = true) (h1 : (v1_1 == 0) = false) : Qau p0 p1 (Q3o p0 p1 i1 v1_1) v1_1 := by
 exact ⟨(envF (Qr9 p0 p1 i1 v1_1 x1)), (zoF (Qkz p0 p1 i1 v1_1 x1)), Qf VOK.nil (x := ((.exit 2), Q35 p0 p1 v1_1 (envF (Qr9 p0 p1 i1 v1_1 x1)) (zoF (Qkz p0 p1 i1 v1_1 x1)))) [hP 3 (Qe (Fld.rows p0.fields) (List.length p0.fields) (Fld.Q8 p0.fields)), hB 0 hc1, hP 4 (Qe (Fld.rows p1.fields) (List.length p1.fields) (Fld.Q8 p1.fields)), hB 0 h0, hB 3 h1] [] (by kernel_rfl)⟩
def Qqr (p0 : Val) (p1 : Val) (i1 : Nat) (_v1_1 : Int) (_x1 : Fld) : List PV :=
  [.un, .un, .un, .un, .un, .un, .un, .int .i64 (i1 : Int), .un, .un, .un, .un, .un, .un, .un, .un, .un, .un, .un, .un, .un, .un, .un, .un, .un, .un, .un, .un, .un, .un, .un, .un, .un, .un, .un, .un, .un, .un, .un, .un, .un, .un, .un, .un, .un, .un, .un, .un, .un, .un, .un, .un, .un, .un, .un, .un, .un, .un, .un, .un, .un, .un, .un, .un, .un, .un, .un, .un, .un, .un, .un, .un, .un, .un, .un, .un, .un, .un, .un, .un, .un, .un, .un, .un, .un, .un, .un, .un, .un, .un, .un, .int .i64 (i1 : Int), .bx 0 4, .sl (Fld.rows p0.fields), .int .i64 ((List.length p0.fields) : Int), .bool true, .bool true, .int .i64 (i1 : Int), .bx 1 4, .sl (Fld.rows p1.fields), .int .i64 ((List.length p1.fields) : Int), .bool false, .bool false, .bool false, .tup [], .tup [], .bool false]
def Qiy (_p0 : Val) (_p1 : Val) (_i1 : Nat) (_v1_1 : Int) (_x1 : Fld) : List (Nat × List PV) :=
  []
theorem Q15g (p0 : Val) (p1 : Val) (_H : Q6y p0 p1) (_rec : Q3p p0) (x1 : Fld) (i1 : Nat) (v1_1 : Int) (_hx1 : p0.fields[i1]? = some x1) (_hi1 : i1 < List.length p0.fields) (hc1 : (decide ((i1 : Int) < ((List.length p0.fields) : Int))) = true) (h0 : (decide ((i1 : Int) < ((List.length p1.fields) : Int))) = false) : Qau p0 p1 (Q3o p0 p1 i1 v1_1) v1_1 := by
 exact ⟨(envF (Qqr p0 p1 i1 v1_1 x1)), (zoF (Qiy p0 p1 i1 v1_1 x1)), Qf VOK.nil (x := ((.exit 2), Q35 p0 p1 v1_1 (envF (Qqr p0 p1 i1 v1_1 x1)) (zoF (Qiy p0 p1 i1 v1_1 x1)))) [hP 3 (Qe (Fld.rows p0.fields) (List.length p0.fields) (Fld.Q8 p0.fields)), hB 0 hc1, hP 4 (Qe (Fld.rows p1.fields) (List.length p1.fields) (Fld.Q8 p1.fields)), hB 0 h0] [] (by kernel_rfl)⟩
theorem Q54 (p0 : Val) (p1 : Val) (H : Q6y p0 p1) (rec : Q3p p0) : ∀ (r1 : List Fld) (i1 : Nat) (v1_1 : Int), List.drop i1 p0.fields = r1 → Qau p0 p1 (Q3o p0 p1 i1 v1_1) (Qy p0 p1 r1 i1 v1_1)
 | [], i1, v1_1, hd => by
  have hc1 : (decide ((i1 : Int) < ((List.length p0.fields) : Int))) = false := by have := Q1d hd; simp; omega
  rw [Qy]
  exact Q157 p0 p1 H rec i1 v1_1 hc1
 | x1 :: r1, i1, v1_1, hd => by
  obtain ⟨hx1, hi1, hd'⟩ := Qz hd
  have hc1 : (decide ((i1 : Int) < ((List.length p0.fields) : Int))) = true := by simp; omega
  rw [Qy]
  cases h0 : (decide ((i1 : Int) < ((List.length p1.fields) : Int))) with
  | true =>
   cases h1 : (v1_1 == 0) with
   | true =>
    cases h2 : ((s_Kt (sLt x1.name (List.getD p1.fields i1 zF).name) (!((sLt x1.name (List.getD p1.fields i1 zF).name) || (sEq x1.name (List.getD p1.fields i1 zF).name)))) == 0) with
    | true =>
     exact Qbf p0 p1 (fun r hr => Q155 p0 p1 H rec x1 i1 v1_1 hx1 hi1 hc1 h0 h1 h2 hr) _ (Q54 p0 p1 H rec r1 (i1 + 1) (s_Ki x1.v (List.getD p1.fields i1 zF).v) hd')
    | false =>
     exact Qbf p0 p1 (fun r hr => Q137 p0 p1 H rec x1 i1 v1_1 hx1 hi1 hc1 h0 h1 h2 hr) _ (Q54 p0 p1 H rec r1 (i1 + 1) (s_Kt (sLt x1.name (List.getD p1.fields i1 zF).name) (!((sLt x1.name (List.getD p1.fields i1 zF).name) || (sEq x1.name (List.getD p1.fields i1 zF).name)))) hd')
   | false =>
    exact Q10r p0 p1 H rec x1 i1 v1_1 hx1 hi1 hc1 h0 h1
  | false =>
   exact Q15g p0 p1 H rec x1 i1 v1_1 hx1 hi1 hc1 h0
theorem Q19d (p0 : Val) (p1 : Val) (_H : H_Ki p0) (_rec : Q3p p0) (h0 : ((s_Kt (decide (p0.kind < p1.kind)) (decide (p1.kind < p0.kind))) == 0) = true) (h1 : ((s_Kt (decide (p0.n < p1.n)) (decide (p1.n < p0.n))) == 0) = true) (z2 : Nat → PV) (zo2 : Nat → List PV) (hl2 : Q7 G (Q4c p0 p1 0 (s_Kt (sLt p0.s p1.s) (!((sLt p0.s p1.s) || (sEq p0.s p1.s))))) (.st (.exit 0) (Q37 p0 p1 (Qv p0 p1 p0.list 0 (s_Kt (sLt p0.s p1.s) (!((sLt p0.s p1.s) || (sEq p0.s p1.s))))) z2 zo2))) (h2 : ((Qv p0 p1 p0.list 0 (s_Kt (sLt p0.s p1.s) (!((sLt p0.s p1.s) || (sEq p0.s p1.s))))) == 0) = true) (z4 : Nat → PV) (zo4 : Nat → List PV) (hl4 : Q7 G (Q3o p0 p1 0 (s_Kt (decide (((List.length p0.list) : Int) < ((List.length p1.list) : Int))) (decide (((List.length p1.list) : Int) < ((List.length p0.list) : Int))))) (.st (.exit 2) (Q35 p0 p1 (Qy p0 p1 p0.fields 0 (s_Kt (decide (((List.length p0.list) : Int) < ((List.length p1.list) : Int))) (decide (((List.length p1.list) : Int) < ((List.length p0.list) : Int))))) z4 zo4))) : Q7 G (c_Ki p0 p1) (.ret (.int .i64 (bif ((Qy p0 p1 p0.fields 0 (s_Kt (decide (((List.length p0.list) : Int) < ((List.length p1.list) : Int))) (decide (((List.length p1.list) : Int) < ((List.length p0.list) : Int))))) == 0) then
   (s_Kt (decide (((List.length p0.fields) : Int) < ((List.length p1.fields) : Int))) (decide (((List.length p1.fields) : Int) < ((List.length p0.fields) : Int))))
 else
   (Qy p0 p1 p0.fields 0 (s_Kt (decide (((List.length p0.list) : Int) < ((List.length p1.list) : Int))) (decide (((List.length p1.list) : Int) < ((List.length p0.list) : Int))))))) []) := by
 cases h3 : ((Qy p0 p1 p0.fields 0 (s_Kt (decide (((List.length p0.list) : Int) < ((List.length p1.list) : Int))) (decide (((List.length p1.list) : Int) < ((List.length p0.list) : Int))))) == 0) with
 | true =>
  exact Q9 (fn := Ir.Ki) rfl VOK.nil [hB 16 h0, hB 13 h1, hB 14 h2, hP 2 (Qe (Val.rows p0.list) (List.length p0.list) (Val.Q8 p0.list)), hP 2 (Qe (Val.rows p1.list) (List.length p1.list) (Val.Q8 p1.list)), hP 3 (Qe (Val.rows p0.list) (List.length p0.list) (Val.Q8 p0.list)), hP 2 (Qe (Val.rows p1.list) (List.length p1.list) (Val.Q8 p1.list)), hB 5 h3, hP 2 (Qe (Fld.rows p0.fields) (List.length p0.fields) (Fld.Q8 p0.fields)), hP 2 (Qe (Fld.rows p1.fields) (List.length p1.fields) (Fld.Q8 p1.fields)), hP 3 (Qe (Fld.rows p0.fields) (List.length p0.fields) (Fld.Q8 p0.fields)), hP 2 (Qe (Fld.rows p1.fields) (List.length p1.fields) (Fld.Q8 p1.fields))] [aN (t_Kt (decide (p0.kind < p1.kind)) (decide (p1.kind < p0.kind))), aN (t_Kt (decide (p0.n < p1.n)) (decide (p1.n < p0.n))), aN (t_Kt (sLt p0.s p1.s) (!((sLt p0.s p1.s) || (sEq p0.s p1.s)))), aN hl2, aN (t_Kt (decide (((List.length p0.list) : Int) < ((List.length p1.list) : Int))) (decide (((List.length p1.list) : Int) < ((List.length p0.list) : Int)))), aN hl4, aN (t_Kt (decide (((List.length p0.fields) : Int) < ((List.length p1.fields) : Int))) (decide (((List.length p1.fields) : Int) < ((List.length p0.fields) : Int))))] (by kernel_rfl)
 | false =>
  exact Q9 (fn := Ir.Ki) rfl VOK.nil [hB 16 h0, hB 13 h1, hB 14 h2, hP 2 (Qe (Val.rows p0.list) (List.length p0.list) (Val.Q8 p0.list)), hP 2 (Qe (Val.rows p1.list) (List.length p1.list) (Val.Q8 p1.list)), hP 3 (Qe (Val.rows p0.list) (List.length p0.list) (Val.Q8 p0.list)), hP 2 (Qe (Val.rows p1.list) (List.length p1.list) (Val.Q8 p1.list)), hB 5 h3] [aN (t_Kt (decide (p0.kind < p1.kind)) (decide (p1.kind < p0.kind))), aN (t_Kt (decide (p0.n < p1.n)) (decide (p1.n < p0.n))), aN (t_Kt (sLt p0.s p1.s) (!((sLt p0.s p1.s) || (sEq p0.s p1.s)))), aN hl2, aN (t_Kt (decide (((List.length p0.list) : Int) < ((List.length p1.list) : Int))) (decide (((List.length p1.list) : Int) < ((List.length p0.list) : Int)))), aN hl4] (by kernel_rfl)
theorem Q1an (p0 : Val) (p1 : Val) (_H : H_Ki p0) (_rec : Q3p p0) (h0 : ((s_Kt (decide (p0.kind < p1.kind)) (decide (p1.kind < p0.kind))) == 0) = true) (h1 : ((s_Kt (decide (p0.n < p1.n)) (decide (p1.n < p0.n))) == 0) = true) (z2 : Nat → PV) (zo2 : Nat → List PV) (hl2 : Q7 G (Q4c p0 p1 0 (s_Kt (sLt p0.s p1.s) (!((sLt p0.s p1.s) || (sEq p0.s p1.s))))) (.st (.exit 0) (Q37 p0 p1 (Qv p0 p1 p0.list 0 (s_Kt (sLt p0.s p1.s) (!((sLt p0.s p1.s) || (sEq p0.s p1.s))))) z2 zo2))) (h2 : ((Qv p0 p1 p0.list 0 (s_Kt (sLt p0.s p1.s) (!((sLt p0.s p1.s) || (sEq p0.s p1.s))))) == 0) = false) (z4 : Nat → PV) (zo4 : Nat → List PV) (hl4 : Q7 G (Q3o p0 p1 0 (Qv p0 p1 p0.list 0 (s_Kt (sLt p0.s p1.s) (!((sLt p0.s p1.s) || (sEq p0.s p1.s)))))) (.st (.exit 2) (Q35 p0 p1 (Qy p0 p1 p0.fields 0 (Qv p0 p1 p0.list 0 (s_Kt (sLt p0.s p1.s) (!((sLt p0.s p1.s) || (sEq p0.s p1.s)))))) z4 zo4))) : Q7 G (c_Ki p0 p1) (.ret (.int .i64 (bif ((Qy p0 p1 p0.fields 0 (Qv p0 p1 p0.list 0 (s_Kt (sLt p0.s p1.s) (!((sLt p0.s p1.s) || (sEq p0.s p1.s)))))) == 0) then
   (s_Kt (decide (((List.length p0.fields) : Int) < ((List.length p1.fields) : Int))) (decide (((List.length p1.fields) : Int) < ((List.length p0.fields) : Int))))
 else
   (Qy p0 p1 p0.fields 0 (Qv p0 p1 p0.list 0 (s_Kt (sLt p0.s p1.s) (!((sLt p0.s p1.s) || (sEq p0.s p1.s)))))))) []) := by
 cases h3 : ((Qy p0 p1 p0.fields 0 (Qv p0 p1 p0.list 0 (s_Kt (sLt p0.s p1.s) (!((sLt p0.s p1.s) || (sEq p0.s p1.s)))))) == 0) with
 | true =>
  exact Q9 (fn := Ir.Ki) rfl VOK.nil [hB 16 h0, hB 13 h1, hB 14 h2, hB 2 h3, hP 2 (Qe (Fld.rows p0.fields) (List.length p0.fields) (Fld.Q8 p0.fields)), hP 2 (Qe (Fld.rows p1.fields) (List.length p1.fields) (Fld.Q8 p1.fields)), hP 3 (Qe (Fld.rows p0.fields) (List.length p0.fields) (Fld.Q8 p0.fields)), hP 2 (Qe (Fld.rows p1.fields) (List.length p1.fields) (Fld.Q8 p1.fields))] [aN (t_Kt (decide (p0.kind < p1.kind)) (decide (p1.kind < p0.kind))), aN (t_Kt (decide (p0.n < p1.n)) (decide (p1.n < p0.n))), aN (t_Kt (sLt p0.s p1.s) (!((sLt p0.s p1.s) || (sEq p0.s p1.s)))), aN hl2, aN hl4, aN (t_Kt (decide (((List.length p0.fields) : Int) < ((List.length p1.fields) : Int))) (decide (((List.length p1.fields) : Int) < ((List.length p0.fields) : Int))))] (by kernel_rfl)
 | false =>
  exact Q9 (fn := Ir.Ki) rfl VOK.nil [hB 16 h0, hB 13 h1, hB 14 h2, hB 2 h3] [aN (t_Kt (decide (p0.kind < p1.kind)) (decide (p1.kind < p0.kind))), aN (t_Kt (decide (p0.n < p1.n)) (decide (p1.n < p0.n))), aN (t_Kt (sLt p0.s p1.s) (!((sLt p0.s p1.s) || (sEq p0.s p1.s)))), aN hl2, aN hl4] (by kernel_rfl)
theorem Q1ab (p0 : Val) (p1 : Val) (_H : H_Ki p0) (_rec : Q3p p0) (h0 : ((s_Kt (decide (p0.kind < p1.kind)) (decide (p1.kind < p0.kind))) == 0) = true) (h1 : ((s_Kt (decide (p0.n < p1.n)) (decide (p1.n < p0.n))) == 0) = false) (z2 : Nat → PV) (zo2 : Nat → List PV) (hl2 : Q7 G (Q4c p0 p1 0 (s_Kt (decide (p0.n < p1.n)) (decide (p1.n < p0.n)))) (.st (.exit 0) (Q37 p0 p1 (Qv p0 p1 p0.list 0 (s_Kt (decide (p0.n < p1.n)) (decide (p1.n < p0.n)))) z2 zo2))) (h2 : ((Qv p0 p1 p0.list 0 (s_Kt (decide (p0.n < p1.n)) (decide (p1.n < p0.n)))) == 0) = true) (z4 : Nat → PV) (zo4 : Nat → List PV) (hl4 : Q7 G (Q3o p0 p1 0 (s_Kt (decide (((List.length p0.list) : Int) < ((List.length p1.list) : Int))) (decide (((List.length p1.list) : Int) < ((List.length p0.list) : Int))))) (.st (.exit 2) (Q35 p0 p1 (Qy p0 p1 p0.fields 0 (s_Kt (decide (((List.length p0.list) : Int) < ((List.length p1.list) : Int))) (decide (((List.length p1.list) : Int) < ((List.length p0.list) : Int))))) z4 zo4))) : Q7 G (c_Ki p0 p1) (.ret (.int .i64 (bif ((Qy p0 p1 p0.fields 0 (s_Kt (decide (((List.length p0.list) : Int) < ((List.length p1.list) : Int))) (decide (((List.length p1.list) : Int) < ((List.length p0.list) : Int))))) == 0) then
   (s_Kt (decide (((List.length p0.fields) : Int) < ((List.length p1.fields) : Int))) (decide (((List.length p1.fields) : Int) < ((List.length p0.fields) : Int))))
 else
   (Qy p0 p1 p0.fields 0 (s_Kt (decide (((List.length p0.list) : Int) < ((List.length p1.list) : Int))) (decide (((List.length p1.list) : Int) < ((List.length p0.list) : Int))))))) []) := by
 cases h3 : ((Qy p0 p1 p0.fields 0 (s_Kt (decide (((List.length p0.list) : Int) < ((List.length p1.list) : Int))) (decide (((List.length p1.list) : Int) < ((List.length p0.list) : Int))))) == 0) with
 | true =>
  exact Q9 (fn := Ir.Ki) rfl VOK.nil [hB 16 h0, hB 13 h1, hB 2 h2, hP 2 (Qe (Val.rows p0.list) (List.length p0.list) (Val.Q8 p0.list)), hP 2 (Qe (Val.rows p1.list) (List.length p1.list) (Val.Q8 p1.list)), hP 3 (Qe (Val.rows p0.list) (List.length p0.list) (Val.Q8 p0.list)), hP 2 (Qe (Val.rows p1.list) (List.length p1.list) (Val.Q8 p1.list)), hB 5 h3, hP 2 (Qe (Fld.rows p0.fields) (List.length p0.fields) (Fld.Q8 p0.fields)), hP 2 (Qe (Fld.rows p1.fields) (List.length p1.fields) (Fld.Q8 p1.fields)), hP 3 (Qe (Fld.rows p0.fields) (List.length p0.fields) (Fld.Q8 p0.fields)), hP 2 (Qe (Fld.rows p1.fields) (List.length p1.fields) (Fld.Q8 p1.fields))] [aN (t_Kt (decide (p0.kind < p1.kind)) (decide (p1.kind < p0.kind))), aN (t_Kt (decide (p0.n < p1.n)) (decide (p1.n < p0.n))), aN hl2, aN (t_Kt (decide (((List.length p0.list) : Int) < ((List.length p1.list) : Int))) (decide (((List.length p1.list) : Int) < ((List.length p0.list) : Int)))), aN hl4, aN (t_Kt (decide (((List.length p0.fields) : Int) < ((List.length p1.fields) : Int))) (decide (((List.length p1.fields) : Int) < ((List.length p0.fields) : Int))))] (by kernel_rfl)
 | false =>
  exact Q9 (fn := Ir.Ki) rfl VOK.nil [hB 16 h0, hB 13 h1, hB 2 h2, hP 2 (Qe (Val.rows p0.list) (List.length p0.list) (Val.Q8 p0.list)), hP 2 (Qe (Val.rows p1.list) (List.length p1.list) (Val.Q8 p1.list)), hP 3 (Qe (Val.rows p0.list) (List.length p0.list) (Val.Q8 p0.list)), hP 2 (Qe (Val.rows p1.list) (List.length p1.list) (Val.Q8 p1.list)), hB 5 h3] [aN (t_Kt (decide (p0.kind < p1.kind)) (decide (p1.kind < p0.kind))), aN (t_Kt (decide (p0.n < p1.n)) (decide (p1.n < p0.n))), aN hl2, aN (t_Kt (decide (((List.length p0.list) : Int) < ((List.length p1.list) : Int))) (decide (((List.length p1.list) : Int) < ((List.length p0.list) : Int)))), aN hl4] (by kernel_rfl)
theorem Q1ai (p0 : Val) (p1 : Val) (_H : H_Ki p0) (_rec : Q3p p0) (h0 : ((s_Kt (decide (p0.kind < p1.kind)) (decide (p1.kind < p0.kind))) == 0) = true) (h1 : ((s_Kt (decide (p0.n < p1.n)) (decide (p1.n < p0.n))) == 0) = false) (z2 : Nat → PV) (zo2 : Nat → List PV) (hl2 : Q7 G (Q4c p0 p1 0 (s_Kt (decide (p0.n < p1.n)) (decide (p1.n < p0.n)))) (.st (.exit 0) (Q37 p0 p1 (Qv p0 p1 p0.list 0 (s_Kt (decide (p0.n < p1.n)) (decide (p1.n < p0.n)))) z2 zo2))) (h2 : ((Qv p0 p1 p0.list 0 (s_Kt (decide (p0.n < p1.n)) (decide (p1.n < p0.n)))) == 0) = false) (z4 : Nat → PV) (zo4 : Nat → List PV) (hl4 : Q7 G (Q3o p0 p1 0 (Qv p0 p1 p0.list 0 (s_Kt (decide (p0.n < p1.n)) (decide (p1.n < p0.n))))) (.st (.exit 2) (Q35 p0 p1 (Qy p0 p1 p0.fields 0 (Qv p0 p1 p0.list 0 (s_Kt (decide (p0.n < p1.n)) (decide (p1.n < p0.n))))) z4 zo4))) : Q7 G (c_Ki p0 p1) (.ret (.int .i64 (bif ((Qy p0 p1 p0.fields 0 (Qv p0 p1 p0.list 0 (s_Kt (decide (p0.n < p1.n)) (decide (p1.n < p0.n))))) == 0) then
   (s_Kt (decide (((List.length p0.fields) : Int) < ((List.length p1.fields) : Int))) (decide (((List.length p1.fields) : Int) < ((List.length p0.fields) : Int))))
 else
   (Qy p0 p1 p0.fields 0 (Qv p0 p1 p0.list 0 (s_Kt (decide (p0.n < p1.n)) (decide (p1.n < p0.n))))))) []) := by
 cases h3 : ((Qy p0 p1 p0.fields 0 (Qv p0 p1 p0.list 0 (s_Kt (decide (p0.n < p1.n)) (decide (p1.n < p0.n))))) == 0) with
 | true =>
  exact Q9 (fn := Ir.Ki) rfl VOK.nil [hB 16 h0, hB 13 h1, hB 2 h2, hB 2 h3, hP 2 (Qe (Fld.rows p0.fields) (List.length p0.fields) (Fld.Q8 p0.fields)), hP 2 (Qe (Fld.rows p1.fields) (List.length p1.fields) (Fld.Q8 p1.fields)), hP 3 (Qe (Fld.rows p0.fields) (List.length p0.fields) (Fld.Q8 p0.fields)), hP 2 (Qe (Fld.rows p1.fields) (List.length p1.fields) (Fld.Q8 p1.fields))] [aN (t_Kt (decide (p0.kind < p1.kind)) (decide (p1.kind < p0.kind))), aN (t_Kt (decide (p0.n < p1.n)) (decide (p1.n < p0.n))), aN hl2, aN hl4, aN (t_Kt (decide (((List.length p0.fields) : Int) < ((List.length p1.fields) : Int))) (decide (((List.length p1.fields) : Int) < ((List.length p0.fields) : Int))))] (by kernel_rfl)
 | false =>
  exact Q9 (fn := Ir.Ki) rfl VOK.nil [hB 16 h0, hB 13 h1, hB 2 h2, hB 2 h3] [aN (t_Kt (decide (p0.kind < p1.kind)) (decide (p1.kind < p0.kind))), aN (t_Kt (decide (p0.n < p1.n)) (decide (p1.n < p0.n))), aN hl2, aN hl4] (by kernel_rfl)
theorem Q19s (p0 : Val) (p1 : Val) (_H : H_Ki p0) (_rec : Q3p p0) (h0 : ((s_Kt (decide (p0.kind < p1.kind)) (decide (p1.kind < p0.kind))) == 0) = false) (z1 : Nat → PV) (zo1 : Nat → List PV) (hl1 : Q7 G (Q4c p0 p1 0 (s_Kt (decide (p0.kind < p1.kind)) (decide (p1.kind < p0.kind)))) (.st (.exit 0) (Q37 p0 p1 (Qv p0 p1 p0.list 0 (s_Kt (decide (p0.kind < p1.kind)) (decide (p1.kind < p0.kind)))) z1 zo1))) (h1 : ((Qv p0 p1 p0.list 0 (s_Kt (decide (p0.kind < p1.kind)) (decide (p1.kind < p0.kind)))) == 0) = true) (z3 : Nat → PV) (zo3 : Nat → List PV) (hl3 : Q7 G (Q3o p0 p1 0 (s_Kt (decide (((List.length p0.list) : Int) < ((List.length p1.list) : Int))) (decide (((List.length p1.list) : Int) < ((List.length p0.list) : Int))))) (.st (.exit 2) (Q35 p0 p1 (Qy p0 p1 p0.fields 0 (s_Kt (decide (((List.length p0.list) : Int) < ((List.length p1.list) : Int))) (decide (((List.length p1.list) : Int) < ((List.length p0.list) : Int))))) z3 zo3))) : Q7 G (c_Ki p0 p1) (.ret (.int .i64 (bif ((Qy p0 p1 p0.fields 0 (s_Kt (decide (((List.length p0.list) : Int) < ((List.length p1.list) : Int))) (decide (((List.length p1.list) : Int) < ((List.length p0.list) : Int))))) == 0) then
   (s_Kt (decide (((List.length p0.fields) : Int) < ((List.length p1.fields) : Int))) (decide (((List.length p1.fields) : Int) < ((List.length p0.fields) : Int))))
 else
   (Qy p0 p1 p0.fields 0 (s_Kt (decide (((List.length p0.list) : Int) < ((List.length p1.list) : Int))) (decide (((List.length p1.list) : Int) < ((List.length p0.list) : Int))))))) []) := by
 cases h2 : ((Qy p0 p1 p0.fields 0 (s_Kt (decide (((List.length p0.list) : Int) < ((List.length p1.list) : Int))) (decide (((List.length p1.list) : Int) < ((List.length p0.list) : Int))))) == 0) with
 | true =>
  exact Q9 (fn := Ir.Ki) rfl VOK.nil [hB 16 h0, hB 1 h0, hB 2 h1, hP 2 (Qe (Val.rows p0.list) (List.length p0.list) (Val.Q8 p0.list)), hP 2 (Qe (Val.rows p1.list) (List.length p1.list) (Val.Q8 p1.list)), hP 3 (Qe (Val.rows p0.list) (List.length p0.list) (Val.Q8 p0.list)), hP 2 (Qe (Val.rows p1.list) (List.length p1.list) (Val.Q8 p1.list)), hB 5 h2, hP 2 (Qe (Fld.rows p0.fields) (List.length p0.fields) (Fld.Q8 p0.fields)), hP 2 (Qe (Fld.rows p1.fields) (List.length p1.fields) (Fld.Q8 p1.fields)), hP 3 (Qe (Fld.rows p0.fields) (List.length p0.fields) (Fld.Q8 p0.fields)), hP 2 (Qe (Fld.rows p1.fields) (List.length p1.fields) (Fld.Q8 p1.fields))] [aN (t_Kt (decide (p0.kind < p1.kind)) (decide (p1.kind < p0.kind))), aN hl1, aN (t_Kt (decide (((List.length p0.list) : Int) < ((List.length p1.list) : Int))) (decide (((List.length p1.list) : Int) < ((List.length p0.list) : Int)))), aN hl3, aN (t_Kt (decide (((List.length p0.fields) : Int) < ((List.length p1.fields) : Int))) (decide (((List.length p1.fields) : Int) < ((List.length p0.fields) : Int))))] (by kernel_rfl)
 | false =>
  exact Q9 (fn := Ir.Ki) rfl VOK.nil [hB 16 h0, hB 1 h0, hB 2 h1, hP 2 (Qe (Val.rows p0.list) (List.length p0.list) (Val.Q8 p0.list)), hP 2 (Qe (Val.rows p1.list) (List.length p1.list) (Val.Q8 p1.list)), hP 3 (Qe (Val.rows p0.list) (List.length p0.list) (Val.Q8 p0.list)), hP 2 (Qe (Val.rows p1.list) (List.length p1.list) (Val.Q8 p1.list)), hB 5 h2] [aN (t_Kt (decide (p0.kind < p1.kind)) (decide (p1.kind < p0.kind))), aN hl1, aN (t_Kt (decide (((List.length p0.list) : Int) < ((List.length p1.list) : Int))) (decide (((List.length p1.list) : Int) < ((List.length p0.list) : Int)))), aN hl3] (by kernel_rfl)
theorem Q1bw (p0 : Val) (p1 : Val) (_H : H_Ki p0) (_rec : Q3p p0) (h0 : ((s_Kt (decide (p0.kind < p1.kind)) (decide (p1.kind < p0.kind))) == 0) = false) (z1 : Nat → PV) (zo1 : Nat → List PV) (hl1 : Q7 G (Q4c p0 p1 0 (s_Kt (decide (p0.kind < p1.kind)) (decide (p1.kind < p0.kind)))) (.st (.exit 0) (Q37 p0 p1 (Qv p0 p1 p0.list 0 (s_Kt (decide (p0.kind < p1.kind)) (decide (p1.kind < p0.kind)))) z1 zo1))) (h1 : ((Qv p0 p1 p0.list 0 (s_Kt (decide (p0.kind < p1.kind)) (decide (p1.kind < p0.kind)))) == 0) = false) (z3 : Nat → PV) (zo3 : Nat → List PV) (hl3 : Q7 G (Q3o p0 p1 0 (Qv p0 p1 p0.list 0 (s_Kt (decide (p0.kind < p1.kind)) (decide (p1.kind < p0.kind))))) (.st (.exit 2) (Q35 p0 p1 (Qy p0 p1 p0.fields 0 (Qv p0 p1 p0.list 0 (s_Kt (decide (p0.kind < p1.kind)) (decide (p1.kind < p0.kind))))) z3 zo3))) : Q7 G (c_Ki p0 p1) (.ret (.int .i64 (bif ((Qy p0 p1 p0.fields 0 (Qv p0 p1 p0.list 0 (s_Kt (decide (p0.kind < p1.kind)) (decide (p1.kind < p0.kind))))) == 0) then
   (s_Kt (decide (((List.length p0.fields) : Int) < ((List.length p1.fields) : Int))) (decide (((List.length p1.fields) : Int) < ((List.length p0.fields) : Int))))
 else
   (Qy p0 p1 p0.fields 0 (Qv p0 p1 p0.list 0 (s_Kt (decide (p0.kind < p1.kind)) (decide (p1.kind < p0.kind))))))) []) := by
 cases h2 : ((Qy p0 p1 p0.fields 0 (Qv p0 p1 p0.list 0 (s_Kt (decide (p0.kind < p1.kind)) (decide (p1.kind < p0.kind))))) == 0) with
 | true =>
  exact Q9 (fn := Ir.Ki) rfl VOK.nil [hB 16 h0, hB 1 h0, hB 2 h1, hB 2 h2, hP 2 (Qe (Fld.rows p0.fields) (List.length p0.fields) (Fld.Q8 p0.fields)), hP 2 (Qe (Fld.rows p1.fields) (List.length p1.fields) (Fld.Q8 p1.fields)), hP 3 (Qe (Fld.rows p0.fields) (List.length p0.fields) (Fld.Q8 p0.fields)), hP 2 (Qe (Fld.rows p1.fields) (List.length p1.fields) (Fld.Q8 p1.fields))] [aN (t_Kt (decide (p0.kind < p1.kind)) (decide (p1.kind < p0.kind))), aN hl1, aN hl3, aN (t_Kt (decide (((List.length p0.fields) : Int) < ((List.length p1.fields) : Int))) (decide (((List.length p1.fields) : Int) < ((List.length p0.fields) : Int))))] (by kernel_rfl)
 | false =>
  exact Q9 (fn := Ir.Ki) rfl VOK.nil [hB 16 h0, hB 1 h0, hB 2 h1, hB 2 h2] [aN (t_Kt (decide (p0.kind < p1.kind)) (decide (p1.kind < p0.kind))), aN hl1, aN hl3] (by kernel_rfl)
theorem r_Ki (p0 : Val) (p1 : Val) (H : H_Ki p0) (rec : Q3p p0) : Q7 G (c_Ki p0 p1) (a_Ki p0 p1) := by
  unfold a_Ki
  rw [s_Ki]
  cases h0 : ((s_Kt (decide (p0.kind < p1.kind)) (decide (p1.kind < p0.kind))) == 0) with
  | true =>
   cases h1 : ((s_Kt (decide (p0.n < p1.n)) (decide (p1.n < p0.n))) == 0) with
   | true =>
    have hl2 := Qcf p0 p1 ((Q6g p0 p1 H).1) rec p0.list 0 (s_Kt (sLt p0.s p1.s) (!((sLt p0.s p1.s) || (sEq p0.s p1.s)))) (by simp)
    obtain ⟨z2, zo2, hl2⟩ := hl2
    cases h2 : ((Qv p0 p1 p0.list 0 (s_Kt (sLt p0.s p1.s) (!((sLt p0.s p1.s) || (sEq p0.s p1.s))))) == 0) with
    | true =>
     have hl4 := Q54 p0 p1 ((Q6g p0 p1 H).2.1) rec p0.fields 0 (s_Kt (decide (((List.length p0.list) : Int) < ((List.length p1.list) : Int))) (decide (((List.length p1.list) : Int) < ((List.length p0.list) : Int)))) (by simp)
     obtain ⟨z4, zo4, hl4⟩ := hl4
     exact Q19d p0 p1 H rec h0 h1 z2 zo2 hl2 h2 z4 zo4 hl4
    | false =>
     have hl4 := Q54 p0 p1 ((Q6g p0 p1 H).2.1) rec p0.fields 0 (Qv p0 p1 p0.list 0 (s_Kt (sLt p0.s p1.s) (!((sLt p0.s p1.s) || (sEq p0.s p1.s))))) (by simp)
     obtain ⟨z4, zo4, hl4⟩ := hl4
     exact Q1an p0 p1 H rec h0 h1 z2 zo2 hl2 h2 z4 zo4 hl4
   | false =>
    have hl2 := Qcf p0 p1 ((Q6g p0 p1 H).1) rec p0.list 0 (s_Kt (decide (p0.n < p1.n)) (decide (p1.n < p0.n))) (by simp)
    obtain ⟨z2, zo2, hl2⟩ := hl2
    cases h2 : ((Qv p0 p1 p0.list 0 (s_Kt (decide (p0.n < p1.n)) (decide (p1.n < p0.n)))) == 0) with
    | true =>
     have hl4 := Q54 p0 p1 ((Q6g p0 p1 H).2.1) rec p0.fields 0 (s_Kt (decide (((List.length p0.list) : Int) < ((List.length p1.list) : Int))) (decide (((List.length p1.list) : Int) < ((List.length p0.list) : Int)))) (by simp)
     obtain ⟨z4, zo4, hl4⟩ := hl4
     exact Q1ab p0 p1 H rec h0 h1 z2 zo2 hl2 h2 z4 zo4 hl4
    | false =>
     have hl4 := Q54 p0 p1 ((Q6g p0 p1 H).2.1) rec p0.fields 0 (Qv p0 p1 p0.list 0 (s_Kt (decide (p0.n < p1.n)) (decide (p1.n < p0.n)))) (by simp)
     obtain ⟨z4, zo4, hl4⟩ := hl4
     exact Q1ai p0 p1 H rec h0 h1 z2 zo2 hl2 h2 z4 zo4 hl4
  | false =>
   have hl1 := Qcf p0 p1 ((Q6g p0 p1 H).1) rec p0.list 0 (s_Kt (decide (p0.kind < p1.kind)) (decide (p1.kind < p0.kind))) (by simp)
   obtain ⟨z1, zo1, hl1⟩ := hl1
   cases h1 : ((Qv p0 p1 p0.list 0 (s_Kt (decide (p0.kind < p1.kind)) (decide (p1.kind < p0.kind)))) == 0) with
   | true =>
    have hl3 := Q54 p0 p1 ((Q6g p0 p1 H).2.1) rec p0.fields 0 (s_Kt (decide (((List.length p0.list) : Int) < ((List.length p1.list) : Int))) (decide (((List.length p1.list) : Int) < ((List.length p0.list) : Int)))) (by simp)
    obtain ⟨z3, zo3, hl3⟩ := hl3
    exact Q19s p0 p1 H rec h0 z1 zo1 hl1 h1 z3 zo3 hl3
   | false =>
    have hl3 := Q54 p0 p1 ((Q6g p0 p1 H).2.1) rec p0.fields 0 (Qv p0 p1 p0.list 0 (s_Kt (decide (p0.kind < p1.kind)) (decide (p1.kind < p0.kind)))) (by simp)
    obtain ⟨z3, zo3, hl3⟩ := hl3
    exact Q1bw p0 p1 H rec h0 z1 zo1 hl1 h1 z3 zo3 hl3
theorem i_Ki : ∀ (k : Nat) (p0 : Val), SizeOf.sizeOf p0 < k → ∀ (p1 : Val), H_Ki p0 → Q7 G (c_Ki p0 p1) (a_Ki p0 p1)
  | 0, _, h, _, _ => absurd h (Nat.not_lt_zero _)
  | k + 1, p0, h, p1, H => r_Ki p0 p1 H (fun q hq p1 hH => i_Ki k q (by omega) p1 hH)
theorem t_Ki (p0 : Val) (p1 : Val) (H : H_Ki p0) : Q7 G (c_Ki p0 p1) (a_Ki p0 p1) := i_Ki _ p0 (Nat.lt_succ_self _) p1 H
def s_Kk (p0 : Val) (p1 : Val) : Bool :=
 ((s_Ki p0 p1) == 0)
def c_Kk (p0 : Val) (p1 : Val) : En := .call 35 [.agg (Val.cells p0), .agg (Val.cells p1)] []
def a_Kk (p0 : Val) (p1 : Val) : Rs := .ret (.bool (s_Kk p0 p1)) []
def H_Kk (p0 : Val) (_p1 : Val) : Prop := (H_Ki p0) ∧ True
theorem t_Kk (p0 : Val) (p1 : Val) (H : H_Kk p0 p1) : Q7 G (c_Kk p0 p1) (a_Kk p0 p1) := by
 unfold a_Kk s_Kk
 exact Q9 (fn := Ir.Kk) rfl VOK.nil [] [aN (t_Ki p0 p1 H.1)] (by kernel_rfl)
inductive Q14s where
  | k0
  | k1
inductive Q13v where
  | k0
  | k1
mutual
def s_Ky (p0 : Val) (p1 : Val) : Bool :=
 bif (p0.kind == p1.kind) then
  bif (p0.n == p1.n) then
   bif (sEq p0.s p1.s) then
    bif (((List.length p0.list) : Int) == ((List.length p1.list) : Int)) then
     bif (((List.length p0.fields) : Int) == ((List.length p1.fields) : Int)) then
      (match (Q5j p0 p1 p0.list 0) with
      | .k0 => (match (Q5f p0 p1 p0.fields 0) with
       | .k0 => true
       | .k1 => false)
      | .k1 => false)
     else
      false
    else
     false
   else
    false
  else
   false
 else
  false
termination_by SizeOf.sizeOf p0
decreasing_by all_goals first | exact Val.Q4f _ | exact Val.Q2e _
def Q5j (p0 : Val) (p1 : Val) : List Val → Nat → Q14s
 | [], _i0 =>
  (.k0)
 | x0 :: r0, i0 =>
  bif (s_Ky x0 (List.getD p1.list i0 (Val.mk 0 0 eB [] []))) then
   Q5j p0 p1 r0 (i0 + 1)
  else
   (.k1)
termination_by l => SizeOf.sizeOf l
decreasing_by all_goals first | exact Q2j _ _ | exact Q2d _ _ | exact Q1z _ _
def Q5f (p0 : Val) (p1 : Val) : List Fld → Nat → Q13v
 | [], _i1 =>
  (.k0)
 | x1 :: r1, i1 =>
  bif (sEq x1.name (List.getD p1.fields i1 zF).name) then
   bif (s_Ky x1.v (List.getD p1.fields i1 zF).v) then
    Q5f p0 p1 r1 (i1 + 1)
   else
    (.k1)
  else
   (.k1)
termination_by l => SizeOf.sizeOf l
decreasing_by all_goals first | exact Q2j _ _ | exact Q2d _ _ | exact Q1z _ _
end
def Qva (_p0 : Val) (_p1 : Val) (i0 : Nat) : List PV :=
  [.un, .un, .bx 0 0, .bx 1 0, .un, .int .i64 (i0 : Int), .un, .un, .un, .un, .un, .un, .un, .un, .un, .un, .un, .un, .un, .un, .un, .un, .un, .un, .un, .un, .un, .un, .un, .un, .un, .un, .un, .un, .un, .un, .un, .un, .un, .un, .un, .un, .un, .un, .un, .un, .un, .un, .un, .un, .un, .un, .un, .un, .un, .un, .un, .un, .un, .un, .un, .un, .un, .un, .un, .un, .un, .un, .un, .un, .un, .un, .un, .un, .un, .un, .un, .un, .un, .un, .un, .un, .un, .un, .un, .un, .un, .un, .un, .un, .un, .un, .un, .un, .un, .un, .un, .un, .un]
def Quz (p0 : Val) (p1 : Val) (_i0 : Nat) : List Ob :=
  [⟨5, 0, true, [.int .i64 p0.kind, .int .i64 p0.n, .str p0.s, .sl (Val.rows p0.list), .sl (Fld.rows p0.fields)]⟩, ⟨5, 0, true, [.int .i64 p1.kind, .int .i64 p1.n, .str p1.s, .sl (Val.rows p1.list), .sl (Fld.rows p1.fields)]⟩]
def Q70 (p0 : Val) (p1 : Val) (i0 : Nat) : En := .loop 0 Ir.Qlu Ir.Q19f (Qva p0 p1 i0) (Quz p0 p1 i0)
def Q9o (p0 : Val) (p1 : Val) (z : Nat → PV) (_zo : Nat → List PV) : St :=
  ⟨[z 0, z 1, .bx 0 0, .bx 1 0, z 4, z 5, z 6, z 7, z 8, z 9, z 10, z 11, z 12, z 13, z 14, z 15, z 16, z 17, z 18, z 19, z 20, z 21, z 22, z 23, z 24, z 25, z 26, z 27, z 28, z 29, z 30, z 31, z 32, z 33, z 34, z 35, z 36, z 37, z 38, z 39, z 40, z 41, z 42, z 43, z 44, z 45, z 46, z 47, z 48, z 49, z 50, z 51, z 52, z 53, z 54, z 55, z 56, z 57, z 58, z 59, z 60, z 61, z 62, z 63, z 64, z 65, z 66, z 67, z 68, z 69, z 70, z 71, z 72, z 73, z 74, z 75, z 76, z 77, z 78, z 79, z 80, z 81, z 82, z 83, z 84, z 85, z 86, z 87, z 88, z 89, z 90, z 91, z 92, z 93, z 94, z 95, z 96, z 97, z 98], [(0, ⟨5, 0, true, [.int .i64 p0.kind, .int .i64 p0.n, .str p0.s, .sl (Val.rows p0.list), .sl (Fld.rows p0.fields)]⟩), (1, ⟨5, 0, true, [.int .i64 p1.kind, .int .i64 p1.n, .str p1.s, .sl (Val.rows p1.list), .sl (Fld.rows p1.fields)]⟩)], 322⟩
def Qg9 (_p0 : Val) (_p1 : Val) (z : Nat → PV) (zo : Nat → List PV) : St :=
  ⟨[z 0, z 1, z 2, z 3, .bool false, z 5, z 6, z 7, z 8, z 9, z 10, z 11, z 12, z 13, z 14, z 15, z 16, z 17, z 18, z 19, z 20, z 21, z 22, z 23, z 24, z 25, z 26, z 27, z 28, z 29, z 30, z 31, z 32, z 33, z 34, z 35, z 36, z 37, z 38, z 39, z 40, z 41, z 42, z 43, z 44, z 45, z 46, z 47, z 48, z 49, z 50, z 51, z 52, z 53, z 54, z 55, z 56, z 57, z 58, z 59, z 60, z 61, z 62, z 63, z 64, z 65, z 66, z 67, z 68, z 69, z 70, z 71, z 72, z 73, z 74, z 75, z 76, z 77, z 78, z 79, z 80, z 81, z 82, z 83, z 84, z 85, z 86, z 87, z 88, z 89, z 90, z 91, z 92, z 93, z 94, z 95, z 96, z 97, z 98], [(0, ⟨5, 0, true, zo 0⟩), (1, ⟨5, 0, true, zo 1⟩)], 1154⟩
def Qgi (p0 : Val) (p1 : Val) (e : En) : Q14s → Prop
  | .k0 => ∃ z zo, Q7 G e (.st (.exit 0) (Q9o p0 p1 z zo))
  | .k1 => ∃ z zo, Q7 G e (.st .ret (Qg9 p0 p1 z zo))
theorem Qqc (p0 : Val) (p1 : Val) {e e' : En} (h : ∀ r, Q7 G e r → Q7 G e' r) : ∀ q, Qgi p0 p1 e q → Qgi p0 p1 e' q
  | .k0, ⟨z, zo, hz⟩ => ⟨z, zo, h _ hz⟩
  | .k1, ⟨z, zo, hz⟩ => ⟨z, zo, h _ hz⟩
def Qvo (_p0 : Val) (_p1 : Val) (i1 : Nat) : List PV :=
  [.un, .un, .bx 0 0, .bx 1 0, .un, .un, .int .i64 (i1 : Int), .un, .un, .un, .un, .un, .un, .un, .un, .un, .un, .un, .un, .un, .un, .un, .un, .un, .un, .un, .un, .un, .un, .un, .un, .un, .un, .un, .un, .un, .un, .un, .un, .un, .un, .un, .un, .un, .un, .un, .un, .un, .un, .un, .un, .un, .un, .un, .un, .un, .un, .un, .un, .un, .un, .un, .un, .un, .un, .un, .un, .un, .un, .un, .un, .un, .un, .un, .un, .un, .un, .un, .un, .un, .un, .un, .un, .un, .un, .un, .un, .un, .un, .un, .un, .un, .un, .un, .un, .un, .un, .un, .un]
def Qw3 (p0 : Val) (p1 : Val) (_i1 : Nat) : List Ob :=
  [⟨5, 0, true, [.int .i64 p0.kind, .int .i64 p0.n, .str p0.s, .sl (Val.rows p0.list), .sl (Fld.rows p0.fields)]⟩, ⟨5, 0, true, [.int .i64 p1.kind, .int .i64 p1.n, .str p1.s, .sl (Val.rows p1.list), .sl (Fld.rows p1.fields)]⟩]
def Q6r (p0 : Val) (p1 : Val) (i1 : Nat) : En := .loop 0 Ir.Qjs Ir.Q19k (Qvo p0 p1 i1) (Qw3 p0 p1 i1)
def Qei (p0 : Val) (p1 : Val) (z : Nat → PV) (_zo : Nat → List PV) : St :=
  ⟨[z 0, z 1, z 2, z 3, z 4, z 5, z 6, z 7, z 8, z 9, z 10, z 11, z 12, z 13, z 14, z 15, z 16, z 17, z 18, z 19, z 20, z 21, z 22, z 23, z 24, z 25, z 26, z 27, z 28, z 29, z 30, z 31, z 32, z 33, z 34, z 35, z 36, z 37, z 38, z 39, z 40, z 41, z 42, z 43, z 44, z 45, z 46, z 47, z 48, z 49, z 50, z 51, z 52, z 53, z 54, z 55, z 56, z 57, z 58, z 59, z 60, z 61, z 62, z 63, z 64, z 65, z 66, z 67, z 68, z 69, z 70, z 71, z 72, z 73, z 74, z 75, z 76, z 77, z 78, z 79, z 80, z 81, z 82, z 83, z 84, z 85, z 86, z 87, z 88, z 89, z 90, z 91, z 92, z 93, z 94, z 95, z 96, z 97, z 98], [(0, ⟨5, 0, true, [.int .i64 p0.kind, .int .i64 p0.n, .str p0.s, .sl (Val.rows p0.list), .sl (Fld.rows p0.fields)]⟩), (1, ⟨5, 0, true, [.int .i64 p1.kind, .int .i64 p1.n, .str p1.s, .sl (Val.rows p1.list), .sl (Fld.rows p1.fields)]⟩)], 322⟩
def Q98 (_p0 : Val) (_p1 : Val) (z : Nat → PV) (zo : Nat → List PV) : St :=
  ⟨[z 0, z 1, z 2, z 3, .bool false, z 5, z 6, z 7, z 8, z 9, z 10, z 11, z 12, z 13, z 14, z 15, z 16, z 17, z 18, z 19, z 20, z 21, z 22, z 23, z 24, z 25, z 26, z 27, z 28, z 29, z 30, z 31, z 32, z 33, z 34, z 35, z 36, z 37, z 38, z 39, z 40, z 41, z 42, z 43, z 44, z 45, z 46, z 47, z 48, z 49, z 50, z 51, z 52, z 53, z 54, z 55, z 56, z 57, z 58, z 59, z 60, z 61, z 62, z 63, z 64, z 65, z 66, z 67, z 68, z 69, z 70, z 71, z 72, z 73, z 74, z 75, z 76, z 77, z 78, z 79, z 80, z 81, z 82, z 83, z 84, z 85, z 86, z 87, z 88, z 89, z 90, z 91, z 92, z 93, z 94, z 95, z 96, z 97, z 98], [(0, ⟨5, 0, true, zo 0⟩), (1, ⟨5, 0, true, zo 1⟩)], 2242⟩
def Qak (p0 : Val) (p1 : Val) (e : En) : Q13v → Prop
  | .k0 => ∃ z zo, Q7 G e (.st (.exit 2) (Qei p0 p1 z zo))
  | .k1 => ∃ z zo, Q7 G e (.st .ret (Q98 p0 p1 z zo))
theorem Qq9 (p0 : Val) (p1 : Val) {e e' : En} (h : ∀ r, Q7 G e r → Q7 G e' r) : ∀ q, Qak p0 p1 e q → Qak p0 p1 e' q
  | .k0, ⟨z, zo, hz⟩ => ⟨z, zo, h _ hz⟩
  | .k1, ⟨z, zo, hz⟩ => ⟨z, zo, h _ hz⟩
def c_Ky (p0 : Val) (p1 : Val) : En := .call 12 [.agg (Val.cells p0), .agg (Val.cells p1)] []
def a_Ky (p0 : Val) (p1 : Val) : Rs := .ret (.bool (s_Ky p0 p1)) []
abbrev H_Ky (p0 : Val) : Prop := Val.Sm 4611686018427387904 p0
def Q3q (p0 : Val) : Prop := ∀ (q : Val), SizeOf.sizeOf q < SizeOf.sizeOf p0 → ∀ (p1 : Val), H_Ky q → Q7 G (c_Ky q p1) (a_Ky q p1)
def Qh5 (p0 : Val) (p1 : Val) : Prop := (List.length p0.list ≤ 4611686018427387904) ∧ (∀ (i0 : Nat) (x0 : Val), p0.list[i0]? = some x0 → i0 < List.length p1.list) ∧ (∀ x0 ∈ p0.list, H_Ky x0) ∧ True
def Qaq (p0 : Val) (p1 : Val) : Prop := (List.length p0.fields ≤ 4611686018427387904) ∧ (∀ (i1 : Nat) (x1 : Fld), p0.fields[i1]? = some x1 → i1 < List.length p1.fields) ∧ (∀ x1 ∈ p0.fields, H_Ky x1.v) ∧ True
theorem Q13h (p0 : Val) (p1 : Val) (H : H_Ky p0) : ((((List.length p0.list) : Int) == ((List.length p1.list) : Int)) = true → (((List.length p0.fields) : Int) == ((List.length p1.fields) : Int)) = true → Qh5 p0 p1) ∧ ((((List.length p0.list) : Int) == ((List.length p1.list) : Int)) = true → (((List.length p0.fields) : Int) == ((List.length p1.fields) : Int)) = true → Qaq p0 p1) ∧ True := by
  obtain ⟨h1, h2, h3, h4⟩ := H.all
  exact ⟨fun a _ => ⟨h1, fun i x hx => by have := (List.getElem?_eq_some_iff.1 hx).1; have := eq_of_beq a; omega, h3, trivial⟩, fun _ b => ⟨h2, fun i x hx => by have := (List.getElem?_eq_some_iff.1 hx).1; have := eq_of_beq b; omega, h4, trivial⟩, trivial⟩
def Qsm (p0 : Val) (_p1 : Val) (i0 : Nat) : List PV :=
  [.un, .un, .un, .un, .un, .int .i64 (i0 : Int), .un, .un, .un, .un, .un, .un, .un, .un, .un, .un, .un, .un, .un, .un, .un, .un, .un, .un, .un, .un, .un, .un, .un, .un, .un, .un, .un, .un, .un, .un, .un, .un, .un, .un, .un, .un, .un, .un, .int .i64 (i0 : Int), .bx 0 3, .sl (Val.rows p0.list), .int .i64 ((List.length p0.list) : Int), .bool false]
def Qi3 (_p0 : Val) (_p1 : Val) (_i0 : Nat) : List (Nat × List PV) :=
  []
theorem Q11k (p0 : Val) (p1 : Val) (_H : Qh5 p0 p1) (_rec : Q3q p0) (i0 : Nat) (hc0 : (decide ((i0 : Int) < ((List.length p0.list) : Int))) = false) : Qgi p0 p1 (Q70 p0 p1 i0) (.k0) := by
 exact ⟨(envF (Qsm p0 p1 i0)), (zoF (Qi3 p0 p1 i0)), Qf VOK.nil (x := ((.exit 0), Q9o p0 p1 (envF (Qsm p0 p1 i0)) (zoF (Qi3 p0 p1 i0)))) [hP 3 (Qe (Val.rows p0.list) (List.length p0.list) (Val.Q8 p0.list)), hB 0 hc0] [] (by kernel_rfl)⟩
theorem Q131 (p0 : Val) (p1 : Val) (H : Qh5 p0 p1) (rec : Q3q p0) (x0 : Val) (i0 : Nat) (hx0 : p0.list[i0]? = some x0) (hi0 : i0 < List.length p0.list) (hc0 : (decide ((i0 : Int) < ((List.length p0.list) : Int))) = true) (h0 : (s_Ky x0 (List.getD p1.list i0 (Val.mk 0 0 eB [] []))) = true) {r : Rs} (hr : Q7 G (Q70 p0 p1 (i0 + 1)) r) : Q7 G (Q70 p0 p1 i0) r := by
 have hB0 := H.1
 exact Qa VOK.nil (y := (Qva p0 p1 (i0 + 1), Quz p0 p1 (i0 + 1))) [hP 3 (Qe (Val.rows p0.list) (List.length p0.list) (Val.Q8 p0.list)), hB 0 hc0, hP 3 (Q10 5 (Val.rows p0.list) i0 _ (Val.Qg hx0) rfl), hP 4 (Q10 5 (Val.rows p1.list) i0 _ (Val.Qg (Qu p1.list i0 (Val.mk 0 0 eB [] []) ((H.2.1 i0 x0 hx0)))) rfl), hP 4 (Qr i0 (by omega))] [aB (rec x0 (szL hx0) (List.getD p1.list i0 (Val.mk 0 0 eB [] [])) (H.2.2.1 x0 (Qt hx0))) h0] (by kernel_rfl) hr
def Qsv (p0 : Val) (p1 : Val) (i0 : Nat) (x0 : Val) : List PV :=
  [.un, .un, .bx 0 0, .bx 1 0, .un, .int .i64 (i0 : Int), .un, .un, .un, .un, .un, .un, .un, .un, .un, .un, .un, .un, .un, .un, .un, .un, .un, .un, .un, .un, .un, .un, .un, .un, .un, .un, .un, .un, .un, .un, .un, .un, .un, .un, .un, .un, .un, .un, .int .i64 (i0 : Int), .bx 0 3, .sl (Val.rows p0.list), .int .i64 ((List.length p0.list) : Int), .bool true, .un, .un, .bx 0 3, .sl (Val.rows p0.list), .int .i64 (i0 : Int), .rf [.int .i64 x0.kind, .int .i64 x0.n, .str x0.s, .sl (Val.rows x0.list), .sl (Fld.rows x0.fields)], .agg [.int .i64 x0.kind, .int .i64 x0.n, .str x0.s, .sl (Val.rows x0.list), .sl (Fld.rows x0.fields)], .bx 1 3, .sl (Val.rows p1.list), .int .i64 (i0 : Int), .rf [.int .i64 (List.getD p1.list i0 (Val.mk 0 0 eB [] [])).kind, .int .i64 (List.getD p1.list i0 (Val.mk 0 0 eB [] [])).n, .str (List.getD p1.list i0 (Val.mk 0 0 eB [] [])).s, .sl (Val.rows (List.getD p1.list i0 (Val.mk 0 0 eB [] [])).list), .sl (Fld.rows (List.getD p1.list i0 (Val.mk 0 0 eB [] [])).fields)], .agg [.int .i64 (List.getD p1.list i0 (Val.mk 0 0 eB [] [])).kind, .int .i64 (List.getD p1.list i0 (Val.mk 0 0 eB [] [])).n, .str (List.getD p1.list i0 (Val.mk 0 0 eB [] [])).s, .sl (Val.rows (List.getD p1.list i0 (Val.mk 0 0 eB [] [])).list), .sl (Fld.rows (List.getD p1.list i0 (Val.mk 0 0 eB [] [])).fields)], .bool false, .bool true]
def Qj9 (p0 : Val) (p1 : Val) (_i0 : Nat) (_x0 : Val) : List (Nat × List PV) :=
  [(0, [.int .i64 p0.kind, .int .i64 p0.n, .str p0.s, .sl (Val.rows p0.list), .sl (Fld.rows p0.fields)]), (1, [.int .i64 p1.kind, .int .i64 p1.n, .str p1.s, .sl (Val.rows p1.list), .sl (Fld.rows p1.fields)])]
theorem Q14o (p0 : Val) (p1 : Val) (H : Qh5 p0 p1) (rec : Q3q p0) (x0 : Val) (i0 : Nat) (hx0 : p0.list[i0]? = some x0) (_hi0 : i0 < List.length p0.list) (hc0 : (decide ((i0 : Int) < ((List.length p0.list) : Int))) = true) (h0 : (s_Ky x0 (List.getD p1.list i0 (Val.mk 0 0 eB [] []))) = false) : Qgi p0 p1 (Q70 p0 p1 i0) (.k1) := by
 exact ⟨(envF (Qsv p0 p1 i0 x0)), (zoF (Qj9 p0 p1 i0 x0)), Qf VOK.nil (x := (.ret, Qg9 p0 p1 (envF (Qsv p0 p1 i0 x0)) (zoF (Qj9 p0 p1 i0 x0)))) [hP 3 (Qe (Val.rows p0.list) (List.length p0.list) (Val.Q8 p0.list)), hB 0 hc0, hP 3 (Q10 5 (Val.rows p0.list) i0 _ (Val.Qg hx0) rfl), hP 4 (Q10 5 (Val.rows p1.list) i0 _ (Val.Qg (Qu p1.list i0 (Val.mk 0 0 eB [] []) ((H.2.1 i0 x0 hx0)))) rfl)] [aB (rec x0 (szL hx0) (List.getD p1.list i0 (Val.mk 0 0 eB [] [])) (H.2.2.1 x0 (Qt hx0))) h0] (by kernel_rfl)⟩
theorem Qvq (p0 : Val) (p1 : Val) (H : Qh5 p0 p1) (rec : Q3q p0) : ∀ (r0 : List Val) (i0 : Nat), List.drop i0 p0.list = r0 → Qgi p0 p1 (Q70 p0 p1 i0) (Q5j p0 p1 r0 i0)
 | [], i0, hd => by
  have hc0 : (decide ((i0 : Int) < ((List.length p0.list) : Int))) = false := by have := Q1d hd; simp; omega
  rw [Q5j]
  exact Q11k p0 p1 H rec i0 hc0
 | x0 :: r0, i0, hd => by
  obtain ⟨hx0, hi0, hd'⟩ := Qz hd
  have hc0 : (decide ((i0 : Int) < ((List.length p0.list) : Int))) = true := by simp; omega
  rw [Q5j]
  cases h0 : (s_Ky x0 (List.getD p1.list i0 (Val.mk 0 0 eB [] []))) with
  | true =>
   exact Qqc p0 p1 (fun r hr => Q131 p0 p1 H rec x0 i0 hx0 hi0 hc0 h0 hr) _ (Qvq p0 p1 H rec r0 (i0 + 1) hd')
  | false =>
   exact Q14o p0 p1 H rec x0 i0 hx0 hi0 hc0 h0
def Qp8 (p0 : Val) (_p1 : Val) (i1 : Nat) : List PV :=
  [.un, .un, .bx 0 0, .bx 1 0, .un, .un, .int .i64 (i1 : Int), .un, .un, .un, .un, .un, .un, .un, .un, .un, .un, .un, .un, .un, .un, .un, .un, .un, .un, .un, .un, .un, .un, .un, .un, .un, .un, .un, .un, .un, .un, .un, .un, .un, .un, .un, .un, .un, .un, .un, .un, .un, .un, .un, .un, .un, .un, .un, .un, .un, .un, .un, .un, .un, .un, .un, .un, .int .i64 (i1 : Int), .bx 0 4, .sl (Fld.rows p0.fields), .int .i64 ((List.length p0.fields) : Int), .bool false]
def Qk6 (_p0 : Val) (_p1 : Val) (_i1 : Nat) : List (Nat × List PV) :=
  []
theorem Q14r (p0 : Val) (p1 : Val) (_H : Qaq p0 p1) (_rec : Q3q p0) (i1 : Nat) (hc1 : (decide ((i1 : Int) < ((List.length p0.fields) : Int))) = false) : Qak p0 p1 (Q6r p0 p1 i1) (.k0) := by
 exact ⟨(envF (Qp8 p0 p1 i1)), (zoF (Qk6 p0 p1 i1)), Qf VOK.nil (x := ((.exit 2), Qei p0 p1 (envF (Qp8 p0 p1 i1)) (zoF (Qk6 p0 p1 i1)))) [hP 3 (Qe (Fld.rows p0.fields) (List.length p0.fields) (Fld.Q8 p0.fields)), hB 0 hc1] [] (by kernel_rfl)⟩
theorem Q111 (p0 : Val) (p1 : Val) (H : Qaq p0 p1) (rec : Q3q p0) (x1 : Fld) (i1 : Nat) (hx1 : p0.fields[i1]? = some x1) (hi1 : i1 < List.length p0.fields) (hc1 : (decide ((i1 : Int) < ((List.length p0.fields) : Int))) = true) (h0 : (sEq x1.name (List.getD p1.fields i1 zF).name) = true) (h1 : (s_Ky x1.v (List.getD p1.fields i1 zF).v) = true) {r : Rs} (hr : Q7 G (Q6r p0 p1 (i1 + 1)) r) : Q7 G (Q6r p0 p1 i1) r := by
 have hB0 := H.1
 exact Qa VOK.nil (y := (Qvo p0 p1 (i1 + 1), Qw3 p0 p1 (i1 + 1))) [hP 3 (Qe (Fld.rows p0.fields) (List.length p0.fields) (Fld.Q8 p0.fields)), hB 0 hc1, hP 3 (Q10 6 (Fld.rows p0.fields) i1 _ (Fld.Qg hx1) rfl), hP 5 (Q10 6 (Fld.rows p1.fields) i1 _ (Fld.Qg (Qu p1.fields i1 zF ((H.2.1 i1 x1 hx1)))) rfl), hP 2 (dec (!(sEq x1.name (List.getD p1.fields i1 zF).name)) false (by rw [h0]; rfl)), hP 4 (Q10 6 (Fld.rows p0.fields) i1 _ (Fld.Qg hx1) rfl), hP 5 (Q10 6 (Fld.rows p1.fields) i1 _ (Fld.Qg (Qu p1.fields i1 zF ((H.2.1 i1 x1 hx1)))) rfl), hP 6 (Qr i1 (by omega))] [aB (rec x1.v (szF hx1) (List.getD p1.fields i1 zF).v (H.2.2.1 x1 (Qt hx1))) h1] (by kernel_rfl) hr
def Qsu (p0 : Val) (p1 : Val) (i1 : Nat) (x1 : Fld) : List PV :=
  [.un, .un, .bx 0 0, .bx 1 0, .un, .un, .int .i64 (i1 : Int), .un, .un, .un, .un, .un, .un, .un, .un, .un, .un, .un, .un, .un, .un, .un, .un, .un, .un, .un, .un, .un, .un, .un, .un, .un, .un, .un, .un, .un, .un, .un, .un, .un, .un, .un, .un, .un, .un, .un, .un, .un, .un, .un, .un, .un, .un, .un, .un, .un, .un, .un, .un, .un, .un, .un, .un, .int .i64 (i1 : Int), .bx 0 4, .sl (Fld.rows p0.fields), .int .i64 ((List.length p0.fields) : Int), .bool true, .un, .un, .bx 0 4, .sl (Fld.rows p0.fields), .int .i64 (i1 : Int), .rf [.str x1.name, .int .i64 x1.v.kind, .int .i64 x1.v.n, .str x1.v.s, .sl (Val.rows x1.v.list), .sl (Fld.rows x1.v.fields)], .rf [.str x1.name, .int .i64 x1.v.kind, .int .i64 x1.v.n, .str x1.v.s, .sl (Val.rows x1.v.list), .sl (Fld.rows x1.v.fields)], .str x1.name, .bx 1 4, .sl (Fld.rows p1.fields), .int .i64 (i1 : Int), .rf [.str (List.getD p1.fields i1 zF).name, .int .i64 (List.getD p1.fields i1 zF).v.kind, .int .i64 (List.getD p1.fields i1 zF).v.n, .str (List.getD p1.fields i1 zF).v.s, .sl (Val.rows (List.getD p1.fields i1 zF).v.list), .sl (Fld.rows (List.getD p1.fields i1 zF).v.fields)], .rf [.str (List.getD p1.fields i1 zF).name, .int .i64 (List.getD p1.fields i1 zF).v.kind, .int .i64 (List.getD p1.fields i1 zF).v.n, .str (List.getD p1.fields i1 zF).v.s, .sl (Val.rows (List.getD p1.fields i1 zF).v.list), .sl (Fld.rows (List.getD p1.fields i1 zF).v.fields)], .str (List.getD p1.fields i1 zF).name, .bool false, .bool false, .bx 0 4, .sl (Fld.rows p0.fields), .int .i64 (i1 : Int), .rf [.str x1.name, .int .i64 x1.v.kind, .int .i64 x1.v.n, .str x1.v.s, .sl (Val.rows x1.v.list), .sl (Fld.rows x1.v.fields)], .rf [.int .i64 x1.v.kind, .int .i64 x1.v.n, .str x1.v.s, .sl (Val.rows x1.v.list), .sl (Fld.rows x1.v.fields)], .agg [.int .i64 x1.v.kind, .int .i64 x1.v.n, .str x1.v.s, .sl (Val.rows x1.v.list), .sl (Fld.rows x1.v.fields)], .bx 1 4, .sl (Fld.rows p1.fields), .int .i64 (i1 : Int), .rf [.str (List.getD p1.fields i1 zF).name, .int .i64 (List.getD p1.fields i1 zF).v.kind, .int .i64 (List.getD p1.fields i1 zF).v.n, .str (List.getD p1.fields i1 zF).v.s, .sl (Val.rows (List.getD p1.fields i1 zF).v.list), .sl (Fld.rows (List.getD p1.fields i1 zF).v.fields)], .rf [.int .i64 (List.getD p1.fields i1 zF).v.kind, .int .i64 (List.getD p1.fields i1 zF).v.n, .str (List.getD p1.fields i1 zF).v.s, .sl (Val.rows (List.getD p1.fields i1 zF).v.list), .sl (Fld.rows (List.getD p1.fields i1 zF).v.fields)], .agg [.int .i64 (List.getD p1.fields i1 zF).v.kind, .int .i64 (List.getD p1.fields i1 zF).v.n, .str (List.getD p1.fields i1 zF).v.s, .sl (Val.rows (List.getD p1.fields i1 zF).v.list), .sl (Fld.rows (List.getD p1.fields i1 zF).v.fields)], .bool false, .bool true, .bool true]
def Qj6 (p0 : Val) (p1 : Val) (_i1 : Nat) (_x1 : Fld) : List (Nat × List PV) :=
  [(0, [.int .i64 p0.kind, .int .i64 p0.n, .str p0.s, .sl (Val.rows p0.list), .sl (Fld.rows p0.fields)]), (1, [.int .i64 p1.kind, .int .i64 p1.n, .str p1.s, .sl (Val.rows p1.list), .sl (Fld.rows p1.fields)])]
theorem Q11j (p0 : Val) (p1 : Val) (H : Qaq p0 p1) (rec : Q3q p0) (x1 : Fld) (i1 : Nat) (hx1 : p0.fields[i1]? = some x1) (_hi1 : i1 < List.length p0.fields) (hc1 : (decide ((i1 : Int) < ((List.length p0.fields) : Int))) = true) (h0 : (sEq x1.name (List.getD p1.fields i1 zF).name) = true) (h1 : (s_Ky x1.v (List.getD p1.fields i1 zF).v) = false) : Qak p0 p1 (Q6r p0 p1 i1) (.k1) := by
 exact ⟨(envF (Qsu p0 p1 i1 x1)), (zoF (Qj6 p0 p1 i1 x1)), Qf VOK.nil (x := (.ret, Q98 p0 p1 (envF (Qsu p0 p1 i1 x1)) (zoF (Qj6 p0 p1 i1 x1)))) [hP 3 (Qe (Fld.rows p0.fields) (List.length p0.fields) (Fld.Q8 p0.fields)), hB 0 hc1, hP 3 (Q10 6 (Fld.rows p0.fields) i1 _ (Fld.Qg hx1) rfl), hP 5 (Q10 6 (Fld.rows p1.fields) i1 _ (Fld.Qg (Qu p1.fields i1 zF ((H.2.1 i1 x1 hx1)))) rfl), hP 2 (dec (!(sEq x1.name (List.getD p1.fields i1 zF).name)) false (by rw [h0]; rfl)), hP 4 (Q10 6 (Fld.rows p0.fields) i1 _ (Fld.Qg hx1) rfl), hP 5 (Q10 6 (Fld.rows p1.fields) i1 _ (Fld.Qg (Qu p1.fields i1 zF ((H.2.1 i1 x1 hx1)))) rfl)] [aB (rec x1.v (szF hx1) (List.getD p1.fields i1 zF).v (H.2.2.1 x1 (Qt hx1))) h1] (by kernel_rfl)⟩
def Qrd (p0 : Val) (p1 : Val) (i1 : Nat) (x1 : Fld) : List PV :=
  [.un, .un, .bx 0 0, .bx 1 0, .un, .un, .int .i64 (i1 : Int), .un, .un, .un, .un, .un, .un, .un, .un, .un, .un, .un, .un, .un, .un, .un, .un, .un, .un, .un, .un, .un, .un, .un, .un, .un, .un, .un, .un, .un, .un, .un, .un, .un, .un, .un, .un, .un, .un, .un, .un, .un, .un, .un, .un, .un, .un, .un, .un, .un, .un, .un, .un, .un, .un, .un, .un, .int .i64 (i1 : Int), .bx 0 4, .sl (Fld.rows p0.fields), .int .i64 ((List.length p0.fields) : Int), .bool true, .un, .un, .bx 0 4, .sl (Fld.rows p0.fields), .int .i64 (i1 : Int), .rf [.str x1.name, .int .i64 x1.v.kind, .int .i64 x1.v.n, .str x1.v.s, .sl (Val.rows x1.v.list), .sl (Fld.rows x1.v.fields)], .rf [.str x1.name, .int .i64 x1.v.kind, .int .i64 x1.v.n, .str x1.v.s, .sl (Val.rows x1.v.list), .sl (Fld.rows x1.v.fields)], .str x1.name, .bx 1 4, .sl (Fld.rows p1.fields), .int .i64 (i1 : Int), .rf [.str (List.getD p1.fields i1 zF).name, .int .i64 (List.getD p1.fields i1 zF).v.kind, .int .i64 (List.getD p1.fields i1 zF).v.n, .str (List.getD p1.fields i1 zF).v.s, .sl (Val.rows (List.getD p1.fields i1 zF).v.list), .sl (Fld.rows (List.getD p1.fields i1 zF).v.fields)], .rf [.str (List.getD p1.fields i1 zF).name, .int .i64 (List.getD p1.fields i1 zF).v.kind, .int .i64 (List.getD p1.fields i1 zF).v.n, .str (List.getD p1.fields i1 zF).v.s, .sl (Val.rows (List.getD p1.fields i1 zF).v.list), .sl (Fld.rows (List.getD p1.fields i1 zF).v.fields)], .str (List.getD p1.fields i1 zF).name, .bool true, .bool true, .tup [], .tup [], .tup [], .tup [], .tup [], .tup [], .tup [], .tup [], .tup [], .tup [], .tup [], .tup [], .tup [], .tup [], .bool true]
def Qip (p0 : Val) (p1 : Val) (_i1 : Nat) (_x1 : Fld) : List (Nat × List PV) :=
  [(0, [.int .i64 p0.kind, .int .i64 p0.n, .str p0.s, .sl (Val.rows p0.list), .sl (Fld.rows p0.fields)]), (1, [.int .i64 p1.kind, .int .i64 p1.n, .str p1.s, .sl (Val.rows p1.list), .sl (Fld.rows p1.fields)])]
theorem Q14i (p0 : Val) (p1 : Val) (H : Qaq p0 p1) (_rec : Q3q p0) (x1 : Fld) (i1 : Nat) (hx1 : p0.fields[i1]? = some x1) (_hi1 : i1 < List.length p0.fields) (hc1 : (decide ((i1 : Int) < ((List.length p0.fields) : Int))) = true) (h0 : (sEq x1.name (List.getD p1.fields i1 zF).name) = false) : Qak p0 p1 (Q6r p0 p1 i1) (.k1) := by
 exact ⟨(envF (Qrd p0 p1 i1 x1)), (zoF (Qip p0 p1 i1 x1)), Qf VOK.nil (x := (.ret, Q98 p0 p1 (envF (Qrd p0 p1 i1 x1)) (zoF (Qip p0 p1 i1 x1)))) [hP 3 (Qe (Fld.rows p0.fields) (List.length p0.fields) (Fld.Q8 p0.fields)), hB 0 hc1, hP 3 (Q10 6 (Fld.rows p0.fields) i1 _ (Fld.Qg hx1) rfl), hP 5 (Q10 6 (Fld.rows p1.fields) i1 _ (Fld.Qg (Qu p1.fields i1 zF ((H.2.1 i1 x1 hx1)))) rfl), hP 2 (dec (!(sEq x1.name (List.getD p1.fields i1 zF).name)) true (by rw [h0]; rfl))] [] (by kernel_rfl)⟩
theorem Qvj (p0 : Val) (p1 : Val) (H : Qaq p0 p1) (rec : Q3q p0) : ∀ (r1 : List Fld) (i1 : Nat), List.drop i1 p0.fields = r1 → Qak p0 p1 (Q6r p0 p1 i1) (Q5f p0 p1 r1 i1)
 | [], i1, hd => by
  have hc1 : (decide ((i1 : Int) < ((List.length p0.fields) : Int))) = false := by have := Q1d hd; simp; omega
  rw [Q5f]
  exact Q14r p0 p1 H rec i1 hc1
 | x1 :: r1, i1, hd => by
  obtain ⟨hx1, hi1, hd'⟩ := Qz hd
  have hc1 : (decide ((i1 : Int) < ((List.length p0.fields) : Int))) = true := by simp; omega
  rw [Q5f]
  cases h0 : (sEq x1.name (List.getD p1.fields i1 zF).name) with
  | true =>
   cases h1 : (s_Ky x1.v (List.getD p1.fields i1 zF).v) with
   | true =>
    exact Qq9 p0 p1 (fun r hr => Q111 p0 p1 H rec x1 i1 hx1 hi1 hc1 h0 h1 hr) _ (Qvj p0 p1 H rec r1 (i1 + 1) hd')
   | false =>
    exact Q11j p0 p1 H rec x1 i1 hx1 hi1 hc1 h0 h1
  | false =>
   exact Q14i p0 p1 H rec x1 i1 hx1 hi1 hc1 h0
theorem Q1b7 (p0 : Val) (p1 : Val) (_H : H_Ky p0) (_rec : Q3q p0) (h0 : (p0.kind == p1.kind) = true) (h1 : (p0.n == p1.n) = true) (h2 : (sEq p0.s p1.s) = true) (h3 : (((List.length p0.list) : Int) == ((List.length p1.list) : Int)) = true) (h4 : (((List.length p0.fields) : Int) == ((List.length p1.fields) : Int)) = true) (z5 : Nat → PV) (zo5 : Nat → List PV) (hl5 : Q7 G (Q70 p0 p1 0) (.st (.exit 0) (Q9o p0 p1 z5 zo5))) (z6 : Nat → PV) (zo6 : Nat → List PV) (hl6 : Q7 G (Q6r p0 p1 0) (.st (.exit 2) (Qei p0 p1 z6 zo6))) : Q7 G (c_Ky p0 p1) (.ret (.bool (true)) []) := by
 exact Q9 (fn := Ir.Ky) rfl VOK.nil [hP 7 (dec (!(p0.kind == p1.kind)) false (by rw [h0]; rfl)), hP 5 (dec (!(p0.n == p1.n)) false (by rw [h1]; rfl)), hP 6 (dec (!(sEq p0.s p1.s)) false (by rw [h2]; rfl)), hP 4 (Qe (Val.rows p0.list) (List.length p0.list) (Val.Q8 p0.list)), hP 2 (Qe (Val.rows p1.list) (List.length p1.list) (Val.Q8 p1.list)), hP 0 (dec (!(((List.length p0.list) : Int) == ((List.length p1.list) : Int))) false (by rw [h3]; rfl)), hP 4 (Qe (Fld.rows p0.fields) (List.length p0.fields) (Fld.Q8 p0.fields)), hP 2 (Qe (Fld.rows p1.fields) (List.length p1.fields) (Fld.Q8 p1.fields)), hP 0 (dec (!(((List.length p0.fields) : Int) == ((List.length p1.fields) : Int))) false (by rw [h4]; rfl))] [aN hl5, aN hl6] (by kernel_rfl)
theorem Q1ac (p0 : Val) (p1 : Val) (_H : H_Ky p0) (_rec : Q3q p0) (h0 : (p0.kind == p1.kind) = true) (h1 : (p0.n == p1.n) = true) (h2 : (sEq p0.s p1.s) = true) (h3 : (((List.length p0.list) : Int) == ((List.length p1.list) : Int)) = true) (h4 : (((List.length p0.fields) : Int) == ((List.length p1.fields) : Int)) = true) (z5 : Nat → PV) (zo5 : Nat → List PV) (hl5 : Q7 G (Q70 p0 p1 0) (.st (.exit 0) (Q9o p0 p1 z5 zo5))) (z6 : Nat → PV) (zo6 : Nat → List PV) (hl6 : Q7 G (Q6r p0 p1 0) (.st .ret (Q98 p0 p1 z6 zo6))) : Q7 G (c_Ky p0 p1) (.ret (.bool (false)) []) := by
 exact Q9 (fn := Ir.Ky) rfl VOK.nil [hP 7 (dec (!(p0.kind == p1.kind)) false (by rw [h0]; rfl)), hP 5 (dec (!(p0.n == p1.n)) false (by rw [h1]; rfl)), hP 6 (dec (!(sEq p0.s p1.s)) false (by rw [h2]; rfl)), hP 4 (Qe (Val.rows p0.list) (List.length p0.list) (Val.Q8 p0.list)), hP 2 (Qe (Val.rows p1.list) (List.length p1.list) (Val.Q8 p1.list)), hP 0 (dec (!(((List.length p0.list) : Int) == ((List.length p1.list) : Int))) false (by rw [h3]; rfl)), hP 4 (Qe (Fld.rows p0.fields) (List.length p0.fields) (Fld.Q8 p0.fields)), hP 2 (Qe (Fld.rows p1.fields) (List.length p1.fields) (Fld.Q8 p1.fields)), hP 0 (dec (!(((List.length p0.fields) : Int) == ((List.length p1.fields) : Int))) false (by rw [h4]; rfl))] [aN hl5, aN hl6] (by kernel_rfl)
theorem Q197 (p0 : Val) (p1 : Val) (_H : H_Ky p0) (_rec : Q3q p0) (h0 : (p0.kind == p1.kind) = true) (h1 : (p0.n == p1.n) = true) (h2 : (sEq p0.s p1.s) = true) (h3 : (((List.length p0.list) : Int) == ((List.length p1.list) : Int)) = true) (h4 : (((List.length p0.fields) : Int) == ((List.length p1.fields) : Int)) = true) (z5 : Nat → PV) (zo5 : Nat → List PV) (hl5 : Q7 G (Q70 p0 p1 0) (.st .ret (Qg9 p0 p1 z5 zo5))) : Q7 G (c_Ky p0 p1) (.ret (.bool (false)) []) := by
 exact Q9 (fn := Ir.Ky) rfl VOK.nil [hP 7 (dec (!(p0.kind == p1.kind)) false (by rw [h0]; rfl)), hP 5 (dec (!(p0.n == p1.n)) false (by rw [h1]; rfl)), hP 6 (dec (!(sEq p0.s p1.s)) false (by rw [h2]; rfl)), hP 4 (Qe (Val.rows p0.list) (List.length p0.list) (Val.Q8 p0.list)), hP 2 (Qe (Val.rows p1.list) (List.length p1.list) (Val.Q8 p1.list)), hP 0 (dec (!(((List.length p0.list) : Int) == ((List.length p1.list) : Int))) false (by rw [h3]; rfl)), hP 4 (Qe (Fld.rows p0.fields) (List.length p0.fields) (Fld.Q8 p0.fields)), hP 2 (Qe (Fld.rows p1.fields) (List.length p1.fields) (Fld.Q8 p1.fields)), hP 0 (dec (!(((List.length p0.fields) : Int) == ((List.length p1.fields) : Int))) false (by rw [h4]; rfl))] [aN hl5] (by kernel_rfl)
theorem Q199 (p0 : Val) (p1 : Val) (_H : H_Ky p0) (_rec : Q3q p0) (h0 : (p0.kind == p1.kind) = true) (h1 : (p0.n == p1.n) = true) (h2 : (sEq p0.s p1.s) = true) (h3 : (((List.length p0.list) : Int) == ((List.length p1.list) : Int)) = true) (h4 : (((List.length p0.fields) : Int) == ((List.length p1.fields) : Int)) = false) : Q7 G (c_Ky p0 p1) (.ret (.bool (false)) []) := by
 exact Q9 (fn := Ir.Ky) rfl VOK.nil [hP 7 (dec (!(p0.kind == p1.kind)) false (by rw [h0]; rfl)), hP 5 (dec (!(p0.n == p1.n)) false (by rw [h1]; rfl)), hP 6 (dec (!(sEq p0.s p1.s)) false (by rw [h2]; rfl)), hP 4 (Qe (Val.rows p0.list) (List.length p0.list) (Val.Q8 p0.list)), hP 2 (Qe (Val.rows p1.list) (List.length p1.list) (Val.Q8 p1.list)), hP 0 (dec (!(((List.length p0.list) : Int) == ((List.length p1.list) : Int))) false (by rw [h3]; rfl)), hP 4 (Qe (Fld.rows p0.fields) (List.length p0.fields) (Fld.Q8 p0.fields)), hP 2 (Qe (Fld.rows p1.fields) (List.length p1.fields) (Fld.Q8 p1.fields)), hP 0 (dec (!(((List.length p0.fields) : Int) == ((List.length p1.fields) : Int))) true (by rw [h4]; rfl))] [] (by kernel_rfl)
theorem Q1b0 (p0 : Val) (p1 : Val) (_H : H_Ky p0) (_rec : Q3q p0) (h0 : (p0.kind == p1.kind) = true) (h1 : (p0.n == p1.n) = true) (h2 : (sEq p0.s p1.s) = true) (h3 : (((List.length p0.list) : Int) == ((List.length p1.list) : Int)) = false) : Q7 G (c_Ky p0 p1) (.ret (.bool (false)) []) := by
 exact Q9 (fn := Ir.Ky) rfl VOK.nil [hP 7 (dec (!(p0.kind == p1.kind)) false (by rw [h0]; rfl)), hP 5 (dec (!(p0.n == p1.n)) false (by rw [h1]; rfl)), hP 6 (dec (!(sEq p0.s p1.s)) false (by rw [h2]; rfl)), hP 4 (Qe (Val.rows p0.list) (List.length p0.list) (Val.Q8 p0.list)), hP 2 (Qe (Val.rows p1.list) (List.length p1.list) (Val.Q8 p1.list)), hP 0 (dec (!(((List.length p0.list) : Int) == ((List.length p1.list) : Int))) true (by rw [h3]; rfl))] [] (by kernel_rfl)
theorem Q1ba (p0 : Val) (p1 : Val) (_H : H_Ky p0) (_rec : Q3q p0) (h0 : (p0.kind == p1.kind) = true) (h1 : (p0.n == p1.n) = true) (h2 : (sEq p0.s p1.s) = false) : Q7 G (c_Ky p0 p1) (.ret (.bool (false)) []) := by
 exact Q9 (fn := Ir.Ky) rfl VOK.nil [hP 7 (dec (!(p0.kind == p1.kind)) false (by rw [h0]; rfl)), hP 5 (dec (!(p0.n == p1.n)) false (by rw [h1]; rfl)), hP 6 (dec (!(sEq p0.s p1.s)) true (by rw [h2]; rfl))] [] (by kernel_rfl)
theorem Q1bf (p0 : Val) (p1 : Val) (_H : H_Ky p0) (_rec : Q3q p0) (h0 : (p0.kind == p1.kind) = true) (h1 : (p0.n == p1.n) = false) : Q7 G (c_Ky p0 p1) (.ret (.bool (false)) []) := by
 exact Q9 (fn := Ir.Ky) rfl VOK.nil [hP 7 (dec (!(p0.kind == p1.kind)) false (by rw [h0]; rfl)), hP 5 (dec (!(p0.n == p1.n)) true (by rw [h1]; rfl))] [] (by kernel_rfl)
theorem Q192 (p0 : Val) (p1 : Val) (_H : H_Ky p0) (_rec : Q3q p0) (h0 : (p0.kind == p1.kind) = false) : Q7 G (c_Ky p0 p1) (.ret (.bool (false)) []) := by
 exact Q9 (fn := Ir.Ky) rfl VOK.nil [hP 7 (dec (!(p0.kind == p1.kind)) true (by rw [h0]; rfl))] [] (by kernel_rfl)
theorem r_Ky (p0 : Val) (p1 : Val) (H : H_Ky p0) (rec : Q3q p0) : Q7 G (c_Ky p0 p1) (a_Ky p0 p1) := by
  unfold a_Ky
  rw [s_Ky]
  cases h0 : (p0.kind == p1.kind) with
  | true =>
   cases h1 : (p0.n == p1.n) with
   | true =>
    cases h2 : (sEq p0.s p1.s) with
    | true =>
     cases h3 : (((List.length p0.list) : Int) == ((List.length p1.list) : Int)) with
     | true =>
      cases h4 : (((List.length p0.fields) : Int) == ((List.length p1.fields) : Int)) with
      | true =>
       have hl5 := Qvq p0 p1 ((Q13h p0 p1 H).1 h3 h4) rec p0.list 0 (by simp)
       cases hr5 : (Q5j p0 p1 p0.list 0) with
       | k0 =>
         rw [hr5] at hl5
         obtain ⟨z5, zo5, hl5⟩ := hl5
         try dsimp only
         have hl6 := Qvj p0 p1 ((Q13h p0 p1 H).2.1 h3 h4) rec p0.fields 0 (by simp)
         cases hr6 : (Q5f p0 p1 p0.fields 0) with
         | k0 =>
           rw [hr6] at hl6
           obtain ⟨z6, zo6, hl6⟩ := hl6
           exact Q1b7 p0 p1 H rec h0 h1 h2 h3 h4 z5 zo5 hl5 z6 zo6 hl6
         | k1 =>
           rw [hr6] at hl6
           obtain ⟨z6, zo6, hl6⟩ := hl6
           exact Q1ac p0 p1 H rec h0 h1 h2 h3 h4 z5 zo5 hl5 z6 zo6 hl6
       | k1 =>
         rw [hr5] at hl5
         obtain ⟨z5, zo5, hl5⟩ := hl5
         exact Q197 p0 p1 H rec h0 h1 h2 h3 h4 z5 zo5 hl5
      | false =>
       exact Q199 p0 p1 H rec h0 h1 h2 h3 h4
     | false =>
      exact Q1b0 p0 p1 H rec h0 h1 h2 h3
    | false =>
     exact Q1ba p0 p1 H rec h0 h1 h2
   | false =>
    exact Q1bf p0 p1 H rec h0 h1
  | false =>
   exact Q192 p0 p1 H rec h0
theorem i_Ky : ∀ (k : Nat) (p0 : Val), SizeOf.sizeOf p0 < k → ∀ (p1 : Val), H_Ky p0 → Q7 G (c_Ky p0 p1) (a_Ky p0 p1)
  | 0, _, h, _, _ => absurd h (Nat.not_lt_zero _)
  | k + 1, p0, h, p1, H => r_Ky p0 p1 H (fun q hq p1 hH => i_Ky k q (by omega) p1 hH)
theorem t_Ky (p0 : Val) (p1 : Val) (H : H_Ky p0) : Q7 G (c_Ky p0 p1) (a_Ky p0 p1) := i_Ky _ p0 (Nat.lt_succ_self _) p1 H
mutual
def Q26 (p0 p1 : Val) : Int := s_K1 [s_K0 p0.kind p1.kind, s_K0 p0.n p1.n, Qc1 p0.s p1.s, lcV p0.list p1.list, lcF p0.fields p1.fields]
termination_by SizeOf.sizeOf p0
decreasing_by all_goals first | exact Val.Q4f _ | exact Val.Q2e _
def lcV : List Val → List Val → Int
 | [], [] => 0
 | [], _ :: _ => -1
 | _ :: _, [] => 1
 | x :: l, y :: m => bif Q26 x y == 0 then lcV l m else Q26 x y
termination_by l => SizeOf.sizeOf l
decreasing_by all_goals first | exact Q2j _ _ | exact Q2d _ _
def lcF : List Fld → List Fld → Int
 | [], [] => 0
 | [], _ :: _ => -1
 | _ :: _, [] => 1
 | x :: l, y :: m => bif s_K1 [Qc1 x.name y.name, Q26 x.v y.v] == 0 then lcF l m else s_K1 [Qc1 x.name y.name, Q26 x.v y.v]
termination_by l => SizeOf.sizeOf l
decreasing_by all_goals first | exact Q1z _ _ | exact Q2d _ _
end
def Q12t (p0 : Val) (p1 : Val) : En := .call 49 [.agg (Val.cells p0), .agg (Val.cells p1)] []
def Qz7 (p0 : Val) (p1 : Val) : Rs := .ret (.int .i64 (Q26 p0 p1)) []
def Qht (p0 : Fld) (p1 : Fld) : Int :=
 (s_K1 ([(Qc1 p0.name p1.name), (Q26 p0.v p1.v)]))
def Q1c2 (p0 : Fld) (p1 : Fld) : En := .call 63 [.agg (Fld.cells p0), .agg (Fld.cells p1)] []
def Q19v (p0 : Fld) (p1 : Fld) : Rs := .ret (.int .i64 (Qht p0 p1)) []
theorem Q1dk (p0 : Fld) (p1 : Fld) (hc : Q7 G (Q12t p0.v p1.v) (Qz7 p0.v p1.v)) : Q7 G (Q1c2 p0 p1) (Q19v p0 p1) := by
 unfold Q19v Qht
 exact Q9 (fn := Ir.K1i) rfl VOK.nil [] [aN (Q185 p0.name p1.name), aN hc, aN (t_K1 ([(Qc1 p0.name p1.name), (Q26 p0.v p1.v)]) (by simp [H_K1, Q91]))] (by kernel_rfl)
def Q42 (g : Val → Val → Int) (p0 : List Val) : Prop := ∀ x ∈ p0, ∀ y : Val, Q7 G (.call 49 [.agg (Val.cells x), .agg (Val.cells y)] []) (.ret (.int .i64 (g x y)) [])
inductive Qux where
  | k0
  | k1
  | k2 (q0 : Int)
def Q47 (g : Val → Val → Int) (p0 : List Val) (p1 : List Val) : List Val → Nat → Qux
 | [], _i0 =>
  (.k0)
 | x0 :: r0, i0 =>
  bif (decide (((List.length p1) : Int) ≤ (i0 : Int))) then
   (.k1)
  else
   bif ((g x0 (List.getD p1 i0 (Val.mk 0 0 eB [] []))) == 0) then
    Q47 g p0 p1 r0 (i0 + 1)
   else
    (.k2 (g x0 (List.getD p1 i0 (Val.mk 0 0 eB [] []))))
def Qs0 (_g : Val → Val → Int) (p0 : List Val) (p1 : List Val) (i0 : Nat) : List PV :=
  [.sl (Val.rows p0), .sl (Val.rows p1), .fn 49 [] [], .un, .un, .un, .un, .un, .un, .un, .un, .sl (Val.rows p0), .int .i64 ((List.length p0) : Int), .int .i64 (i0 : Int), .un, .un, .un, .un, .un, .un, .un, .un, .un, .un, .un, .un, .un, .un, .un, .un, .un, .un, .un, .un, .un, .un, .un, .un, .un]
def Qsb (_g : Val → Val → Int) (_p0 : List Val) (_p1 : List Val) (_i0 : Nat) : List Ob :=
  []
def Q7x (g : Val → Val → Int) (p0 : List Val) (p1 : List Val) (i0 : Nat) : En := .loop 0 Ir.Qd7 Ir.Q178 (Qs0 g p0 p1 i0) (Qsb g p0 p1 i0)
def Qi4 (_g : Val → Val → Int) (p0 : List Val) (p1 : List Val) (z : Nat → PV) (_zo : Nat → List PV) : St :=
  ⟨[.sl (Val.rows p0), .sl (Val.rows p1), z 2, z 3, z 4, z 5, z 6, z 7, z 8, z 9, z 10, z 11, z 12, z 13, z 14, z 15, z 16, z 17, z 18, z 19, z 20, z 21, z 22, z 23, z 24, z 25, z 26, z 27, z 28, z 29, z 30, z 31, z 32, z 33, z 34, z 35, z 36, z 37, z 38], [], 64⟩
def Qim (_g : Val → Val → Int) (_p0 : List Val) (_p1 : List Val) (z : Nat → PV) (zo : Nat → List PV) : St :=
  ⟨[z 0, z 1, z 2, z 3, z 4, z 5, .int .i64 1, z 7, z 8, z 9, z 10, z 11, z 12, z 13, z 14, z 15, z 16, z 17, z 18, z 19, z 20, z 21, z 22, z 23, z 24, z 25, z 26, z 27, z 28, z 29, z 30, z 31, z 32, z 33, z 34, z 35, z 36, z 37, z 38], [(256, ⟨5, 0, true, zo 256⟩)], 768⟩
def Qla (_g : Val → Val → Int) (_p0 : List Val) (_p1 : List Val) (q0 : Int) (z : Nat → PV) (zo : Nat → List PV) : St :=
  ⟨[z 0, z 1, z 2, z 3, z 4, z 5, .int .i64 q0, z 7, z 8, z 9, z 10, z 11, z 12, z 13, z 14, z 15, z 16, z 17, z 18, z 19, z 20, z 21, z 22, z 23, z 24, z 25, z 26, z 27, z 28, z 29, z 30, z 31, z 32, z 33, z 34, z 35, z 36, z 37, z 38], [(256, ⟨5, 0, true, zo 256⟩), (960, ⟨5, 0, true, zo 960⟩)], 1664⟩
def Q7y (g : Val → Val → Int) (p0 : List Val) (p1 : List Val) (e : En) : Qux → Prop
  | .k0 => ∃ z zo, Q7 G e (.st (.exit 0) (Qi4 g p0 p1 z zo))
  | .k1 => ∃ z zo, Q7 G e (.st .ret (Qim g p0 p1 z zo))
  | .k2 q0 => ∃ z zo, Q7 G e (.st .ret (Qla g p0 p1 q0 z zo))
theorem Qnj (g : Val → Val → Int) (p0 : List Val) (p1 : List Val) {e e' : En} (h : ∀ r, Q7 G e r → Q7 G e' r) : ∀ q, Q7y g p0 p1 e q → Q7y g p0 p1 e' q
  | .k0, ⟨z, zo, hz⟩ => ⟨z, zo, h _ hz⟩
  | .k1, ⟨z, zo, hz⟩ => ⟨z, zo, h _ hz⟩
  | .k2 _, ⟨z, zo, hz⟩ => ⟨z, zo, h _ hz⟩
def Q7i (_g : Val → Val → Int) (p0 : List Val) (_p1 : List Val) : Prop := (List.length p0 ≤ 4611686018427387904) ∧ True
def Qiz (_g : Val → Val → Int) (p0 : List Val) (_p1 : List Val) (i0 : Nat) : List PV :=
  [.un, .un, .fn 49 [] [], .un, .un, .un, .un, .un, .un, .un, .un, .sl (Val.rows p0), .int .i64 ((List.length p0) : Int), .int .i64 (i0 : Int), .bool false]
def Qda (_g : Val → Val → Int) (_p0 : List Val) (_p1 : List Val) (_i0 : Nat) : List (Nat × List PV) :=
  []
theorem Qxv (g : Val → Val → Int) (p0 : List Val) (p1 : List Val) (_H : Q7i g p0 p1) (_rec : Q42 g p0) (i0 : Nat) (hc0 : (decide ((i0 : Int) < ((List.length p0) : Int))) = false) : Q7y g p0 p1 (Q7x g p0 p1 i0) (.k0) := by
 exact ⟨(envF (Qiz g p0 p1 i0)), (zoF (Qda g p0 p1 i0)), Qf VOK.nil (x := ((.exit 0), Qi4 g p0 p1 (envF (Qiz g p0 p1 i0)) (zoF (Qda g p0 p1 i0)))) [hB 0 hc0] [] (by kernel_rfl)⟩
def Qls (_g : Val → Val → Int) (p0 : List Val) (p1 : List Val) (i0 : Nat) (x0 : Val) : List PV :=
  [.sl (Val.rows p0), .sl (Val.rows p1), .fn 49 [] [], .un, .un, .un, .un, .int .i64 (i0 : Int), .bx 256 0, .un, .un, .sl (Val.rows p0), .int .i64 ((List.length p0) : Int), .int .i64 (i0 : Int), .bool true, .int .i64 (i0 : Int), .rf [.int .i64 x0.kind, .int .i64 x0.n, .str x0.s, .sl (Val.rows x0.list), .sl (Fld.rows x0.fields)], .agg [.int .i64 x0.kind, .int .i64 x0.n, .str x0.s, .sl (Val.rows x0.list), .sl (Fld.rows x0.fields)], .int .i64 (i0 : Int), .sl (Val.rows p1), .int .i64 ((List.length p1) : Int), .bool true]
def Qgo (_g : Val → Val → Int) (_p0 : List Val) (_p1 : List Val) (_i0 : Nat) (x0 : Val) : List (Nat × List PV) :=
  [(256, [.int .i64 x0.kind, .int .i64 x0.n, .str x0.s, .sl (Val.rows x0.list), .sl (Fld.rows x0.fields)])]
theorem Qz4 (g : Val → Val → Int) (p0 : List Val) (p1 : List Val) (_H : Q7i g p0 p1) (_rec : Q42 g p0) (x0 : Val) (i0 : Nat) (hx0 : p0[i0]? = some x0) (_hi0 : i0 < List.length p0) (hc0 : (decide ((i0 : Int) < ((List.length p0) : Int))) = true) (h0 : (decide (((List.length p1) : Int) ≤ (i0 : Int))) = true) : Q7y g p0 p1 (Q7x g p0 p1 i0) (.k1) := by
 exact ⟨(envF (Qls g p0 p1 i0 x0)), (zoF (Qgo g p0 p1 i0 x0)), Qf VOK.nil (x := (.ret, Qim g p0 p1 (envF (Qls g p0 p1 i0 x0)) (zoF (Qgo g p0 p1 i0 x0)))) [hB 0 hc0, hP 1 (Q10 5 (Val.rows p0) i0 _ (Val.Qg hx0) rfl), hP 6 (Qe (Val.rows p1) (List.length p1) (Val.Q8 p1)), hB 0 h0] [] (by kernel_rfl)⟩
theorem Qyq (g : Val → Val → Int) (p0 : List Val) (p1 : List Val) (H : Q7i g p0 p1) (rec : Q42 g p0) (x0 : Val) (i0 : Nat) (hx0 : p0[i0]? = some x0) (hi0 : i0 < List.length p0) (hc0 : (decide ((i0 : Int) < ((List.length p0) : Int))) = true) (h0 : (decide (((List.length p1) : Int) ≤ (i0 : Int))) = false) (h1 : ((g x0 (List.getD p1 i0 (Val.mk 0 0 eB [] []))) == 0) = true) {r : Rs} (hr : Q7 G (Q7x g p0 p1 (i0 + 1)) r) : Q7 G (Q7x g p0 p1 i0) r := by
 have hB0 := H.1; have e0 := of_decide_eq_false h0; have e1 := eq_of_beq h1
 exact Qa VOK.nil (y := (Qs0 g p0 p1 (i0 + 1), Qsb g p0 p1 (i0 + 1))) [hB 0 hc0, hP 1 (Q10 5 (Val.rows p0) i0 _ (Val.Qg hx0) rfl), hP 6 (Qe (Val.rows p1) (List.length p1) (Val.Q8 p1)), hB 0 h0, hP 2 (Q55 5 (Val.rows p1) (i0 : Int) _ (by omega) (Val.Qg (Qu p1 (Int.toNat (i0 : Int)) (Val.mk 0 0 eB [] []) (by omega))) rfl), hP 9 (dec (!((g x0 (List.getD p1 i0 (Val.mk 0 0 eB [] []))) == 0)) false (by rw [h1]; rfl)), hP 0 (Qr i0 (by omega))] [aN (rec x0 (Qt hx0) (List.getD p1 i0 (Val.mk 0 0 eB [] [])))] (by kernel_rfl) hr
def Qko (g : Val → Val → Int) (p0 : List Val) (p1 : List Val) (i0 : Nat) (x0 : Val) : List PV :=
  [.sl (Val.rows p0), .sl (Val.rows p1), .fn 49 [] [], .un, .un, .un, .un, .int .i64 (i0 : Int), .bx 256 0, .bx 960 0, .int .i64 (g x0 (List.getD p1 i0 (Val.mk 0 0 eB [] []))), .sl (Val.rows p0), .int .i64 ((List.length p0) : Int), .int .i64 (i0 : Int), .bool true, .int .i64 (i0 : Int), .rf [.int .i64 x0.kind, .int .i64 x0.n, .str x0.s, .sl (Val.rows x0.list), .sl (Fld.rows x0.fields)], .agg [.int .i64 x0.kind, .int .i64 x0.n, .str x0.s, .sl (Val.rows x0.list), .sl (Fld.rows x0.fields)], .int .i64 (i0 : Int), .sl (Val.rows p1), .int .i64 ((List.length p1) : Int), .bool false, .sl (Val.rows p1), .int .i64 (i0 : Int), .rf [.int .i64 (List.getD p1 i0 (Val.mk 0 0 eB [] [])).kind, .int .i64 (List.getD p1 i0 (Val.mk 0 0 eB [] [])).n, .str (List.getD p1 i0 (Val.mk 0 0 eB [] [])).s, .sl (Val.rows (List.getD p1 i0 (Val.mk 0 0 eB [] [])).list), .sl (Fld.rows (List.getD p1 i0 (Val.mk 0 0 eB [] [])).fields)], .agg [.int .i64 (List.getD p1 i0 (Val.mk 0 0 eB [] [])).kind, .int .i64 (List.getD p1 i0 (Val.mk 0 0 eB [] [])).n, .str (List.getD p1 i0 (Val.mk 0 0 eB [] [])).s, .sl (Val.rows (List.getD p1 i0 (Val.mk 0 0 eB [] [])).list), .sl (Fld.rows (List.getD p1 i0 (Val.mk 0 0 eB [] [])).fields)], .fn 49 [] [], .agg [.int .i64 x0.kind, .int .i64 x0.n, .str x0.s, .sl (Val.rows x0.list), .sl (Fld.rows x0.fields)], .agg [.int .i64 (List.getD p1 i0 (Val.mk 0 0 eB [] [])).kind, .int .i64 (List.getD p1 i0 (Val.mk 0 0 eB [] [])).n, .str (List.getD p1 i0 (Val.mk 0 0 eB [] [])).s, .sl (Val.rows (List.getD p1 i0 (Val.mk 0 0 eB [] [])).list), .sl (Fld.rows (List.getD p1 i0 (Val.mk 0 0 eB [] [])).fields)], .int .i64 (g x0 (List.getD p1 i0 (Val.mk 0 0 eB [] []))), .int .i64 (g x0 (List.getD p1 i0 (Val.mk 0 0 eB [] []))), .bool true, .int .i64 (g x0 (List.getD p1 i0 (Val.mk 0 0 eB [] [])))]
def Qdk (_g : Val → Val → Int) (_p0 : List Val) (p1 : List Val) (i0 : Nat) (x0 : Val) : List (Nat × List PV) :=
  [(256, [.int .i64 x0.kind, .int .i64 x0.n, .str x0.s, .sl (Val.rows x0.list), .sl (Fld.rows x0.fields)]), (960, [.int .i64 (List.getD p1 i0 (Val.mk 0 0 eB [] [])).kind, .int .i64 (List.getD p1 i0 (Val.mk 0 0 eB [] [])).n, .str (List.getD p1 i0 (Val.mk 0 0 eB [] [])).s, .sl (Val.rows (List.getD p1 i0 (Val.mk 0 0 eB [] [])).list), .sl (Fld.rows (List.getD p1 i0 (Val.mk 0 0 eB [] [])).fields)])]
theorem Qyx (g : Val → Val → Int) (p0 : List Val) (p1 : List Val) (H : Q7i g p0 p1) (rec : Q42 g p0) (x0 : Val) (i0 : Nat) (hx0 : p0[i0]? = some x0) (_hi0 : i0 < List.length p0) (hc0 : (decide ((i0 : Int) < ((List.length p0) : Int))) = true) (h0 : (decide (((List.length p1) : Int) ≤ (i0 : Int))) = false) (h1 : ((g x0 (List.getD p1 i0 (Val.mk 0 0 eB [] []))) == 0) = false) : Q7y g p0 p1 (Q7x g p0 p1 i0) (.k2 (g x0 (List.getD p1 i0 (Val.mk 0 0 eB [] [])))) := by
 have hB0 := H.1; have e0 := of_decide_eq_false h0; have e1 := beq_eq_false_iff_ne.1 h1
 exact ⟨(envF (Qko g p0 p1 i0 x0)), (zoF (Qdk g p0 p1 i0 x0)), Qf VOK.nil (x := (.ret, Qla g p0 p1 (g x0 (List.getD p1 i0 (Val.mk 0 0 eB [] []))) (envF (Qko g p0 p1 i0 x0)) (zoF (Qdk g p0 p1 i0 x0)))) [hB 0 hc0, hP 1 (Q10 5 (Val.rows p0) i0 _ (Val.Qg hx0) rfl), hP 6 (Qe (Val.rows p1) (List.length p1) (Val.Q8 p1)), hB 0 h0, hP 2 (Q55 5 (Val.rows p1) (i0 : Int) _ (by omega) (Val.Qg (Qu p1 (Int.toNat (i0 : Int)) (Val.mk 0 0 eB [] []) (by omega))) rfl), hP 9 (dec (!((g x0 (List.getD p1 i0 (Val.mk 0 0 eB [] []))) == 0)) true (by rw [h1]; rfl))] [aN (rec x0 (Qt hx0) (List.getD p1 i0 (Val.mk 0 0 eB [] [])))] (by kernel_rfl)⟩
theorem Qom (g : Val → Val → Int) (p0 : List Val) (p1 : List Val) (H : Q7i g p0 p1) (rec : Q42 g p0) : ∀ (r0 : List Val) (i0 : Nat), List.drop i0 p0 = r0 → Q7y g p0 p1 (Q7x g p0 p1 i0) (Q47 g p0 p1 r0 i0)
 | [], i0, hd => by
  have hc0 : (decide ((i0 : Int) < ((List.length p0) : Int))) = false := by have := Q1d hd; simp; omega
  rw [Q47]
  exact Qxv g p0 p1 H rec i0 hc0
 | x0 :: r0, i0, hd => by
  obtain ⟨hx0, hi0, hd'⟩ := Qz hd
  have hc0 : (decide ((i0 : Int) < ((List.length p0) : Int))) = true := by simp; omega
  rw [Q47]
  cases h0 : (decide (((List.length p1) : Int) ≤ (i0 : Int))) with
  | true =>
   exact Qz4 g p0 p1 H rec x0 i0 hx0 hi0 hc0 h0
  | false =>
   cases h1 : ((g x0 (List.getD p1 i0 (Val.mk 0 0 eB [] []))) == 0) with
   | true =>
    exact Qnj g p0 p1 (fun r hr => Qyq g p0 p1 H rec x0 i0 hx0 hi0 hc0 h0 h1 hr) _ (Qom g p0 p1 H rec r0 (i0 + 1) hd')
   | false =>
    exact Qyx g p0 p1 H rec x0 i0 hx0 hi0 hc0 h0 h1
def Q5m (g : Val → Val → Int) (p0 : List Val) (p1 : List Val) : Int :=
 (match (Q47 g p0 p1 p0 0) with
 | .k0 => bif (decide (((List.length p0) : Int) < ((List.length p1) : Int))) then
   (-1)
  else
   0
 | .k1 => 1
 | .k2 y0_0 => y0_0)
def Q11r (p0 : List Val) (p1 : List Val) : En := .call 61 [.sl (Val.rows p0), .sl (Val.rows p1), .fn 49 [] []] []
def Qsa (g : Val → Val → Int) (p0 : List Val) (p1 : List Val) : Rs := .ret (.int .i64 (Q5m g p0 p1)) []
def Qpz (g : Val → Val → Int) (p0 : List Val) (p1 : List Val) : Prop := (Q7i g p0 p1) ∧ True
theorem Q116 (g : Val → Val → Int) (p0 : List Val) (p1 : List Val) (H : Qpz g p0 p1) (rec : Q42 g p0) : Q7 G (Q11r p0 p1) (Qsa g p0 p1) := by
 unfold Qsa Q5m
 have hl0 := Qom g p0 p1 (H.1) rec p0 0 (by simp)
 cases hr0 : (Q47 g p0 p1 p0 0) with
 | k0 =>
  rw [hr0] at hl0
  obtain ⟨z0, zo0, hl0⟩ := hl0
  try dsimp only
  cases h0 : (decide (((List.length p0) : Int) < ((List.length p1) : Int))) with
  | true =>
   exact Q9 (fn := Ir.K16) rfl VOK.nil [hP 2 (Qe (Val.rows p0) (List.length p0) (Val.Q8 p0)), hP 2 (Qe (Val.rows p0) (List.length p0) (Val.Q8 p0)), hP 1 (Qe (Val.rows p1) (List.length p1) (Val.Q8 p1)), hB 0 h0] [aN hl0] (by kernel_rfl)
  | false =>
   exact Q9 (fn := Ir.K16) rfl VOK.nil [hP 2 (Qe (Val.rows p0) (List.length p0) (Val.Q8 p0)), hP 2 (Qe (Val.rows p0) (List.length p0) (Val.Q8 p0)), hP 1 (Qe (Val.rows p1) (List.length p1) (Val.Q8 p1)), hB 0 h0] [aN hl0] (by kernel_rfl)
 | k1 =>
  rw [hr0] at hl0
  obtain ⟨z0, zo0, hl0⟩ := hl0
  exact Q9 (fn := Ir.K16) rfl VOK.nil [hP 2 (Qe (Val.rows p0) (List.length p0) (Val.Q8 p0))] [aN hl0] (by kernel_rfl)
 | k2 y0_0 =>
  rw [hr0] at hl0
  obtain ⟨z0, zo0, hl0⟩ := hl0
  exact Q9 (fn := Ir.K16) rfl VOK.nil [hP 2 (Qe (Val.rows p0) (List.length p0) (Val.Q8 p0))] [aN hl0] (by kernel_rfl)
def Q3z (g : Fld → Fld → Int) (p0 : List Fld) : Prop := ∀ x ∈ p0, ∀ y : Fld, Q7 G (.call 63 [.agg (Fld.cells x), .agg (Fld.cells y)] []) (.ret (.int .i64 (g x y)) [])
inductive Quy where
  | k0
  | k1
  | k2 (q0 : Int)
def Q45 (g : Fld → Fld → Int) (p0 : List Fld) (p1 : List Fld) : List Fld → Nat → Quy
 | [], _i0 =>
  (.k0)
 | x0 :: r0, i0 =>
  bif (decide (((List.length p1) : Int) ≤ (i0 : Int))) then
   (.k1)
  else
   bif ((g x0 (List.getD p1 i0 zF)) == 0) then
    Q45 g p0 p1 r0 (i0 + 1)
   else
    (.k2 (g x0 (List.getD p1 i0 zF)))
def Qr3 (_g : Fld → Fld → Int) (p0 : List Fld) (p1 : List Fld) (i0 : Nat) : List PV :=
  [.sl (Fld.rows p0), .sl (Fld.rows p1), .fn 63 [] [], .un, .un, .un, .un, .un, .un, .un, .un, .sl (Fld.rows p0), .int .i64 ((List.length p0) : Int), .int .i64 (i0 : Int), .un, .un, .un, .un, .un, .un, .un, .un, .un, .un, .un, .un, .un, .un, .un, .un, .un, .un, .un, .un, .un, .un, .un, .un, .un]
def Qqa (_g : Fld → Fld → Int) (_p0 : List Fld) (_p1 : List Fld) (_i0 : Nat) : List Ob :=
  []
def Q7z (g : Fld → Fld → Int) (p0 : List Fld) (p1 : List Fld) (i0 : Nat) : En := .loop 0 Ir.Qe0 Ir.Q177 (Qr3 g p0 p1 i0) (Qqa g p0 p1 i0)
def Qly (_g : Fld → Fld → Int) (p0 : List Fld) (p1 : List Fld) (z : Nat → PV) (_zo : Nat → List PV) : St :=
  ⟨[.sl (Fld.rows p0), .sl (Fld.rows p1), z 2, z 3, z 4, z 5, z 6, z 7, z 8, z 9, z 10, z 11, z 12, z 13, z 14, z 15, z 16, z 17, z 18, z 19, z 20, z 21, z 22, z 23, z 24, z 25, z 26, z 27, z 28, z 29, z 30, z 31, z 32, z 33, z 34, z 35, z 36, z 37, z 38], [], 64⟩
def Qj3 (_g : Fld → Fld → Int) (_p0 : List Fld) (_p1 : List Fld) (z : Nat → PV) (zo : Nat → List PV) : St :=
  ⟨[z 0, z 1, z 2, z 3, z 4, z 5, .int .i64 1, z 7, z 8, z 9, z 10, z 11, z 12, z 13, z 14, z 15, z 16, z 17, z 18, z 19, z 20, z 21, z 22, z 23, z 24, z 25, z 26, z 27, z 28, z 29, z 30, z 31, z 32, z 33, z 34, z 35, z 36, z 37, z 38], [(256, ⟨6, 0, true, zo 256⟩)], 768⟩
def Qjh (_g : Fld → Fld → Int) (_p0 : List Fld) (_p1 : List Fld) (q0 : Int) (z : Nat → PV) (zo : Nat → List PV) : St :=
  ⟨[z 0, z 1, z 2, z 3, z 4, z 5, .int .i64 q0, z 7, z 8, z 9, z 10, z 11, z 12, z 13, z 14, z 15, z 16, z 17, z 18, z 19, z 20, z 21, z 22, z 23, z 24, z 25, z 26, z 27, z 28, z 29, z 30, z 31, z 32, z 33, z 34, z 35, z 36, z 37, z 38], [(256, ⟨6, 0, true, zo 256⟩), (960, ⟨6, 0, true, zo 960⟩)], 1664⟩
def Q7l (g : Fld → Fld → Int) (p0 : List Fld) (p1 : List Fld) (e : En) : Quy → Prop
  | .k0 => ∃ z zo, Q7 G e (.st (.exit 0) (Qly g p0 p1 z zo))
  | .k1 => ∃ z zo, Q7 G e (.st .ret (Qj3 g p0 p1 z zo))
  | .k2 q0 => ∃ z zo, Q7 G e (.st .ret (Qjh g p0 p1 q0 z zo))
theorem Qnh (g : Fld → Fld → Int) (p0 : List Fld) (p1 : List Fld) {e e' : En} (h : ∀ r, Q7 G e r → Q7 G e' r) : ∀ q, Q7l g p0 p1 e q → Q7l g p0 p1 e' q
  | .k0, ⟨z, zo, hz⟩ => ⟨z, zo, h _ hz⟩
  | .k1, ⟨z, zo, hz⟩ => ⟨z, zo, h _ hz⟩
  | .k2 _, ⟨z, zo, hz⟩ => ⟨z, zo, h _ hz⟩
def Q7p (_g : Fld → Fld → Int) (p0 : List Fld) (_p1 : List Fld) : Prop := (List.length p0 ≤ 4611686018427387904) ∧ True
def Qlw (_g : Fld → Fld → Int) (p0 : List Fld) (_p1 : List Fld) (i0 : Nat) : List PV :=
  [.un, .un, .fn 63 [] [], .un, .un, .un, .un, .un, .un, .un, .un, .sl (Fld.rows p0), .int .i64 ((List.length p0) : Int), .int .i64 (i0 : Int), .bool false]
def Qe4 (_g : Fld → Fld → Int) (_p0 : List Fld) (_p1 : List Fld) (_i0 : Nat) : List (Nat × List PV) :=
  []
theorem Qxe (g : Fld → Fld → Int) (p0 : List Fld) (p1 : List Fld) (_H : Q7p g p0 p1) (_rec : Q3z g p0) (i0 : Nat) (hc0 : (decide ((i0 : Int) < ((List.length p0) : Int))) = false) : Q7l g p0 p1 (Q7z g p0 p1 i0) (.k0) := by
 exact ⟨(envF (Qlw g p0 p1 i0)), (zoF (Qe4 g p0 p1 i0)), Qf VOK.nil (x := ((.exit 0), Qly g p0 p1 (envF (Qlw g p0 p1 i0)) (zoF (Qe4 g p0 p1 i0)))) [hB 0 hc0] [] (by kernel_rfl)⟩
def Qk3 (_g : Fld → Fld → Int) (p0 : List Fld) (p1 : List Fld) (i0 : Nat) (x0 : Fld) : List PV :=
  [.sl (Fld.rows p0), .sl (Fld.rows p1), .fn 63 [] [], .un, .un, .un, .un, .int .i64 (i0 : Int), .bx 256 0, .un, .un, .sl (Fld.rows p0), .int .i64 ((List.length p0) : Int), .int .i64 (i0 : Int), .bool true, .int .i64 (i0 : Int), .rf [.str x0.name, .int .i64 x0.v.kind, .int .i64 x0.v.n, .str x0.v.s, .sl (Val.rows x0.v.list), .sl (Fld.rows x0.v.fields)], .agg [.str x0.name, .int .i64 x0.v.kind, .int .i64 x0.v.n, .str x0.v.s, .sl (Val.rows x0.v.list), .sl (Fld.rows x0.v.fields)], .int .i64 (i0 : Int), .sl (Fld.rows p1), .int .i64 ((List.length p1) : Int), .bool true]
def Qea (_g : Fld → Fld → Int) (_p0 : List Fld) (_p1 : List Fld) (_i0 : Nat) (x0 : Fld) : List (Nat × List PV) :=
  [(256, [.str x0.name, .int .i64 x0.v.kind, .int .i64 x0.v.n, .str x0.v.s, .sl (Val.rows x0.v.list), .sl (Fld.rows x0.v.fields)])]
theorem Qwu (g : Fld → Fld → Int) (p0 : List Fld) (p1 : List Fld) (_H : Q7p g p0 p1) (_rec : Q3z g p0) (x0 : Fld) (i0 : Nat) (hx0 : p0[i0]? = some x0) (_hi0 : i0 < List.length p0) (hc0 : (decide ((i0 : Int) < ((List.length p0) : Int))) = true) (h0 : (decide (((List.length p1) : Int) ≤ (i0 : Int))) = true) : Q7l g p0 p1 (Q7z g p0 p1 i0) (.k1) := by
 exact ⟨(envF (Qk3 g p0 p1 i0 x0)), (zoF (Qea g p0 p1 i0 x0)), Qf VOK.nil (x := (.ret, Qj3 g p0 p1 (envF (Qk3 g p0 p1 i0 x0)) (zoF (Qea g p0 p1 i0 x0)))) [hB 0 hc0, hP 1 (Q10 6 (Fld.rows p0) i0 _ (Fld.Qg hx0) rfl), hP 6 (Qe (Fld.rows p1) (List.length p1) (Fld.Q8 p1)), hB 0 h0] [] (by kernel_rfl)⟩
theorem Qyb (g : Fld → Fld → Int) (p0 : List Fld) (p1 : List Fld) (H : Q7p g p0 p1) (rec : Q3z g p0) (x0 : Fld) (i0 : Nat) (hx0 : p0[i0]? = some x0) (hi0 : i0 < List.length p0) (hc0 : (decide ((i0 : Int) < ((List.length p0) : Int))) = true) (h0 : (decide (((List.length p1) : Int) ≤ (i0 : Int))) = false) (h1 : ((g x0 (List.getD p1 i0 zF)) == 0) = true) {r : Rs} (hr : Q7 G (Q7z g p0 p1 (i0 + 1)) r) : Q7 G (Q7z g p0 p1 i0) r := by
 have hB0 := H.1; have e0 := of_decide_eq_false h0; have e1 := eq_of_beq h1
 exact Qa VOK.nil (y := (Qr3 g p0 p1 (i0 + 1), Qqa g p0 p1 (i0 + 1))) [hB 0 hc0, hP 1 (Q10 6 (Fld.rows p0) i0 _ (Fld.Qg hx0) rfl), hP 6 (Qe (Fld.rows p1) (List.length p1) (Fld.Q8 p1)), hB 0 h0, hP 2 (Q55 6 (Fld.rows p1) (i0 : Int) _ (by omega) (Fld.Qg (Qu p1 (Int.toNat (i0 : Int)) zF (by omega))) rfl), hP 9 (dec (!((g x0 (List.getD p1 i0 zF)) == 0)) false (by rw [h1]; rfl)), hP 0 (Qr i0 (by omega))] [aN (rec x0 (Qt hx0) (List.getD p1 i0 zF))] (by kernel_rfl) hr
def Qlm (g : Fld → Fld → Int) (p0 : List Fld) (p1 : List Fld) (i0 : Nat) (x0 : Fld) : List PV :=
  [.sl (Fld.rows p0), .sl (Fld.rows p1), .fn 63 [] [], .un, .un, .un, .un, .int .i64 (i0 : Int), .bx 256 0, .bx 960 0, .int .i64 (g x0 (List.getD p1 i0 zF)), .sl (Fld.rows p0), .int .i64 ((List.length p0) : Int), .int .i64 (i0 : Int), .bool true, .int .i64 (i0 : Int), .rf [.str x0.name, .int .i64 x0.v.kind, .int .i64 x0.v.n, .str x0.v.s, .sl (Val.rows x0.v.list), .sl (Fld.rows x0.v.fields)], .agg [.str x0.name, .int .i64 x0.v.kind, .int .i64 x0.v.n, .str x0.v.s, .sl (Val.rows x0.v.list), .sl (Fld.rows x0.v.fields)], .int .i64 (i0 : Int), .sl (Fld.rows p1), .int .i64 ((List.length p1) : Int), .bool false, .sl (Fld.rows p1), .int .i64 (i0 : Int), .rf [.str (List.getD p1 i0 zF).name, .int .i64 (List.getD p1 i0 zF).v.kind, .int .i64 (List.getD p1 i0 zF).v.n, .str (List.getD p1 i0 zF).v.s, .sl (Val.rows (List.getD p1 i0 zF).v.list), .sl (Fld.rows (List.getD p1 i0 zF).v.fields)], .agg [.str (List.getD p1 i0 zF).name, .int .i64 (List.getD p1 i0 zF).v.kind, .int .i64 (List.getD p1 i0 zF).v.n, .str (List.getD p1 i0 zF).v.s, .sl (Val.rows (List.getD p1 i0 zF).v.list), .sl (Fld.rows (List.getD p1 i0 zF).v.fields)], .fn 63 [] [], .agg [.str x0.name, .int .i64 x0.v.kind, .int .i64 x0.v.n, .str x0.v.s, .sl (Val.rows x0.v.list), .sl (Fld.rows x0.v.fields)], .agg [.str (List.getD p1 i0 zF).name, .int .i64 (List.getD p1 i0 zF).v.kind, .int .i64 (List.getD p1 i0 zF).v.n, .str (List.getD p1 i0 zF).v.s, .sl (Val.rows (List.getD p1 i0 zF).v.list), .sl (Fld.rows (List.getD p1 i0 zF).v.fields)], .int .i64 (g x0 (List.getD p1 i0 zF)), .int .i64 (g x0 (List.getD p1 i0 zF)), .bool true, .int .i64 (g x0 (List.getD p1 i0 zF))]
def Qgc (_g : Fld → Fld → Int) (_p0 : List Fld) (p1 : List Fld) (i0 : Nat) (x0 : Fld) : List (Nat × List PV) :=
  [(256, [.str x0.name, .int .i64 x0.v.kind, .int .i64 x0.v.n, .str x0.v.s, .sl (Val.rows x0.v.list), .sl (Fld.rows x0.v.fields)]), (960, [.str (List.getD p1 i0 zF).name, .int .i64 (List.getD p1 i0 zF).v.kind, .int .i64 (List.getD p1 i0 zF).v.n, .str (List.getD p1 i0 zF).v.s, .sl (Val.rows (List.getD p1 i0 zF).v.list), .sl (Fld.rows (List.getD p1 i0 zF).v.fields)])]
theorem Qzj (g : Fld → Fld → Int) (p0 : List Fld) (p1 : List Fld) (H : Q7p g p0 p1) (rec : Q3z g p0) (x0 : Fld) (i0 : Nat) (hx0 : p0[i0]? = some x0) (_hi0 : i0 < List.length p0) (hc0 : (decide ((i0 : Int) < ((List.length p0) : Int))) = true) (h0 : (decide (((List.length p1) : Int) ≤ (i0 : Int))) = false) (h1 : ((g x0 (List.getD p1 i0 zF)) == 0) = false) : Q7l g p0 p1 (Q7z g p0 p1 i0) (.k2 (g x0 (List.getD p1 i0 zF))) := by
 have hB0 := H.1; have e0 := of_decide_eq_false h0; have e1 := beq_eq_false_iff_ne.1 h1
 exact ⟨(envF (Qlm g p0 p1 i0 x0)), (zoF (Qgc g p0 p1 i0 x0)), Qf VOK.nil (x := (.ret, Qjh g p0 p1 (g x0 (List.getD p1 i0 zF)) (envF (Qlm g p0 p1 i0 x0)) (zoF (Qgc g p0 p1 i0 x0)))) [hB 0 hc0, hP 1 (Q10 6 (Fld.rows p0) i0 _ (Fld.Qg hx0) rfl), hP 6 (Qe (Fld.rows p1) (List.length p1) (Fld.Q8 p1)), hB 0 h0, hP 2 (Q55 6 (Fld.rows p1) (i0 : Int) _ (by omega) (Fld.Qg (Qu p1 (Int.toNat (i0 : Int)) zF (by omega))) rfl), hP 9 (dec (!((g x0 (List.getD p1 i0 zF)) == 0)) true (by rw [h1]; rfl))] [aN (rec x0 (Qt hx0) (List.getD p1 i0 zF))] (by kernel_rfl)⟩
theorem Qqk (g : Fld → Fld → Int) (p0 : List Fld) (p1 : List Fld) (H : Q7p g p0 p1) (rec : Q3z g p0) : ∀ (r0 : List Fld) (i0 : Nat), List.drop i0 p0 = r0 → Q7l g p0 p1 (Q7z g p0 p1 i0) (Q45 g p0 p1 r0 i0)
 | [], i0, hd => by
  have hc0 : (decide ((i0 : Int) < ((List.length p0) : Int))) = false := by have := Q1d hd; simp; omega
  rw [Q45]
  exact Qxe g p0 p1 H rec i0 hc0
 | x0 :: r0, i0, hd => by
  obtain ⟨hx0, hi0, hd'⟩ := Qz hd
  have hc0 : (decide ((i0 : Int) < ((List.length p0) : Int))) = true := by simp; omega
  rw [Q45]
  cases h0 : (decide (((List.length p1) : Int) ≤ (i0 : Int))) with
  | true =>
   exact Qwu g p0 p1 H rec x0 i0 hx0 hi0 hc0 h0
  | false =>
   cases h1 : ((g x0 (List.getD p1 i0 zF)) == 0) with
   | true =>
    exact Qnh g p0 p1 (fun r hr => Qyb g p0 p1 H rec x0 i0 hx0 hi0 hc0 h0 h1 hr) _ (Qqk g p0 p1 H rec r0 (i0 + 1) hd')
   | false =>
    exact Qzj g p0 p1 H rec x0 i0 hx0 hi0 hc0 h0 h1
def Q5n (g : Fld → Fld → Int) (p0 : List Fld) (p1 : List Fld) : Int :=
 (match (Q45 g p0 p1 p0 0) with
 | .k0 => bif (decide (((List.length p0) : Int) < ((List.length p1) : Int))) then
   (-1)
  else
   0
 | .k1 => 1
 | .k2 y0_0 => y0_0)
def Q12b (p0 : List Fld) (p1 : List Fld) : En := .call 62 [.sl (Fld.rows p0), .sl (Fld.rows p1), .fn 63 [] []] []
def Qrl (g : Fld → Fld → Int) (p0 : List Fld) (p1 : List Fld) : Rs := .ret (.int .i64 (Q5n g p0 p1)) []
def Qt7 (g : Fld → Fld → Int) (p0 : List Fld) (p1 : List Fld) : Prop := (Q7p g p0 p1) ∧ True
theorem Q12c (g : Fld → Fld → Int) (p0 : List Fld) (p1 : List Fld) (H : Qt7 g p0 p1) (rec : Q3z g p0) : Q7 G (Q12b p0 p1) (Qrl g p0 p1) := by
 unfold Qrl Q5n
 have hl0 := Qqk g p0 p1 (H.1) rec p0 0 (by simp)
 cases hr0 : (Q45 g p0 p1 p0 0) with
 | k0 =>
  rw [hr0] at hl0
  obtain ⟨z0, zo0, hl0⟩ := hl0
  try dsimp only
  cases h0 : (decide (((List.length p0) : Int) < ((List.length p1) : Int))) with
  | true =>
   exact Q9 (fn := Ir.K17) rfl VOK.nil [hP 2 (Qe (Fld.rows p0) (List.length p0) (Fld.Q8 p0)), hP 2 (Qe (Fld.rows p0) (List.length p0) (Fld.Q8 p0)), hP 1 (Qe (Fld.rows p1) (List.length p1) (Fld.Q8 p1)), hB 0 h0] [aN hl0] (by kernel_rfl)
  | false =>
   exact Q9 (fn := Ir.K17) rfl VOK.nil [hP 2 (Qe (Fld.rows p0) (List.length p0) (Fld.Q8 p0)), hP 2 (Qe (Fld.rows p0) (List.length p0) (Fld.Q8 p0)), hP 1 (Qe (Fld.rows p1) (List.length p1) (Fld.Q8 p1)), hB 0 h0] [aN hl0] (by kernel_rfl)
 | k1 =>
  rw [hr0] at hl0
  obtain ⟨z0, zo0, hl0⟩ := hl0
  exact Q9 (fn := Ir.K17) rfl VOK.nil [hP 2 (Qe (Fld.rows p0) (List.length p0) (Fld.Q8 p0))] [aN hl0] (by kernel_rfl)
 | k2 y0_0 =>
  rw [hr0] at hl0
  obtain ⟨z0, zo0, hl0⟩ := hl0
  exact Q9 (fn := Ir.K17) rfl VOK.nil [hP 2 (Qe (Fld.rows p0) (List.length p0) (Fld.Q8 p0))] [aN hl0] (by kernel_rfl)
theorem Q17v (p0 p1 : List Val) : ∀ (l : List Val) (i : Nat), p0.length = i + l.length → (match Q47 Q26 p0 p1 l i with | .k0 => bif decide (((List.length p0) : Int) < ((List.length p1) : Int)) then (-1 : Int) else 0 | .k1 => 1 | .k2 q => q) = lcV l (p1.drop i)
  | [], i, h => by
    rw [Q47]
    simp only [List.length_nil, Nat.add_zero] at h
    cases e : p1.drop i with
    | nil =>
      have := List.drop_eq_nil_iff.1 e
      rw [lcV, show decide (((List.length p0) : Int) < ((List.length p1) : Int)) = false by simp; omega]
      rfl
    | cons y m =>
      have : i < p1.length := by
        apply Decidable.byContradiction
        intro hn
        rw [List.drop_eq_nil_of_le (by omega)] at e
        cases e
      rw [lcV, show decide (((List.length p0) : Int) < ((List.length p1) : Int)) = true by simp; omega]
      rfl
  | x :: l, i, h => by
    rw [Q47]
    by_cases c : p1.length ≤ i
    · rw [show decide (((List.length p1) : Int) ≤ (i : Int)) = true by simpa using c, cond_true, List.drop_eq_nil_of_le c, lcV]
    · rw [show decide (((List.length p1) : Int) ≤ (i : Int)) = false by simpa using c, cond_false]
      have hl : i < p1.length := by omega
      rw [List.drop_eq_getElem_cons hl, lcV, List.getD_eq_getElem?_getD, List.getElem?_eq_getElem hl, Option.getD_some]
      cases Q26 x p1[i] == 0 with
      | true => exact Q17v p0 p1 l (i + 1) (by simp at h; omega)
      | false => rfl
theorem eqV (p0 p1 : List Val) : lcV p0 p1 = Q5m Q26 p0 p1 := by
  have h := Q17v p0 p1 p0 0 (by simp)
  rw [List.drop_zero] at h
  rw [← h]
  unfold Q5m
  cases Q47 Q26 p0 p1 p0 0 <;> rfl
theorem Q171 (p0 p1 : List Fld) : ∀ (l : List Fld) (i : Nat), p0.length = i + l.length → (match Q45 Qht p0 p1 l i with | .k0 => bif decide (((List.length p0) : Int) < ((List.length p1) : Int)) then (-1 : Int) else 0 | .k1 => 1 | .k2 q => q) = lcF l (p1.drop i)
  | [], i, h => by
    rw [Q45]
    simp only [List.length_nil, Nat.add_zero] at h
    cases e : p1.drop i with
    | nil =>
      have := List.drop_eq_nil_iff.1 e
      rw [lcF, show decide (((List.length p0) : Int) < ((List.length p1) : Int)) = false by simp; omega]
      rfl
    | cons y m =>
      have : i < p1.length := by
        apply Decidable.byContradiction
        intro hn
        rw [List.drop_eq_nil_of_le (by omega)] at e
        cases e
      rw [lcF, show decide (((List.length p0) : Int) < ((List.length p1) : Int)) = true by simp; omega]
      rfl
  | x :: l, i, h => by
    rw [Q45]
    by_cases c : p1.length ≤ i
    · rw [show decide (((List.length p1) : Int) ≤ (i : Int)) = true by simpa using c, cond_true, List.drop_eq_nil_of_le c, lcF]
    · rw [show decide (((List.length p1) : Int) ≤ (i : Int)) = false by simpa using c, cond_false]
      have hl : i < p1.length := by omega
      rw [List.drop_eq_getElem_cons hl, lcF, List.getD_eq_getElem?_getD, List.getElem?_eq_getElem hl, Option.getD_some, Qht]
      cases s_K1 [Qc1 x.name p1[i].name, Q26 x.v p1[i].v] == 0 with
      | true => exact Q171 p0 p1 l (i + 1) (by simp at h; omega)
      | false => rfl
theorem eqF (p0 p1 : List Fld) : lcF p0 p1 = Q5n Qht p0 p1 := by
  have h := Q171 p0 p1 p0 0 (by simp)
  rw [List.drop_zero] at h
  rw [← h]
  unfold Q5n
  cases Q45 Qht p0 p1 p0 0 <;> rfl
theorem Q1ch (p0 : Val) (p1 : Val) : Q26 p0 p1 = ((s_K1 ([(s_K0 p0.kind p1.kind), (s_K0 p0.n p1.n), (Qc1 p0.s p1.s), (Q5m Q26 p0.list p1.list), (Q5n Qht p0.fields p1.fields)]))) := by
  rw [Q26, eqV, eqF]
abbrev Qzg (p0 : Val) : Prop := Val.Sm 4611686018427387904 p0
def Q18c (p0 : Val) : Prop := ∀ (q : Val), SizeOf.sizeOf q < SizeOf.sizeOf p0 → ∀ (p1 : Val), Qzg q → Q7 G (Q12t q p1) (Qz7 q p1)
theorem Qvx (p0 : Val) (p1 : Val) (H : Qzg p0) : (Qpz Q26 p0.list p1.list) ∧ (Qt7 Qht p0.fields p1.fields) ∧ True := by
  obtain ⟨h1, h2, h3, h4⟩ := H.all
  exact ⟨⟨⟨h1, trivial⟩, trivial⟩, ⟨⟨h2, trivial⟩, trivial⟩, trivial⟩
theorem Q1cw (p0 : Val) (p1 : Val) (H : Qzg p0) (rec : Q18c p0) : Q7 G (Q12t p0 p1) (Qz7 p0 p1) := by
  unfold Qz7
  rw [Q1ch]
  exact Q9 (fn := Ir.K1h) rfl VOK.nil [] [aN (t_K0 p0.kind p1.kind), aN (t_K0 p0.n p1.n), aN (Q185 p0.s p1.s), aN (Q116 Q26 p0.list p1.list (Qvx p0 p1 H).1 (fun x hx y => rec x (szM hx) y (H.all.2.2.1 x hx))), aN (Q12c Qht p0.fields p1.fields (Qvx p0 p1 H).2.1 (fun x hx y => Q1dk x y (rec x.v (szN hx) y.v (H.all.2.2.2 x hx)))), aN (t_K1 ([(s_K0 p0.kind p1.kind), (s_K0 p0.n p1.n), (Qc1 p0.s p1.s), (Q5m Q26 p0.list p1.list), (Q5n Qht p0.fields p1.fields)]) (by simp [H_K1, Q91]))] (by kernel_rfl)
theorem Q1ad : ∀ (k : Nat) (p0 : Val), SizeOf.sizeOf p0 < k → ∀ (p1 : Val), Qzg p0 → Q7 G (Q12t p0 p1) (Qz7 p0 p1)
  | 0, _, h, _, _ => absurd h (Nat.not_lt_zero _)
  | k + 1, p0, h, p1, H => Q1cw p0 p1 H (fun q hq p1 hH => Q1ad k q (by omega) p1 hH)
theorem Q1ce (p0 : Val) (p1 : Val) (H : Qzg p0) : Q7 G (Q12t p0 p1) (Qz7 p0 p1) := Q1ad _ p0 (Nat.lt_succ_self _) p1 H
def Q5p (p0 : Val) (p1 : Val) : Bool :=
 ((Q26 p0 p1) == 0)
def Q1d2 (p0 : Val) (p1 : Val) : En := .call 34 [.agg (Val.cells p0), .agg (Val.cells p1)] []
def Q1a2 (p0 : Val) (p1 : Val) : Rs := .ret (.bool (Q5p p0 p1)) []
def Q18p (p0 : Val) (_p1 : Val) : Prop := (Qzg p0) ∧ True
theorem Q16m (p0 : Val) (p1 : Val) (H : Q18p p0 p1) : Q7 G (Q1d2 p0 p1) (Q1a2 p0 p1) := by
 unfold Q1a2 Q5p
 exact Q9 (fn := Ir.K1j) rfl VOK.nil [] [aN (Q1ce p0 p1 H.1)] (by kernel_rfl)
end Go.Proofs.Ytnhhddbbppbblaa
end

section
/- Parts of a slice of one's own, and appends of them. -/
namespace Go.Pv
def slmE (id sz n : Nat) (lo hi : Option Int) : Option Eff := (opP (fun _ => .un) (.slice sz (.c (.ms id sz 0 n)) (optI lo) (optI hi) none)).bind fun v => some ⟨v, [], []⟩
theorem Q15u (id sz n : Nat) (k : Int) (h0 : 0 ≤ k) (h1 : k ≤ (n : Int)) : slmE id sz n none (some k) = some (vE (.ms id sz 0 k.toNat)) := by
 unfold slmE
 simp only [opP, optI, Opd.ev, Q3r, asNat, Option.bind_some]
 have e0 : decide (0 ≤ k) = true := by simpa using h0
 rw [e0]
 simp only [cond_true, Option.bind_some]
 have e1 : (Nat.beq sz sz && Nat.ble 0 k.toNat && Nat.ble k.toNat n) = true := by
  rw [Nat.ble_eq_true_of_le (Nat.zero_le _), Nat.ble_eq_true_of_le (show k.toNat ≤ n by omega), Nat.beq_refl]
  rfl
 rw [e1]
 simp [vE]
theorem Q167 (id sz n : Nat) (k : Int) (h0 : 0 ≤ k) (h1 : k ≤ (n : Int)) : slmE id sz n (some k) none = some (vE (.ms id sz k.toNat (n - k.toNat))) := by
 unfold slmE
 simp only [opP, optI, Opd.ev, Q3r, asNat, Option.bind_some]
 have e0 : decide (0 ≤ k) = true := by simpa using h0
 rw [e0]
 simp only [cond_true, Option.bind_some]
 have e1 : (Nat.beq sz sz && Nat.ble k.toNat n && Nat.ble n n) = true := by
  rw [Nat.ble_eq_true_of_le (show k.toNat ≤ n by omega), Nat.ble_eq_true_of_le (Nat.le_refl n), Nat.beq_refl]
  rfl
 rw [e1]
 simp [vE]
end Go.Pv
end

section
/- Slices that are made with a length: their rows. -/
namespace Go.Pv
end Go.Pv
end

section
/- Rows of one's own: cleared behind a place, appended to from a place on. -/
namespace Go.Pv
theorem Qdq {sz : Nat} : ∀ (rows : List (List PV)) (k : Nat), (∀ r ∈ rows, r.length = sz) → rows.flatten.take (k * sz) = (rows.take k).flatten
 | [], k, _ => by simp
 | r :: rs, 0, _ => by simp
 | r :: rs, k + 1, h => by
  have hr := h r List.mem_cons_self
  rw [List.flatten_cons, List.take_succ_cons, List.flatten_cons, ← Qdq rs k (fun q hq => h q (List.mem_cons_of_mem _ hq)), show (k + 1) * sz = r.length + k * sz by rw [hr, Nat.add_mul]; omega, List.take_length_add_append]
theorem Qvw (z : List PV) : ∀ n : Nat, rep z n = (List.replicate n z).flatten
 | 0 => rfl
 | n + 1 => by rw [rep, Qvw z n, List.replicate_succ, List.flatten_cons]
def clrE (id sz : Nat) (gr : Bool) (cells z : List PV) (K n : Nat) : Option Eff := Q8d (look [(id, ⟨sz, 0, gr, cells⟩)]) sz z (.ms id sz K n)
theorem Q190 (id sz : Nat) (gr : Bool) (rows rows' : List (List PV)) (K n : Nat) (z : List PV) (hs : ∀ r ∈ rows, r.length = sz) (hl : K + n = rows.length) (hn : 0 < n) (hr : rows' = rows.take K) (hz : z.length = sz := by rfl) :
  clrE id sz gr rows.flatten z K n = some ⟨.tup [], [(id, some ⟨sz, 0, gr, rows'.flatten⟩)], [id]⟩ := by
 subst hr
 obtain ⟨k, rfl⟩ : ∃ k, n = k + 1 := ⟨n - 1, by omega⟩
 have h1 : (rep z (k + 1)).length = (k + 1) * sz := by
  rw [Qvw, Q3d sz _ (fun r hr => by rw [(List.mem_replicate.1 hr).2]; exact hz), List.length_replicate]
 have h2 : rows.flatten.length = rows.length * sz := Q3d sz rows hs
 have h3 : K * sz + (k + 1) * sz = rows.flatten.length := by rw [h2, ← hl, ← Nat.add_mul]
 unfold clrE Q8d clC
 simp only [look, Nat.beq_refl, cond_true, Option.bind_some, hz]
 rw [Nat.ble_eq_true_of_le (Nat.zero_le _), Nat.ble_eq_true_of_le (show (K + (k + 1)) * sz ≤ rows.flatten.length by rw [Nat.add_mul]; omega), h1, h3, Nat.beq_refl, Qdq rows K hs]
 rfl
theorem Q16s {sz : Nat} {gr : Bool} {rows : List (List PV)} {n : Nat} (hs : ∀ r ∈ rows, r.length = sz) (h : n ≤ rows.length) : apC ⟨sz, 0, gr, rows.flatten⟩ (n * sz) = some (rows.take n).flatten := by
 have h2 : rows.flatten.length = rows.length * sz := Q3d sz rows hs
 have h3 := Qdq rows n hs
 unfold apC
 cases e : Nat.beq rows.flatten.length (n * sz) with
 | true =>
  have e := Nat.eq_of_beq_eq_true e
  rw [cond_true, ← h3, ← e, List.take_length]
 | false =>
  have : n * sz ≤ rows.length * sz := Nat.mul_le_mul_right _ h
  rw [cond_false, Nat.ble_eq_true_of_le (by show n * sz ≤ rows.flatten.length; omega), Nat.ble_eq_true_of_le (Nat.zero_le _), h3]
  rfl
def aptE (id lid fr sz bytes lro : Nat) (lgr : Bool) (rows : List (List PV)) (r : List PV) (n : Nat) : Option Eff :=
 Q46 (look [(id, ⟨sz, 0, true, rows.flatten⟩), (lid, ⟨sz, lro, lgr, r⟩)]) fr sz bytes (.ms id sz 0 n) (.ms lid sz 0 1)
theorem Q17p (id lid fr sz bytes lro : Nat) (lgr : Bool) (rows rows' : List (List PV)) (r : List PV) (n n' : Nat) (hne : Nat.beq id lid = false) (hle : n ≤ rows.length) (hn' : n' = rows'.length) (hr' : rows' = rows.take n ++ [r])
  (hs : ∀ r ∈ rows, r.length = sz) (hr : r.length = sz) (hb : (n + 1) * bytes ≤ 140737488355328) :
  aptE id lid fr sz bytes lro lgr rows r n = some ⟨.ms fr sz 0 n', [(id, none), (fr, some ⟨sz, 0, true, rows'.flatten⟩)], [id, lid]⟩ := by
 subst hn' hr'
 unfold aptE Q46
 have h1 : look [(id, (⟨sz, 0, true, rows.flatten⟩ : Ob)), (lid, ⟨sz, lro, lgr, r⟩)] lid = some ⟨sz, lro, lgr, r⟩ := by simp [look, hne]
 have h2 : look [(id, (⟨sz, 0, true, rows.flatten⟩ : Ob)), (lid, ⟨sz, lro, lgr, r⟩)] id = some ⟨sz, 0, true, rows.flatten⟩ := by simp [look]
 have hsrc : source (look [(id, (⟨sz, 0, true, rows.flatten⟩ : Ob)), (lid, ⟨sz, lro, lgr, r⟩)]) sz (.ms lid sz 0 1) = some (1, r, [lid]) := by
  simp only [source, h1, Option.bind_some]
  subst hr
  have : Nat.ble r.length r.length = true := Nat.ble_eq_true_of_le (Nat.le_refl _)
  simp [this]
 rw [hsrc, Option.bind_some]
 simp only [h2, Option.bind_some]
 have hc : (true && Nat.beq sz sz && Nat.beq sz sz && Nat.beq 0 0 && Nat.ble ((n + 1) * bytes) 140737488355328) = true := by
  simp only [Nat.beq_refl, Bool.and_true, Bool.true_and]
  exact Nat.ble_eq_true_of_le hb
 rw [hc, Q16s hs hle]
 have hl : (rows.take n ++ [r]).length = n + 1 := by
  rw [List.length_append, List.length_take]
  simp
  omega
 rw [hl]
 simp
theorem Val.Q4y (l : List Val) (k : Nat) (x : Val) : Val.rows (l.set k x) = (Val.rows l).set k (Val.cells x) := by simp [Val.Q2i, List.map_set]
theorem Fld.Q4y (l : List Fld) (k : Nat) (x : Fld) : Fld.rows (l.set k x) = (Fld.rows l).set k (Fld.cells x) := by simp [Fld.Q2i, List.map_set]
theorem Q113 {l : List (List PV)} {k : Nat} {r : List PV} (h : l[k]? = some r) : l = l.set k r := by
  apply List.ext_getElem?
  intro i
  rw [List.getElem?_set]
  by_cases e : k = i
  · subst e
    rw [if_pos rfl, h, if_pos (List.getElem?_eq_some_iff.1 h).1]
  · rw [if_neg e]
end Go.Pv
end

section
/- What taking fields out and copying values compute (printed by a program). -/
namespace Go.Proofs.Ytnhhddbbppbblaa
open Go.Pv
def Q19j (p0 : Val) : Val := p0
def Qvi (p0 : Val) : List Val → Nat → Unit
 | [], _i0 =>
  ()
 | _x0 :: r0, i0 =>
  Qvi p0 r0 (i0 + 1)
def Qpc (p0 : Val) (i0 : Nat) : List PV :=
  [.un, .bx 0 0, .bx 1 0, .un, .un, .un, .un, .un, .un, .un, .un, .un, .ms 2 5 0 (List.length p0.list), .int .i64 ((List.length p0.list) : Int), .int .i64 (i0 : Int), .un, .un, .un, .un, .un, .un, .un, .un, .un, .un, .un, .un, .un, .un, .un, .un, .un, .un, .un, .un, .un, .un, .un, .un, .un, .un, .un, .un, .un, .un, .un, .un, .un]
def Qge (p0 : Val) (_i0 : Nat) : List Ob :=
  [⟨5, 0, true, [.int .i64 p0.kind, .int .i64 p0.n, .str p0.s, .ms 2 5 0 (List.length p0.list), .sl (Fld.rows p0.fields)]⟩, ⟨5, 0, true, [.int .i64 0, .int .i64 0, .str eB, .ms 3 5 0 0, .ms 4 6 0 0]⟩, ⟨5, 0, true, (Val.rows p0.list).flatten⟩, ⟨5, 0, true, []⟩, ⟨6, 0, true, []⟩]
def Qd4 (p0 : Val) (i0 : Nat) : En := .loop 0 Ir.Qgn Ir.Q17o (Qpc p0 i0) (Qge p0 i0)
def Qku (p0 : Val) (z : Nat → PV) (_zo : Nat → List PV) : St :=
  ⟨[z 0, .bx 0 0, .bx 1 0, z 3, z 4, z 5, z 6, z 7, z 8, z 9, z 10, z 11, z 12, z 13, z 14, z 15, z 16, z 17, z 18, z 19, z 20, z 21, z 22, z 23, z 24, z 25, z 26, z 27, z 28, z 29, z 30, z 31, z 32, z 33, z 34, z 35, z 36, z 37, z 38, z 39, z 40, z 41, z 42, z 43, z 44, z 45, z 46, z 47], [(0, ⟨5, 0, true, [.int .i64 p0.kind, .int .i64 p0.n, .str p0.s, .ms 2 5 0 (List.length p0.list), .sl (Fld.rows p0.fields)]⟩), (1, ⟨5, 0, true, [.int .i64 0, .int .i64 0, .str eB, .ms 3 5 0 0, .ms 4 6 0 0]⟩), (2, ⟨5, 0, true, (Val.rows p0.list).flatten⟩), (3, ⟨5, 0, true, []⟩), (4, ⟨6, 0, true, []⟩)], 69⟩
theorem Quv (p0 : Val) (i0 : Nat) : VOK (Go.Pv.look (number 0 (Qge p0 i0))) [(2, Val.rows p0.list)] := (VOK.cons (show Seen _ _ from Q3v (ob := ⟨5, 0, true, (Val.rows p0.list).flatten⟩) (Val.Q5 p0.list 5 rfl)) VOK.nil)
def Q7w (p0 : Val) (e : En) (_q : Unit) : Prop := ∃ z zo, Q7 G e (.st (.exit 0) (Qku p0 z zo))
theorem Qmu (p0 : Val) {e e' : En} (h : ∀ r, Q7 G e r → Q7 G e' r) : ∀ q, Q7w p0 e q → Q7w p0 e' q
  | _, ⟨z, zo, hz⟩ => ⟨z, zo, h _ hz⟩
def Qwt (p0 : Val) : List Fld → Nat → Unit
 | [], _i1 =>
  ()
 | _x1 :: r1, i1 =>
  Qwt p0 r1 (i1 + 1)
def Qsz (p0 : Val) (i1 : Nat) : List PV :=
  [.un, .bx 0 0, .bx 1 0, .un, .un, .un, .un, .un, .un, .un, .un, .un, .un, .un, .un, .un, .un, .un, .un, .un, .un, .un, .un, .un, .un, .un, .un, .un, .un, .un, .un, .ms 2 6 0 (List.length p0.fields), .int .i64 ((List.length p0.fields) : Int), .int .i64 (i1 : Int), .un, .un, .un, .un, .un, .un, .un, .un, .un, .un, .un, .un, .un, .un]
def Qe6 (p0 : Val) (_i1 : Nat) : List Ob :=
  [⟨5, 0, true, [.int .i64 p0.kind, .int .i64 p0.n, .str p0.s, .ms 3 5 0 (List.length p0.list), .ms 2 6 0 (List.length p0.fields)]⟩, ⟨5, 0, true, [.int .i64 0, .int .i64 0, .str eB, .ms 4 5 0 0, .ms 5 6 0 0]⟩, ⟨6, 0, true, (Fld.rows p0.fields).flatten⟩, ⟨5, 0, true, (Val.rows p0.list).flatten⟩, ⟨5, 0, true, []⟩, ⟨6, 0, true, []⟩]
def Qcy (p0 : Val) (i1 : Nat) : En := .loop 0 Ir.Qe7 Ir.Q17n (Qsz p0 i1) (Qe6 p0 i1)
def Ql5 (p0 : Val) (z : Nat → PV) (_zo : Nat → List PV) : St :=
  ⟨[z 0, .bx 0 0, .bx 1 0, z 3, z 4, z 5, z 6, z 7, z 8, z 9, z 10, z 11, z 12, z 13, z 14, z 15, z 16, z 17, z 18, z 19, z 20, z 21, z 22, z 23, z 24, z 25, z 26, z 27, z 28, z 29, z 30, z 31, z 32, z 33, z 34, z 35, z 36, z 37, z 38, z 39, z 40, z 41, z 42, z 43, z 44, z 45, z 46, z 47], [(0, ⟨5, 0, true, [.int .i64 p0.kind, .int .i64 p0.n, .str p0.s, .ms 3 5 0 (List.length p0.list), .ms 2 6 0 (List.length p0.fields)]⟩), (1, ⟨5, 0, true, [.int .i64 0, .int .i64 0, .str eB, .ms 4 5 0 0, .ms 5 6 0 0]⟩), (2, ⟨6, 0, true, (Fld.rows p0.fields).flatten⟩), (3, ⟨5, 0, true, (Val.rows p0.list).flatten⟩), (4, ⟨5, 0, true, []⟩), (5, ⟨6, 0, true, []⟩)], 70⟩
theorem Qw2 (p0 : Val) (i1 : Nat) : VOK (Go.Pv.look (number 0 (Qe6 p0 i1))) [(2, Fld.rows p0.fields), (3, Val.rows p0.list)] := (VOK.cons (show Seen _ _ from Q3v (ob := ⟨6, 0, true, (Fld.rows p0.fields).flatten⟩) (Fld.Q5 p0.fields 6 rfl)) (VOK.cons (show Seen _ _ from Q3v (ob := ⟨5, 0, true, (Val.rows p0.list).flatten⟩) (Val.Q5 p0.list 5 rfl)) VOK.nil))
def Q7n (p0 : Val) (e : En) (_q : Unit) : Prop := ∃ z zo, Q7 G e (.st (.exit 2) (Ql5 p0 z zo))
theorem Qmi (p0 : Val) {e e' : En} (h : ∀ r, Q7 G e r → Q7 G e' r) : ∀ q, Q7n p0 e q → Q7n p0 e' q
  | _, ⟨z, zo, hz⟩ => ⟨z, zo, h _ hz⟩
theorem Q1c7 (p0 : Val) : Q19j p0 = (p0) := by
  rfl
def Q16p (p0 : Val) : En := .call 45 [.agg (Val.cells p0)] []
def Q149 (p0 : Val) : Rs := .ret (.agg (Val.cells (Q19j p0))) []
abbrev Qhu (p0 : Val) : Prop := Val.Sm 1000000000 p0
def Q92 (p0 : Val) : Prop := ∀ (q : Val), SizeOf.sizeOf q < SizeOf.sizeOf p0 → Qhu q → Q7 G (Q16p q) (Q149 q)
def Qc7 (p0 : Val) : Prop := (List.length p0.list ≤ 4611686018427387904) ∧ (∀ x0 ∈ p0.list, Qhu x0) ∧ True
def Qd5 (p0 : Val) : Prop := (List.length p0.fields ≤ 4611686018427387904) ∧ (∀ x1 ∈ p0.fields, Qhu x1.v) ∧ True
theorem Qc9 (p0 : Val) (H : Qhu p0) : (List.length p0.list * 80 ≤ 140737488355328) ∧ (Qc7 p0) ∧ (List.length p0.fields * 96 ≤ 140737488355328) ∧ (Qd5 p0) ∧ True := by
  obtain ⟨h1, h2, h3, h4⟩ := H.all
  exact ⟨by omega, ⟨by omega, h3, trivial⟩, by omega, ⟨by omega, h4, trivial⟩, trivial⟩
def Qia (p0 : Val) (i0 : Nat) : List PV :=
  [.un, .un, .un, .un, .un, .un, .un, .un, .un, .un, .un, .un, .ms 2 5 0 (List.length p0.list), .int .i64 ((List.length p0.list) : Int), .int .i64 (i0 : Int), .bool false]
def Qhd (_p0 : Val) (_i0 : Nat) : List (Nat × List PV) :=
  []
theorem Qyc (p0 : Val) (_H : Qc7 p0) (_rec : Q92 p0) (i0 : Nat) (hc0 : (decide ((i0 : Int) < ((List.length p0.list) : Int))) = false) : Q7w p0 (Qd4 p0 i0) () := by
 exact ⟨(envF (Qia p0 i0)), (zoF (Qhd p0 i0)), Qf (Quv p0 i0) (x := ((.exit 0), Qku p0 (envF (Qia p0 i0)) (zoF (Qhd p0 i0)))) [hB 0 hc0] [] (by kernel_rfl)⟩
theorem Qyj (p0 : Val) (H : Qc7 p0) (rec : Q92 p0) (x0 : Val) (i0 : Nat) (hx0 : p0.list[i0]? = some x0) (hi0 : i0 < List.length p0.list) (hc0 : (decide ((i0 : Int) < ((List.length p0.list) : Int))) = true) {r : Rs} (hr : Q7 G (Qd4 p0 (i0 + 1)) r) : Q7 G (Qd4 p0 i0) r := by
 have hB0 := H.1
 exact Qa (Quv p0 i0) (y := (Qpc p0 (i0 + 1), Qge p0 (i0 + 1))) [hB 0 hc0, hP 1 (Q1m 2 5 (List.length p0.list) (i0 : Int) i0 (by omega) (by omega) (by omega)), hP 0 (Q31 2 5 0 true ((Val.rows p0.list).flatten) (Val.rows p0.list) 5 true i0 0 (i0 * 5) (Val.cells x0) (.agg [.int .i64 x0.kind, .int .i64 x0.n, .str x0.s, .sl (Val.rows x0.list), .sl (Fld.rows x0.fields)]) rfl rfl (Val.Qg hx0) (Val.Ql p0.list) (by decide) rfl), hP 8 (Q1m 2 5 (List.length p0.list) (i0 : Int) i0 (by omega) (by omega) (by omega)), hV 0 [(2, Val.rows p0.list)] (Qfd 2 5 true ((Val.rows p0.list).flatten) (Val.rows p0.list) (Val.rows p0.list) 5 i0 0 (i0 * 5) _ (.agg [.int .i64 x0.kind, .int .i64 x0.n, .str x0.s, .sl (Val.rows x0.list), .sl (Fld.rows x0.fields)]) rfl rfl (Val.Qg hx0) (Val.Ql p0.list) (by decide) rfl rfl (Q113 (Val.Qg hx0))), hS 0 true (Val.Q5 p0.list 5 rfl), hP 0 (Qr i0 (by omega))] [aN (rec x0 (szL hx0) (H.2.1 x0 (Qt hx0)))] (by kernel_rfl) hr
theorem Qrk (p0 : Val) (H : Qc7 p0) (rec : Q92 p0) : ∀ (r0 : List Val) (i0 : Nat), List.drop i0 p0.list = r0 → Q7w p0 (Qd4 p0 i0) (Qvi p0 r0 i0)
 | [], i0, hd => by
  have hc0 : (decide ((i0 : Int) < ((List.length p0.list) : Int))) = false := by have := Q1d hd; simp; omega
  show Q7w p0 _ ()
  exact Qyc p0 H rec i0 hc0
 | x0 :: r0, i0, hd => by
  obtain ⟨hx0, hi0, hd'⟩ := Qz hd
  have hc0 : (decide ((i0 : Int) < ((List.length p0.list) : Int))) = true := by simp; omega
  show Q7w p0 _ ()
  exact Qmu p0 (fun r hr => Qyj p0 H rec x0 i0 hx0 hi0 hc0 hr) _ (Qrk p0 H rec r0 (i0 + 1) hd')
def Qjo (p0 : Val) (i1 : Nat) : List PV :=
  [.un, .un, .un, .un, .un, .un, .un, .un, .un, .un, .un, .un, .un, .un, .un, .un, .un, .un, .un, .un, .un, .un, .un, .un, .un, .un, .un, .un, .un, .un, .un, .ms 2 6 0 (List.length p0.fields), .int .i64 ((List.length p0.fields) : Int), .int .i64 (i1 : Int), .bool false]
def Qdh (_p0 : Val) (_i1 : Nat) : List (Nat × List PV) :=
  []
theorem Qz2 (p0 : Val) (_H : Qd5 p0) (_rec : Q92 p0) (i1 : Nat) (hc1 : (decide ((i1 : Int) < ((List.length p0.fields) : Int))) = false) : Q7n p0 (Qcy p0 i1) () := by
 exact ⟨(envF (Qjo p0 i1)), (zoF (Qdh p0 i1)), Qf (Qw2 p0 i1) (x := ((.exit 2), Ql5 p0 (envF (Qjo p0 i1)) (zoF (Qdh p0 i1)))) [hB 0 hc1] [] (by kernel_rfl)⟩
theorem Q10e (p0 : Val) (H : Qd5 p0) (rec : Q92 p0) (x1 : Fld) (i1 : Nat) (hx1 : p0.fields[i1]? = some x1) (hi1 : i1 < List.length p0.fields) (hc1 : (decide ((i1 : Int) < ((List.length p0.fields) : Int))) = true) {r : Rs} (hr : Q7 G (Qcy p0 (i1 + 1)) r) : Q7 G (Qcy p0 i1) r := by
 have hB0 := H.1
 exact Qa (Qw2 p0 i1) (y := (Qsz p0 (i1 + 1), Qe6 p0 (i1 + 1))) [hB 0 hc1, hP 1 (Q1m 2 6 (List.length p0.fields) (i1 : Int) i1 (by omega) (by omega) (by omega)), hP 0 (Q31 2 6 0 true ((Fld.rows p0.fields).flatten) (Fld.rows p0.fields) 6 true i1 0 (i1 * 6) (Fld.cells x1) (.agg [.str x1.name, .int .i64 x1.v.kind, .int .i64 x1.v.n, .str x1.v.s, .sl (Val.rows x1.v.list), .sl (Fld.rows x1.v.fields)]) rfl rfl (Fld.Qg hx1) (Fld.Ql p0.fields) (by decide) rfl), hP 9 (Q1m 2 6 (List.length p0.fields) (i1 : Int) i1 (by omega) (by omega) (by omega)), hV 1 [(2, Fld.rows p0.fields)] (Qfd 2 6 true ((Fld.rows p0.fields).flatten) (Fld.rows p0.fields) (Fld.rows p0.fields) 5 i1 1 (i1 * 6 + 1) _ (.agg [.int .i64 x1.v.kind, .int .i64 x1.v.n, .str x1.v.s, .sl (Val.rows x1.v.list), .sl (Fld.rows x1.v.fields)]) rfl rfl (Fld.Qg hx1) (Fld.Ql p0.fields) (by decide) rfl rfl (Q113 (Fld.Qg hx1))), hS 0 true (Fld.Q5 p0.fields 6 rfl), hP 0 (Qr i1 (by omega))] [aN (rec x1.v (szF hx1) (H.2.1 x1 (Qt hx1)))] (by kernel_rfl) hr
theorem Qqz (p0 : Val) (H : Qd5 p0) (rec : Q92 p0) : ∀ (r1 : List Fld) (i1 : Nat), List.drop i1 p0.fields = r1 → Q7n p0 (Qcy p0 i1) (Qwt p0 r1 i1)
 | [], i1, hd => by
  have hc1 : (decide ((i1 : Int) < ((List.length p0.fields) : Int))) = false := by have := Q1d hd; simp; omega
  show Q7n p0 _ ()
  exact Qz2 p0 H rec i1 hc1
 | x1 :: r1, i1, hd => by
  obtain ⟨hx1, hi1, hd'⟩ := Qz hd
  have hc1 : (decide ((i1 : Int) < ((List.length p0.fields) : Int))) = true := by simp; omega
  show Q7n p0 _ ()
  exact Qmi p0 (fun r hr => Q10e p0 H rec x1 i1 hx1 hi1 hc1 hr) _ (Qqz p0 H rec r1 (i1 + 1) hd')
theorem Q1cf (p0 : Val) (H : Qhu p0) (rec : Q92 p0) : Q7 G (Q16p p0) (Q149 p0) := by
  unfold Q149
  rw [Q1c7]
  have hl0 := Qrk p0 ((Qc9 p0 H).2.1) rec p0.list 0 (by simp)
  obtain ⟨z0, zo0, hl0⟩ := hl0
  have hl1 := Qqz p0 ((Qc9 p0 H).2.2.2.1) rec p0.fields 0 (by simp)
  obtain ⟨z1, zo1, hl1⟩ := hl1
  exact Q9 (fn := Ir.K1r) rfl VOK.nil [hQ (Val.Q5 p0.list 5 rfl), hS 0 true (Val.Q5 p0.list 5 rfl), hQ (Fld.Q5 p0.fields 6 rfl), hS 0 true (Fld.Q5 p0.fields 6 rfl), hS 0 true (Val.Q5 p0.list 5 rfl), hQ (Val.Q8 p0.list).symm, hQ (Fld.Q8 p0.fields).symm] [aV [(0, Val.rows p0.list)] (Q5y (G := G) (f := 55) (sz := 5) (bytes := 80) rfl (Val.Q8 p0.list) (Val.Q5 p0.list 5 rfl) (Qc9 p0 H).1), aV [(2, Val.rows p0.list)] hl0, aV [(0, Fld.rows p0.fields)] (Q5y (G := G) (f := 41) (sz := 6) (bytes := 96) rfl (Fld.Q8 p0.fields) (Fld.Q5 p0.fields 6 rfl) (Qc9 p0 H).2.2.1), aV [(2, Fld.rows p0.fields), (3, Val.rows p0.list)] hl1] (by kernel_rfl)
theorem Q1a8 : ∀ (k : Nat) (p0 : Val), SizeOf.sizeOf p0 < k → Qhu p0 → Q7 G (Q16p p0) (Q149 p0)
  | 0, _, h, _ => absurd h (Nat.not_lt_zero _)
  | k + 1, p0, h, H => Q1cf p0 H (fun q hq hH => Q1a8 k q (by omega) hH)
theorem Q180 (p0 : Val) (H : Qhu p0) : Q7 G (Q16p p0) (Q149 p0) := Q1a8 _ p0 (Nat.lt_succ_self _) H
mutual
def s_Kj (p0 : Val) : Val :=
 (Val.mk p0.kind p0.n p0.s (Q2f p0 p0.list 0 []) (Q4r p0 p0.fields 0 []))
termination_by SizeOf.sizeOf p0
decreasing_by all_goals first | exact Val.Q4f _ | exact Val.Q2e _
def Q2f (p0 : Val) : List Val → Nat → (List Val) → List Val
 | [], _i0, v0_1 =>
  v0_1
 | x0 :: r0, i0, v0_1 =>
  Q2f p0 r0 (i0 + 1) (v0_1 ++ [(s_Kj x0)])
termination_by l => SizeOf.sizeOf l
decreasing_by all_goals first | exact Q2j _ _ | exact Q2d _ _ | exact Q1z _ _
def Q4r (p0 : Val) : List Fld → Nat → (List Fld) → List Fld
 | [], _i1, v1_1 =>
  v1_1
 | x1 :: r1, i1, v1_1 =>
  Q4r p0 r1 (i1 + 1) (v1_1 ++ [(Fld.mk x1.name (s_Kj x1.v))])
termination_by l => SizeOf.sizeOf l
decreasing_by all_goals first | exact Q2j _ _ | exact Q2d _ _ | exact Q1z _ _
end
def Qw8 (_p0 : Val) (i0 : Nat) (_v0_1 : List Val) : List PV :=
  [.un, .bx 0 0, .bx 1 0, .bx 2 0, .int .i64 (i0 : Int), .un, .un, .un, .un, .un, .un, .un, .un, .un, .un, .un, .un, .un, .un, .un, .un, .un, .un, .un, .un, .un, .un, .un, .un, .un, .un, .un, .un, .un, .un, .un, .un, .un, .un, .un, .un, .un, .un, .un, .un, .un, .un, .un, .un, .un, .un, .un, .un, .un, .un, .un, .un, .un]
def Qmq (p0 : Val) (_i0 : Nat) (v0_1 : List Val) : List Ob :=
  [⟨5, 0, true, [.int .i64 p0.kind, .int .i64 p0.n, .str p0.s, .sl (Val.rows p0.list), .sl (Fld.rows p0.fields)]⟩, ⟨5, 0, true, [.int .i64 0, .int .i64 0, .str eB, .ms 3 5 0 0, .ms 4 6 0 0]⟩, ⟨5, 0, true, [.int .i64 p0.kind, .int .i64 p0.n, .str p0.s, .ms 5 5 0 (List.length v0_1), .ms 6 6 0 0]⟩, ⟨5, 0, true, []⟩, ⟨6, 0, true, []⟩, ⟨5, 0, true, (Val.rows v0_1).flatten⟩, ⟨6, 0, true, []⟩]
def Qo2 (p0 : Val) (i0 : Nat) (v0_1 : List Val) : En := .loop 0 Ir.Qlp Ir.Q1bt (Qw8 p0 i0 v0_1) (Qmq p0 i0 v0_1)
def Qpi (p0 : Val) (q0 : List Val) (z : Nat → PV) (_zo : Nat → List PV) : St :=
  ⟨[z 0, .bx 0 0, .bx 1 0, .bx 2 0, z 4, z 5, z 6, z 7, z 8, z 9, z 10, z 11, z 12, z 13, z 14, z 15, z 16, z 17, z 18, z 19, z 20, z 21, z 22, z 23, z 24, z 25, z 26, z 27, z 28, z 29, z 30, z 31, z 32, z 33, z 34, z 35, z 36, z 37, z 38, z 39, z 40, z 41, z 42, z 43, z 44, z 45, z 46, z 47, z 48, z 49, z 50, z 51, z 52, z 53, z 54, z 55, z 56, z 57], [(0, ⟨5, 0, true, [.int .i64 p0.kind, .int .i64 p0.n, .str p0.s, .sl (Val.rows p0.list), .sl (Fld.rows p0.fields)]⟩), (1, ⟨5, 0, true, [.int .i64 0, .int .i64 0, .str eB, .ms 3 5 0 0, .ms 4 6 0 0]⟩), (2, ⟨5, 0, true, [.int .i64 p0.kind, .int .i64 p0.n, .str p0.s, .ms 5 5 0 (List.length q0), .ms 6 6 0 0]⟩), (3, ⟨5, 0, true, []⟩), (4, ⟨6, 0, true, []⟩), (5, ⟨5, 0, true, (Val.rows q0).flatten⟩), (6, ⟨6, 0, true, []⟩)], 327⟩
theorem Q143 (p0 : Val) (i0 : Nat) (v0_1 : List Val) : VOK (Go.Pv.look (number 0 (Qmq p0 i0 v0_1))) [(5, Val.rows v0_1)] := (VOK.cons (show Seen _ _ from Q3v (ob := ⟨5, 0, true, (Val.rows v0_1).flatten⟩) (Val.Q5 v0_1 5 rfl)) VOK.nil)
def Qnw (p0 : Val) (e : En) (q : List Val) : Prop := ∃ z zo, Q7 G e (.st (.exit 0) (Qpi p0 q z zo))
theorem Qr6 (p0 : Val) {e e' : En} (h : ∀ r, Q7 G e r → Q7 G e' r) : ∀ q, Qnw p0 e q → Qnw p0 e' q
  | _, ⟨z, zo, hz⟩ => ⟨z, zo, h _ hz⟩
def Qv2 (_p0 : Val) (i1 : Nat) (_v1_1 : List Fld) : List PV :=
  [.un, .bx 0 0, .bx 1 0, .bx 2 0, .un, .int .i64 (i1 : Int), .un, .un, .un, .un, .un, .un, .un, .un, .un, .un, .un, .un, .un, .un, .un, .un, .un, .un, .un, .un, .un, .un, .un, .un, .un, .un, .un, .un, .un, .un, .un, .un, .un, .un, .un, .un, .un, .un, .un, .un, .un, .un, .un, .un, .un, .un, .un, .un, .un, .un, .un, .un]
def Qo7 (p0 : Val) (_i1 : Nat) (v1_1 : List Fld) : List Ob :=
  [⟨5, 0, true, [.int .i64 p0.kind, .int .i64 p0.n, .str p0.s, .sl (Val.rows p0.list), .sl (Fld.rows p0.fields)]⟩, ⟨5, 0, true, [.int .i64 0, .int .i64 0, .str eB, .ms 3 5 0 0, .ms 4 6 0 0]⟩, ⟨5, 0, true, [.int .i64 p0.kind, .int .i64 p0.n, .str p0.s, .ms 5 5 0 (List.length (Q2f p0 p0.list 0 [])), .ms 6 6 0 (List.length v1_1)]⟩, ⟨5, 0, true, []⟩, ⟨6, 0, true, []⟩, ⟨5, 0, true, (Val.rows (Q2f p0 p0.list 0 [])).flatten⟩, ⟨6, 0, true, (Fld.rows v1_1).flatten⟩]
def Qnc (p0 : Val) (i1 : Nat) (v1_1 : List Fld) : En := .loop 0 Ir.Ql8 Ir.Q1ah (Qv2 p0 i1 v1_1) (Qo7 p0 i1 v1_1)
def Qqb (p0 : Val) (q0 : List Fld) (z : Nat → PV) (_zo : Nat → List PV) : St :=
  ⟨[z 0, z 1, .bx 1 0, .bx 2 0, z 4, z 5, z 6, z 7, z 8, z 9, z 10, z 11, z 12, z 13, z 14, z 15, z 16, z 17, z 18, z 19, z 20, z 21, z 22, z 23, z 24, z 25, z 26, z 27, z 28, z 29, z 30, z 31, z 32, z 33, z 34, z 35, z 36, z 37, z 38, z 39, z 40, z 41, z 42, z 43, z 44, z 45, z 46, z 47, z 48, z 49, z 50, z 51, z 52, z 53, z 54, z 55, z 56, z 57], [(0, ⟨5, 0, true, [.int .i64 p0.kind, .int .i64 p0.n, .str p0.s, .sl (Val.rows p0.list), .sl (Fld.rows p0.fields)]⟩), (1, ⟨5, 0, true, [.int .i64 0, .int .i64 0, .str eB, .ms 3 5 0 0, .ms 4 6 0 0]⟩), (2, ⟨5, 0, true, [.int .i64 p0.kind, .int .i64 p0.n, .str p0.s, .ms 5 5 0 (List.length (Q2f p0 p0.list 0 [])), .ms 6 6 0 (List.length q0)]⟩), (3, ⟨5, 0, true, []⟩), (4, ⟨6, 0, true, []⟩), (5, ⟨5, 0, true, (Val.rows (Q2f p0 p0.list 0 [])).flatten⟩), (6, ⟨6, 0, true, (Fld.rows q0).flatten⟩)], 327⟩
theorem Q11v (p0 : Val) (i1 : Nat) (v1_1 : List Fld) : VOK (Go.Pv.look (number 0 (Qo7 p0 i1 v1_1))) [(5, Val.rows (Q2f p0 p0.list 0 [])), (6, Fld.rows v1_1)] := (VOK.cons (show Seen _ _ from Q3v (ob := ⟨5, 0, true, (Val.rows (Q2f p0 p0.list 0 [])).flatten⟩) (Val.Q5 (Q2f p0 p0.list 0 []) 5 rfl)) (VOK.cons (show Seen _ _ from Q3v (ob := ⟨6, 0, true, (Fld.rows v1_1).flatten⟩) (Fld.Q5 v1_1 6 rfl)) VOK.nil))
def Qno (p0 : Val) (e : En) (q : List Fld) : Prop := ∃ z zo, Q7 G e (.st (.exit 2) (Qqb p0 q z zo))
theorem Qpo (p0 : Val) {e e' : En} (h : ∀ r, Q7 G e r → Q7 G e' r) : ∀ q, Qno p0 e q → Qno p0 e' q
  | _, ⟨z, zo, hz⟩ => ⟨z, zo, h _ hz⟩
def c_Kj (p0 : Val) : En := .call 36 [.agg (Val.cells p0)] []
def a_Kj (p0 : Val) : Rs := .ret (.agg (Val.cells (s_Kj p0))) []
abbrev H_Kj (p0 : Val) : Prop := Val.Sm 1000000000 p0
def Qfb (p0 : Val) : Prop := ∀ (q : Val), SizeOf.sizeOf q < SizeOf.sizeOf p0 → H_Kj q → Q7 G (c_Kj q) (a_Kj q)
def Qmj (p0 : Val) : Prop := (List.length p0.list ≤ 137438953472) ∧ (∀ x0 ∈ p0.list, H_Kj x0) ∧ True
def Qmf (p0 : Val) : Prop := (List.length p0.fields ≤ 137438953472) ∧ (∀ x1 ∈ p0.fields, H_Kj x1.v) ∧ True
theorem Q15h (p0 : Val) (H : H_Kj p0) : (Qmj p0) ∧ (Qmf p0) ∧ True := by
  obtain ⟨h1, h2, h3, h4⟩ := H.all
  exact ⟨⟨by omega, h3, trivial⟩, ⟨by omega, h4, trivial⟩, trivial⟩
def Qs3 (p0 : Val) (i0 : Nat) (_v0_1 : List Val) : List PV :=
  [.un, .un, .un, .un, .int .i64 (i0 : Int), .un, .un, .un, .un, .un, .un, .un, .un, .int .i64 (i0 : Int), .bx 0 3, .sl (Val.rows p0.list), .int .i64 ((List.length p0.list) : Int), .bool false]
def Qjg (_p0 : Val) (_i0 : Nat) (_v0_1 : List Val) : List (Nat × List PV) :=
  []
theorem Q156 (p0 : Val) (_H : Qmj p0) (_rec : Qfb p0) (i0 : Nat) (v0_1 : List Val) (_ho0_0 : List.length v0_1 ≤ i0) (hc0 : (decide ((i0 : Int) < ((List.length p0.list) : Int))) = false) : Qnw p0 (Qo2 p0 i0 v0_1) v0_1 := by
 exact ⟨(envF (Qs3 p0 i0 v0_1)), (zoF (Qjg p0 i0 v0_1)), Qf (Q143 p0 i0 v0_1) (x := ((.exit 0), Qpi p0 v0_1 (envF (Qs3 p0 i0 v0_1)) (zoF (Qjg p0 i0 v0_1)))) [hP 3 (Qe (Val.rows p0.list) (List.length p0.list) (Val.Q8 p0.list)), hB 0 hc0] [] (by kernel_rfl)⟩
theorem Q117 (p0 : Val) (H : Qmj p0) (rec : Qfb p0) (x0 : Val) (i0 : Nat) (v0_1 : List Val) (hx0 : p0.list[i0]? = some x0) (hi0 : i0 < List.length p0.list) (ho0_0 : List.length v0_1 ≤ i0) (hc0 : (decide ((i0 : Int) < ((List.length p0.list) : Int))) = true) {r : Rs} (hr : Q7 G (Qo2 p0 (i0 + 1) (v0_1 ++ [(s_Kj x0)])) r) : Q7 G (Qo2 p0 i0 v0_1) r := by
 have hB0 := H.1
 exact Qa (Q143 p0 i0 v0_1) (y := (Qw8 p0 (i0 + 1) (v0_1 ++ [(s_Kj x0)]), Qmq p0 (i0 + 1) (v0_1 ++ [(s_Kj x0)]))) [hP 3 (Qe (Val.rows p0.list) (List.length p0.list) (Val.Q8 p0.list)), hB 0 hc0, hP 5 (Q10 5 (Val.rows p0.list) i0 _ (Val.Qg hx0) rfl), hV 3 [(903, Val.rows (v0_1 ++ [(s_Kj x0)]))] (Qf2 5 839 903 5 80 0 0 true (Val.rows v0_1) (Val.rows (v0_1 ++ [(s_Kj x0)])) (Val.cells (s_Kj x0)) (List.length v0_1) (List.length (v0_1 ++ [(s_Kj x0)])) rfl (Val.Q8 v0_1).symm (Val.Q8 (v0_1 ++ [(s_Kj x0)])).symm (Val.Q2p v0_1 (s_Kj x0)) (Val.Ql v0_1) rfl (by omega)), hS 0 true (Val.Q5 (v0_1 ++ [(s_Kj x0)]) 5 rfl), hP 3 (Qr i0 (by omega))] [aN (rec x0 (szL hx0) (H.2.1 x0 (Qt hx0)))] (by kernel_rfl) hr
theorem Quh (p0 : Val) (H : Qmj p0) (rec : Qfb p0) : ∀ (r0 : List Val) (i0 : Nat) (v0_1 : List Val), List.drop i0 p0.list = r0 → List.length v0_1 ≤ i0 → Qnw p0 (Qo2 p0 i0 v0_1) (Q2f p0 r0 i0 v0_1)
 | [], i0, v0_1, hd, ho0_0 => by
  have hc0 : (decide ((i0 : Int) < ((List.length p0.list) : Int))) = false := by have := Q1d hd; simp; omega
  rw [Q2f]
  exact Q156 p0 H rec i0 v0_1 ho0_0 hc0
 | x0 :: r0, i0, v0_1, hd, ho0_0 => by
  obtain ⟨hx0, hi0, hd'⟩ := Qz hd
  have hc0 : (decide ((i0 : Int) < ((List.length p0.list) : Int))) = true := by simp; omega
  rw [Q2f]
  exact Qr6 p0 (fun r hr => Q117 p0 H rec x0 i0 v0_1 hx0 hi0 ho0_0 hc0 hr) _ (Quh p0 H rec r0 (i0 + 1) (v0_1 ++ [(s_Kj x0)]) hd' (by first | omega | (simp; omega)))
def Qqq (p0 : Val) (i1 : Nat) (_v1_1 : List Fld) : List PV :=
  [.un, .bx 0 0, .un, .un, .un, .int .i64 (i1 : Int), .un, .un, .un, .un, .un, .un, .un, .un, .un, .un, .un, .un, .un, .un, .un, .un, .un, .un, .un, .un, .un, .un, .un, .un, .un, .int .i64 (i1 : Int), .bx 0 4, .sl (Fld.rows p0.fields), .int .i64 ((List.length p0.fields) : Int), .bool false]
def Qig (_p0 : Val) (_i1 : Nat) (_v1_1 : List Fld) : List (Nat × List PV) :=
  []
theorem Q11w (p0 : Val) (_H : Qmf p0) (_rec : Qfb p0) (i1 : Nat) (v1_1 : List Fld) (_ho1_0 : List.length v1_1 ≤ i1) (hc1 : (decide ((i1 : Int) < ((List.length p0.fields) : Int))) = false) : Qno p0 (Qnc p0 i1 v1_1) v1_1 := by
 exact ⟨(envF (Qqq p0 i1 v1_1)), (zoF (Qig p0 i1 v1_1)), Qf (Q11v p0 i1 v1_1) (x := ((.exit 2), Qqb p0 v1_1 (envF (Qqq p0 i1 v1_1)) (zoF (Qig p0 i1 v1_1)))) [hP 3 (Qe (Fld.rows p0.fields) (List.length p0.fields) (Fld.Q8 p0.fields)), hB 0 hc1] [] (by kernel_rfl)⟩
theorem Q148 (p0 : Val) (H : Qmf p0) (rec : Qfb p0) (x1 : Fld) (i1 : Nat) (v1_1 : List Fld) (hx1 : p0.fields[i1]? = some x1) (hi1 : i1 < List.length p0.fields) (ho1_0 : List.length v1_1 ≤ i1) (hc1 : (decide ((i1 : Int) < ((List.length p0.fields) : Int))) = true) {r : Rs} (hr : Q7 G (Qnc p0 (i1 + 1) (v1_1 ++ [(Fld.mk x1.name (s_Kj x1.v))])) r) : Q7 G (Qnc p0 i1 v1_1) r := by
 have hB0 := H.1
 exact Qa (Q11v p0 i1 v1_1) (y := (Qv2 p0 (i1 + 1) (v1_1 ++ [(Fld.mk x1.name (s_Kj x1.v))]), Qo7 p0 (i1 + 1) (v1_1 ++ [(Fld.mk x1.name (s_Kj x1.v))]))) [hP 3 (Qe (Fld.rows p0.fields) (List.length p0.fields) (Fld.Q8 p0.fields)), hB 0 hc1, hP 5 (Q10 6 (Fld.rows p0.fields) i1 _ (Fld.Qg hx1) rfl), hP 5 (Q10 6 (Fld.rows p0.fields) i1 _ (Fld.Qg hx1) rfl), hV 5 [(1415, Fld.rows (v1_1 ++ [(Fld.mk x1.name (s_Kj x1.v))]))] (Qf2 6 1351 1415 6 96 0 0 true (Fld.rows v1_1) (Fld.rows (v1_1 ++ [(Fld.mk x1.name (s_Kj x1.v))])) (Fld.cells (Fld.mk x1.name (s_Kj x1.v))) (List.length v1_1) (List.length (v1_1 ++ [(Fld.mk x1.name (s_Kj x1.v))])) rfl (Fld.Q8 v1_1).symm (Fld.Q8 (v1_1 ++ [(Fld.mk x1.name (s_Kj x1.v))])).symm (Fld.Q2p v1_1 (Fld.mk x1.name (s_Kj x1.v))) (Fld.Ql v1_1) rfl (by omega)), hS 0 true (Fld.Q5 (v1_1 ++ [(Fld.mk x1.name (s_Kj x1.v))]) 6 rfl), hP 3 (Qr i1 (by omega))] [aN (rec x1.v (szF hx1) (H.2.1 x1 (Qt hx1)))] (by kernel_rfl) hr
theorem Qwp (p0 : Val) (H : Qmf p0) (rec : Qfb p0) : ∀ (r1 : List Fld) (i1 : Nat) (v1_1 : List Fld), List.drop i1 p0.fields = r1 → List.length v1_1 ≤ i1 → Qno p0 (Qnc p0 i1 v1_1) (Q4r p0 r1 i1 v1_1)
 | [], i1, v1_1, hd, ho1_0 => by
  have hc1 : (decide ((i1 : Int) < ((List.length p0.fields) : Int))) = false := by have := Q1d hd; simp; omega
  rw [Q4r]
  exact Q11w p0 H rec i1 v1_1 ho1_0 hc1
 | x1 :: r1, i1, v1_1, hd, ho1_0 => by
  obtain ⟨hx1, hi1, hd'⟩ := Qz hd
  have hc1 : (decide ((i1 : Int) < ((List.length p0.fields) : Int))) = true := by simp; omega
  rw [Q4r]
  exact Qpo p0 (fun r hr => Q148 p0 H rec x1 i1 v1_1 hx1 hi1 ho1_0 hc1 hr) _ (Qwp p0 H rec r1 (i1 + 1) (v1_1 ++ [(Fld.mk x1.name (s_Kj x1.v))]) hd' (by first | omega | (simp; omega)))
theorem r_Kj (p0 : Val) (H : H_Kj p0) (rec : Qfb p0) : Q7 G (c_Kj p0) (a_Kj p0) := by
  unfold a_Kj
  rw [s_Kj]
  have hl0 := Quh p0 ((Q15h p0 H).1) rec p0.list 0 [] (by simp) (by simp)
  obtain ⟨z0, zo0, hl0⟩ := hl0
  have hl1 := Qwp p0 ((Q15h p0 H).2.1) rec p0.fields 0 [] (by simp) (by simp)
  obtain ⟨z1, zo1, hl1⟩ := hl1
  exact Q9 (fn := Ir.Kj) rfl VOK.nil [hS 0 true (Val.Q5 (Q2f p0 p0.list 0 []) 5 rfl), hS 0 true (Val.Q5 (Q2f p0 p0.list 0 []) 5 rfl), hS 0 true (Fld.Q5 (Q4r p0 p0.fields 0 []) 6 rfl), hQ (Val.Q8 (Q2f p0 p0.list 0 [])).symm, hQ (Fld.Q8 (Q4r p0 p0.fields 0 [])).symm] [aV [(5, Val.rows (Q2f p0 p0.list 0 []))] hl0, aV [(5, Val.rows (Q2f p0 p0.list 0 [])), (6, Fld.rows (Q4r p0 p0.fields 0 []))] hl1] (by kernel_rfl)
theorem i_Kj : ∀ (k : Nat) (p0 : Val), SizeOf.sizeOf p0 < k → H_Kj p0 → Q7 G (c_Kj p0) (a_Kj p0)
  | 0, _, h, _ => absurd h (Nat.not_lt_zero _)
  | k + 1, p0, h, H => r_Kj p0 H (fun q hq hH => i_Kj k q (by omega) hH)
theorem t_Kj (p0 : Val) (H : H_Kj p0) : Q7 G (c_Kj p0) (a_Kj p0) := i_Kj _ p0 (Nat.lt_succ_self _) H
inductive Qvb where
  | k0
  | k1 (q0 : Val)
def Q58 (p0 : Val) (p1 : BA) : List Fld → Nat → Qvb
 | [], _i0 =>
  (.k0)
 | x0 :: r0, i0 =>
  bif (sEq x0.name p1) then
   (.k1 x0.v)
  else
   Q58 p0 p1 r0 (i0 + 1)
def Qpd (p0 : Val) (p1 : BA) (i0 : Nat) : List PV :=
  [.un, .str p1, .un, .un, .bx 0 0, .un, .un, .un, .un, .un, .un, .un, .sl (Fld.rows p0.fields), .int .i64 ((List.length p0.fields) : Int), .int .i64 (i0 : Int), .un, .un, .un, .un, .un, .un, .un, .un, .un, .un, .un, .un]
def Qpa (_p0 : Val) (_p1 : BA) (_i0 : Nat) : List Ob :=
  [⟨5, 0, true, [.int .i64 0, .int .i64 0, .str eB, .ms 1 5 0 0, .ms 2 6 0 0]⟩, ⟨5, 0, true, []⟩, ⟨6, 0, true, []⟩]
def Qa8 (p0 : Val) (p1 : BA) (i0 : Nat) : En := .loop 0 Ir.Qds Ir.Q17u (Qpd p0 p1 i0) (Qpa p0 p1 i0)
def Qlz (_p0 : Val) (_p1 : BA) (z : Nat → PV) (_zo : Nat → List PV) : St :=
  ⟨[z 0, z 1, z 2, z 3, .bx 0 0, z 5, z 6, z 7, z 8, z 9, z 10, z 11, z 12, z 13, z 14, z 15, z 16, z 17, z 18, z 19, z 20, z 21, z 22, z 23, z 24, z 25, z 26], [(0, ⟨5, 0, true, [.int .i64 0, .int .i64 0, .str eB, .ms 1 5 0 0, .ms 2 6 0 0]⟩), (1, ⟨5, 0, true, []⟩), (2, ⟨6, 0, true, []⟩)], 67⟩
def Qlj (_p0 : Val) (_p1 : BA) (q0 : Val) (z : Nat → PV) (zo : Nat → List PV) : St :=
  ⟨[z 0, z 1, z 2, z 3, .bx 0 0, .bool true, z 6, z 7, z 8, z 9, z 10, z 11, z 12, z 13, z 14, z 15, z 16, z 17, z 18, z 19, z 20, z 21, z 22, z 23, z 24, z 25, z 26], [(0, ⟨5, 0, true, [.int .i64 q0.kind, .int .i64 q0.n, .str q0.s, .sl (Val.rows q0.list), .sl (Fld.rows q0.fields)]⟩), (1, ⟨5, 0, true, zo 1⟩), (2, ⟨6, 0, true, zo 2⟩), (195, ⟨6, 0, true, zo 195⟩)], 899⟩
def Q9j (p0 : Val) (p1 : BA) (e : En) : Qvb → Prop
  | .k0 => ∃ z zo, Q7 G e (.st (.exit 0) (Qlz p0 p1 z zo))
  | .k1 q0 => ∃ z zo, Q7 G e (.st .ret (Qlj p0 p1 q0 z zo))
theorem Qni (p0 : Val) (p1 : BA) {e e' : En} (h : ∀ r, Q7 G e r → Q7 G e' r) : ∀ q, Q9j p0 p1 e q → Q9j p0 p1 e' q
  | .k0, ⟨z, zo, hz⟩ => ⟨z, zo, h _ hz⟩
  | .k1 _, ⟨z, zo, hz⟩ => ⟨z, zo, h _ hz⟩
def Q9i (p0 : Val) (_p1 : BA) : Prop := (List.length p0.fields ≤ 4611686018427387904) ∧ (∀ x0 ∈ p0.fields, Qhu x0.v) ∧ True
def Qiq (p0 : Val) (p1 : BA) (i0 : Nat) : List PV :=
  [.un, .str p1, .un, .un, .un, .un, .un, .un, .un, .un, .un, .un, .sl (Fld.rows p0.fields), .int .i64 ((List.length p0.fields) : Int), .int .i64 (i0 : Int), .bool false]
def Qh9 (_p0 : Val) (_p1 : BA) (_i0 : Nat) : List (Nat × List PV) :=
  []
theorem Qzb (p0 : Val) (p1 : BA) (_H : Q9i p0 p1) (i0 : Nat) (hc0 : (decide ((i0 : Int) < ((List.length p0.fields) : Int))) = false) : Q9j p0 p1 (Qa8 p0 p1 i0) (.k0) := by
 exact ⟨(envF (Qiq p0 p1 i0)), (zoF (Qh9 p0 p1 i0)), Qf VOK.nil (x := ((.exit 0), Qlz p0 p1 (envF (Qiq p0 p1 i0)) (zoF (Qh9 p0 p1 i0)))) [hB 0 hc0] [] (by kernel_rfl)⟩
def Qje (p0 : Val) (p1 : BA) (i0 : Nat) (x0 : Fld) : List PV :=
  [.un, .str p1, .un, .un, .un, .un, .un, .bx 195 0, .un, .un, .un, .un, .sl (Fld.rows p0.fields), .int .i64 ((List.length p0.fields) : Int), .int .i64 (i0 : Int), .bool true, .rf [.str x0.name, .int .i64 x0.v.kind, .int .i64 x0.v.n, .str x0.v.s, .sl (Val.rows x0.v.list), .sl (Fld.rows x0.v.fields)], .agg [.str x0.name, .int .i64 x0.v.kind, .int .i64 x0.v.n, .str x0.v.s, .sl (Val.rows x0.v.list), .sl (Fld.rows x0.v.fields)], .bx 195 0, .str x0.name, .str p1, .bool true, .bx 195 1, .agg [.int .i64 x0.v.kind, .int .i64 x0.v.n, .str x0.v.s, .sl (Val.rows x0.v.list), .sl (Fld.rows x0.v.fields)], .agg [.int .i64 x0.v.kind, .int .i64 x0.v.n, .str x0.v.s, .sl (Val.rows x0.v.list), .sl (Fld.rows x0.v.fields)]]
def Qdy (_p0 : Val) (_p1 : BA) (_i0 : Nat) (x0 : Fld) : List (Nat × List PV) :=
  [(1, []), (2, []), (195, [.str x0.name, .int .i64 x0.v.kind, .int .i64 x0.v.n, .str x0.v.s, .sl (Val.rows x0.v.list), .sl (Fld.rows x0.v.fields)])]
theorem Qxq (p0 : Val) (p1 : BA) (H : Q9i p0 p1) (x0 : Fld) (i0 : Nat) (hx0 : p0.fields[i0]? = some x0) (_hi0 : i0 < List.length p0.fields) (hc0 : (decide ((i0 : Int) < ((List.length p0.fields) : Int))) = true) (h0 : (sEq x0.name p1) = true) : Q9j p0 p1 (Qa8 p0 p1 i0) (.k1 x0.v) := by
 exact ⟨(envF (Qje p0 p1 i0 x0)), (zoF (Qdy p0 p1 i0 x0)), Qf VOK.nil (x := (.ret, Qlj p0 p1 x0.v (envF (Qje p0 p1 i0 x0)) (zoF (Qdy p0 p1 i0 x0)))) [hB 0 hc0, hP 0 (Q10 6 (Fld.rows p0.fields) i0 _ (Fld.Qg hx0) rfl), hB 6 h0] [aN (Q180 x0.v (H.2.1 x0 (Qt hx0)))] (by kernel_rfl)⟩
theorem Qwy (p0 : Val) (p1 : BA) (H : Q9i p0 p1) (x0 : Fld) (i0 : Nat) (hx0 : p0.fields[i0]? = some x0) (hi0 : i0 < List.length p0.fields) (hc0 : (decide ((i0 : Int) < ((List.length p0.fields) : Int))) = true) (h0 : (sEq x0.name p1) = false) {r : Rs} (hr : Q7 G (Qa8 p0 p1 (i0 + 1)) r) : Q7 G (Qa8 p0 p1 i0) r := by
 have hB0 := H.1
 exact Qa VOK.nil (y := (Qpd p0 p1 (i0 + 1), Qpa p0 p1 (i0 + 1))) [hB 0 hc0, hP 0 (Q10 6 (Fld.rows p0.fields) i0 _ (Fld.Qg hx0) rfl), hB 6 h0, hP 0 (Qr i0 (by omega))] [] (by kernel_rfl) hr
theorem Qsd (p0 : Val) (p1 : BA) (H : Q9i p0 p1) : ∀ (r0 : List Fld) (i0 : Nat), List.drop i0 p0.fields = r0 → Q9j p0 p1 (Qa8 p0 p1 i0) (Q58 p0 p1 r0 i0)
 | [], i0, hd => by
  have hc0 : (decide ((i0 : Int) < ((List.length p0.fields) : Int))) = false := by have := Q1d hd; simp; omega
  rw [Q58]
  exact Qzb p0 p1 H i0 hc0
 | x0 :: r0, i0, hd => by
  obtain ⟨hx0, hi0, hd'⟩ := Qz hd
  have hc0 : (decide ((i0 : Int) < ((List.length p0.fields) : Int))) = true := by simp; omega
  rw [Q58]
  cases h0 : (sEq x0.name p1) with
  | true =>
   exact Qxq p0 p1 H x0 i0 hx0 hi0 hc0 h0
  | false =>
   exact Qni p0 p1 (fun r hr => Qwy p0 p1 H x0 i0 hx0 hi0 hc0 h0 hr) _ (Qsd p0 p1 H r0 (i0 + 1) hd')
def Q1j (p0 : Val) (p1 : BA) : Val × Bool :=
 bif (p0.kind == 5) then
  (match (Q58 p0 p1 p0.fields 0) with
  | .k0 => ((Val.mk 0 0 eB [] []), false)
  | .k1 y1_0 => (y1_0, true))
 else
  ((Val.mk 0 0 eB [] []), false)
def Q1ci (p0 : Val) (p1 : BA) : En := .call 29 [.agg (Val.cells p0), .str p1] []
def Q1ao (p0 : Val) (p1 : BA) : Rs := .ret (.tup [.agg (Val.cells (Q1j p0 p1).1), .bool (Q1j p0 p1).2]) []
def Q11l (p0 : Val) (p1 : BA) : Prop := (Q9i p0 p1) ∧ True
theorem Qu6 (p0 : Val) (p1 : BA) (H : Q11l p0 p1) : Q7 G (Q1ci p0 p1) (Q1ao p0 p1) := by
 unfold Q1ao Q1j
 cases h0 : (p0.kind == 5) with
 | true =>
  have hl1 := Qsd p0 p1 (H.1) p0.fields 0 (by simp)
  cases hr1 : (Q58 p0 p1 p0.fields 0) with
  | k0 =>
   rw [hr1] at hl1
   obtain ⟨z1, zo1, hl1⟩ := hl1
   exact Q9 (fn := Ir.K1k) rfl VOK.nil [hB 5 h0, hP 2 (Qe (Fld.rows p0.fields) (List.length p0.fields) (Fld.Q8 p0.fields))] [aN hl1] (by kernel_rfl)
  | k1 y1_0 =>
   rw [hr1] at hl1
   obtain ⟨z1, zo1, hl1⟩ := hl1
   exact Q9 (fn := Ir.K1k) rfl VOK.nil [hB 5 h0, hP 2 (Qe (Fld.rows p0.fields) (List.length p0.fields) (Fld.Q8 p0.fields))] [aN hl1] (by kernel_rfl)
 | false =>
  exact Q9 (fn := Ir.K1k) rfl VOK.nil [hB 5 h0] [] (by kernel_rfl)
inductive Q10v where
  | k0
  | k1 (q0 : Val)
def Q77 (p0 : Val) (p1 : BA) : List Fld → Nat → Q10v
 | [], _i0 =>
  (.k0)
 | x0 :: r0, i0 =>
  bif (sEq x0.name p1) then
   (.k1 (s_Kj x0.v))
  else
   Q77 p0 p1 r0 (i0 + 1)
def Qwn (_p0 : Val) (p1 : BA) (i0 : Nat) : List PV :=
  [.un, .str p1, .bx 0 0, .un, .bx 1 0, .un, .int .i64 (i0 : Int), .un, .un, .un, .un, .un, .un, .un, .un, .un, .un, .un, .un, .un, .un, .un, .un, .un, .un, .un, .un, .un, .un, .un, .un, .un, .un]
def Qvf (p0 : Val) (_p1 : BA) (_i0 : Nat) : List Ob :=
  [⟨5, 0, true, [.int .i64 p0.kind, .int .i64 p0.n, .str p0.s, .sl (Val.rows p0.list), .sl (Fld.rows p0.fields)]⟩, ⟨5, 0, true, [.int .i64 0, .int .i64 0, .str eB, .ms 2 5 0 0, .ms 3 6 0 0]⟩, ⟨5, 0, true, []⟩, ⟨6, 0, true, []⟩]
def Qec (p0 : Val) (p1 : BA) (i0 : Nat) : En := .loop 0 Ir.Qjn Ir.Q195 (Qwn p0 p1 i0) (Qvf p0 p1 i0)
def Qpj (p0 : Val) (_p1 : BA) (z : Nat → PV) (_zo : Nat → List PV) : St :=
  ⟨[z 0, z 1, z 2, z 3, .bx 1 0, z 5, z 6, z 7, z 8, z 9, z 10, z 11, z 12, z 13, z 14, z 15, z 16, z 17, z 18, z 19, z 20, z 21, z 22, z 23, z 24, z 25, z 26, z 27, z 28, z 29, z 30, z 31, z 32], [(0, ⟨5, 0, true, [.int .i64 p0.kind, .int .i64 p0.n, .str p0.s, .sl (Val.rows p0.list), .sl (Fld.rows p0.fields)]⟩), (1, ⟨5, 0, true, [.int .i64 0, .int .i64 0, .str eB, .ms 2 5 0 0, .ms 3 6 0 0]⟩), (2, ⟨5, 0, true, []⟩), (3, ⟨6, 0, true, []⟩)], 324⟩
def Qps (_p0 : Val) (_p1 : BA) (q0 : Val) (z : Nat → PV) (zo : Nat → List PV) : St :=
  ⟨[z 0, z 1, z 2, z 3, .bx 1 0, .bool true, z 6, z 7, z 8, z 9, z 10, z 11, z 12, z 13, z 14, z 15, z 16, z 17, z 18, z 19, z 20, z 21, z 22, z 23, z 24, z 25, z 26, z 27, z 28, z 29, z 30, z 31, z 32], [(0, ⟨5, 0, true, zo 0⟩), (1, ⟨5, 0, true, [.int .i64 q0.kind, .int .i64 q0.n, .str q0.s, .sl (Val.rows q0.list), .sl (Fld.rows q0.fields)]⟩), (2, ⟨5, 0, true, zo 2⟩), (3, ⟨6, 0, true, zo 3⟩)], 1412⟩
def Qf3 (p0 : Val) (p1 : BA) (e : En) : Q10v → Prop
  | .k0 => ∃ z zo, Q7 G e (.st (.exit 0) (Qpj p0 p1 z zo))
  | .k1 q0 => ∃ z zo, Q7 G e (.st .ret (Qps p0 p1 q0 z zo))
theorem Qt1 (p0 : Val) (p1 : BA) {e e' : En} (h : ∀ r, Q7 G e r → Q7 G e' r) : ∀ q, Qf3 p0 p1 e q → Qf3 p0 p1 e' q
  | .k0, ⟨z, zo, hz⟩ => ⟨z, zo, h _ hz⟩
  | .k1 _, ⟨z, zo, hz⟩ => ⟨z, zo, h _ hz⟩
def Qfq (p0 : Val) (_p1 : BA) : Prop := (List.length p0.fields ≤ 4611686018427387904) ∧ (∀ x0 ∈ p0.fields, H_Kj x0.v) ∧ True
def Qqu (p0 : Val) (p1 : BA) (i0 : Nat) : List PV :=
  [.un, .str p1, .bx 0 0, .un, .un, .un, .int .i64 (i0 : Int), .un, .un, .un, .int .i64 (i0 : Int), .bx 0 4, .sl (Fld.rows p0.fields), .int .i64 ((List.length p0.fields) : Int), .bool false]
def Qlo (_p0 : Val) (_p1 : BA) (_i0 : Nat) : List (Nat × List PV) :=
  []
theorem Q14v (p0 : Val) (p1 : BA) (_H : Qfq p0 p1) (i0 : Nat) (hc0 : (decide ((i0 : Int) < ((List.length p0.fields) : Int))) = false) : Qf3 p0 p1 (Qec p0 p1 i0) (.k0) := by
 exact ⟨(envF (Qqu p0 p1 i0)), (zoF (Qlo p0 p1 i0)), Qf VOK.nil (x := ((.exit 0), Qpj p0 p1 (envF (Qqu p0 p1 i0)) (zoF (Qlo p0 p1 i0)))) [hP 3 (Qe (Fld.rows p0.fields) (List.length p0.fields) (Fld.Q8 p0.fields)), hB 0 hc0] [] (by kernel_rfl)⟩
def Qrb (p0 : Val) (p1 : BA) (i0 : Nat) (x0 : Fld) : List PV :=
  [.un, .str p1, .bx 0 0, .un, .un, .un, .int .i64 (i0 : Int), .un, .un, .un, .int .i64 (i0 : Int), .bx 0 4, .sl (Fld.rows p0.fields), .int .i64 ((List.length p0.fields) : Int), .bool true, .un, .un, .bx 0 4, .sl (Fld.rows p0.fields), .int .i64 (i0 : Int), .rf [.str x0.name, .int .i64 x0.v.kind, .int .i64 x0.v.n, .str x0.v.s, .sl (Val.rows x0.v.list), .sl (Fld.rows x0.v.fields)], .rf [.str x0.name, .int .i64 x0.v.kind, .int .i64 x0.v.n, .str x0.v.s, .sl (Val.rows x0.v.list), .sl (Fld.rows x0.v.fields)], .str x0.name, .str p1, .bool true, .bx 0 4, .sl (Fld.rows p0.fields), .int .i64 (i0 : Int), .rf [.str x0.name, .int .i64 x0.v.kind, .int .i64 x0.v.n, .str x0.v.s, .sl (Val.rows x0.v.list), .sl (Fld.rows x0.v.fields)], .rf [.int .i64 x0.v.kind, .int .i64 x0.v.n, .str x0.v.s, .sl (Val.rows x0.v.list), .sl (Fld.rows x0.v.fields)], .agg [.int .i64 x0.v.kind, .int .i64 x0.v.n, .str x0.v.s, .sl (Val.rows x0.v.list), .sl (Fld.rows x0.v.fields)], .agg [.int .i64 (s_Kj x0.v).kind, .int .i64 (s_Kj x0.v).n, .str (s_Kj x0.v).s, .sl (Val.rows (s_Kj x0.v).list), .sl (Fld.rows (s_Kj x0.v).fields)]]
def Qkv (p0 : Val) (_p1 : BA) (_i0 : Nat) (_x0 : Fld) : List (Nat × List PV) :=
  [(0, [.int .i64 p0.kind, .int .i64 p0.n, .str p0.s, .sl (Val.rows p0.list), .sl (Fld.rows p0.fields)]), (2, []), (3, [])]
theorem Q139 (p0 : Val) (p1 : BA) (H : Qfq p0 p1) (x0 : Fld) (i0 : Nat) (hx0 : p0.fields[i0]? = some x0) (_hi0 : i0 < List.length p0.fields) (hc0 : (decide ((i0 : Int) < ((List.length p0.fields) : Int))) = true) (h0 : (sEq x0.name p1) = true) : Qf3 p0 p1 (Qec p0 p1 i0) (.k1 (s_Kj x0.v)) := by
 exact ⟨(envF (Qrb p0 p1 i0 x0)), (zoF (Qkv p0 p1 i0 x0)), Qf VOK.nil (x := (.ret, Qps p0 p1 (s_Kj x0.v) (envF (Qrb p0 p1 i0 x0)) (zoF (Qkv p0 p1 i0 x0)))) [hP 3 (Qe (Fld.rows p0.fields) (List.length p0.fields) (Fld.Q8 p0.fields)), hB 0 hc0, hP 3 (Q10 6 (Fld.rows p0.fields) i0 _ (Fld.Qg hx0) rfl), hB 3 h0, hP 3 (Q10 6 (Fld.rows p0.fields) i0 _ (Fld.Qg hx0) rfl)] [aN (t_Kj x0.v (H.2.1 x0 (Qt hx0)))] (by kernel_rfl)⟩
theorem Q14w (p0 : Val) (p1 : BA) (H : Qfq p0 p1) (x0 : Fld) (i0 : Nat) (hx0 : p0.fields[i0]? = some x0) (hi0 : i0 < List.length p0.fields) (hc0 : (decide ((i0 : Int) < ((List.length p0.fields) : Int))) = true) (h0 : (sEq x0.name p1) = false) {r : Rs} (hr : Q7 G (Qec p0 p1 (i0 + 1)) r) : Q7 G (Qec p0 p1 i0) r := by
 have hB0 := H.1
 exact Qa VOK.nil (y := (Qwn p0 p1 (i0 + 1), Qvf p0 p1 (i0 + 1))) [hP 3 (Qe (Fld.rows p0.fields) (List.length p0.fields) (Fld.Q8 p0.fields)), hB 0 hc0, hP 3 (Q10 6 (Fld.rows p0.fields) i0 _ (Fld.Qg hx0) rfl), hB 3 h0, hP 1 (Qr i0 (by omega))] [] (by kernel_rfl) hr
theorem Qv3 (p0 : Val) (p1 : BA) (H : Qfq p0 p1) : ∀ (r0 : List Fld) (i0 : Nat), List.drop i0 p0.fields = r0 → Qf3 p0 p1 (Qec p0 p1 i0) (Q77 p0 p1 r0 i0)
 | [], i0, hd => by
  have hc0 : (decide ((i0 : Int) < ((List.length p0.fields) : Int))) = false := by have := Q1d hd; simp; omega
  rw [Q77]
  exact Q14v p0 p1 H i0 hc0
 | x0 :: r0, i0, hd => by
  obtain ⟨hx0, hi0, hd'⟩ := Qz hd
  have hc0 : (decide ((i0 : Int) < ((List.length p0.fields) : Int))) = true := by simp; omega
  rw [Q77]
  cases h0 : (sEq x0.name p1) with
  | true =>
   exact Q139 p0 p1 H x0 i0 hx0 hi0 hc0 h0
  | false =>
   exact Qt1 p0 p1 (fun r hr => Q14w p0 p1 H x0 i0 hx0 hi0 hc0 h0 hr) _ (Qv3 p0 p1 H r0 (i0 + 1) hd')
def s_Kl (p0 : Val) (p1 : BA) : Val × Bool :=
 bif (p0.kind == 5) then
  (match (Q77 p0 p1 p0.fields 0) with
  | .k0 => ((Val.mk 0 0 eB [] []), false)
  | .k1 y1_0 => (y1_0, true))
 else
  ((Val.mk 0 0 eB [] []), false)
def c_Kl (p0 : Val) (p1 : BA) : En := .call 21 [.agg (Val.cells p0), .str p1] []
def a_Kl (p0 : Val) (p1 : BA) : Rs := .ret (.tup [.agg (Val.cells (s_Kl p0 p1).1), .bool (s_Kl p0 p1).2]) []
def H_Kl (p0 : Val) (p1 : BA) : Prop := (Qfq p0 p1) ∧ True
theorem t_Kl (p0 : Val) (p1 : BA) (H : H_Kl p0 p1) : Q7 G (c_Kl p0 p1) (a_Kl p0 p1) := by
 unfold a_Kl s_Kl
 cases h0 : (p0.kind == 5) with
 | true =>
  have hl1 := Qv3 p0 p1 (H.1) p0.fields 0 (by simp)
  cases hr1 : (Q77 p0 p1 p0.fields 0) with
  | k0 =>
   rw [hr1] at hl1
   obtain ⟨z1, zo1, hl1⟩ := hl1
   exact Q9 (fn := Ir.Kl) rfl VOK.nil [hB 5 h0] [aN hl1] (by kernel_rfl)
  | k1 y1_0 =>
   rw [hr1] at hl1
   obtain ⟨z1, zo1, hl1⟩ := hl1
   exact Q9 (fn := Ir.Kl) rfl VOK.nil [hB 5 h0] [aN hl1] (by kernel_rfl)
 | false =>
  exact Q9 (fn := Ir.Kl) rfl VOK.nil [hB 5 h0] [] (by kernel_rfl)
def Q3s (p0 : Fld) (o0 : BA) : Bool :=
 (sEq p0.name o0)
def Q1dl (p0 : Fld) (o0 : BA) : En := .call 57 [.agg (Fld.cells p0), .bx 0 0] [⟨1, 0, false, [.str o0]⟩]
def Q14m (_p0 : Fld) (o0 : BA) (q0 : Bool) : Rs := .ret (.bool q0) [⟨1, 0, false, [.str o0]⟩]
def Q19g (p0 : Fld) (o0 : BA) : Rs := Q14m p0 o0 (Q3s p0 o0)
theorem Q16h (p0 : Fld) (o0 : BA) : Q7 G (Q1dl p0 o0) (Q19g p0 o0) := by
 unfold Q19g Q3s
 exact Q9 (fn := Ir.K1t) rfl (h := [⟨1, 0, false, [.str o0]⟩]) (vw := []) VOK.nil [] [] (by kernel_rfl)
inductive Qv5 where
  | k0
  | k1 (q0 : Int)
def Q2q (p0 : List Fld) (o0 : BA) : List Fld → Nat → Qv5
 | [], _i0 =>
  (.k0)
 | x0 :: r0, i0 =>
  bif (Q3s x0 o0) then
   (.k1 (i0 : Int))
  else
   Q2q p0 o0 r0 (i0 + 1)
def Qoy (p0 : List Fld) (_o0 : BA) (i0 : Nat) : List PV :=
  [.sl (Fld.rows p0), .fn 57 [] [.bx 0 0], .un, .un, .un, .un, .un, .int .i64 ((List.length p0) : Int), .int .i64 (i0 : Int), .un, .un, .un, .un, .un, .un, .un, .un, .un, .un]
def Qov (_p0 : List Fld) (o0 : BA) (_i0 : Nat) : List Ob :=
  [⟨1, 0, false, [.str o0]⟩]
def Q93 (p0 : List Fld) (o0 : BA) (i0 : Nat) : En := .loop 1 Ir.Qhf Ir.Q17s (Qoy p0 o0 i0) (Qov p0 o0 i0)
def Qk4 (_p0 : List Fld) (o0 : BA) (z : Nat → PV) (_zo : Nat → List PV) : St :=
  ⟨[z 0, z 1, z 2, z 3, z 4, z 5, z 6, z 7, z 8, z 9, z 10, z 11, z 12, z 13, z 14, z 15, z 16, z 17, z 18], [(0, ⟨1, 0, false, [.str o0]⟩)], 65⟩
def Qlq (_p0 : List Fld) (o0 : BA) (q0 : Int) (z : Nat → PV) (_zo : Nat → List PV) : St :=
  ⟨[z 0, z 1, z 2, z 3, .int .i64 q0, z 5, z 6, z 7, z 8, z 9, z 10, z 11, z 12, z 13, z 14, z 15, z 16, z 17, z 18], [(0, ⟨1, 0, false, [.str o0]⟩)], 705⟩
def Q9g (p0 : List Fld) (o0 : BA) (e : En) : Qv5 → Prop
  | .k0 => ∃ z zo, Q7 G e (.st (.exit 0) (Qk4 p0 o0 z zo))
  | .k1 q0 => ∃ z zo, Q7 G e (.st .ret (Qlq p0 o0 q0 z zo))
theorem Qo6 (p0 : List Fld) (o0 : BA) {e e' : En} (h : ∀ r, Q7 G e r → Q7 G e' r) : ∀ q, Q9g p0 o0 e q → Q9g p0 o0 e' q
  | .k0, ⟨z, zo, hz⟩ => ⟨z, zo, h _ hz⟩
  | .k1 _, ⟨z, zo, hz⟩ => ⟨z, zo, h _ hz⟩
def Q9f (p0 : List Fld) (_o0 : BA) : Prop := (List.length p0 ≤ 4611686018427387904) ∧ True
def Qkh (p0 : List Fld) (_o0 : BA) (i0 : Nat) : List PV :=
  [.sl (Fld.rows p0), .fn 57 [] [.bx 0 0], .un, .un, .un, .un, .un, .int .i64 ((List.length p0) : Int), .int .i64 (i0 : Int), .bool false]
def Qgg (_p0 : List Fld) (_o0 : BA) (_i0 : Nat) : List (Nat × List PV) :=
  []
theorem Q10d (p0 : List Fld) (o0 : BA) (_H : Q9f p0 o0) (i0 : Nat) (hc0 : (decide ((i0 : Int) < ((List.length p0) : Int))) = false) : Q9g p0 o0 (Q93 p0 o0 i0) (.k0) := by
 exact ⟨(envF (Qkh p0 o0 i0)), (zoF (Qgg p0 o0 i0)), Qf VOK.nil (x := ((.exit 0), Qk4 p0 o0 (envF (Qkh p0 o0 i0)) (zoF (Qgg p0 o0 i0)))) [hB 0 hc0] [] (by kernel_rfl)⟩
def Qja (p0 : List Fld) (_o0 : BA) (i0 : Nat) (x0 : Fld) : List PV :=
  [.sl (Fld.rows p0), .fn 57 [] [.bx 0 0], .un, .un, .un, .int .i64 (i0 : Int), .un, .int .i64 ((List.length p0) : Int), .int .i64 (i0 : Int), .bool true, .int .i64 (i0 : Int), .fn 57 [] [.bx 0 0], .sl (Fld.rows p0), .int .i64 (i0 : Int), .rf [.str x0.name, .int .i64 x0.v.kind, .int .i64 x0.v.n, .str x0.v.s, .sl (Val.rows x0.v.list), .sl (Fld.rows x0.v.fields)], .agg [.str x0.name, .int .i64 x0.v.kind, .int .i64 x0.v.n, .str x0.v.s, .sl (Val.rows x0.v.list), .sl (Fld.rows x0.v.fields)], .bool true, .int .i64 (i0 : Int)]
def Qf6 (_p0 : List Fld) (_o0 : BA) (_i0 : Nat) (_x0 : Fld) : List (Nat × List PV) :=
  []
theorem Q103 (p0 : List Fld) (o0 : BA) (_H : Q9f p0 o0) (x0 : Fld) (i0 : Nat) (hx0 : p0[i0]? = some x0) (_hi0 : i0 < List.length p0) (hc0 : (decide ((i0 : Int) < ((List.length p0) : Int))) = true) (h0 : (Q3s x0 o0) = true) : Q9g p0 o0 (Q93 p0 o0 i0) (.k1 (i0 : Int)) := by
 exact ⟨(envF (Qja p0 o0 i0 x0)), (zoF (Qf6 p0 o0 i0 x0)), Qf VOK.nil (x := (.ret, Qlq p0 o0 (i0 : Int) (envF (Qja p0 o0 i0 x0)) (zoF (Qf6 p0 o0 i0 x0)))) [hB 0 hc0, hP 5 (Q10 6 (Fld.rows p0) i0 _ (Fld.Qg hx0) rfl)] [aN (toldOf (Q16h x0 o0) (congrArg (fun b => Q14m x0 o0 b) h0))] (by kernel_rfl)⟩
theorem Qxp (p0 : List Fld) (o0 : BA) (H : Q9f p0 o0) (x0 : Fld) (i0 : Nat) (hx0 : p0[i0]? = some x0) (hi0 : i0 < List.length p0) (hc0 : (decide ((i0 : Int) < ((List.length p0) : Int))) = true) (h0 : (Q3s x0 o0) = false) {r : Rs} (hr : Q7 G (Q93 p0 o0 (i0 + 1)) r) : Q7 G (Q93 p0 o0 i0) r := by
 have hB0 := H.1
 exact Qa VOK.nil (y := (Qoy p0 o0 (i0 + 1), Qov p0 o0 (i0 + 1))) [hB 0 hc0, hP 5 (Q10 6 (Fld.rows p0) i0 _ (Fld.Qg hx0) rfl), hP 2 (Qr i0 (by omega))] [aN (toldOf (Q16h x0 o0) (congrArg (fun b => Q14m x0 o0 b) h0))] (by kernel_rfl) hr
theorem Qqt (p0 : List Fld) (o0 : BA) (H : Q9f p0 o0) : ∀ (r0 : List Fld) (i0 : Nat), List.drop i0 p0 = r0 → Q9g p0 o0 (Q93 p0 o0 i0) (Q2q p0 o0 r0 i0)
 | [], i0, hd => by
  have hc0 : (decide ((i0 : Int) < ((List.length p0) : Int))) = false := by have := Q1d hd; simp; omega
  rw [Q2q]
  exact Q10d p0 o0 H i0 hc0
 | x0 :: r0, i0, hd => by
  obtain ⟨hx0, hi0, hd'⟩ := Qz hd
  have hc0 : (decide ((i0 : Int) < ((List.length p0) : Int))) = true := by simp; omega
  rw [Q2q]
  cases h0 : (Q3s x0 o0) with
  | true =>
   exact Q103 p0 o0 H x0 i0 hx0 hi0 hc0 h0
  | false =>
   exact Qo6 p0 o0 (fun r hr => Qxp p0 o0 H x0 i0 hx0 hi0 hc0 h0 hr) _ (Qqt p0 o0 H r0 (i0 + 1) hd')
def Q11 (p0 : List Fld) (o0 : BA) : Int :=
 (match (Q2q p0 o0 p0 0) with
 | .k0 => (-1)
 | .k1 y0_0 => y0_0)
def Q1cr (p0 : List Fld) (o0 : BA) : En := .call 69 [.sl (Fld.rows p0), .fn 57 [] [.bx 0 0]] [⟨1, 0, false, [.str o0]⟩]
def Q1c8 (_p0 : List Fld) (o0 : BA) (q0 : Int) : Rs := .ret (.int .i64 q0) [⟨1, 0, false, [.str o0]⟩]
def Q19p (p0 : List Fld) (o0 : BA) : Rs := Q1c8 p0 o0 (Q11 p0 o0)
def Q1bs (p0 : List Fld) (o0 : BA) : Prop := (Q9f p0 o0) ∧ True
theorem Q1bi (p0 : List Fld) (o0 : BA) (H : Q1bs p0 o0) : Q7 G (Q1cr p0 o0) (Q19p p0 o0) := by
 unfold Q19p Q11
 have hl0 := Qqt p0 o0 (H.1) p0 0 (by simp)
 cases hr0 : (Q2q p0 o0 p0 0) with
 | k0 =>
  rw [hr0] at hl0
  obtain ⟨z0, zo0, hl0⟩ := hl0
  exact Q9 (fn := Ir.K19) rfl (h := [⟨1, 0, false, [.str o0]⟩]) (vw := []) VOK.nil [hP 2 (Qe (Fld.rows p0) (List.length p0) (Fld.Q8 p0))] [aN hl0] (by kernel_rfl)
 | k1 y0_0 =>
  rw [hr0] at hl0
  obtain ⟨z0, zo0, hl0⟩ := hl0
  exact Q9 (fn := Ir.K19) rfl (h := [⟨1, 0, false, [.str o0]⟩]) (vw := []) VOK.nil [hP 2 (Qe (Fld.rows p0) (List.length p0) (Fld.Q8 p0))] [aN hl0] (by kernel_rfl)
theorem Qbg (p0 : List Fld) (o0 : BA) : ∀ (l : List Fld) (i : Nat), match Q2q p0 o0 l i with | .k0 => True | .k1 q => (i : Int) ≤ q ∧ q < (i : Int) + (l.length : Int)
  | [], _ => trivial
  | x :: l, i => by
    rw [Q2q]
    have ih := Qbg p0 o0 l (i + 1)
    cases Q3s x o0 with
    | true =>
      show (i : Int) ≤ (i : Int) ∧ (i : Int) < _
      simp only [List.length_cons]
      omega
    | false =>
      rw [cond_false]
      cases e : Q2q p0 o0 l (i + 1) with
      | k0 => trivial
      | k1 q =>
        rw [e] at ih
        simp only at ih ⊢
        simp only [List.length_cons]
        omega
theorem Qj (p0 : List Fld) (o0 : BA) : -1 ≤ Q11 p0 o0 ∧ Q11 p0 o0 < (List.length p0 : Int) := by
  have h := Qbg p0 o0 p0 0
  unfold Q11
  cases e : Q2q p0 o0 p0 0 with
  | k0 => exact ⟨Int.le_refl _, by simp only; omega⟩
  | k1 q =>
    rw [e] at h
    simp only at h ⊢
    omega
def Q1c (n0 : Nat) (o1 : BA) : Nat → Int → Int → (List Fld) → (List Fld) × Int
 | 0, v0_0, _v0_1, v0_2 => (v0_2, v0_0)
 | k0 + 1, v0_0, v0_1, v0_2 =>
  bif (decide (v0_1 < (n0 : Int))) then
   bif (Q3s (List.getD v0_2 (Int.toNat v0_1) zF) o1) then
    Q1c n0 o1 k0 v0_0 (v0_1 + 1) v0_2
   else
    Q1c n0 o1 k0 (v0_0 + 1) (v0_1 + 1) (List.set v0_2 (Int.toNat v0_0) (List.getD v0_2 (Int.toNat v0_1) zF))
  else
   (v0_2, v0_0)
def Qhl (n0 : Nat) (_o1 : BA) (v0_0 : Int) (v0_1 : Int) (_v0_2 : List Fld) : List PV :=
  [.ms 0 6 0 n0, .fn 57 [] [.bx 1 0], .un, .un, .un, .int .i64 v0_0, .int .i64 v0_1, .un, .un, .un, .un, .un, .un, .un, .un, .un, .un, .un, .un, .un, .un, .un, .un, .un, .un, .un, .un, .un, .un, .un, .un, .un, .un, .un, .un, .un, .un, .un, .un, .un, .un, .un]
def Q94 (_n0 : Nat) (o1 : BA) (_v0_0 : Int) (_v0_1 : Int) (v0_2 : List Fld) : List Ob :=
  [⟨6, 0, false, (Fld.rows v0_2).flatten⟩, ⟨1, 0, false, [.str o1]⟩]
def Q7h (n0 : Nat) (o1 : BA) (v0_0 : Int) (v0_1 : Int) (v0_2 : List Fld) : En := .loop 2 Ir.Qel Ir.Q17l (Qhl n0 o1 v0_0 v0_1 v0_2) (Q94 n0 o1 v0_0 v0_1 v0_2)
def Qlx (n0 : Nat) (o1 : BA) (q0 : List Fld) (q1 : Int) (z : Nat → PV) (_zo : Nat → List PV) : St :=
  ⟨[.ms 0 6 0 n0, z 1, z 2, z 3, z 4, .int .i64 q1, z 6, z 7, z 8, z 9, z 10, z 11, z 12, z 13, z 14, z 15, z 16, z 17, z 18, z 19, z 20, z 21, z 22, z 23, z 24, z 25, z 26, z 27, z 28, z 29, z 30, z 31, z 32, z 33, z 34, z 35, z 36, z 37, z 38, z 39, z 40, z 41], [(0, ⟨6, 0, false, (Fld.rows q0).flatten⟩), (1, ⟨1, 0, false, [.str o1]⟩)], 258⟩
theorem Qms (n0 : Nat) (o1 : BA) (v0_0 : Int) (v0_1 : Int) (v0_2 : List Fld) : VOK (Go.Pv.look (number 0 (Q94 n0 o1 v0_0 v0_1 v0_2))) [(0, Fld.rows v0_2)] := (VOK.cons (show Seen _ _ from Q3v (ob := ⟨6, 0, false, (Fld.rows v0_2).flatten⟩) (Fld.Q5 v0_2 6 rfl)) VOK.nil)
def Qcn (n0 : Nat) (o1 : BA) (e : En) (q : (List Fld) × Int) : Prop := ∃ z zo, Q7 G e (.st (.exit 0) (Qlx n0 o1 q.1 q.2 z zo))
theorem Qaj (n0 : Nat) (o1 : BA) {e e' : En} (h : ∀ r, Q7 G e r → Q7 G e' r) : ∀ q, Qcn n0 o1 e q → Qcn n0 o1 e' q
  | _, ⟨z, zo, hz⟩ => ⟨z, zo, h _ hz⟩
theorem Qza (n0 : Nat) (o1 : BA) (v0_0 : Int) (v0_1 : Int) (v0_2 : List Fld) (ho0_0 : 0 ≤ v0_0) (ho0_1 : v0_0 < v0_1) (_ho0_2 : v0_1 ≤ (n0 : Int)) (ho0_3 : (n0 : Int) ≤ 1152921504606846976) (ho0_4 : List.length v0_2 = n0) (h0 : (decide (v0_1 < (n0 : Int))) = true) (h1 : (Q3s (List.getD v0_2 (Int.toNat v0_1) zF) o1) = true) {r : Rs} (hr : Q7 G (Q7h n0 o1 v0_0 (v0_1 + 1) v0_2) r) : Q7 G (Q7h n0 o1 v0_0 v0_1 v0_2) r := by
 have e0 := of_decide_eq_true h0
 exact Qa (Qms n0 o1 v0_0 v0_1 v0_2) (y := (Qhl n0 o1 v0_0 (v0_1 + 1) v0_2, Q94 n0 o1 v0_0 (v0_1 + 1) v0_2)) [hB 3 h0, hP 2 (Q1m 0 6 n0 v0_1 (Int.toNat v0_1) rfl (by omega) (by omega)), hP 0 (Q31 0 6 0 false ((Fld.rows v0_2).flatten) (Fld.rows v0_2) 6 true (Int.toNat v0_1) 0 ((Int.toNat v0_1) * 6) (Fld.cells (List.getD v0_2 (Int.toNat v0_1) zF)) (.agg [.str (List.getD v0_2 (Int.toNat v0_1) zF).name, .int .i64 (List.getD v0_2 (Int.toNat v0_1) zF).v.kind, .int .i64 (List.getD v0_2 (Int.toNat v0_1) zF).v.n, .str (List.getD v0_2 (Int.toNat v0_1) zF).v.s, .sl (Val.rows (List.getD v0_2 (Int.toNat v0_1) zF).v.list), .sl (Fld.rows (List.getD v0_2 (Int.toNat v0_1) zF).v.fields)]) rfl rfl (Fld.Qg (Qu v0_2 (Int.toNat v0_1) zF (by omega))) (Fld.Ql v0_2) (by decide) rfl), hP 7 (w_ok (v0_1 + 1) (by omega))] [aN (toldOf (Q16h (List.getD v0_2 (Int.toNat v0_1) zF) o1) (congrArg (fun b => Q14m (List.getD v0_2 (Int.toNat v0_1) zF) o1 b) h1))] (by kernel_rfl) hr
theorem Qx7 (n0 : Nat) (o1 : BA) (v0_0 : Int) (v0_1 : Int) (v0_2 : List Fld) (ho0_0 : 0 ≤ v0_0) (ho0_1 : v0_0 < v0_1) (_ho0_2 : v0_1 ≤ (n0 : Int)) (ho0_3 : (n0 : Int) ≤ 1152921504606846976) (ho0_4 : List.length v0_2 = n0) (h0 : (decide (v0_1 < (n0 : Int))) = true) (h1 : (Q3s (List.getD v0_2 (Int.toNat v0_1) zF) o1) = false) {r : Rs} (hr : Q7 G (Q7h n0 o1 (v0_0 + 1) (v0_1 + 1) (List.set v0_2 (Int.toNat v0_0) (List.getD v0_2 (Int.toNat v0_1) zF))) r) : Q7 G (Q7h n0 o1 v0_0 v0_1 v0_2) r := by
 have e0 := of_decide_eq_true h0
 exact Qa (Qms n0 o1 v0_0 v0_1 v0_2) (y := (Qhl n0 o1 (v0_0 + 1) (v0_1 + 1) (List.set v0_2 (Int.toNat v0_0) (List.getD v0_2 (Int.toNat v0_1) zF)), Q94 n0 o1 (v0_0 + 1) (v0_1 + 1) (List.set v0_2 (Int.toNat v0_0) (List.getD v0_2 (Int.toNat v0_1) zF)))) [hB 3 h0, hP 2 (Q1m 0 6 n0 v0_1 (Int.toNat v0_1) rfl (by omega) (by omega)), hP 0 (Q31 0 6 0 false ((Fld.rows v0_2).flatten) (Fld.rows v0_2) 6 true (Int.toNat v0_1) 0 ((Int.toNat v0_1) * 6) (Fld.cells (List.getD v0_2 (Int.toNat v0_1) zF)) (.agg [.str (List.getD v0_2 (Int.toNat v0_1) zF).name, .int .i64 (List.getD v0_2 (Int.toNat v0_1) zF).v.kind, .int .i64 (List.getD v0_2 (Int.toNat v0_1) zF).v.n, .str (List.getD v0_2 (Int.toNat v0_1) zF).v.s, .sl (Val.rows (List.getD v0_2 (Int.toNat v0_1) zF).v.list), .sl (Fld.rows (List.getD v0_2 (Int.toNat v0_1) zF).v.fields)]) rfl rfl (Fld.Qg (Qu v0_2 (Int.toNat v0_1) zF (by omega))) (Fld.Ql v0_2) (by decide) rfl), hP 9 (Q1m 0 6 n0 v0_0 (Int.toNat v0_0) rfl (by omega) (by omega)), hV 0 [(0, Fld.rows (List.set v0_2 (Int.toNat v0_0) (List.getD v0_2 (Int.toNat v0_1) zF)))] (Qfd 0 6 false ((Fld.rows v0_2).flatten) (Fld.rows v0_2) (Fld.rows (List.set v0_2 (Int.toNat v0_0) (List.getD v0_2 (Int.toNat v0_1) zF))) 6 (Int.toNat v0_0) 0 ((Int.toNat v0_0) * 6) _ (.agg [.str (List.getD v0_2 (Int.toNat v0_1) zF).name, .int .i64 (List.getD v0_2 (Int.toNat v0_1) zF).v.kind, .int .i64 (List.getD v0_2 (Int.toNat v0_1) zF).v.n, .str (List.getD v0_2 (Int.toNat v0_1) zF).v.s, .sl (Val.rows (List.getD v0_2 (Int.toNat v0_1) zF).v.list), .sl (Fld.rows (List.getD v0_2 (Int.toNat v0_1) zF).v.fields)]) rfl rfl (Fld.Qg (Qu v0_2 (Int.toNat v0_0) zF (by omega))) (Fld.Ql v0_2) (by decide) rfl rfl (Fld.Q4y v0_2 (Int.toNat v0_0) (List.getD v0_2 (Int.toNat v0_1) zF))), hS 0 false (Fld.Q5 (List.set v0_2 (Int.toNat v0_0) (List.getD v0_2 (Int.toNat v0_1) zF)) 6 rfl), hP 1 (w_ok (v0_0 + 1) (by have f0 := (Qp ho0_4 (Int.toNat v0_0) (List.getD v0_2 (Int.toNat v0_1) zF)); omega)), hP 2 (w_ok (v0_1 + 1) (by have f0 := (Qp ho0_4 (Int.toNat v0_0) (List.getD v0_2 (Int.toNat v0_1) zF)); omega))] [aN (toldOf (Q16h (List.getD v0_2 (Int.toNat v0_1) zF) o1) (congrArg (fun b => Q14m (List.getD v0_2 (Int.toNat v0_1) zF) o1 b) h1))] (by kernel_rfl) hr
def Qkk (n0 : Nat) (_o1 : BA) (_v0_0 : Int) (v0_1 : Int) (_v0_2 : List Fld) : List PV :=
  [.un, .fn 57 [] [.bx 1 0], .un, .un, .un, .un, .int .i64 v0_1, .un, .un, .un, .un, .un, .un, .un, .un, .un, .int .i64 v0_1, .ms 0 6 0 n0, .int .i64 (n0 : Int), .bool false]
def Qhj (_n0 : Nat) (_o1 : BA) (_v0_0 : Int) (_v0_1 : Int) (_v0_2 : List Fld) : List (Nat × List PV) :=
  []
theorem Q10a (n0 : Nat) (o1 : BA) (v0_0 : Int) (v0_1 : Int) (v0_2 : List Fld) (_ho0_0 : 0 ≤ v0_0) (_ho0_1 : v0_0 < v0_1) (_ho0_2 : v0_1 ≤ (n0 : Int)) (_ho0_3 : (n0 : Int) ≤ 1152921504606846976) (_ho0_4 : List.length v0_2 = n0) (h0 : (decide (v0_1 < (n0 : Int))) = false) : Qcn n0 o1 (Q7h n0 o1 v0_0 v0_1 v0_2) (v0_2, v0_0) := by
 exact ⟨(envF (Qkk n0 o1 v0_0 v0_1 v0_2)), (zoF (Qhj n0 o1 v0_0 v0_1 v0_2)), Qf (Qms n0 o1 v0_0 v0_1 v0_2) (x := ((.exit 0), Qlx n0 o1 v0_2 v0_0 (envF (Qkk n0 o1 v0_0 v0_1 v0_2)) (zoF (Qhj n0 o1 v0_0 v0_1 v0_2)))) [hB 3 h0] [] (by kernel_rfl)⟩
theorem Qev (n0 : Nat) (o1 : BA) : ∀ (k0 : Nat) (v0_0 : Int) (v0_1 : Int) (v0_2 : List Fld), 0 ≤ v0_0 → v0_0 < v0_1 → v0_1 ≤ (n0 : Int) → (n0 : Int) ≤ 1152921504606846976 → List.length v0_2 = n0 → Int.toNat ((n0 : Int) - v0_1) < k0 → Qcn n0 o1 (Q7h n0 o1 v0_0 v0_1 v0_2) (Q1c n0 o1 k0 v0_0 v0_1 v0_2)
 | 0, v0_0, v0_1, v0_2, _, _, _, _, _, hm => absurd hm (Nat.not_lt_zero _)
 | k0 + 1, v0_0, v0_1, v0_2, ho0_0, ho0_1, ho0_2, ho0_3, ho0_4, hm => by
  rw [Q1c]
  cases h0 : (decide (v0_1 < (n0 : Int))) with
  | true =>
   have e0 := of_decide_eq_true h0
   cases h1 : (Q3s (List.getD v0_2 (Int.toNat v0_1) zF) o1) with
   | true =>
    exact Qaj n0 o1 (fun r hr => Qza n0 o1 v0_0 v0_1 v0_2 ho0_0 ho0_1 ho0_2 ho0_3 ho0_4 h0 h1 hr) _ (Qev n0 o1 k0 v0_0 (v0_1 + 1) v0_2 (by omega) (by omega) (by omega) (by omega) ho0_4 (by omega))
   | false =>
    exact Qaj n0 o1 (fun r hr => Qx7 n0 o1 v0_0 v0_1 v0_2 ho0_0 ho0_1 ho0_2 ho0_3 ho0_4 h0 h1 hr) _ (Qev n0 o1 k0 (v0_0 + 1) (v0_1 + 1) (List.set v0_2 (Int.toNat v0_0) (List.getD v0_2 (Int.toNat v0_1) zF)) (by have f0 := (Qp ho0_4 (Int.toNat v0_0) (List.getD v0_2 (Int.toNat v0_1) zF)); omega) (by have f0 := (Qp ho0_4 (Int.toNat v0_0) (List.getD v0_2 (Int.toNat v0_1) zF)); omega) (by have f0 := (Qp ho0_4 (Int.toNat v0_0) (List.getD v0_2 (Int.toNat v0_1) zF)); omega) (by have f0 := (Qp ho0_4 (Int.toNat v0_0) (List.getD v0_2 (Int.toNat v0_1) zF)); omega) (Qp ho0_4 (Int.toNat v0_0) (List.getD v0_2 (Int.toNat v0_1) zF)) (by have f0 := (Qp ho0_4 (Int.toNat v0_0) (List.getD v0_2 (Int.toNat v0_1) zF)); omega))
  | false =>
   exact Q10a n0 o1 v0_0 v0_1 v0_2 ho0_0 ho0_1 ho0_2 ho0_3 ho0_4 h0
theorem Q3u (n0 : Nat) (o1 : BA) : ∀ (k0 : Nat) (v0_0 : Int) (v0_1 : Int) (v0_2 : List Fld), List.length v0_2 = n0 → List.length (Q1c n0 o1 k0 v0_0 v0_1 v0_2).1 = n0
 | 0, v0_0, v0_1, v0_2, ho0_4 => by rw [Q1c]; exact ho0_4
 | k0 + 1, v0_0, v0_1, v0_2, ho0_4 => by
  rw [Q1c]
  cases h0 : (decide (v0_1 < (n0 : Int))) with
  | true =>
   cases h1 : (Q3s (List.getD v0_2 (Int.toNat v0_1) zF) o1) with
   | true =>
    exact Q3u n0 o1 k0 v0_0 (v0_1 + 1) v0_2 ho0_4
   | false =>
    exact Q3u n0 o1 k0 (v0_0 + 1) (v0_1 + 1) (List.set v0_2 (Int.toNat v0_0) (List.getD v0_2 (Int.toNat v0_1) zF)) (Qp ho0_4 (Int.toNat v0_0) (List.getD v0_2 (Int.toNat v0_1) zF))
  | false =>
   exact ho0_4
theorem Q48 (n0 : Nat) (o1 : BA) : ∀ (k0 : Nat) (v0_0 : Int) (v0_1 : Int) (v0_2 : List Fld), 0 ≤ v0_0 → v0_0 < v0_1 → v0_1 ≤ (n0 : Int) → (n0 : Int) ≤ 1152921504606846976 → List.length v0_2 = n0 → Int.toNat ((n0 : Int) - v0_1) < k0 → 0 ≤ (Q1c n0 o1 k0 v0_0 v0_1 v0_2).2 ∧ (Q1c n0 o1 k0 v0_0 v0_1 v0_2).2 < (n0 : Int)
 | 0, v0_0, v0_1, v0_2, _, _, _, _, _, hm => absurd hm (Nat.not_lt_zero _)
 | k0 + 1, v0_0, v0_1, v0_2, ho0_0, ho0_1, ho0_2, ho0_3, ho0_4, hm => by
  rw [Q1c]
  cases h0 : (decide (v0_1 < (n0 : Int))) with
  | true =>
   have e0 := of_decide_eq_true h0
   cases h1 : (Q3s (List.getD v0_2 (Int.toNat v0_1) zF) o1) with
   | true =>
    exact Q48 n0 o1 k0 v0_0 (v0_1 + 1) v0_2 (by omega) (by omega) (by omega) (by omega) ho0_4 (by omega)
   | false =>
    exact Q48 n0 o1 k0 (v0_0 + 1) (v0_1 + 1) (List.set v0_2 (Int.toNat v0_0) (List.getD v0_2 (Int.toNat v0_1) zF)) (by have f0 := (Qp ho0_4 (Int.toNat v0_0) (List.getD v0_2 (Int.toNat v0_1) zF)); omega) (by have f0 := (Qp ho0_4 (Int.toNat v0_0) (List.getD v0_2 (Int.toNat v0_1) zF)); omega) (by have f0 := (Qp ho0_4 (Int.toNat v0_0) (List.getD v0_2 (Int.toNat v0_1) zF)); omega) (by have f0 := (Qp ho0_4 (Int.toNat v0_0) (List.getD v0_2 (Int.toNat v0_1) zF)); omega) (Qp ho0_4 (Int.toNat v0_0) (List.getD v0_2 (Int.toNat v0_1) zF)) (by have f0 := (Qp ho0_4 (Int.toNat v0_0) (List.getD v0_2 (Int.toNat v0_1) zF)); omega)
  | false =>
   have e0 := of_decide_eq_false h0
   exact (show 0 ≤ v0_0 ∧ v0_0 < (n0 : Int) from ⟨(by omega), (by omega)⟩)
def Qo3 (n0 : Nat) (o0 : List Fld) (o1 : BA) : Nat × (List Fld) :=
 bif ((Q11 o0 o1) == (-1)) then
  (n0, o0)
 else
  ((Int.toNat (Q1c n0 o1 ((Int.toNat ((n0 : Int) - ((Q11 o0 o1) + 1))) + 1) (Q11 o0 o1) ((Q11 o0 o1) + 1) o0).2), (List.take (Int.toNat (Q1c n0 o1 ((Int.toNat ((n0 : Int) - ((Q11 o0 o1) + 1))) + 1) (Q11 o0 o1) ((Q11 o0 o1) + 1) o0).2) (Q1c n0 o1 ((Int.toNat ((n0 : Int) - ((Q11 o0 o1) + 1))) + 1) (Q11 o0 o1) ((Q11 o0 o1) + 1) o0).1))
def Q1bz (n0 : Nat) (o0 : List Fld) (o1 : BA) : En := .call 56 [.ms 0 6 0 n0, .fn 57 [] [.bx 1 0]] [⟨6, 0, false, (Fld.rows o0).flatten⟩, ⟨1, 0, false, [.str o1]⟩]
def Q1cc (_n0 : Nat) (_o0 : List Fld) (o1 : BA) (q0 : Nat) (q1 : List Fld) : Rs := .ret (.ms 0 6 0 q0) [⟨6, 0, false, (Fld.rows q1).flatten⟩, ⟨1, 0, false, [.str o1]⟩]
def Q1bj (n0 : Nat) (o0 : List Fld) (o1 : BA) : Rs := Q1cc n0 o0 o1 (Qo3 n0 o0 o1).1 (Qo3 n0 o0 o1).2
def Q19n (_n0 : Nat) (o0 : List Fld) (o1 : BA) : Prop := (Q1bs o0 o1) ∧ True
theorem Q1di (n0 : Nat) (o0 : List Fld) (o1 : BA) (hn0 : List.length o0 = n0) (hq0 : (n0 : Int) ≤ 1152921504606846976) (H : Q19n n0 o0 o1) : Q7 G (Q1bz n0 o0 o1) (Q1bj n0 o0 o1) := by
 unfold Q1bj Qo3
 cases h0 : ((Q11 o0 o1) == (-1)) with
 | true =>
  exact Q9 (fn := Ir.K18) rfl (h := [⟨6, 0, false, (Fld.rows o0).flatten⟩, ⟨1, 0, false, [.str o1]⟩]) (vw := [(0, Fld.rows o0)]) (VOK.cons (show Seen _ _ from Q3v (ob := ⟨6, 0, false, (Fld.rows o0).flatten⟩) (Fld.Q5 o0 6 rfl)) VOK.nil) [hQ ((Fld.Q8 o0).trans hn0).symm, hB 6 h0] [aN (Q1bi o0 o1 H.1)] (by kernel_rfl)
 | false =>
  have e0 := beq_eq_false_iff_ne.1 h0
  have hl1 := Qev n0 o1 ((Int.toNat ((n0 : Int) - ((Q11 o0 o1) + 1))) + 1) (Q11 o0 o1) ((Q11 o0 o1) + 1) o0 (by have g0 := (Qj o0 o1); omega) (by have g0 := (Qj o0 o1); omega) (by have g0 := (Qj o0 o1); omega) (by have g0 := (Qj o0 o1); omega) hn0 (by omega)
  obtain ⟨z1, zo1, hl1⟩ := hl1
  exact Q9 (fn := Ir.K18) rfl (h := [⟨6, 0, false, (Fld.rows o0).flatten⟩, ⟨1, 0, false, [.str o1]⟩]) (vw := [(0, Fld.rows o0)]) (VOK.cons (show Seen _ _ from Q3v (ob := ⟨6, 0, false, (Fld.rows o0).flatten⟩) (Fld.Q5 o0 6 rfl)) VOK.nil) [hQ ((Fld.Q8 o0).trans hn0).symm, hB 6 h0, hP 1 (w_ok ((Q11 o0 o1) + 1) (by have g0 := (Qj o0 o1); omega)), hS 0 false (Fld.Q5 (Q1c n0 o1 ((Int.toNat ((n0 : Int) - ((Q11 o0 o1) + 1))) + 1) (Q11 o0 o1) ((Q11 o0 o1) + 1) o0).1 6 rfl), hP 3 (Q167 0 6 n0 (Q1c n0 o1 ((Int.toNat ((n0 : Int) - ((Q11 o0 o1) + 1))) + 1) (Q11 o0 o1) ((Q11 o0 o1) + 1) o0).2 (by have f0 := (Q3u n0 o1 ((Int.toNat ((n0 : Int) - ((Q11 o0 o1) + 1))) + 1) (Q11 o0 o1) ((Q11 o0 o1) + 1) o0 hn0); have g0 := (Qj o0 o1); have g1 := Q48 n0 o1 ((Int.toNat ((n0 : Int) - ((Q11 o0 o1) + 1))) + 1) (Q11 o0 o1) ((Q11 o0 o1) + 1) o0 (by have g0 := (Qj o0 o1); omega) (by have g0 := (Qj o0 o1); omega) (by have g0 := (Qj o0 o1); omega) (by have g0 := (Qj o0 o1); omega) hn0 (by omega); omega) (by have f0 := (Q3u n0 o1 ((Int.toNat ((n0 : Int) - ((Q11 o0 o1) + 1))) + 1) (Q11 o0 o1) ((Q11 o0 o1) + 1) o0 hn0); have g0 := (Qj o0 o1); have g1 := Q48 n0 o1 ((Int.toNat ((n0 : Int) - ((Q11 o0 o1) + 1))) + 1) (Q11 o0 o1) ((Q11 o0 o1) + 1) o0 (by have g0 := (Qj o0 o1); omega) (by have g0 := (Qj o0 o1); omega) (by have g0 := (Qj o0 o1); omega) (by have g0 := (Qj o0 o1); omega) hn0 (by omega); omega)), hV 0 [(0, Fld.rows (List.take (Int.toNat (Q1c n0 o1 ((Int.toNat ((n0 : Int) - ((Q11 o0 o1) + 1))) + 1) (Q11 o0 o1) ((Q11 o0 o1) + 1) o0).2) (Q1c n0 o1 ((Int.toNat ((n0 : Int) - ((Q11 o0 o1) + 1))) + 1) (Q11 o0 o1) ((Q11 o0 o1) + 1) o0).1))] (Q190 0 6 false (Fld.rows (Q1c n0 o1 ((Int.toNat ((n0 : Int) - ((Q11 o0 o1) + 1))) + 1) (Q11 o0 o1) ((Q11 o0 o1) + 1) o0).1) (Fld.rows (List.take (Int.toNat (Q1c n0 o1 ((Int.toNat ((n0 : Int) - ((Q11 o0 o1) + 1))) + 1) (Q11 o0 o1) ((Q11 o0 o1) + 1) o0).2) (Q1c n0 o1 ((Int.toNat ((n0 : Int) - ((Q11 o0 o1) + 1))) + 1) (Q11 o0 o1) ((Q11 o0 o1) + 1) o0).1)) (Int.toNat (Q1c n0 o1 ((Int.toNat ((n0 : Int) - ((Q11 o0 o1) + 1))) + 1) (Q11 o0 o1) ((Q11 o0 o1) + 1) o0).2) (n0 - (Int.toNat (Q1c n0 o1 ((Int.toNat ((n0 : Int) - ((Q11 o0 o1) + 1))) + 1) (Q11 o0 o1) ((Q11 o0 o1) + 1) o0).2)) [.str eB, .int .i64 0, .int .i64 0, .str eB, .ns 5, .ns 6] (Fld.Ql (Q1c n0 o1 ((Int.toNat ((n0 : Int) - ((Q11 o0 o1) + 1))) + 1) (Q11 o0 o1) ((Q11 o0 o1) + 1) o0).1) (by rw [Fld.Q8]; exact (by have f0 := (Q3u n0 o1 ((Int.toNat ((n0 : Int) - ((Q11 o0 o1) + 1))) + 1) (Q11 o0 o1) ((Q11 o0 o1) + 1) o0 hn0); have g0 := (Qj o0 o1); have g1 := Q48 n0 o1 ((Int.toNat ((n0 : Int) - ((Q11 o0 o1) + 1))) + 1) (Q11 o0 o1) ((Q11 o0 o1) + 1) o0 (by have g0 := (Qj o0 o1); omega) (by have g0 := (Qj o0 o1); omega) (by have g0 := (Qj o0 o1); omega) (by have g0 := (Qj o0 o1); omega) hn0 (by omega); omega)) (by have f0 := (Q3u n0 o1 ((Int.toNat ((n0 : Int) - ((Q11 o0 o1) + 1))) + 1) (Q11 o0 o1) ((Q11 o0 o1) + 1) o0 hn0); have g0 := (Qj o0 o1); have g1 := Q48 n0 o1 ((Int.toNat ((n0 : Int) - ((Q11 o0 o1) + 1))) + 1) (Q11 o0 o1) ((Q11 o0 o1) + 1) o0 (by have g0 := (Qj o0 o1); omega) (by have g0 := (Qj o0 o1); omega) (by have g0 := (Qj o0 o1); omega) (by have g0 := (Qj o0 o1); omega) hn0 (by omega); omega) (by rw [Fld.Qch])), hS 0 false (Fld.Q5 (List.take (Int.toNat (Q1c n0 o1 ((Int.toNat ((n0 : Int) - ((Q11 o0 o1) + 1))) + 1) (Q11 o0 o1) ((Q11 o0 o1) + 1) o0).2) (Q1c n0 o1 ((Int.toNat ((n0 : Int) - ((Q11 o0 o1) + 1))) + 1) (Q11 o0 o1) ((Q11 o0 o1) + 1) o0).1) 6 rfl), hP 2 (Q15u 0 6 n0 (Q1c n0 o1 ((Int.toNat ((n0 : Int) - ((Q11 o0 o1) + 1))) + 1) (Q11 o0 o1) ((Q11 o0 o1) + 1) o0).2 (by have g0 := (Qj o0 o1); have g1 := Q48 n0 o1 ((Int.toNat ((n0 : Int) - ((Q11 o0 o1) + 1))) + 1) (Q11 o0 o1) ((Q11 o0 o1) + 1) o0 (by have g0 := (Qj o0 o1); omega) (by have g0 := (Qj o0 o1); omega) (by have g0 := (Qj o0 o1); omega) (by have g0 := (Qj o0 o1); omega) hn0 (by omega); omega) (by have g0 := (Qj o0 o1); have g1 := Q48 n0 o1 ((Int.toNat ((n0 : Int) - ((Q11 o0 o1) + 1))) + 1) (Q11 o0 o1) ((Q11 o0 o1) + 1) o0 (by have g0 := (Qj o0 o1); omega) (by have g0 := (Qj o0 o1); omega) (by have g0 := (Qj o0 o1); omega) (by have g0 := (Qj o0 o1); omega) hn0 (by omega); omega))] [aN (Q1bi o0 o1 H.1), aV [(0, Fld.rows (Q1c n0 o1 ((Int.toNat ((n0 : Int) - ((Q11 o0 o1) + 1))) + 1) (Q11 o0 o1) ((Q11 o0 o1) + 1) o0).1)] hl1] (by kernel_rfl)
def Q3c (p0 : Val) (p1 : BA) : Nat × (List Fld) :=
 bif (p0.kind == 5) then
  ((Qo3 (List.length p0.fields) p0.fields p1).1, (Qo3 (List.length p0.fields) p0.fields p1).2)
 else
  (0, [])
def Q1d0 (p0 : Val) (p1 : BA) : En := .call 46 [.agg (Val.cells p0), .str p1] []
def Q1cj (_p0 : Val) (_p1 : BA) (q0 : Nat) (q1 : List Fld) : Rs := .ret (.ms 0 6 0 q0) [⟨6, 0, true, (Fld.rows q1).flatten⟩]
def Q1aq (p0 : Val) (p1 : BA) : Rs := Q1cj p0 p1 (Q3c p0 p1).1 (Q3c p0 p1).2
def Q18q (p0 : Val) (p1 : BA) : Prop := (List.length p0.fields * 96 ≤ 140737488355328) ∧ ((p0.kind == 5) = true → ((List.length p0.fields) : Int) ≤ 1152921504606846976) ∧ (Q19n (List.length p0.fields) p0.fields p1) ∧ True
theorem Q1d9 (p0 : Val) (p1 : BA) (H : Q18q p0 p1) : Q7 G (Q1d0 p0 p1) (Q1aq p0 p1) := by
 unfold Q1aq Q3c
 cases h0 : (p0.kind == 5) with
 | true =>
  exact Q9 (fn := Ir.K1s) rfl VOK.nil [hP 5 (dec (!(p0.kind == 5)) false (by rw [h0]; rfl)), hQ (Fld.Q5 p0.fields 6 rfl), hQ (Fld.Q5 (Qo3 (List.length p0.fields) p0.fields p1).2 6 rfl)] [aV [(0, Fld.rows p0.fields)] (Q5y (G := G) (f := 41) (sz := 6) (bytes := 96) rfl (Fld.Q8 p0.fields) (Fld.Q5 p0.fields 6 rfl) H.1), aV [(0, Fld.rows (Qo3 (List.length p0.fields) p0.fields p1).2)] (Q1di (List.length p0.fields) p0.fields p1 rfl (H.2.1 h0) H.2.2.1)] (by kernel_rfl)
 | false =>
  exact Q9 (fn := Ir.K1s) rfl VOK.nil [hP 5 (dec (!(p0.kind == 5)) true (by rw [h0]; rfl))] [] (by kernel_rfl)
def Q41 (p0 : Val) (p1 : BA) : List Fld → Nat → (List Fld) → List Fld
 | [], _i0, v0_1 =>
  v0_1
 | x0 :: r0, i0, v0_1 =>
  bif (p0.kind == 5) then
   bif (sEq x0.name p1) then
    Q41 p0 p1 r0 (i0 + 1) v0_1
   else
    Q41 p0 p1 r0 (i0 + 1) (v0_1 ++ [x0])
  else
   v0_1
def Qn9 (_p0 : Val) (p1 : BA) (i0 : Nat) (v0_1 : List Fld) : List PV :=
  [.un, .str p1, .bx 0 0, .un, .un, .ms 1 6 0 (List.length v0_1), .int .i64 (i0 : Int), .un, .un, .un, .un, .un, .un, .un, .un, .un, .un, .un, .un, .un, .un, .un, .un, .un, .un, .un, .un, .un, .un, .un, .un, .un, .un, .un, .un, .un]
def Qca (p0 : Val) (_p1 : BA) (_i0 : Nat) (v0_1 : List Fld) : List Ob :=
  [⟨5, 0, true, [.int .i64 p0.kind, .int .i64 p0.n, .str p0.s, .sl (Val.rows p0.list), .sl (Fld.rows p0.fields)]⟩, ⟨6, 0, true, (Fld.rows v0_1).flatten⟩]
def Q8n (p0 : Val) (p1 : BA) (i0 : Nat) (v0_1 : List Fld) : En := .loop 0 Ir.Qk0 Ir.Q1av (Qn9 p0 p1 i0 v0_1) (Qca p0 p1 i0 v0_1)
def Qgu (p0 : Val) (_p1 : BA) (q0 : List Fld) (z : Nat → PV) (_zo : Nat → List PV) : St :=
  ⟨[z 0, z 1, z 2, z 3, z 4, .ms 1 6 0 (List.length q0), z 6, z 7, z 8, z 9, z 10, z 11, z 12, z 13, z 14, z 15, z 16, z 17, z 18, z 19, z 20, z 21, z 22, z 23, z 24, z 25, z 26, z 27, z 28, z 29, z 30, z 31, z 32, z 33, z 34, z 35], [(0, ⟨5, 0, true, [.int .i64 p0.kind, .int .i64 p0.n, .str p0.s, .sl (Val.rows p0.list), .sl (Fld.rows p0.fields)]⟩), (1, ⟨6, 0, true, (Fld.rows q0).flatten⟩)], 642⟩
theorem Qm8 (p0 : Val) (p1 : BA) (i0 : Nat) (v0_1 : List Fld) : VOK (Go.Pv.look (number 0 (Qca p0 p1 i0 v0_1))) [(1, Fld.rows v0_1)] := (VOK.cons (show Seen _ _ from Q3v (ob := ⟨6, 0, true, (Fld.rows v0_1).flatten⟩) (Fld.Q5 v0_1 6 rfl)) VOK.nil)
def Qd6 (p0 : Val) (p1 : BA) (e : En) (q : List Fld) : Prop := ∃ z zo, Q7 G e (.st (.exit 0) (Qgu p0 p1 q z zo))
theorem Qbv (p0 : Val) (p1 : BA) {e e' : En} (h : ∀ r, Q7 G e r → Q7 G e' r) : ∀ q, Qd6 p0 p1 e q → Qd6 p0 p1 e' q
  | _, ⟨z, zo, hz⟩ => ⟨z, zo, h _ hz⟩
def Qay (p0 : Val) (_p1 : BA) : Prop := (List.length p0.fields ≤ 137438953472) ∧ True
def Qru (p0 : Val) (p1 : BA) (i0 : Nat) (_v0_1 : List Fld) : List PV :=
  [.un, .str p1, .bx 0 0, .un, .un, .un, .int .i64 (i0 : Int), .int .i64 (i0 : Int), .bx 0 4, .sl (Fld.rows p0.fields), .int .i64 ((List.length p0.fields) : Int), .bool false, .bool false, .tup [], .tup [], .tup [], .bool false]
def Qkf (_p0 : Val) (_p1 : BA) (_i0 : Nat) (_v0_1 : List Fld) : List (Nat × List PV) :=
  []
theorem Q151 (p0 : Val) (p1 : BA) (_H : Qay p0 p1) (i0 : Nat) (v0_1 : List Fld) (_ho0_0 : List.length v0_1 ≤ i0) (hc0 : (decide ((i0 : Int) < ((List.length p0.fields) : Int))) = false) : Qd6 p0 p1 (Q8n p0 p1 i0 v0_1) v0_1 := by
 exact ⟨(envF (Qru p0 p1 i0 v0_1)), (zoF (Qkf p0 p1 i0 v0_1)), Qf (Qm8 p0 p1 i0 v0_1) (x := ((.exit 0), Qgu p0 p1 v0_1 (envF (Qru p0 p1 i0 v0_1)) (zoF (Qkf p0 p1 i0 v0_1)))) [hP 3 (Qe (Fld.rows p0.fields) (List.length p0.fields) (Fld.Q8 p0.fields)), hB 0 hc0] [] (by kernel_rfl)⟩
theorem Q118 (p0 : Val) (p1 : BA) (H : Qay p0 p1) (x0 : Fld) (i0 : Nat) (v0_1 : List Fld) (hx0 : p0.fields[i0]? = some x0) (hi0 : i0 < List.length p0.fields) (_ho0_0 : List.length v0_1 ≤ i0) (hc0 : (decide ((i0 : Int) < ((List.length p0.fields) : Int))) = true) (h0 : (p0.kind == 5) = true) (h1 : (sEq x0.name p1) = true) {r : Rs} (hr : Q7 G (Q8n p0 p1 (i0 + 1) v0_1) r) : Q7 G (Q8n p0 p1 i0 v0_1) r := by
 have hB0 := H.1; have e0 := eq_of_beq h0
 exact Qa (Qm8 p0 p1 i0 v0_1) (y := (Qn9 p0 p1 (i0 + 1) v0_1, Qca p0 p1 (i0 + 1) v0_1)) [hP 3 (Qe (Fld.rows p0.fields) (List.length p0.fields) (Fld.Q8 p0.fields)), hB 0 hc0, hB 3 h0, hP 4 (Q10 6 (Fld.rows p0.fields) i0 _ (Fld.Qg hx0) rfl), hP 3 (dec (!(sEq x0.name p1)) false (by rw [h1]; rfl)), hP 1 (Qr i0 (by omega))] [] (by kernel_rfl) hr
theorem Q10y (p0 : Val) (p1 : BA) (H : Qay p0 p1) (x0 : Fld) (i0 : Nat) (v0_1 : List Fld) (hx0 : p0.fields[i0]? = some x0) (hi0 : i0 < List.length p0.fields) (ho0_0 : List.length v0_1 ≤ i0) (hc0 : (decide ((i0 : Int) < ((List.length p0.fields) : Int))) = true) (h0 : (p0.kind == 5) = true) (h1 : (sEq x0.name p1) = false) {r : Rs} (hr : Q7 G (Q8n p0 p1 (i0 + 1) (v0_1 ++ [x0])) r) : Q7 G (Q8n p0 p1 i0 v0_1) r := by
 have hB0 := H.1; have e0 := eq_of_beq h0
 exact Qa (Qm8 p0 p1 i0 v0_1) (y := (Qn9 p0 p1 (i0 + 1) (v0_1 ++ [x0]), Qca p0 p1 (i0 + 1) (v0_1 ++ [x0]))) [hP 3 (Qe (Fld.rows p0.fields) (List.length p0.fields) (Fld.Q8 p0.fields)), hB 0 hc0, hB 3 h0, hP 4 (Q10 6 (Fld.rows p0.fields) i0 _ (Fld.Qg hx0) rfl), hP 3 (dec (!(sEq x0.name p1)) true (by rw [h1]; rfl)), hP 4 (Q10 6 (Fld.rows p0.fields) i0 _ (Fld.Qg hx0) rfl), hV 2 [(1602, Fld.rows (v0_1 ++ [x0]))] (Qf2 1 1538 1602 6 96 0 0 true (Fld.rows v0_1) (Fld.rows (v0_1 ++ [x0])) (Fld.cells x0) (List.length v0_1) (List.length (v0_1 ++ [x0])) rfl (Fld.Q8 v0_1).symm (Fld.Q8 (v0_1 ++ [x0])).symm (Fld.Q2p v0_1 x0) (Fld.Ql v0_1) rfl (by omega)), hS 0 true (Fld.Q5 (v0_1 ++ [x0]) 6 rfl), hP 2 (Qr i0 (by omega))] [] (by kernel_rfl) hr
def Qt4 (p0 : Val) (p1 : BA) (i0 : Nat) (_v0_1 : List Fld) (_x0 : Fld) : List PV :=
  [.un, .str p1, .bx 0 0, .un, .un, .un, .int .i64 (i0 : Int), .int .i64 (i0 : Int), .bx 0 4, .sl (Fld.rows p0.fields), .int .i64 ((List.length p0.fields) : Int), .bool true, .bool true, .bx 0 0, .int .i64 p0.kind, .bool false, .bool false]
def Qjf (_p0 : Val) (_p1 : BA) (_i0 : Nat) (_v0_1 : List Fld) (_x0 : Fld) : List (Nat × List PV) :=
  []
theorem Q14u (p0 : Val) (p1 : BA) (_H : Qay p0 p1) (x0 : Fld) (i0 : Nat) (v0_1 : List Fld) (_hx0 : p0.fields[i0]? = some x0) (_hi0 : i0 < List.length p0.fields) (_ho0_0 : List.length v0_1 ≤ i0) (hc0 : (decide ((i0 : Int) < ((List.length p0.fields) : Int))) = true) (h0 : (p0.kind == 5) = false) : Qd6 p0 p1 (Q8n p0 p1 i0 v0_1) v0_1 := by
 exact ⟨(envF (Qt4 p0 p1 i0 v0_1 x0)), (zoF (Qjf p0 p1 i0 v0_1 x0)), Qf (Qm8 p0 p1 i0 v0_1) (x := ((.exit 0), Qgu p0 p1 v0_1 (envF (Qt4 p0 p1 i0 v0_1 x0)) (zoF (Qjf p0 p1 i0 v0_1 x0)))) [hP 3 (Qe (Fld.rows p0.fields) (List.length p0.fields) (Fld.Q8 p0.fields)), hB 0 hc0, hB 3 h0] [] (by kernel_rfl)⟩
theorem Qma (p0 : Val) (p1 : BA) (H : Qay p0 p1) : ∀ (r0 : List Fld) (i0 : Nat) (v0_1 : List Fld), List.drop i0 p0.fields = r0 → List.length v0_1 ≤ i0 → Qd6 p0 p1 (Q8n p0 p1 i0 v0_1) (Q41 p0 p1 r0 i0 v0_1)
 | [], i0, v0_1, hd, ho0_0 => by
  have hc0 : (decide ((i0 : Int) < ((List.length p0.fields) : Int))) = false := by have := Q1d hd; simp; omega
  rw [Q41]
  exact Q151 p0 p1 H i0 v0_1 ho0_0 hc0
 | x0 :: r0, i0, v0_1, hd, ho0_0 => by
  obtain ⟨hx0, hi0, hd'⟩ := Qz hd
  have hc0 : (decide ((i0 : Int) < ((List.length p0.fields) : Int))) = true := by simp; omega
  rw [Q41]
  cases h0 : (p0.kind == 5) with
  | true =>
   have e0 := eq_of_beq h0
   cases h1 : (sEq x0.name p1) with
   | true =>
    exact Qbv p0 p1 (fun r hr => Q118 p0 p1 H x0 i0 v0_1 hx0 hi0 ho0_0 hc0 h0 h1 hr) _ (Qma p0 p1 H r0 (i0 + 1) v0_1 hd' (by first | omega | (simp; omega)))
   | false =>
    exact Qbv p0 p1 (fun r hr => Q10y p0 p1 H x0 i0 v0_1 hx0 hi0 ho0_0 hc0 h0 h1 hr) _ (Qma p0 p1 H r0 (i0 + 1) (v0_1 ++ [x0]) hd' (by first | omega | (simp; omega)))
  | false =>
   exact Q14u p0 p1 H x0 i0 v0_1 hx0 hi0 ho0_0 hc0 h0
def s_Ku (p0 : Val) (p1 : BA) : Nat × (List Fld) :=
 ((List.length (Q41 p0 p1 p0.fields 0 [])), (Q41 p0 p1 p0.fields 0 []))
def c_Ku (p0 : Val) (p1 : BA) : En := .call 48 [.agg (Val.cells p0), .str p1] []
def r_Ku (_p0 : Val) (_p1 : BA) (q0 : Nat) (q1 : List Fld) : Rs := .ret (.ms 0 6 0 q0) [⟨6, 0, true, (Fld.rows q1).flatten⟩]
def a_Ku (p0 : Val) (p1 : BA) : Rs := r_Ku p0 p1 (s_Ku p0 p1).1 (s_Ku p0 p1).2
def H_Ku (p0 : Val) (p1 : BA) : Prop := (Qay p0 p1) ∧ True
theorem t_Ku (p0 : Val) (p1 : BA) (H : H_Ku p0 p1) : Q7 G (c_Ku p0 p1) (a_Ku p0 p1) := by
 unfold a_Ku s_Ku
 have hl0 := Qma p0 p1 (H.1) p0.fields 0 [] (by simp) (by simp)
 obtain ⟨z0, zo0, hl0⟩ := hl0
 exact Q9 (fn := Ir.Ku) rfl VOK.nil [hS 0 true (Fld.Q5 (Q41 p0 p1 p0.fields 0 []) 6 rfl)] [aV [(1, Fld.rows (Q41 p0 p1 p0.fields 0 []))] hl0] (by kernel_rfl)
def Q14 (p0 : List Fld) (p1 : Fld) : List Fld → Nat → (List Fld) → Bool → (List Fld) × Bool
 | [], _i0, v0_1, v0_2 =>
  (v0_1, v0_2)
 | x0 :: r0, i0, v0_1, v0_2 =>
  bif (v0_2 == true) then
   bif (sEq x0.name p1.name) then
    Q14 p0 p1 r0 (i0 + 1) v0_1 v0_2
   else
    Q14 p0 p1 r0 (i0 + 1) (v0_1 ++ [x0]) v0_2
  else
   bif ((sLt p1.name x0.name) || (sEq p1.name x0.name)) then
    bif (sEq x0.name p1.name) then
     Q14 p0 p1 r0 (i0 + 1) (v0_1 ++ [p1]) true
    else
     Q14 p0 p1 r0 (i0 + 1) ((v0_1 ++ [p1]) ++ [x0]) true
   else
    bif (sEq x0.name p1.name) then
     Q14 p0 p1 r0 (i0 + 1) v0_1 v0_2
    else
     Q14 p0 p1 r0 (i0 + 1) (v0_1 ++ [x0]) v0_2
def Q6h (p0 : List Fld) (_p1 : Fld) (i0 : Nat) (v0_1 : List Fld) (v0_2 : Bool) : List PV :=
  [.sl (Fld.rows p0), .un, .un, .bx 0 0, .un, .ms 1 6 0 (List.length v0_1), .bool v0_2, .int .i64 (i0 : Int), .un, .un, .un, .un, .un, .un, .un, .un, .un, .un, .un, .un, .un, .un, .un, .un, .un, .un, .un, .un, .un, .un, .un, .un, .un, .un, .un, .un, .un, .un, .un, .un, .un, .un, .un, .un, .un, .un, .un, .un, .un, .un, .un, .un]
def Q52 (_p0 : List Fld) (p1 : Fld) (_i0 : Nat) (v0_1 : List Fld) (_v0_2 : Bool) : List Ob :=
  [⟨6, 0, true, [.str p1.name, .int .i64 p1.v.kind, .int .i64 p1.v.n, .str p1.v.s, .sl (Val.rows p1.v.list), .sl (Fld.rows p1.v.fields)]⟩, ⟨6, 0, true, (Fld.rows v0_1).flatten⟩]
def Q3h (p0 : List Fld) (p1 : Fld) (i0 : Nat) (v0_1 : List Fld) (v0_2 : Bool) : En := .loop 0 Ir.Qm3 Ir.Q1b3 (Q6h p0 p1 i0 v0_1 v0_2) (Q52 p0 p1 i0 v0_1 v0_2)
def Qqw (_p0 : List Fld) (p1 : Fld) (q0 : List Fld) (q1 : Bool) (z : Nat → PV) (_zo : Nat → List PV) : St :=
  ⟨[z 0, z 1, z 2, .bx 0 0, z 4, .ms 1 6 0 (List.length q0), .bool q1, z 7, z 8, z 9, z 10, z 11, z 12, z 13, z 14, z 15, z 16, z 17, z 18, z 19, z 20, z 21, z 22, z 23, z 24, z 25, z 26, z 27, z 28, z 29, z 30, z 31, z 32, z 33, z 34, z 35, z 36, z 37, z 38, z 39, z 40, z 41, z 42, z 43, z 44, z 45, z 46, z 47, z 48, z 49, z 50, z 51], [(0, ⟨6, 0, true, [.str p1.name, .int .i64 p1.v.kind, .int .i64 p1.v.n, .str p1.v.s, .sl (Val.rows p1.v.list), .sl (Fld.rows p1.v.fields)]⟩), (1, ⟨6, 0, true, (Fld.rows q0).flatten⟩)], 258⟩
theorem Q8k (p0 : List Fld) (p1 : Fld) (i0 : Nat) (v0_1 : List Fld) (v0_2 : Bool) : VOK (Go.Pv.look (number 0 (Q52 p0 p1 i0 v0_1 v0_2))) [(1, Fld.rows v0_1)] := (VOK.cons (show Seen _ _ from Q3v (ob := ⟨6, 0, true, (Fld.rows v0_1).flatten⟩) (Fld.Q5 v0_1 6 rfl)) VOK.nil)
def Qmp (p0 : List Fld) (p1 : Fld) (e : En) (q : (List Fld) × Bool) : Prop := ∃ z zo, Q7 G e (.st (.exit 0) (Qqw p0 p1 q.1 q.2 z zo))
theorem Q3e (p0 : List Fld) (p1 : Fld) {e e' : En} (h : ∀ r, Q7 G e r → Q7 G e' r) : ∀ q, Qmp p0 p1 e q → Qmp p0 p1 e' q
  | _, ⟨z, zo, hz⟩ => ⟨z, zo, h _ hz⟩
def Q5w (p0 : List Fld) (_p1 : Fld) : Prop := (List.length p0 ≤ 137438953472) ∧ True
def Qpq (p0 : List Fld) (_p1 : Fld) (i0 : Nat) (_v0_1 : List Fld) (_v0_2 : Bool) : List PV :=
  [.sl (Fld.rows p0), .un, .un, .un, .un, .un, .un, .int .i64 (i0 : Int), .int .i64 (i0 : Int), .sl (Fld.rows p0), .int .i64 ((List.length p0) : Int), .bool false]
def Qjr (_p0 : List Fld) (_p1 : Fld) (_i0 : Nat) (_v0_1 : List Fld) (_v0_2 : Bool) : List (Nat × List PV) :=
  []
theorem Q14e (p0 : List Fld) (p1 : Fld) (_H : Q5w p0 p1) (i0 : Nat) (v0_1 : List Fld) (v0_2 : Bool) (_ho0_0 : List.length v0_1 ≤ 2 * i0) (hc0 : (decide ((i0 : Int) < ((List.length p0) : Int))) = false) : Qmp p0 p1 (Q3h p0 p1 i0 v0_1 v0_2) (v0_1, v0_2) := by
 exact ⟨(envF (Qpq p0 p1 i0 v0_1 v0_2)), (zoF (Qjr p0 p1 i0 v0_1 v0_2)), Qf (Q8k p0 p1 i0 v0_1 v0_2) (x := ((.exit 0), Qqw p0 p1 v0_1 v0_2 (envF (Qpq p0 p1 i0 v0_1 v0_2)) (zoF (Qjr p0 p1 i0 v0_1 v0_2)))) [hP 2 (Qe (Fld.rows p0) (List.length p0) (Fld.Q8 p0)), hB 0 hc0] [] (by kernel_rfl)⟩
theorem Q12g (p0 : List Fld) (p1 : Fld) (H : Q5w p0 p1) (x0 : Fld) (i0 : Nat) (v0_1 : List Fld) (v0_2 : Bool) (hx0 : p0[i0]? = some x0) (hi0 : i0 < List.length p0) (_ho0_0 : List.length v0_1 ≤ 2 * i0) (hc0 : (decide ((i0 : Int) < ((List.length p0) : Int))) = true) (h0 : (v0_2 == true) = true) (h1 : (sEq x0.name p1.name) = true) {r : Rs} (hr : Q7 G (Q3h p0 p1 (i0 + 1) v0_1 v0_2) r) : Q7 G (Q3h p0 p1 i0 v0_1 v0_2) r := by
 have hB0 := H.1
 exact Qa (Q8k p0 p1 i0 v0_1 v0_2) (y := (Q6h p0 p1 (i0 + 1) v0_1 v0_2, Q52 p0 p1 (i0 + 1) v0_1 v0_2)) [hP 2 (Qe (Fld.rows p0) (List.length p0) (Fld.Q8 p0)), hB 0 hc0, hB 0 (beqT h0), hP 13 (Q10 6 (Fld.rows p0) i0 _ (Fld.Qg hx0) rfl), hP 4 (dec (!(sEq x0.name p1.name)) false (by rw [h1]; rfl)), hP 1 (Qr i0 (by omega))] [] (by kernel_rfl) hr
theorem Q11d (p0 : List Fld) (p1 : Fld) (H : Q5w p0 p1) (x0 : Fld) (i0 : Nat) (v0_1 : List Fld) (v0_2 : Bool) (hx0 : p0[i0]? = some x0) (hi0 : i0 < List.length p0) (ho0_0 : List.length v0_1 ≤ 2 * i0) (hc0 : (decide ((i0 : Int) < ((List.length p0) : Int))) = true) (h0 : (v0_2 == true) = true) (h1 : (sEq x0.name p1.name) = false) {r : Rs} (hr : Q7 G (Q3h p0 p1 (i0 + 1) (v0_1 ++ [x0]) v0_2) r) : Q7 G (Q3h p0 p1 i0 v0_1 v0_2) r := by
 have hB0 := H.1
 exact Qa (Q8k p0 p1 i0 v0_1 v0_2) (y := (Q6h p0 p1 (i0 + 1) (v0_1 ++ [x0]) v0_2, Q52 p0 p1 (i0 + 1) (v0_1 ++ [x0]) v0_2)) [hP 2 (Qe (Fld.rows p0) (List.length p0) (Fld.Q8 p0)), hB 0 hc0, hB 0 (beqT h0), hP 13 (Q10 6 (Fld.rows p0) i0 _ (Fld.Qg hx0) rfl), hP 4 (dec (!(sEq x0.name p1.name)) true (by rw [h1]; rfl)), hP 3 (Q10 6 (Fld.rows p0) i0 _ (Fld.Qg hx0) rfl), hV 2 [(1922, Fld.rows (v0_1 ++ [x0]))] (Qf2 1 1858 1922 6 96 0 0 true (Fld.rows v0_1) (Fld.rows (v0_1 ++ [x0])) (Fld.cells x0) (List.length v0_1) (List.length (v0_1 ++ [x0])) rfl (Fld.Q8 v0_1).symm (Fld.Q8 (v0_1 ++ [x0])).symm (Fld.Q2p v0_1 x0) (Fld.Ql v0_1) rfl (by omega)), hS 0 true (Fld.Q5 (v0_1 ++ [x0]) 6 rfl), hP 2 (Qr i0 (by omega))] [] (by kernel_rfl) hr
theorem Q13n (p0 : List Fld) (p1 : Fld) (H : Q5w p0 p1) (x0 : Fld) (i0 : Nat) (v0_1 : List Fld) (v0_2 : Bool) (hx0 : p0[i0]? = some x0) (hi0 : i0 < List.length p0) (ho0_0 : List.length v0_1 ≤ 2 * i0) (hc0 : (decide ((i0 : Int) < ((List.length p0) : Int))) = true) (h0 : (v0_2 == true) = false) (h1 : ((sLt p1.name x0.name) || (sEq p1.name x0.name)) = true) (h2 : (sEq x0.name p1.name) = true) {r : Rs} (hr : Q7 G (Q3h p0 p1 (i0 + 1) (v0_1 ++ [p1]) true) r) : Q7 G (Q3h p0 p1 i0 v0_1 v0_2) r := by
 have hB0 := H.1
 exact Qa (Q8k p0 p1 i0 v0_1 v0_2) (y := (Q6h p0 p1 (i0 + 1) (v0_1 ++ [p1]) true, Q52 p0 p1 (i0 + 1) (v0_1 ++ [p1]) true)) [hP 2 (Qe (Fld.rows p0) (List.length p0) (Fld.Q8 p0)), hB 0 hc0, hB 0 (beqT h0), hP 6 (Q10 6 (Fld.rows p0) i0 _ (Fld.Qg hx0) rfl), hB 2 h1, hV 4 [(1218, Fld.rows (v0_1 ++ [p1]))] (Qf2 1 1154 1218 6 96 0 0 true (Fld.rows v0_1) (Fld.rows (v0_1 ++ [p1])) (Fld.cells p1) (List.length v0_1) (List.length (v0_1 ++ [p1])) rfl (Fld.Q8 v0_1).symm (Fld.Q8 (v0_1 ++ [p1])).symm (Fld.Q2p v0_1 p1) (Fld.Ql v0_1) rfl (by omega)), hS 0 true (Fld.Q5 (v0_1 ++ [p1]) 6 rfl), hP 4 (Q10 6 (Fld.rows p0) i0 _ (Fld.Qg hx0) rfl), hP 4 (dec (!(sEq x0.name p1.name)) false (by rw [h2]; rfl)), hP 1 (Qr i0 (by omega))] [] (by kernel_rfl) hr
theorem Q11y (p0 : List Fld) (p1 : Fld) (H : Q5w p0 p1) (x0 : Fld) (i0 : Nat) (v0_1 : List Fld) (v0_2 : Bool) (hx0 : p0[i0]? = some x0) (hi0 : i0 < List.length p0) (ho0_0 : List.length v0_1 ≤ 2 * i0) (hc0 : (decide ((i0 : Int) < ((List.length p0) : Int))) = true) (h0 : (v0_2 == true) = false) (h1 : ((sLt p1.name x0.name) || (sEq p1.name x0.name)) = true) (h2 : (sEq x0.name p1.name) = false) {r : Rs} (hr : Q7 G (Q3h p0 p1 (i0 + 1) ((v0_1 ++ [p1]) ++ [x0]) true) r) : Q7 G (Q3h p0 p1 i0 v0_1 v0_2) r := by
 have hB0 := H.1
 exact Qa (Q8k p0 p1 i0 v0_1 v0_2) (y := (Q6h p0 p1 (i0 + 1) ((v0_1 ++ [p1]) ++ [x0]) true, Q52 p0 p1 (i0 + 1) ((v0_1 ++ [p1]) ++ [x0]) true)) [hP 2 (Qe (Fld.rows p0) (List.length p0) (Fld.Q8 p0)), hB 0 hc0, hB 0 (beqT h0), hP 6 (Q10 6 (Fld.rows p0) i0 _ (Fld.Qg hx0) rfl), hB 2 h1, hV 4 [(1218, Fld.rows (v0_1 ++ [p1]))] (Qf2 1 1154 1218 6 96 0 0 true (Fld.rows v0_1) (Fld.rows (v0_1 ++ [p1])) (Fld.cells p1) (List.length v0_1) (List.length (v0_1 ++ [p1])) rfl (Fld.Q8 v0_1).symm (Fld.Q8 (v0_1 ++ [p1])).symm (Fld.Q2p v0_1 p1) (Fld.Ql v0_1) rfl (by omega)), hS 0 true (Fld.Q5 (v0_1 ++ [p1]) 6 rfl), hP 4 (Q10 6 (Fld.rows p0) i0 _ (Fld.Qg hx0) rfl), hP 4 (dec (!(sEq x0.name p1.name)) true (by rw [h2]; rfl)), hP 3 (Q10 6 (Fld.rows p0) i0 _ (Fld.Qg hx0) rfl), hV 2 [(2306, Fld.rows ((v0_1 ++ [p1]) ++ [x0]))] (Qf2 1218 2242 2306 6 96 0 0 true (Fld.rows (v0_1 ++ [p1])) (Fld.rows ((v0_1 ++ [p1]) ++ [x0])) (Fld.cells x0) (List.length (v0_1 ++ [p1])) (List.length ((v0_1 ++ [p1]) ++ [x0])) rfl (Fld.Q8 (v0_1 ++ [p1])).symm (Fld.Q8 ((v0_1 ++ [p1]) ++ [x0])).symm (Fld.Q2p (v0_1 ++ [p1]) x0) (Fld.Ql (v0_1 ++ [p1])) rfl (by try simp only [List.length_append, List.length_cons, List.length_nil]; omega)), hS 0 true (Fld.Q5 ((v0_1 ++ [p1]) ++ [x0]) 6 rfl), hP 2 (Qr i0 (by omega))] [] (by kernel_rfl) hr
theorem Q11o (p0 : List Fld) (p1 : Fld) (H : Q5w p0 p1) (x0 : Fld) (i0 : Nat) (v0_1 : List Fld) (v0_2 : Bool) (hx0 : p0[i0]? = some x0) (hi0 : i0 < List.length p0) (_ho0_0 : List.length v0_1 ≤ 2 * i0) (hc0 : (decide ((i0 : Int) < ((List.length p0) : Int))) = true) (h0 : (v0_2 == true) = false) (h1 : ((sLt p1.name x0.name) || (sEq p1.name x0.name)) = false) (h2 : (sEq x0.name p1.name) = true) {r : Rs} (hr : Q7 G (Q3h p0 p1 (i0 + 1) v0_1 v0_2) r) : Q7 G (Q3h p0 p1 i0 v0_1 v0_2) r := by
 have hB0 := H.1
 exact Qa (Q8k p0 p1 i0 v0_1 v0_2) (y := (Q6h p0 p1 (i0 + 1) v0_1 v0_2, Q52 p0 p1 (i0 + 1) v0_1 v0_2)) [hP 2 (Qe (Fld.rows p0) (List.length p0) (Fld.Q8 p0)), hB 0 hc0, hB 0 (beqT h0), hP 6 (Q10 6 (Fld.rows p0) i0 _ (Fld.Qg hx0) rfl), hB 2 h1, hP 3 (Q10 6 (Fld.rows p0) i0 _ (Fld.Qg hx0) rfl), hP 4 (dec (!(sEq x0.name p1.name)) false (by rw [h2]; rfl)), hP 1 (Qr i0 (by omega))] [] (by kernel_rfl) hr
theorem Q10z (p0 : List Fld) (p1 : Fld) (H : Q5w p0 p1) (x0 : Fld) (i0 : Nat) (v0_1 : List Fld) (v0_2 : Bool) (hx0 : p0[i0]? = some x0) (hi0 : i0 < List.length p0) (ho0_0 : List.length v0_1 ≤ 2 * i0) (hc0 : (decide ((i0 : Int) < ((List.length p0) : Int))) = true) (h0 : (v0_2 == true) = false) (h1 : ((sLt p1.name x0.name) || (sEq p1.name x0.name)) = false) (h2 : (sEq x0.name p1.name) = false) {r : Rs} (hr : Q7 G (Q3h p0 p1 (i0 + 1) (v0_1 ++ [x0]) v0_2) r) : Q7 G (Q3h p0 p1 i0 v0_1 v0_2) r := by
 have hB0 := H.1
 exact Qa (Q8k p0 p1 i0 v0_1 v0_2) (y := (Q6h p0 p1 (i0 + 1) (v0_1 ++ [x0]) v0_2, Q52 p0 p1 (i0 + 1) (v0_1 ++ [x0]) v0_2)) [hP 2 (Qe (Fld.rows p0) (List.length p0) (Fld.Q8 p0)), hB 0 hc0, hB 0 (beqT h0), hP 6 (Q10 6 (Fld.rows p0) i0 _ (Fld.Qg hx0) rfl), hB 2 h1, hP 3 (Q10 6 (Fld.rows p0) i0 _ (Fld.Qg hx0) rfl), hP 4 (dec (!(sEq x0.name p1.name)) true (by rw [h2]; rfl)), hP 3 (Q10 6 (Fld.rows p0) i0 _ (Fld.Qg hx0) rfl), hV 2 [(1922, Fld.rows (v0_1 ++ [x0]))] (Qf2 1 1858 1922 6 96 0 0 true (Fld.rows v0_1) (Fld.rows (v0_1 ++ [x0])) (Fld.cells x0) (List.length v0_1) (List.length (v0_1 ++ [x0])) rfl (Fld.Q8 v0_1).symm (Fld.Q8 (v0_1 ++ [x0])).symm (Fld.Q2p v0_1 x0) (Fld.Ql v0_1) rfl (by omega)), hS 0 true (Fld.Q5 (v0_1 ++ [x0]) 6 rfl), hP 2 (Qr i0 (by omega))] [] (by kernel_rfl) hr
theorem Q6i (p0 : List Fld) (p1 : Fld) (H : Q5w p0 p1) : ∀ (r0 : List Fld) (i0 : Nat) (v0_1 : List Fld) (v0_2 : Bool), List.drop i0 p0 = r0 → List.length v0_1 ≤ 2 * i0 → Qmp p0 p1 (Q3h p0 p1 i0 v0_1 v0_2) (Q14 p0 p1 r0 i0 v0_1 v0_2)
 | [], i0, v0_1, v0_2, hd, ho0_0 => by
  have hc0 : (decide ((i0 : Int) < ((List.length p0) : Int))) = false := by have := Q1d hd; simp; omega
  rw [Q14]
  exact Q14e p0 p1 H i0 v0_1 v0_2 ho0_0 hc0
 | x0 :: r0, i0, v0_1, v0_2, hd, ho0_0 => by
  obtain ⟨hx0, hi0, hd'⟩ := Qz hd
  have hc0 : (decide ((i0 : Int) < ((List.length p0) : Int))) = true := by simp; omega
  rw [Q14]
  cases h0 : (v0_2 == true) with
  | true =>
   cases h1 : (sEq x0.name p1.name) with
   | true =>
    exact Q3e p0 p1 (fun r hr => Q12g p0 p1 H x0 i0 v0_1 v0_2 hx0 hi0 ho0_0 hc0 h0 h1 hr) _ (Q6i p0 p1 H r0 (i0 + 1) v0_1 v0_2 hd' (by first | omega | (simp; omega)))
   | false =>
    exact Q3e p0 p1 (fun r hr => Q11d p0 p1 H x0 i0 v0_1 v0_2 hx0 hi0 ho0_0 hc0 h0 h1 hr) _ (Q6i p0 p1 H r0 (i0 + 1) (v0_1 ++ [x0]) v0_2 hd' (by first | omega | (simp; omega)))
  | false =>
   cases h1 : ((sLt p1.name x0.name) || (sEq p1.name x0.name)) with
   | true =>
    cases h2 : (sEq x0.name p1.name) with
    | true =>
     exact Q3e p0 p1 (fun r hr => Q13n p0 p1 H x0 i0 v0_1 v0_2 hx0 hi0 ho0_0 hc0 h0 h1 h2 hr) _ (Q6i p0 p1 H r0 (i0 + 1) (v0_1 ++ [p1]) true hd' (by first | omega | (simp; omega)))
    | false =>
     exact Q3e p0 p1 (fun r hr => Q11y p0 p1 H x0 i0 v0_1 v0_2 hx0 hi0 ho0_0 hc0 h0 h1 h2 hr) _ (Q6i p0 p1 H r0 (i0 + 1) ((v0_1 ++ [p1]) ++ [x0]) true hd' (by first | omega | (simp; omega)))
   | false =>
    cases h2 : (sEq x0.name p1.name) with
    | true =>
     exact Q3e p0 p1 (fun r hr => Q11o p0 p1 H x0 i0 v0_1 v0_2 hx0 hi0 ho0_0 hc0 h0 h1 h2 hr) _ (Q6i p0 p1 H r0 (i0 + 1) v0_1 v0_2 hd' (by first | omega | (simp; omega)))
    | false =>
     exact Q3e p0 p1 (fun r hr => Q10z p0 p1 H x0 i0 v0_1 v0_2 hx0 hi0 ho0_0 hc0 h0 h1 h2 hr) _ (Q6i p0 p1 H r0 (i0 + 1) (v0_1 ++ [x0]) v0_2 hd' (by first | omega | (simp; omega)))
def s_Kv (p0 : List Fld) (p1 : Fld) : List Fld :=
 bif (Q14 p0 p1 p0 0 [] false).2 then
  (Q14 p0 p1 p0 0 [] false).1
 else
  ((Q14 p0 p1 p0 0 [] false).1 ++ [p1])
def c_Kv (p0 : List Fld) (p1 : Fld) : En := .call 58 [.sl (Fld.rows p0), .agg (Fld.cells p1)] []
def a_Kv (p0 : List Fld) (p1 : Fld) : Rs := .ret (.sl (Fld.rows (s_Kv p0 p1))) []
def H_Kv (p0 : List Fld) (p1 : Fld) : Prop := (Q5w p0 p1) ∧ ((Q14 p0 p1 p0 0 [] false).2 = false → ((List.length (Q14 p0 p1 p0 0 [] false).1) + 1) * 96 ≤ 140737488355328) ∧ True
theorem t_Kv (p0 : List Fld) (p1 : Fld) (H : H_Kv p0 p1) : Q7 G (c_Kv p0 p1) (a_Kv p0 p1) := by
 unfold a_Kv s_Kv
 have hl0 := Q6i p0 p1 (H.1) p0 0 [] false (by simp) (by simp)
 obtain ⟨z0, zo0, hl0⟩ := hl0
 cases h0 : (Q14 p0 p1 p0 0 [] false).2 with
 | true =>
  exact Q9 (fn := Ir.Kv) rfl VOK.nil [hS 0 true (Fld.Q5 (Q14 p0 p1 p0 0 [] false).1 6 rfl), hB 5 h0, hQ (Fld.Q8 (Q14 p0 p1 p0 0 [] false).1).symm] [aV [(1, Fld.rows (Q14 p0 p1 p0 0 [] false).1)] hl0] (by kernel_rfl)
 | false =>
  exact Q9 (fn := Ir.Kv) rfl VOK.nil [hS 0 true (Fld.Q5 (Q14 p0 p1 p0 0 [] false).1 6 rfl), hB 5 h0, hV 4 [(578, Fld.rows ((Q14 p0 p1 p0 0 [] false).1 ++ [p1]))] (Qf2 1 514 578 6 96 0 0 true (Fld.rows (Q14 p0 p1 p0 0 [] false).1) (Fld.rows ((Q14 p0 p1 p0 0 [] false).1 ++ [p1])) (Fld.cells p1) (List.length (Q14 p0 p1 p0 0 [] false).1) (List.length ((Q14 p0 p1 p0 0 [] false).1 ++ [p1])) rfl (Fld.Q8 (Q14 p0 p1 p0 0 [] false).1).symm (Fld.Q8 ((Q14 p0 p1 p0 0 [] false).1 ++ [p1])).symm (Fld.Q2p (Q14 p0 p1 p0 0 [] false).1 p1) (Fld.Ql (Q14 p0 p1 p0 0 [] false).1) rfl (H.2.1 h0)), hS 0 true (Fld.Q5 ((Q14 p0 p1 p0 0 [] false).1 ++ [p1]) 6 rfl), hQ (Fld.Q8 ((Q14 p0 p1 p0 0 [] false).1 ++ [p1])).symm] [aV [(1, Fld.rows (Q14 p0 p1 p0 0 [] false).1)] hl0] (by kernel_rfl)
def Q72 (p0 : List Fld) : List Fld → Nat → Val → Val
 | [], _i0, v0_1 =>
  v0_1
 | x0 :: r0, i0, v0_1 =>
  Q72 p0 r0 (i0 + 1) (Val.mk v0_1.kind v0_1.n v0_1.s v0_1.list (s_Kv v0_1.fields (Fld.mk x0.name (s_Kj x0.v))))
def Qut (p0 : List Fld) (i0 : Nat) (_v0_1 : Val) : List PV :=
  [.sl (Fld.rows p0), .un, .bx 0 0, .bx 1 0, .int .i64 (i0 : Int), .un, .un, .un, .un, .un, .un, .un, .un, .un, .un, .un, .un, .un, .un, .un, .un, .un, .un, .un, .un, .un, .un, .un, .un]
def Qws (_p0 : List Fld) (_i0 : Nat) (v0_1 : Val) : List Ob :=
  [⟨5, 0, true, [.int .i64 0, .int .i64 0, .str eB, .sl [], .sl []]⟩, ⟨5, 0, true, [.int .i64 v0_1.kind, .int .i64 v0_1.n, .str v0_1.s, .sl (Val.rows v0_1.list), .sl (Fld.rows v0_1.fields)]⟩]
def Qo1 (p0 : List Fld) (i0 : Nat) (v0_1 : Val) : En := .loop 0 Ir.Qj8 Ir.Q1ay (Qut p0 i0 v0_1) (Qws p0 i0 v0_1)
def Qsw (_p0 : List Fld) (q0 : Val) (z : Nat → PV) (_zo : Nat → List PV) : St :=
  ⟨[z 0, z 1, .bx 0 0, .bx 1 0, z 4, z 5, z 6, z 7, z 8, z 9, z 10, z 11, z 12, z 13, z 14, z 15, z 16, z 17, z 18, z 19, z 20, z 21, z 22, z 23, z 24, z 25, z 26, z 27, z 28], [(0, ⟨5, 0, true, [.int .i64 0, .int .i64 0, .str eB, .sl [], .sl []]⟩), (1, ⟨5, 0, true, [.int .i64 q0.kind, .int .i64 q0.n, .str q0.s, .sl (Val.rows q0.list), .sl (Fld.rows q0.fields)]⟩)], 258⟩
def Qn5 (p0 : List Fld) (e : En) (q : Val) : Prop := ∃ z zo, Q7 G e (.st (.exit 0) (Qsw p0 q z zo))
theorem Qsh (p0 : List Fld) {e e' : En} (h : ∀ r, Q7 G e r → Q7 G e' r) : ∀ q, Qn5 p0 e q → Qn5 p0 e' q
  | _, ⟨z, zo, hz⟩ => ⟨z, zo, h _ hz⟩
def Qnz (p0 : List Fld) : Prop := (List.length p0 ≤ 137438953472) ∧ (∀ x0 ∈ p0, H_Kj x0.v) ∧ (∀ (i0 : Nat) (v0_1 : Val) (x0 : Fld), p0[i0]? = some x0 → List.length v0_1.fields ≤ i0 → H_Kv v0_1.fields (Fld.mk x0.name (s_Kj x0.v))) ∧ (∀ (i0 : Nat) (v0_1 : Val) (x0 : Fld), p0[i0]? = some x0 → List.length v0_1.fields ≤ i0 → List.length (Val.mk v0_1.kind v0_1.n v0_1.s v0_1.list (s_Kv v0_1.fields (Fld.mk x0.name (s_Kj x0.v)))).fields ≤ (i0 + 1)) ∧ True
def Qpy (p0 : List Fld) (i0 : Nat) (_v0_1 : Val) : List PV :=
  [.sl (Fld.rows p0), .un, .un, .un, .int .i64 (i0 : Int), .un, .int .i64 (i0 : Int), .sl (Fld.rows p0), .int .i64 ((List.length p0) : Int), .bool false]
def Qii (_p0 : List Fld) (_i0 : Nat) (_v0_1 : Val) : List (Nat × List PV) :=
  []
theorem Q147 (p0 : List Fld) (_H : Qnz p0) (i0 : Nat) (v0_1 : Val) (_ho0_0 : List.length v0_1.fields ≤ i0) (hc0 : (decide ((i0 : Int) < ((List.length p0) : Int))) = false) : Qn5 p0 (Qo1 p0 i0 v0_1) v0_1 := by
 exact ⟨(envF (Qpy p0 i0 v0_1)), (zoF (Qii p0 i0 v0_1)), Qf VOK.nil (x := ((.exit 0), Qsw p0 v0_1 (envF (Qpy p0 i0 v0_1)) (zoF (Qii p0 i0 v0_1)))) [hP 2 (Qe (Fld.rows p0) (List.length p0) (Fld.Q8 p0)), hB 0 hc0] [] (by kernel_rfl)⟩
theorem Q127 (p0 : List Fld) (H : Qnz p0) (x0 : Fld) (i0 : Nat) (v0_1 : Val) (hx0 : p0[i0]? = some x0) (hi0 : i0 < List.length p0) (ho0_0 : List.length v0_1.fields ≤ i0) (hc0 : (decide ((i0 : Int) < ((List.length p0) : Int))) = true) {r : Rs} (hr : Q7 G (Qo1 p0 (i0 + 1) (Val.mk v0_1.kind v0_1.n v0_1.s v0_1.list (s_Kv v0_1.fields (Fld.mk x0.name (s_Kj x0.v))))) r) : Q7 G (Qo1 p0 i0 v0_1) r := by
 have hB0 := H.1
 exact Qa VOK.nil (y := (Qut p0 (i0 + 1) (Val.mk v0_1.kind v0_1.n v0_1.s v0_1.list (s_Kv v0_1.fields (Fld.mk x0.name (s_Kj x0.v)))), Qws p0 (i0 + 1) (Val.mk v0_1.kind v0_1.n v0_1.s v0_1.list (s_Kv v0_1.fields (Fld.mk x0.name (s_Kj x0.v)))))) [hP 2 (Qe (Fld.rows p0) (List.length p0) (Fld.Q8 p0)), hB 0 hc0, hP 4 (Q10 6 (Fld.rows p0) i0 _ (Fld.Qg hx0) rfl), hP 4 (Q10 6 (Fld.rows p0) i0 _ (Fld.Qg hx0) rfl), hP 8 (Qr i0 (by omega))] [aN (t_Kj x0.v (H.2.1 x0 (Qt hx0))), aN (t_Kv v0_1.fields (Fld.mk x0.name (s_Kj x0.v)) (H.2.2.1 i0 v0_1 x0 hx0 ho0_0))] (by kernel_rfl) hr
theorem Qv0 (p0 : List Fld) (H : Qnz p0) : ∀ (r0 : List Fld) (i0 : Nat) (v0_1 : Val), List.drop i0 p0 = r0 → List.length v0_1.fields ≤ i0 → Qn5 p0 (Qo1 p0 i0 v0_1) (Q72 p0 r0 i0 v0_1)
 | [], i0, v0_1, hd, ho0_0 => by
  have hc0 : (decide ((i0 : Int) < ((List.length p0) : Int))) = false := by have := Q1d hd; simp; omega
  rw [Q72]
  exact Q147 p0 H i0 v0_1 ho0_0 hc0
 | x0 :: r0, i0, v0_1, hd, ho0_0 => by
  obtain ⟨hx0, hi0, hd'⟩ := Qz hd
  have hc0 : (decide ((i0 : Int) < ((List.length p0) : Int))) = true := by simp; omega
  rw [Q72]
  exact Qsh p0 (fun r hr => Q127 p0 H x0 i0 v0_1 hx0 hi0 ho0_0 hc0 hr) _ (Qv0 p0 H r0 (i0 + 1) (Val.mk v0_1.kind v0_1.n v0_1.s v0_1.list (s_Kv v0_1.fields (Fld.mk x0.name (s_Kj x0.v)))) hd' ((H.2.2.2.1 i0 v0_1 x0 hx0 ho0_0)))
def s_Km (p0 : List Fld) : Val :=
 (Q72 p0 p0 0 (Val.mk 5 0 eB [] []))
def c_Km (p0 : List Fld) : En := .call 47 [.sl (Fld.rows p0)] []
def a_Km (p0 : List Fld) : Rs := .ret (.agg (Val.cells (s_Km p0))) []
def H_Km (p0 : List Fld) : Prop := (Qnz p0) ∧ (List.length (Val.mk 5 0 eB [] []).fields ≤ 0) ∧ True
theorem t_Km (p0 : List Fld) (H : H_Km p0) : Q7 G (c_Km p0) (a_Km p0) := by
 unfold a_Km s_Km
 have hl0 := Qv0 p0 (H.1) p0 0 (Val.mk 5 0 eB [] []) (by simp) (H.2.1)
 obtain ⟨z0, zo0, hl0⟩ := hl0
 exact Q9 (fn := Ir.Km) rfl VOK.nil [] [aN hl0] (by kernel_rfl)
def Qzq (p0 : List Val) : Val :=
 (Val.mk 4 0 eB p0 [])
def Q1bo (p0 : List Val) : En := .call 40 [.sl (Val.rows p0)] []
def Q1ag (p0 : List Val) : Rs := .ret (.agg (Val.cells (Qzq p0))) []
def Q18g (p0 : List Val) : Prop := (Qhu (Val.mk 4 0 eB p0 [])) ∧ True
theorem Q1cx (p0 : List Val) (H : Q18g p0) : Q7 G (Q1bo p0) (Q1ag p0) := by
 unfold Q1ag Qzq
 exact Q9 (fn := Ir.K1l) rfl VOK.nil [] [aN (Q180 (Val.mk 4 0 eB p0 []) H.1)] (by kernel_rfl)
end Go.Proofs.Ytnhhddbbppbblaa
end

