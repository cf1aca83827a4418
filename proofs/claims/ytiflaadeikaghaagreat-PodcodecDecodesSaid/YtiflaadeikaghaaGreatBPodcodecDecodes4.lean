/- Texts of the claim, merged by a program; what the statement does not reach is left out. -/
import Derived.Test.YtiflaadeikaghaaGreatBPodcodecDecodes3

section
/- What counting and comparing values compute (printed by a program). -/
namespace Go.Proofs.YtiflaadeikaghaaGreat
open Go.Pv
abbrev G : Nat → Option Fun := tabG Ir.table
abbrev Γ : Nat → Option Ty := gam 31
mutual
def Q7c (p0 : Val) (p1 : Int) : Int :=
 (Q5m p0 p0.fields 0 (Q4b p0 p0.list 0 (w64 ((w64 (p1 - 1)) - (ByteArray.size p0.s : Int)))))
termination_by SizeOf.sizeOf p0
decreasing_by all_goals first | exact Val.Qn5 _ | exact Val.Q94 _
def Q4b (p0 : Val) : List Val → Nat → Int → Int
 | [], _i0, v0_1 =>
  v0_1
 | x0 :: r0, i0, v0_1 =>
  bif (decide (0 ≤ v0_1)) then
   Q4b p0 r0 (i0 + 1) (Q7c x0 v0_1)
  else
   v0_1
termination_by l => SizeOf.sizeOf l
decreasing_by all_goals first | exact Qe0 _ _ | exact Qdm _ _ | exact Qb9 _ _
def Q5m (p0 : Val) : List Fld → Nat → Int → Int
 | [], _i1, v1_1 =>
  v1_1
 | x1 :: r1, i1, v1_1 =>
  bif (decide (0 ≤ v1_1)) then
   Q5m p0 r1 (i1 + 1) (Q7c x1.v (w64 (v1_1 - (ByteArray.size x1.name : Int))))
  else
   v1_1
termination_by l => SizeOf.sizeOf l
decreasing_by all_goals first | exact Qe0 _ _ | exact Qdm _ _ | exact Qb9 _ _
end
def Qx1 (_p0 : Val) (i0 : Nat) (v0_1 : Int) : List PV :=
  [.un, .int .i64 v0_1, .bx 0 0, .un, .un, .int .i64 (i0 : Int)] ++ nuns 53
def Quk (p0 : Val) (_i0 : Nat) (_v0_1 : Int) : List Ob :=
  [⟨5, 0, true, [.int .i64 p0.kind, .int .i64 p0.n, .str p0.s, .sl (Val.rows p0.list), .sl (Fld.rows p0.fields)]⟩]
def Qb2 (p0 : Val) (i0 : Nat) (v0_1 : Int) : En := .loop 0 Ir.Qln Ir.Q1eo (Qx1 p0 i0 v0_1) (Quk p0 i0 v0_1)
def Qdl (p0 : Val) (q0 : Int) (z : Nat → PV) (_zo : Nat → List PV) : St :=
  ⟨[z 0, .int .i64 q0, .bx 0 0] ++ zr z 3 56, [(0, ⟨5, 0, true, [.int .i64 p0.kind, .int .i64 p0.n, .str p0.s, .sl (Val.rows p0.list), .sl (Fld.rows p0.fields)]⟩)], 577⟩
def Qcj (p0 : Val) (e : En) (q : Int) : Prop := ∃ z zo, Qi G e (.st (.exit 0) (Qdl p0 q z zo))
theorem Qu8 (p0 : Val) {e e' : En} (h : ∀ r, Qi G e r → Qi G e' r) : ∀ q, Qcj p0 e q → Qcj p0 e' q
  | _, ⟨z, zo, hz⟩ => ⟨z, zo, h _ hz⟩
def Qyy (_p0 : Val) (i1 : Nat) (v1_1 : Int) : List PV :=
  [.un, .int .i64 v1_1, .bx 0 0, .un, .un, .un, .int .i64 (i1 : Int)] ++ nuns 52
def Qy4 (p0 : Val) (_i1 : Nat) (_v1_1 : Int) : List Ob :=
  [⟨5, 0, true, [.int .i64 p0.kind, .int .i64 p0.n, .str p0.s, .sl (Val.rows p0.list), .sl (Fld.rows p0.fields)]⟩]
def Qbs (p0 : Val) (i1 : Nat) (v1_1 : Int) : En := .loop 0 Ir.Qhm Ir.Q1dx (Qyy p0 i1 v1_1) (Qy4 p0 i1 v1_1)
def Qea (p0 : Val) (q0 : Int) (z : Nat → PV) (_zo : Nat → List PV) : St :=
  ⟨[z 0, .int .i64 q0] ++ zr z 2 57, [(0, ⟨5, 0, true, [.int .i64 p0.kind, .int .i64 p0.n, .str p0.s, .sl (Val.rows p0.list), .sl (Fld.rows p0.fields)]⟩)], 577⟩
def Qde (p0 : Val) (e : En) (q : Int) : Prop := ∃ z zo, Qi G e (.st (.exit 2) (Qea p0 q z zo))
theorem Qu7 (p0 : Val) {e e' : En} (h : ∀ r, Qi G e r → Qi G e' r) : ∀ q, Qde p0 e q → Qde p0 e' q
  | _, ⟨z, zo, hz⟩ => ⟨z, zo, h _ hz⟩
def Q1d7 (p0 : Val) (p1 : Int) : En := .call 30 [.agg (Val.cells p0), .int .i64 p1] []
def Q1a1 (p0 : Val) (p1 : Int) : Rs := .ret (.int .i64 (Q7c p0 p1)) []
abbrev Qws (p0 : Val) : Prop := Val.Sm 4611686018427387904 p0
def Q8p (p0 : Val) : Prop := ∀ (q : Val), SizeOf.sizeOf q < SizeOf.sizeOf p0 → ∀ (p1 : Int), Qws q → Qi G (Q1d7 q p1) (Q1a1 q p1)
def Q9o (p0 : Val) : Prop := (List.length p0.list ≤ 4611686018427387904) ∧ (∀ x0 ∈ p0.list, Qws x0) ∧ True
def Q9z (p0 : Val) : Prop := (List.length p0.fields ≤ 4611686018427387904) ∧ (∀ x1 ∈ p0.fields, Qws x1.v) ∧ True
theorem Q10e (p0 : Val) (_p1 : Int) (H : Qws p0) : (Q9o p0) ∧ (Q9z p0) ∧ True := by
  obtain ⟨h1, h2, h3, h4⟩ := H.all
  simp only [Q9o, Q9z]
  exact ⟨⟨h1, h3, trivial⟩, ⟨h2, h4, trivial⟩, trivial⟩
def Qqg (p0 : Val) (i0 : Nat) (_v0_1 : Int) : List PV :=
  nuns 5 ++ [.int .i64 (i0 : Int)] ++ nuns 7 ++ [.int .i64 (i0 : Int), .bx 0 3, .sl (Val.rows p0.list), .int .i64 ((List.length p0.list) : Int), .bool false, .bool false, .tup [], .tup [], .bool false]
def Ql1 (_p0 : Val) (_i0 : Nat) (_v0_1 : Int) : List (Nat × List PV) :=
  []
theorem Q15d (p0 : Val) (_H : Q9o p0) (_rec : Q8p p0) (i0 : Nat) (v0_1 : Int) (hc0 : (decide ((i0 : Int) < ((List.length p0.list) : Int))) = false) : Qcj p0 (Qb2 p0 i0 v0_1) v0_1 := by
 exact ⟨(envF (Qqg p0 i0 v0_1)), (zoF (Ql1 p0 i0 v0_1)), Q10 VOK.nil (x := ((.exit 0), Qdl p0 v0_1 (envF (Qqg p0 i0 v0_1)) (zoF (Ql1 p0 i0 v0_1)))) [hP 3 (Qz (Val.rows p0.list) (List.length p0.list) (Val.Q9 p0.list)), hB 0 hc0] [] (by kernel_rfl)⟩
theorem Q18j (p0 : Val) (H : Q9o p0) (rec : Q8p p0) (x0 : Val) (i0 : Nat) (v0_1 : Int) (hx0 : p0.list[i0]? = some x0) (hi0 : i0 < List.length p0.list) (hc0 : (decide ((i0 : Int) < ((List.length p0.list) : Int))) = true) (h0 : (decide (0 ≤ v0_1)) = true) {r : Rs} (hr : Qi G (Qb2 p0 (i0 + 1) (Q7c x0 v0_1)) r) : Qi G (Qb2 p0 i0 v0_1) r := by
 have hB0 := H.1; have e0 := of_decide_eq_true h0
 exact Qw VOK.nil (y := (Qx1 p0 (i0 + 1) (Q7c x0 v0_1), Quk p0 (i0 + 1) (Q7c x0 v0_1))) [hP 3 (Qz (Val.rows p0.list) (List.length p0.list) (Val.Q9 p0.list)), hB 0 hc0, hB 2 h0, hP 4 (Q15 5 (Val.rows p0.list) i0 _ (Val.Qe hx0) rfl), hP 5 (Q25 i0 (by omega))] [aN (rec x0 (szL hx0) v0_1 (H.2.1 x0 (Q13 hx0)))] (by kernel_rfl) hr
def Qo0 (p0 : Val) (i0 : Nat) (v0_1 : Int) (_x0 : Val) : List PV :=
  nuns 5 ++ [.int .i64 (i0 : Int)] ++ nuns 7 ++ [.int .i64 (i0 : Int), .bx 0 3, .sl (Val.rows p0.list), .int .i64 ((List.length p0.list) : Int), .bool true, .bool true, .int .i64 v0_1, .bool false, .bool false]
def Qjh (_p0 : Val) (_i0 : Nat) (_v0_1 : Int) (_x0 : Val) : List (Nat × List PV) :=
  []
theorem Q14q (p0 : Val) (_H : Q9o p0) (_rec : Q8p p0) (x0 : Val) (i0 : Nat) (v0_1 : Int) (_hx0 : p0.list[i0]? = some x0) (_hi0 : i0 < List.length p0.list) (hc0 : (decide ((i0 : Int) < ((List.length p0.list) : Int))) = true) (h0 : (decide (0 ≤ v0_1)) = false) : Qcj p0 (Qb2 p0 i0 v0_1) v0_1 := by
 exact ⟨(envF (Qo0 p0 i0 v0_1 x0)), (zoF (Qjh p0 i0 v0_1 x0)), Q10 VOK.nil (x := ((.exit 0), Qdl p0 v0_1 (envF (Qo0 p0 i0 v0_1 x0)) (zoF (Qjh p0 i0 v0_1 x0)))) [hP 3 (Qz (Val.rows p0.list) (List.length p0.list) (Val.Q9 p0.list)), hB 0 hc0, hB 2 h0] [] (by kernel_rfl)⟩
theorem Qvm (p0 : Val) (H : Q9o p0) (rec : Q8p p0) : ∀ (r0 : List Val) (i0 : Nat) (v0_1 : Int), List.drop i0 p0.list = r0 → Qcj p0 (Qb2 p0 i0 v0_1) (Q4b p0 r0 i0 v0_1)
 | [], i0, v0_1, hd => by
  have hc0 : (decide ((i0 : Int) < ((List.length p0.list) : Int))) = false := by have := Q1v hd; simp; omega
  rw [Q4b]
  exact Q15d p0 H rec i0 v0_1 hc0
 | x0 :: r0, i0, v0_1, hd => by
  obtain ⟨hx0, hi0, hd'⟩ := Q1s hd
  have hc0 : (decide ((i0 : Int) < ((List.length p0.list) : Int))) = true := by simp; omega
  rw [Q4b]
  cases h0 : (decide (0 ≤ v0_1)) with
  | true =>
   exact Qu8 p0 (fun r hr => Q18j p0 H rec x0 i0 v0_1 hx0 hi0 hc0 h0 hr) _ (Qvm p0 H rec r0 (i0 + 1) (Q7c x0 v0_1) hd')
  | false =>
   exact Q14q p0 H rec x0 i0 v0_1 hx0 hi0 hc0 h0
def Qp9 (p0 : Val) (i1 : Nat) (_v1_1 : Int) : List PV :=
  [.un, .un, .bx 0 0, .un, .un, .un, .int .i64 (i1 : Int)] ++ nuns 24 ++ [.int .i64 (i1 : Int), .bx 0 4, .sl (Fld.rows p0.fields), .int .i64 ((List.length p0.fields) : Int), .bool false, .bool false, .tup [], .tup [], .bool false]
def Qja (_p0 : Val) (_i1 : Nat) (_v1_1 : Int) : List (Nat × List PV) :=
  []
theorem Q16p (p0 : Val) (_H : Q9z p0) (_rec : Q8p p0) (i1 : Nat) (v1_1 : Int) (hc1 : (decide ((i1 : Int) < ((List.length p0.fields) : Int))) = false) : Qde p0 (Qbs p0 i1 v1_1) v1_1 := by
 exact ⟨(envF (Qp9 p0 i1 v1_1)), (zoF (Qja p0 i1 v1_1)), Q10 VOK.nil (x := ((.exit 2), Qea p0 v1_1 (envF (Qp9 p0 i1 v1_1)) (zoF (Qja p0 i1 v1_1)))) [hP 3 (Qz (Fld.rows p0.fields) (List.length p0.fields) (Fld.Q9 p0.fields)), hB 0 hc1] [] (by kernel_rfl)⟩
theorem Q172 (p0 : Val) (H : Q9z p0) (rec : Q8p p0) (x1 : Fld) (i1 : Nat) (v1_1 : Int) (hx1 : p0.fields[i1]? = some x1) (hi1 : i1 < List.length p0.fields) (hc1 : (decide ((i1 : Int) < ((List.length p0.fields) : Int))) = true) (h0 : (decide (0 ≤ v1_1)) = true) {r : Rs} (hr : Qi G (Qbs p0 (i1 + 1) (Q7c x1.v (w64 (v1_1 - (ByteArray.size x1.name : Int))))) r) : Qi G (Qbs p0 i1 v1_1) r := by
 have hB0 := H.1; have e0 := of_decide_eq_true h0
 exact Qw VOK.nil (y := (Qyy p0 (i1 + 1) (Q7c x1.v (w64 (v1_1 - (ByteArray.size x1.name : Int)))), Qy4 p0 (i1 + 1) (Q7c x1.v (w64 (v1_1 - (ByteArray.size x1.name : Int)))))) [hP 3 (Qz (Fld.rows p0.fields) (List.length p0.fields) (Fld.Q9 p0.fields)), hB 0 hc1, hB 2 h0, hP 4 (Q15 6 (Fld.rows p0.fields) i1 _ (Fld.Qe hx1) rfl), hP 6 (Q15 6 (Fld.rows p0.fields) i1 _ (Fld.Qe hx1) rfl), hP 7 (Q25 i1 (by omega))] [aN (rec x1.v (szF hx1) (w64 (v1_1 - (ByteArray.size x1.name : Int))) (H.2.1 x1 (Q13 hx1)))] (by kernel_rfl) hr
def Qpx (p0 : Val) (i1 : Nat) (v1_1 : Int) (_x1 : Fld) : List PV :=
  [.un, .un, .bx 0 0, .un, .un, .un, .int .i64 (i1 : Int)] ++ nuns 24 ++ [.int .i64 (i1 : Int), .bx 0 4, .sl (Fld.rows p0.fields), .int .i64 ((List.length p0.fields) : Int), .bool true, .bool true, .int .i64 v1_1, .bool false, .bool false]
def Qis (_p0 : Val) (_i1 : Nat) (_v1_1 : Int) (_x1 : Fld) : List (Nat × List PV) :=
  []
theorem Q162 (p0 : Val) (_H : Q9z p0) (_rec : Q8p p0) (x1 : Fld) (i1 : Nat) (v1_1 : Int) (_hx1 : p0.fields[i1]? = some x1) (_hi1 : i1 < List.length p0.fields) (hc1 : (decide ((i1 : Int) < ((List.length p0.fields) : Int))) = true) (h0 : (decide (0 ≤ v1_1)) = false) : Qde p0 (Qbs p0 i1 v1_1) v1_1 := by
 exact ⟨(envF (Qpx p0 i1 v1_1 x1)), (zoF (Qis p0 i1 v1_1 x1)), Q10 VOK.nil (x := ((.exit 2), Qea p0 v1_1 (envF (Qpx p0 i1 v1_1 x1)) (zoF (Qis p0 i1 v1_1 x1)))) [hP 3 (Qz (Fld.rows p0.fields) (List.length p0.fields) (Fld.Q9 p0.fields)), hB 0 hc1, hB 2 h0] [] (by kernel_rfl)⟩
theorem Qy3 (p0 : Val) (H : Q9z p0) (rec : Q8p p0) : ∀ (r1 : List Fld) (i1 : Nat) (v1_1 : Int), List.drop i1 p0.fields = r1 → Qde p0 (Qbs p0 i1 v1_1) (Q5m p0 r1 i1 v1_1)
 | [], i1, v1_1, hd => by
  have hc1 : (decide ((i1 : Int) < ((List.length p0.fields) : Int))) = false := by have := Q1v hd; simp; omega
  rw [Q5m]
  exact Q16p p0 H rec i1 v1_1 hc1
 | x1 :: r1, i1, v1_1, hd => by
  obtain ⟨hx1, hi1, hd'⟩ := Q1s hd
  have hc1 : (decide ((i1 : Int) < ((List.length p0.fields) : Int))) = true := by simp; omega
  rw [Q5m]
  cases h0 : (decide (0 ≤ v1_1)) with
  | true =>
   exact Qu7 p0 (fun r hr => Q172 p0 H rec x1 i1 v1_1 hx1 hi1 hc1 h0 hr) _ (Qy3 p0 H rec r1 (i1 + 1) (Q7c x1.v (w64 (v1_1 - (ByteArray.size x1.name : Int)))) hd')
  | false =>
   exact Q162 p0 H rec x1 i1 v1_1 hx1 hi1 hc1 h0
theorem Q1pd (p0 : Val) (p1 : Int) (H : Qws p0) (rec : Q8p p0) : Qi G (Q1d7 p0 p1) (Q1a1 p0 p1) := by
  unfold Q1a1
  rw [Q7c]
  have hl0 := Qvm p0 ((Q10e p0 p1 H).1) rec p0.list 0 (w64 ((w64 (p1 - 1)) - (ByteArray.size p0.s : Int))) (by simp)
  obtain ⟨z0, zo0, hl0⟩ := hl0
  have hl1 := Qy3 p0 ((Q10e p0 p1 H).2.1) rec p0.fields 0 (Q4b p0 p0.list 0 (w64 ((w64 (p1 - 1)) - (ByteArray.size p0.s : Int)))) (by simp)
  obtain ⟨z1, zo1, hl1⟩ := hl1
  exact Qm (fn := Ir.K28) rfl VOK.nil [] [aN hl0, aN hl1] (by kernel_rfl)
theorem Q1is : ∀ (k : Nat) (p0 : Val), SizeOf.sizeOf p0 < k → ∀ (p1 : Int), Qws p0 → Qi G (Q1d7 p0 p1) (Q1a1 p0 p1)
  | 0, _, h, _, _ => absurd h (Nat.not_lt_zero _)
  | k + 1, p0, h, p1, H => Q1pd p0 p1 H (fun q hq p1 hH => Q1is k q (by omega) p1 hH)
theorem Q1qm (p0 : Val) (p1 : Int) (H : Qws p0) : Qi G (Q1d7 p0 p1) (Q1a1 p0 p1) := Q1is _ p0 (Nat.lt_succ_self _) p1 H
def Q47 (p0 : Val) (p1 : Int) : Bool :=
 (decide (0 ≤ (Q7c p0 p1)))
def Q1rw (p0 : Val) (p1 : Int) : En := .call 9 [.agg (Val.cells p0), .int .i64 p1] []
def Q1hy (p0 : Val) (p1 : Int) : Rs := .ret (.bool (Q47 p0 p1)) []
def Q1bt (p0 : Val) (_p1 : Int) : Prop := (Qws p0) ∧ True
theorem Q8z (p0 : Val) (p1 : Int) (H : Q1bt p0 p1) : Qi G (Q1rw p0 p1) (Q1hy p0 p1) := by
 unfold Q1hy Q47
 exact Qm (fn := Ir.K27) rfl VOK.nil [] [aN (Q1qm p0 p1 H.1)] (by kernel_rfl)
inductive Q14b where
  | k0
  | k1
inductive Q14c where
  | k0
  | k1
abbrev eB : ByteArray := ⟨#[]⟩
abbrev zF : Fld := (Fld.mk eB (Val.mk 0 0 eB [] []))
mutual
def Q82 (p0 : Val) (p1 : Val) : Bool :=
 bif (p0.kind == p1.kind) then
  bif (p0.n == p1.n) then
   bif (sEq p0.s p1.s) then
    bif (((List.length p0.list) : Int) == ((List.length p1.list) : Int)) then
     bif (((List.length p0.fields) : Int) == ((List.length p1.fields) : Int)) then
      (match (Q6a p0 p1 p0.list 0) with
      | .k0 => (match (Q6b p0 p1 p0.fields 0) with
       | .k0 => true
       | .k1 => false)
      | .k1 => false)
     else
      false
    else
     false
   else
    false
  else
   false
 else
  false
termination_by SizeOf.sizeOf p0
decreasing_by all_goals first | exact Val.Qn5 _ | exact Val.Q94 _
def Q6a (p0 : Val) (p1 : Val) : List Val → Nat → Q14b
 | [], _i0 =>
  (.k0)
 | x0 :: r0, i0 =>
  bif (Q82 x0 (List.getD p1.list i0 (Val.mk 0 0 eB [] []))) then
   Q6a p0 p1 r0 (i0 + 1)
  else
   (.k1)
termination_by l => SizeOf.sizeOf l
decreasing_by all_goals first | exact Qe0 _ _ | exact Qdm _ _ | exact Qb9 _ _
def Q6b (p0 : Val) (p1 : Val) : List Fld → Nat → Q14c
 | [], _i1 =>
  (.k0)
 | x1 :: r1, i1 =>
  bif (sEq x1.name (List.getD p1.fields i1 zF).name) then
   bif (Q82 x1.v (List.getD p1.fields i1 zF).v) then
    Q6b p0 p1 r1 (i1 + 1)
   else
    (.k1)
  else
   (.k1)
termination_by l => SizeOf.sizeOf l
decreasing_by all_goals first | exact Qe0 _ _ | exact Qdm _ _ | exact Qb9 _ _
end
def Qwy (_p0 : Val) (_p1 : Val) (i0 : Nat) : List PV :=
  [.un, .un, .bx 0 0, .bx 1 0, .un, .int .i64 (i0 : Int)] ++ nuns 93
def Qy9 (p0 : Val) (p1 : Val) (_i0 : Nat) : List Ob :=
  [⟨5, 0, true, [.int .i64 p0.kind, .int .i64 p0.n, .str p0.s, .sl (Val.rows p0.list), .sl (Fld.rows p0.fields)]⟩, ⟨5, 0, true, [.int .i64 p1.kind, .int .i64 p1.n, .str p1.s, .sl (Val.rows p1.list), .sl (Fld.rows p1.fields)]⟩]
def Q7m (p0 : Val) (p1 : Val) (i0 : Nat) : En := .loop 0 Ir.Qit Ir.Q1er (Qwy p0 p1 i0) (Qy9 p0 p1 i0)
def Q9r (p0 : Val) (p1 : Val) (z : Nat → PV) (_zo : Nat → List PV) : St :=
  ⟨[z 0, z 1, .bx 0 0, .bx 1 0] ++ zr z 4 95, [(0, ⟨5, 0, true, [.int .i64 p0.kind, .int .i64 p0.n, .str p0.s, .sl (Val.rows p0.list), .sl (Fld.rows p0.fields)]⟩), (1, ⟨5, 0, true, [.int .i64 p1.kind, .int .i64 p1.n, .str p1.s, .sl (Val.rows p1.list), .sl (Fld.rows p1.fields)]⟩)], 322⟩
def Qe4 (_p0 : Val) (_p1 : Val) (z : Nat → PV) (zo : Nat → List PV) : St :=
  ⟨[z 0, z 1, z 2, z 3, .bool false] ++ zr z 5 94, [(0, ⟨5, 0, true, zo 0⟩), (1, ⟨5, 0, true, zo 1⟩)], 1154⟩
def Qd8 (p0 : Val) (p1 : Val) (e : En) : Q14b → Prop
  | .k0 => ∃ z zo, Qi G e (.st (.exit 0) (Q9r p0 p1 z zo))
  | .k1 => ∃ z zo, Qi G e (.st .ret (Qe4 p0 p1 z zo))
theorem Qtf (p0 : Val) (p1 : Val) {e e' : En} (h : ∀ r, Qi G e r → Qi G e' r) : ∀ q, Qd8 p0 p1 e q → Qd8 p0 p1 e' q
  | .k0, ⟨z, zo, hz⟩ => ⟨z, zo, h _ hz⟩
  | .k1, ⟨z, zo, hz⟩ => ⟨z, zo, h _ hz⟩
def Quy (_p0 : Val) (_p1 : Val) (i1 : Nat) : List PV :=
  [.un, .un, .bx 0 0, .bx 1 0, .un, .un, .int .i64 (i1 : Int)] ++ nuns 92
def Qv7 (p0 : Val) (p1 : Val) (_i1 : Nat) : List Ob :=
  [⟨5, 0, true, [.int .i64 p0.kind, .int .i64 p0.n, .str p0.s, .sl (Val.rows p0.list), .sl (Fld.rows p0.fields)]⟩, ⟨5, 0, true, [.int .i64 p1.kind, .int .i64 p1.n, .str p1.s, .sl (Val.rows p1.list), .sl (Fld.rows p1.fields)]⟩]
def Q7q (p0 : Val) (p1 : Val) (i1 : Nat) : En := .loop 0 Ir.Qjl Ir.Q1e8 (Quy p0 p1 i1) (Qv7 p0 p1 i1)
def Qdh (p0 : Val) (p1 : Val) (z : Nat → PV) (_zo : Nat → List PV) : St :=
  ⟨zr z 0 99, [(0, ⟨5, 0, true, [.int .i64 p0.kind, .int .i64 p0.n, .str p0.s, .sl (Val.rows p0.list), .sl (Fld.rows p0.fields)]⟩), (1, ⟨5, 0, true, [.int .i64 p1.kind, .int .i64 p1.n, .str p1.s, .sl (Val.rows p1.list), .sl (Fld.rows p1.fields)]⟩)], 322⟩
def Qad (_p0 : Val) (_p1 : Val) (z : Nat → PV) (zo : Nat → List PV) : St :=
  ⟨[z 0, z 1, z 2, z 3, .bool false] ++ zr z 5 94, [(0, ⟨5, 0, true, zo 0⟩), (1, ⟨5, 0, true, zo 1⟩)], 2242⟩
def Q9j (p0 : Val) (p1 : Val) (e : En) : Q14c → Prop
  | .k0 => ∃ z zo, Qi G e (.st (.exit 2) (Qdh p0 p1 z zo))
  | .k1 => ∃ z zo, Qi G e (.st .ret (Qad p0 p1 z zo))
theorem Qtx (p0 : Val) (p1 : Val) {e e' : En} (h : ∀ r, Qi G e r → Qi G e' r) : ∀ q, Q9j p0 p1 e q → Q9j p0 p1 e' q
  | .k0, ⟨z, zo, hz⟩ => ⟨z, zo, h _ hz⟩
  | .k1, ⟨z, zo, hz⟩ => ⟨z, zo, h _ hz⟩
def Qeo (p0 : Val) (p1 : Val) : En := .call 23 [.agg (Val.cells p0), .agg (Val.cells p1)] []
def Q19y (p0 : Val) (p1 : Val) : Rs := .ret (.bool (Q82 p0 p1)) []
abbrev Q8c (p0 : Val) : Prop := Val.Sm 4611686018427387904 p0
def Q48 (p0 : Val) : Prop := ∀ (q : Val), SizeOf.sizeOf q < SizeOf.sizeOf p0 → ∀ (p1 : Val), Q8c q → Qi G (Qeo q p1) (Q19y q p1)
def Qb3 (p0 : Val) (p1 : Val) : Prop := (List.length p0.list ≤ 4611686018427387904) ∧ (∀ (i0 : Nat) (x0 : Val), p0.list[i0]? = some x0 → i0 < List.length p1.list) ∧ (∀ x0 ∈ p0.list, Q8c x0) ∧ True
def Q9i (p0 : Val) (p1 : Val) : Prop := (List.length p0.fields ≤ 4611686018427387904) ∧ (∀ (i1 : Nat) (x1 : Fld), p0.fields[i1]? = some x1 → i1 < List.length p1.fields) ∧ (∀ x1 ∈ p0.fields, Q8c x1.v) ∧ True
theorem Q11x (p0 : Val) (p1 : Val) (H : Q8c p0) : ((((List.length p0.list) : Int) == ((List.length p1.list) : Int)) = true → (((List.length p0.fields) : Int) == ((List.length p1.fields) : Int)) = true → Qb3 p0 p1) ∧ ((((List.length p0.list) : Int) == ((List.length p1.list) : Int)) = true → (((List.length p0.fields) : Int) == ((List.length p1.fields) : Int)) = true → Q9i p0 p1) ∧ True := by
  obtain ⟨h1, h2, h3, h4⟩ := H.all
  exact ⟨fun a _ => ⟨h1, fun i x hx => by have := (List.getElem?_eq_some_iff.1 hx).1; have := eq_of_beq a; omega, h3, trivial⟩, fun _ b => ⟨h2, fun i x hx => by have := (List.getElem?_eq_some_iff.1 hx).1; have := eq_of_beq b; omega, h4, trivial⟩, trivial⟩
def Qrk (p0 : Val) (_p1 : Val) (i0 : Nat) : List PV :=
  nuns 5 ++ [.int .i64 (i0 : Int)] ++ nuns 38 ++ [.int .i64 (i0 : Int), .bx 0 3, .sl (Val.rows p0.list), .int .i64 ((List.length p0.list) : Int), .bool false]
def Qjs (_p0 : Val) (_p1 : Val) (_i0 : Nat) : List (Nat × List PV) :=
  []
theorem Q159 (p0 : Val) (p1 : Val) (_H : Qb3 p0 p1) (_rec : Q48 p0) (i0 : Nat) (hc0 : (decide ((i0 : Int) < ((List.length p0.list) : Int))) = false) : Qd8 p0 p1 (Q7m p0 p1 i0) (.k0) := by
 exact ⟨(envF (Qrk p0 p1 i0)), (zoF (Qjs p0 p1 i0)), Q10 VOK.nil (x := ((.exit 0), Q9r p0 p1 (envF (Qrk p0 p1 i0)) (zoF (Qjs p0 p1 i0)))) [hP 3 (Qz (Val.rows p0.list) (List.length p0.list) (Val.Q9 p0.list)), hB 0 hc0] [] (by kernel_rfl)⟩
theorem Q191 (p0 : Val) (p1 : Val) (H : Qb3 p0 p1) (rec : Q48 p0) (x0 : Val) (i0 : Nat) (hx0 : p0.list[i0]? = some x0) (hi0 : i0 < List.length p0.list) (hc0 : (decide ((i0 : Int) < ((List.length p0.list) : Int))) = true) (h0 : (Q82 x0 (List.getD p1.list i0 (Val.mk 0 0 eB [] []))) = true) {r : Rs} (hr : Qi G (Q7m p0 p1 (i0 + 1)) r) : Qi G (Q7m p0 p1 i0) r := by
 have hB0 := H.1
 exact Qw VOK.nil (y := (Qwy p0 p1 (i0 + 1), Qy9 p0 p1 (i0 + 1))) [hP 3 (Qz (Val.rows p0.list) (List.length p0.list) (Val.Q9 p0.list)), hB 0 hc0, hP 3 (Q15 5 (Val.rows p0.list) i0 _ (Val.Qe hx0) rfl), hP 4 (Q15 5 (Val.rows p1.list) i0 _ (Val.Qe (Q3q p1.list i0 (Val.mk 0 0 eB [] []) ((H.2.1 i0 x0 hx0)))) rfl), hP 4 (Q25 i0 (by omega))] [aB (rec x0 (szL hx0) (List.getD p1.list i0 (Val.mk 0 0 eB [] [])) (H.2.2.1 x0 (Q13 hx0))) h0] (by kernel_rfl) hr
def Qre (p0 : Val) (p1 : Val) (i0 : Nat) (x0 : Val) : List PV :=
  [.un, .un, .bx 0 0, .bx 1 0, .un, .int .i64 (i0 : Int)] ++ nuns 38 ++ [.int .i64 (i0 : Int), .bx 0 3, .sl (Val.rows p0.list), .int .i64 ((List.length p0.list) : Int), .bool true, .un, .un, .bx 0 3, .sl (Val.rows p0.list), .int .i64 (i0 : Int), .rf [.int .i64 x0.kind, .int .i64 x0.n, .str x0.s, .sl (Val.rows x0.list), .sl (Fld.rows x0.fields)], .agg [.int .i64 x0.kind, .int .i64 x0.n, .str x0.s, .sl (Val.rows x0.list), .sl (Fld.rows x0.fields)], .bx 1 3, .sl (Val.rows p1.list), .int .i64 (i0 : Int), .rf [.int .i64 (List.getD p1.list i0 (Val.mk 0 0 eB [] [])).kind, .int .i64 (List.getD p1.list i0 (Val.mk 0 0 eB [] [])).n, .str (List.getD p1.list i0 (Val.mk 0 0 eB [] [])).s, .sl (Val.rows (List.getD p1.list i0 (Val.mk 0 0 eB [] [])).list), .sl (Fld.rows (List.getD p1.list i0 (Val.mk 0 0 eB [] [])).fields)], .agg [.int .i64 (List.getD p1.list i0 (Val.mk 0 0 eB [] [])).kind, .int .i64 (List.getD p1.list i0 (Val.mk 0 0 eB [] [])).n, .str (List.getD p1.list i0 (Val.mk 0 0 eB [] [])).s, .sl (Val.rows (List.getD p1.list i0 (Val.mk 0 0 eB [] [])).list), .sl (Fld.rows (List.getD p1.list i0 (Val.mk 0 0 eB [] [])).fields)], .bool false, .bool true]
def Ql0 (p0 : Val) (p1 : Val) (_i0 : Nat) (_x0 : Val) : List (Nat × List PV) :=
  [(0, [.int .i64 p0.kind, .int .i64 p0.n, .str p0.s, .sl (Val.rows p0.list), .sl (Fld.rows p0.fields)]), (1, [.int .i64 p1.kind, .int .i64 p1.n, .str p1.s, .sl (Val.rows p1.list), .sl (Fld.rows p1.fields)])]
theorem Q16f (p0 : Val) (p1 : Val) (H : Qb3 p0 p1) (rec : Q48 p0) (x0 : Val) (i0 : Nat) (hx0 : p0.list[i0]? = some x0) (_hi0 : i0 < List.length p0.list) (hc0 : (decide ((i0 : Int) < ((List.length p0.list) : Int))) = true) (h0 : (Q82 x0 (List.getD p1.list i0 (Val.mk 0 0 eB [] []))) = false) : Qd8 p0 p1 (Q7m p0 p1 i0) (.k1) := by
 exact ⟨(envF (Qre p0 p1 i0 x0)), (zoF (Ql0 p0 p1 i0 x0)), Q10 VOK.nil (x := (.ret, Qe4 p0 p1 (envF (Qre p0 p1 i0 x0)) (zoF (Ql0 p0 p1 i0 x0)))) [hP 3 (Qz (Val.rows p0.list) (List.length p0.list) (Val.Q9 p0.list)), hB 0 hc0, hP 3 (Q15 5 (Val.rows p0.list) i0 _ (Val.Qe hx0) rfl), hP 4 (Q15 5 (Val.rows p1.list) i0 _ (Val.Qe (Q3q p1.list i0 (Val.mk 0 0 eB [] []) ((H.2.1 i0 x0 hx0)))) rfl)] [aB (rec x0 (szL hx0) (List.getD p1.list i0 (Val.mk 0 0 eB [] [])) (H.2.2.1 x0 (Q13 hx0))) h0] (by kernel_rfl)⟩
theorem Qwu (p0 : Val) (p1 : Val) (H : Qb3 p0 p1) (rec : Q48 p0) : ∀ (r0 : List Val) (i0 : Nat), List.drop i0 p0.list = r0 → Qd8 p0 p1 (Q7m p0 p1 i0) (Q6a p0 p1 r0 i0)
 | [], i0, hd => by
  have hc0 : (decide ((i0 : Int) < ((List.length p0.list) : Int))) = false := by have := Q1v hd; simp; omega
  rw [Q6a]
  exact Q159 p0 p1 H rec i0 hc0
 | x0 :: r0, i0, hd => by
  obtain ⟨hx0, hi0, hd'⟩ := Q1s hd
  have hc0 : (decide ((i0 : Int) < ((List.length p0.list) : Int))) = true := by simp; omega
  rw [Q6a]
  cases h0 : (Q82 x0 (List.getD p1.list i0 (Val.mk 0 0 eB [] []))) with
  | true =>
   exact Qtf p0 p1 (fun r hr => Q191 p0 p1 H rec x0 i0 hx0 hi0 hc0 h0 hr) _ (Qwu p0 p1 H rec r0 (i0 + 1) hd')
  | false =>
   exact Q16f p0 p1 H rec x0 i0 hx0 hi0 hc0 h0
def Qnt (p0 : Val) (_p1 : Val) (i1 : Nat) : List PV :=
  [.un, .un, .bx 0 0, .bx 1 0, .un, .un, .int .i64 (i1 : Int)] ++ nuns 56 ++ [.int .i64 (i1 : Int), .bx 0 4, .sl (Fld.rows p0.fields), .int .i64 ((List.length p0.fields) : Int), .bool false]
def Qil (_p0 : Val) (_p1 : Val) (_i1 : Nat) : List (Nat × List PV) :=
  []
theorem Q16k (p0 : Val) (p1 : Val) (_H : Q9i p0 p1) (_rec : Q48 p0) (i1 : Nat) (hc1 : (decide ((i1 : Int) < ((List.length p0.fields) : Int))) = false) : Q9j p0 p1 (Q7q p0 p1 i1) (.k0) := by
 exact ⟨(envF (Qnt p0 p1 i1)), (zoF (Qil p0 p1 i1)), Q10 VOK.nil (x := ((.exit 2), Qdh p0 p1 (envF (Qnt p0 p1 i1)) (zoF (Qil p0 p1 i1)))) [hP 3 (Qz (Fld.rows p0.fields) (List.length p0.fields) (Fld.Q9 p0.fields)), hB 0 hc1] [] (by kernel_rfl)⟩
theorem Q15o (p0 : Val) (p1 : Val) (H : Q9i p0 p1) (rec : Q48 p0) (x1 : Fld) (i1 : Nat) (hx1 : p0.fields[i1]? = some x1) (hi1 : i1 < List.length p0.fields) (hc1 : (decide ((i1 : Int) < ((List.length p0.fields) : Int))) = true) (h0 : (sEq x1.name (List.getD p1.fields i1 zF).name) = true) (h1 : (Q82 x1.v (List.getD p1.fields i1 zF).v) = true) {r : Rs} (hr : Qi G (Q7q p0 p1 (i1 + 1)) r) : Qi G (Q7q p0 p1 i1) r := by
 have hB0 := H.1
 exact Qw VOK.nil (y := (Quy p0 p1 (i1 + 1), Qv7 p0 p1 (i1 + 1))) [hP 3 (Qz (Fld.rows p0.fields) (List.length p0.fields) (Fld.Q9 p0.fields)), hB 0 hc1, hP 3 (Q15 6 (Fld.rows p0.fields) i1 _ (Fld.Qe hx1) rfl), hP 5 (Q15 6 (Fld.rows p1.fields) i1 _ (Fld.Qe (Q3q p1.fields i1 zF ((H.2.1 i1 x1 hx1)))) rfl), hP 2 (dec (!(sEq x1.name (List.getD p1.fields i1 zF).name)) false (by rw [h0]; rfl)), hP 4 (Q15 6 (Fld.rows p0.fields) i1 _ (Fld.Qe hx1) rfl), hP 5 (Q15 6 (Fld.rows p1.fields) i1 _ (Fld.Qe (Q3q p1.fields i1 zF ((H.2.1 i1 x1 hx1)))) rfl), hP 6 (Q25 i1 (by omega))] [aB (rec x1.v (szF hx1) (List.getD p1.fields i1 zF).v (H.2.2.1 x1 (Q13 hx1))) h1] (by kernel_rfl) hr
def Qqa (p0 : Val) (p1 : Val) (i1 : Nat) (x1 : Fld) : List PV :=
  [.un, .un, .bx 0 0, .bx 1 0, .un, .un, .int .i64 (i1 : Int)] ++ nuns 56 ++ [.int .i64 (i1 : Int), .bx 0 4, .sl (Fld.rows p0.fields), .int .i64 ((List.length p0.fields) : Int), .bool true, .un, .un, .bx 0 4, .sl (Fld.rows p0.fields), .int .i64 (i1 : Int), .rf [.str x1.name, .int .i64 x1.v.kind, .int .i64 x1.v.n, .str x1.v.s, .sl (Val.rows x1.v.list), .sl (Fld.rows x1.v.fields)], .rf [.str x1.name, .int .i64 x1.v.kind, .int .i64 x1.v.n, .str x1.v.s, .sl (Val.rows x1.v.list), .sl (Fld.rows x1.v.fields)], .str x1.name, .bx 1 4, .sl (Fld.rows p1.fields), .int .i64 (i1 : Int), .rf [.str (List.getD p1.fields i1 zF).name, .int .i64 (List.getD p1.fields i1 zF).v.kind, .int .i64 (List.getD p1.fields i1 zF).v.n, .str (List.getD p1.fields i1 zF).v.s, .sl (Val.rows (List.getD p1.fields i1 zF).v.list), .sl (Fld.rows (List.getD p1.fields i1 zF).v.fields)], .rf [.str (List.getD p1.fields i1 zF).name, .int .i64 (List.getD p1.fields i1 zF).v.kind, .int .i64 (List.getD p1.fields i1 zF).v.n, .str (List.getD p1.fields i1 zF).v.s, .sl (Val.rows (List.getD p1.fields i1 zF).v.list), .sl (Fld.rows (List.getD p1.fields i1 zF).v.fields)], .str (List.getD p1.fields i1 zF).name, .bool false, .bool false, .bx 0 4, .sl (Fld.rows p0.fields), .int .i64 (i1 : Int), .rf [.str x1.name, .int .i64 x1.v.kind, .int .i64 x1.v.n, .str x1.v.s, .sl (Val.rows x1.v.list), .sl (Fld.rows x1.v.fields)], .rf [.int .i64 x1.v.kind, .int .i64 x1.v.n, .str x1.v.s, .sl (Val.rows x1.v.list), .sl (Fld.rows x1.v.fields)], .agg [.int .i64 x1.v.kind, .int .i64 x1.v.n, .str x1.v.s, .sl (Val.rows x1.v.list), .sl (Fld.rows x1.v.fields)], .bx 1 4, .sl (Fld.rows p1.fields), .int .i64 (i1 : Int), .rf [.str (List.getD p1.fields i1 zF).name, .int .i64 (List.getD p1.fields i1 zF).v.kind, .int .i64 (List.getD p1.fields i1 zF).v.n, .str (List.getD p1.fields i1 zF).v.s, .sl (Val.rows (List.getD p1.fields i1 zF).v.list), .sl (Fld.rows (List.getD p1.fields i1 zF).v.fields)], .rf [.int .i64 (List.getD p1.fields i1 zF).v.kind, .int .i64 (List.getD p1.fields i1 zF).v.n, .str (List.getD p1.fields i1 zF).v.s, .sl (Val.rows (List.getD p1.fields i1 zF).v.list), .sl (Fld.rows (List.getD p1.fields i1 zF).v.fields)], .agg [.int .i64 (List.getD p1.fields i1 zF).v.kind, .int .i64 (List.getD p1.fields i1 zF).v.n, .str (List.getD p1.fields i1 zF).v.s, .sl (Val.rows (List.getD p1.fields i1 zF).v.list), .sl (Fld.rows (List.getD p1.fields i1 zF).v.fields)], .bool false, .bool true, .bool true]
def Qiv (p0 : Val) (p1 : Val) (_i1 : Nat) (_x1 : Fld) : List (Nat × List PV) :=
  [(0, [.int .i64 p0.kind, .int .i64 p0.n, .str p0.s, .sl (Val.rows p0.list), .sl (Fld.rows p0.fields)]), (1, [.int .i64 p1.kind, .int .i64 p1.n, .str p1.s, .sl (Val.rows p1.list), .sl (Fld.rows p1.fields)])]
theorem Q17h (p0 : Val) (p1 : Val) (H : Q9i p0 p1) (rec : Q48 p0) (x1 : Fld) (i1 : Nat) (hx1 : p0.fields[i1]? = some x1) (_hi1 : i1 < List.length p0.fields) (hc1 : (decide ((i1 : Int) < ((List.length p0.fields) : Int))) = true) (h0 : (sEq x1.name (List.getD p1.fields i1 zF).name) = true) (h1 : (Q82 x1.v (List.getD p1.fields i1 zF).v) = false) : Q9j p0 p1 (Q7q p0 p1 i1) (.k1) := by
 exact ⟨(envF (Qqa p0 p1 i1 x1)), (zoF (Qiv p0 p1 i1 x1)), Q10 VOK.nil (x := (.ret, Qad p0 p1 (envF (Qqa p0 p1 i1 x1)) (zoF (Qiv p0 p1 i1 x1)))) [hP 3 (Qz (Fld.rows p0.fields) (List.length p0.fields) (Fld.Q9 p0.fields)), hB 0 hc1, hP 3 (Q15 6 (Fld.rows p0.fields) i1 _ (Fld.Qe hx1) rfl), hP 5 (Q15 6 (Fld.rows p1.fields) i1 _ (Fld.Qe (Q3q p1.fields i1 zF ((H.2.1 i1 x1 hx1)))) rfl), hP 2 (dec (!(sEq x1.name (List.getD p1.fields i1 zF).name)) false (by rw [h0]; rfl)), hP 4 (Q15 6 (Fld.rows p0.fields) i1 _ (Fld.Qe hx1) rfl), hP 5 (Q15 6 (Fld.rows p1.fields) i1 _ (Fld.Qe (Q3q p1.fields i1 zF ((H.2.1 i1 x1 hx1)))) rfl)] [aB (rec x1.v (szF hx1) (List.getD p1.fields i1 zF).v (H.2.2.1 x1 (Q13 hx1))) h1] (by kernel_rfl)⟩
def Qrf (p0 : Val) (p1 : Val) (i1 : Nat) (x1 : Fld) : List PV :=
  [.un, .un, .bx 0 0, .bx 1 0, .un, .un, .int .i64 (i1 : Int)] ++ nuns 56 ++ [.int .i64 (i1 : Int), .bx 0 4, .sl (Fld.rows p0.fields), .int .i64 ((List.length p0.fields) : Int), .bool true, .un, .un, .bx 0 4, .sl (Fld.rows p0.fields), .int .i64 (i1 : Int), .rf [.str x1.name, .int .i64 x1.v.kind, .int .i64 x1.v.n, .str x1.v.s, .sl (Val.rows x1.v.list), .sl (Fld.rows x1.v.fields)], .rf [.str x1.name, .int .i64 x1.v.kind, .int .i64 x1.v.n, .str x1.v.s, .sl (Val.rows x1.v.list), .sl (Fld.rows x1.v.fields)], .str x1.name, .bx 1 4, .sl (Fld.rows p1.fields), .int .i64 (i1 : Int), .rf [.str (List.getD p1.fields i1 zF).name, .int .i64 (List.getD p1.fields i1 zF).v.kind, .int .i64 (List.getD p1.fields i1 zF).v.n, .str (List.getD p1.fields i1 zF).v.s, .sl (Val.rows (List.getD p1.fields i1 zF).v.list), .sl (Fld.rows (List.getD p1.fields i1 zF).v.fields)], .rf [.str (List.getD p1.fields i1 zF).name, .int .i64 (List.getD p1.fields i1 zF).v.kind, .int .i64 (List.getD p1.fields i1 zF).v.n, .str (List.getD p1.fields i1 zF).v.s, .sl (Val.rows (List.getD p1.fields i1 zF).v.list), .sl (Fld.rows (List.getD p1.fields i1 zF).v.fields)], .str (List.getD p1.fields i1 zF).name, .bool true, .bool true, .tup [], .tup [], .tup [], .tup [], .tup [], .tup [], .tup [], .tup [], .tup [], .tup [], .tup [], .tup [], .tup [], .tup [], .bool true]
def Qj2 (p0 : Val) (p1 : Val) (_i1 : Nat) (_x1 : Fld) : List (Nat × List PV) :=
  [(0, [.int .i64 p0.kind, .int .i64 p0.n, .str p0.s, .sl (Val.rows p0.list), .sl (Fld.rows p0.fields)]), (1, [.int .i64 p1.kind, .int .i64 p1.n, .str p1.s, .sl (Val.rows p1.list), .sl (Fld.rows p1.fields)])]
theorem Q175 (p0 : Val) (p1 : Val) (H : Q9i p0 p1) (_rec : Q48 p0) (x1 : Fld) (i1 : Nat) (hx1 : p0.fields[i1]? = some x1) (_hi1 : i1 < List.length p0.fields) (hc1 : (decide ((i1 : Int) < ((List.length p0.fields) : Int))) = true) (h0 : (sEq x1.name (List.getD p1.fields i1 zF).name) = false) : Q9j p0 p1 (Q7q p0 p1 i1) (.k1) := by
 exact ⟨(envF (Qrf p0 p1 i1 x1)), (zoF (Qj2 p0 p1 i1 x1)), Q10 VOK.nil (x := (.ret, Qad p0 p1 (envF (Qrf p0 p1 i1 x1)) (zoF (Qj2 p0 p1 i1 x1)))) [hP 3 (Qz (Fld.rows p0.fields) (List.length p0.fields) (Fld.Q9 p0.fields)), hB 0 hc1, hP 3 (Q15 6 (Fld.rows p0.fields) i1 _ (Fld.Qe hx1) rfl), hP 5 (Q15 6 (Fld.rows p1.fields) i1 _ (Fld.Qe (Q3q p1.fields i1 zF ((H.2.1 i1 x1 hx1)))) rfl), hP 2 (dec (!(sEq x1.name (List.getD p1.fields i1 zF).name)) true (by rw [h0]; rfl))] [] (by kernel_rfl)⟩
theorem Qvr (p0 : Val) (p1 : Val) (H : Q9i p0 p1) (rec : Q48 p0) : ∀ (r1 : List Fld) (i1 : Nat), List.drop i1 p0.fields = r1 → Q9j p0 p1 (Q7q p0 p1 i1) (Q6b p0 p1 r1 i1)
 | [], i1, hd => by
  have hc1 : (decide ((i1 : Int) < ((List.length p0.fields) : Int))) = false := by have := Q1v hd; simp; omega
  rw [Q6b]
  exact Q16k p0 p1 H rec i1 hc1
 | x1 :: r1, i1, hd => by
  obtain ⟨hx1, hi1, hd'⟩ := Q1s hd
  have hc1 : (decide ((i1 : Int) < ((List.length p0.fields) : Int))) = true := by simp; omega
  rw [Q6b]
  cases h0 : (sEq x1.name (List.getD p1.fields i1 zF).name) with
  | true =>
   cases h1 : (Q82 x1.v (List.getD p1.fields i1 zF).v) with
   | true =>
    exact Qtx p0 p1 (fun r hr => Q15o p0 p1 H rec x1 i1 hx1 hi1 hc1 h0 h1 hr) _ (Qvr p0 p1 H rec r1 (i1 + 1) hd')
   | false =>
    exact Q17h p0 p1 H rec x1 i1 hx1 hi1 hc1 h0 h1
  | false =>
   exact Q175 p0 p1 H rec x1 i1 hx1 hi1 hc1 h0
theorem Q1ho (p0 : Val) (p1 : Val) (_H : Q8c p0) (_rec : Q48 p0) (h0 : (p0.kind == p1.kind) = true) (h1 : (p0.n == p1.n) = true) (h2 : (sEq p0.s p1.s) = true) (h3 : (((List.length p0.list) : Int) == ((List.length p1.list) : Int)) = true) (h4 : (((List.length p0.fields) : Int) == ((List.length p1.fields) : Int)) = true) (z5 : Nat → PV) (zo5 : Nat → List PV) (hl5 : Qi G (Q7m p0 p1 0) (.st (.exit 0) (Q9r p0 p1 z5 zo5))) (z6 : Nat → PV) (zo6 : Nat → List PV) (hl6 : Qi G (Q7q p0 p1 0) (.st (.exit 2) (Qdh p0 p1 z6 zo6))) : Qi G (Qeo p0 p1) (.ret (.bool (true)) []) := by
 exact Qm (fn := Ir.K26) rfl VOK.nil [hP 7 (dec (!(p0.kind == p1.kind)) false (by rw [h0]; rfl)), hP 5 (dec (!(p0.n == p1.n)) false (by rw [h1]; rfl)), hP 6 (dec (!(sEq p0.s p1.s)) false (by rw [h2]; rfl)), hP 4 (Qz (Val.rows p0.list) (List.length p0.list) (Val.Q9 p0.list)), hP 2 (Qz (Val.rows p1.list) (List.length p1.list) (Val.Q9 p1.list)), hP 0 (dec (!(((List.length p0.list) : Int) == ((List.length p1.list) : Int))) false (by rw [h3]; rfl)), hP 4 (Qz (Fld.rows p0.fields) (List.length p0.fields) (Fld.Q9 p0.fields)), hP 2 (Qz (Fld.rows p1.fields) (List.length p1.fields) (Fld.Q9 p1.fields)), hP 0 (dec (!(((List.length p0.fields) : Int) == ((List.length p1.fields) : Int))) false (by rw [h4]; rfl))] [aN hl5, aN hl6] (by kernel_rfl)
theorem Q1ft (p0 : Val) (p1 : Val) (_H : Q8c p0) (_rec : Q48 p0) (h0 : (p0.kind == p1.kind) = true) (h1 : (p0.n == p1.n) = true) (h2 : (sEq p0.s p1.s) = true) (h3 : (((List.length p0.list) : Int) == ((List.length p1.list) : Int)) = true) (h4 : (((List.length p0.fields) : Int) == ((List.length p1.fields) : Int)) = true) (z5 : Nat → PV) (zo5 : Nat → List PV) (hl5 : Qi G (Q7m p0 p1 0) (.st (.exit 0) (Q9r p0 p1 z5 zo5))) (z6 : Nat → PV) (zo6 : Nat → List PV) (hl6 : Qi G (Q7q p0 p1 0) (.st .ret (Qad p0 p1 z6 zo6))) : Qi G (Qeo p0 p1) (.ret (.bool (false)) []) := by
 exact Qm (fn := Ir.K26) rfl VOK.nil [hP 7 (dec (!(p0.kind == p1.kind)) false (by rw [h0]; rfl)), hP 5 (dec (!(p0.n == p1.n)) false (by rw [h1]; rfl)), hP 6 (dec (!(sEq p0.s p1.s)) false (by rw [h2]; rfl)), hP 4 (Qz (Val.rows p0.list) (List.length p0.list) (Val.Q9 p0.list)), hP 2 (Qz (Val.rows p1.list) (List.length p1.list) (Val.Q9 p1.list)), hP 0 (dec (!(((List.length p0.list) : Int) == ((List.length p1.list) : Int))) false (by rw [h3]; rfl)), hP 4 (Qz (Fld.rows p0.fields) (List.length p0.fields) (Fld.Q9 p0.fields)), hP 2 (Qz (Fld.rows p1.fields) (List.length p1.fields) (Fld.Q9 p1.fields)), hP 0 (dec (!(((List.length p0.fields) : Int) == ((List.length p1.fields) : Int))) false (by rw [h4]; rfl))] [aN hl5, aN hl6] (by kernel_rfl)
theorem Q1fd (p0 : Val) (p1 : Val) (_H : Q8c p0) (_rec : Q48 p0) (h0 : (p0.kind == p1.kind) = true) (h1 : (p0.n == p1.n) = true) (h2 : (sEq p0.s p1.s) = true) (h3 : (((List.length p0.list) : Int) == ((List.length p1.list) : Int)) = true) (h4 : (((List.length p0.fields) : Int) == ((List.length p1.fields) : Int)) = true) (z5 : Nat → PV) (zo5 : Nat → List PV) (hl5 : Qi G (Q7m p0 p1 0) (.st .ret (Qe4 p0 p1 z5 zo5))) : Qi G (Qeo p0 p1) (.ret (.bool (false)) []) := by
 exact Qm (fn := Ir.K26) rfl VOK.nil [hP 7 (dec (!(p0.kind == p1.kind)) false (by rw [h0]; rfl)), hP 5 (dec (!(p0.n == p1.n)) false (by rw [h1]; rfl)), hP 6 (dec (!(sEq p0.s p1.s)) false (by rw [h2]; rfl)), hP 4 (Qz (Val.rows p0.list) (List.length p0.list) (Val.Q9 p0.list)), hP 2 (Qz (Val.rows p1.list) (List.length p1.list) (Val.Q9 p1.list)), hP 0 (dec (!(((List.length p0.list) : Int) == ((List.length p1.list) : Int))) false (by rw [h3]; rfl)), hP 4 (Qz (Fld.rows p0.fields) (List.length p0.fields) (Fld.Q9 p0.fields)), hP 2 (Qz (Fld.rows p1.fields) (List.length p1.fields) (Fld.Q9 p1.fields)), hP 0 (dec (!(((List.length p0.fields) : Int) == ((List.length p1.fields) : Int))) false (by rw [h4]; rfl))] [aN hl5] (by kernel_rfl)
theorem Q1g2 (p0 : Val) (p1 : Val) (_H : Q8c p0) (_rec : Q48 p0) (h0 : (p0.kind == p1.kind) = true) (h1 : (p0.n == p1.n) = true) (h2 : (sEq p0.s p1.s) = true) (h3 : (((List.length p0.list) : Int) == ((List.length p1.list) : Int)) = true) (h4 : (((List.length p0.fields) : Int) == ((List.length p1.fields) : Int)) = false) : Qi G (Qeo p0 p1) (.ret (.bool (false)) []) := by
 exact Qm (fn := Ir.K26) rfl VOK.nil [hP 7 (dec (!(p0.kind == p1.kind)) false (by rw [h0]; rfl)), hP 5 (dec (!(p0.n == p1.n)) false (by rw [h1]; rfl)), hP 6 (dec (!(sEq p0.s p1.s)) false (by rw [h2]; rfl)), hP 4 (Qz (Val.rows p0.list) (List.length p0.list) (Val.Q9 p0.list)), hP 2 (Qz (Val.rows p1.list) (List.length p1.list) (Val.Q9 p1.list)), hP 0 (dec (!(((List.length p0.list) : Int) == ((List.length p1.list) : Int))) false (by rw [h3]; rfl)), hP 4 (Qz (Fld.rows p0.fields) (List.length p0.fields) (Fld.Q9 p0.fields)), hP 2 (Qz (Fld.rows p1.fields) (List.length p1.fields) (Fld.Q9 p1.fields)), hP 0 (dec (!(((List.length p0.fields) : Int) == ((List.length p1.fields) : Int))) true (by rw [h4]; rfl))] [] (by kernel_rfl)
theorem Q1fu (p0 : Val) (p1 : Val) (_H : Q8c p0) (_rec : Q48 p0) (h0 : (p0.kind == p1.kind) = true) (h1 : (p0.n == p1.n) = true) (h2 : (sEq p0.s p1.s) = true) (h3 : (((List.length p0.list) : Int) == ((List.length p1.list) : Int)) = false) : Qi G (Qeo p0 p1) (.ret (.bool (false)) []) := by
 exact Qm (fn := Ir.K26) rfl VOK.nil [hP 7 (dec (!(p0.kind == p1.kind)) false (by rw [h0]; rfl)), hP 5 (dec (!(p0.n == p1.n)) false (by rw [h1]; rfl)), hP 6 (dec (!(sEq p0.s p1.s)) false (by rw [h2]; rfl)), hP 4 (Qz (Val.rows p0.list) (List.length p0.list) (Val.Q9 p0.list)), hP 2 (Qz (Val.rows p1.list) (List.length p1.list) (Val.Q9 p1.list)), hP 0 (dec (!(((List.length p0.list) : Int) == ((List.length p1.list) : Int))) true (by rw [h3]; rfl))] [] (by kernel_rfl)
theorem Q1gl (p0 : Val) (p1 : Val) (_H : Q8c p0) (_rec : Q48 p0) (h0 : (p0.kind == p1.kind) = true) (h1 : (p0.n == p1.n) = true) (h2 : (sEq p0.s p1.s) = false) : Qi G (Qeo p0 p1) (.ret (.bool (false)) []) := by
 exact Qm (fn := Ir.K26) rfl VOK.nil [hP 7 (dec (!(p0.kind == p1.kind)) false (by rw [h0]; rfl)), hP 5 (dec (!(p0.n == p1.n)) false (by rw [h1]; rfl)), hP 6 (dec (!(sEq p0.s p1.s)) true (by rw [h2]; rfl))] [] (by kernel_rfl)
theorem Q1h0 (p0 : Val) (p1 : Val) (_H : Q8c p0) (_rec : Q48 p0) (h0 : (p0.kind == p1.kind) = true) (h1 : (p0.n == p1.n) = false) : Qi G (Qeo p0 p1) (.ret (.bool (false)) []) := by
 exact Qm (fn := Ir.K26) rfl VOK.nil [hP 7 (dec (!(p0.kind == p1.kind)) false (by rw [h0]; rfl)), hP 5 (dec (!(p0.n == p1.n)) true (by rw [h1]; rfl))] [] (by kernel_rfl)
theorem Q1fq (p0 : Val) (p1 : Val) (_H : Q8c p0) (_rec : Q48 p0) (h0 : (p0.kind == p1.kind) = false) : Qi G (Qeo p0 p1) (.ret (.bool (false)) []) := by
 exact Qm (fn := Ir.K26) rfl VOK.nil [hP 7 (dec (!(p0.kind == p1.kind)) true (by rw [h0]; rfl))] [] (by kernel_rfl)
theorem Q1qq (p0 : Val) (p1 : Val) (H : Q8c p0) (rec : Q48 p0) : Qi G (Qeo p0 p1) (Q19y p0 p1) := by
  unfold Q19y
  rw [Q82]
  cases h0 : (p0.kind == p1.kind) with
  | true =>
   cases h1 : (p0.n == p1.n) with
   | true =>
    cases h2 : (sEq p0.s p1.s) with
    | true =>
     cases h3 : (((List.length p0.list) : Int) == ((List.length p1.list) : Int)) with
     | true =>
      cases h4 : (((List.length p0.fields) : Int) == ((List.length p1.fields) : Int)) with
      | true =>
       have hl5 := Qwu p0 p1 ((Q11x p0 p1 H).1 h3 h4) rec p0.list 0 (by simp)
       cases hr5 : (Q6a p0 p1 p0.list 0) with
       | k0 =>
         rw [hr5] at hl5
         obtain ⟨z5, zo5, hl5⟩ := hl5
         try dsimp only
         have hl6 := Qvr p0 p1 ((Q11x p0 p1 H).2.1 h3 h4) rec p0.fields 0 (by simp)
         cases hr6 : (Q6b p0 p1 p0.fields 0) with
         | k0 =>
           rw [hr6] at hl6
           obtain ⟨z6, zo6, hl6⟩ := hl6
           exact Q1ho p0 p1 H rec h0 h1 h2 h3 h4 z5 zo5 hl5 z6 zo6 hl6
         | k1 =>
           rw [hr6] at hl6
           obtain ⟨z6, zo6, hl6⟩ := hl6
           exact Q1ft p0 p1 H rec h0 h1 h2 h3 h4 z5 zo5 hl5 z6 zo6 hl6
       | k1 =>
         rw [hr5] at hl5
         obtain ⟨z5, zo5, hl5⟩ := hl5
         exact Q1fd p0 p1 H rec h0 h1 h2 h3 h4 z5 zo5 hl5
      | false =>
       exact Q1g2 p0 p1 H rec h0 h1 h2 h3 h4
     | false =>
      exact Q1fu p0 p1 H rec h0 h1 h2 h3
    | false =>
     exact Q1gl p0 p1 H rec h0 h1 h2
   | false =>
    exact Q1h0 p0 p1 H rec h0 h1
  | false =>
   exact Q1fq p0 p1 H rec h0
theorem Q1lh : ∀ (k : Nat) (p0 : Val), SizeOf.sizeOf p0 < k → ∀ (p1 : Val), Q8c p0 → Qi G (Qeo p0 p1) (Q19y p0 p1)
  | 0, _, h, _, _ => absurd h (Nat.not_lt_zero _)
  | k + 1, p0, h, p1, H => Q1qq p0 p1 H (fun q hq p1 hH => Q1lh k q (by omega) p1 hH)
theorem Q1bx (p0 : Val) (p1 : Val) (H : Q8c p0) : Qi G (Qeo p0 p1) (Q19y p0 p1) := Q1lh _ p0 (Nat.lt_succ_self _) p1 H
end Go.Proofs.YtiflaadeikaghaaGreat
end

section
/- Parts of a slice of one's own, and appends of them. -/
namespace Go.Pv
end Go.Pv
end

section
/- Slices that are made with a length: their rows. -/
namespace Go.Pv
end Go.Pv
end

section
/- Rows of one's own: cleared behind a place, appended to from a place on. -/
namespace Go.Pv
theorem Qwd {sz : Nat} : ∀ (rows : List (List PV)) (k : Nat), (∀ r ∈ rows, r.length = sz) → rows.flatten.take (k * sz) = (rows.take k).flatten
 | [], k, _ => by simp
 | r :: rs, 0, _ => by simp
 | r :: rs, k + 1, h => by
  have hr := h r List.mem_cons_self
  rw [List.flatten_cons, List.take_succ_cons, List.flatten_cons, ← Qwd rs k (fun q hq => h q (List.mem_cons_of_mem _ hq)), show (k + 1) * sz = r.length + k * sz by rw [hr, Nat.add_mul]; omega, List.take_length_add_append]
theorem Q1da {sz : Nat} {gr : Bool} {rows : List (List PV)} {n : Nat} (hs : ∀ r ∈ rows, r.length = sz) (h : n ≤ rows.length) : apC ⟨sz, 0, gr, rows.flatten⟩ (n * sz) = some (rows.take n).flatten := by
 have h2 : rows.flatten.length = rows.length * sz := Q77 sz rows hs
 have h3 := Qwd rows n hs
 unfold apC
 cases e : Nat.beq rows.flatten.length (n * sz) with
 | true =>
  have e := Nat.eq_of_beq_eq_true e
  rw [cond_true, ← h3, ← e, List.take_length]
 | false =>
  have : n * sz ≤ rows.length * sz := Nat.mul_le_mul_right _ h
  rw [cond_false, Nat.ble_eq_true_of_le (by show n * sz ≤ rows.flatten.length; omega), Nat.ble_eq_true_of_le (Nat.zero_le _), h3]
  rfl
def aptE (id lid fr sz bytes lro : Nat) (lgr : Bool) (rows : List (List PV)) (r : List PV) (n : Nat) : Option Eff :=
 Q68 (look [(id, ⟨sz, 0, true, rows.flatten⟩), (lid, ⟨sz, lro, lgr, r⟩)]) fr sz bytes (.ms id sz 0 n) (.ms lid sz 0 1)
theorem Qqn (id lid fr sz bytes lro : Nat) (lgr : Bool) (rows rows' : List (List PV)) (r : List PV) (n n' : Nat) (hne : Nat.beq id lid = false) (hle : n ≤ rows.length) (hn' : n' = rows'.length) (hr' : rows' = rows.take n ++ [r])
  (hs : ∀ r ∈ rows, r.length = sz) (hr : r.length = sz) (hb : (n + 1) * bytes ≤ 140737488355328) :
  aptE id lid fr sz bytes lro lgr rows r n = some ⟨.ms fr sz 0 n', [(id, none), (fr, some ⟨sz, 0, true, rows'.flatten⟩)], [id, lid]⟩ := by
 subst hn' hr'
 unfold aptE Q68
 have h1 : look [(id, (⟨sz, 0, true, rows.flatten⟩ : Ob)), (lid, ⟨sz, lro, lgr, r⟩)] lid = some ⟨sz, lro, lgr, r⟩ := by simp [look, hne]
 have h2 : look [(id, (⟨sz, 0, true, rows.flatten⟩ : Ob)), (lid, ⟨sz, lro, lgr, r⟩)] id = some ⟨sz, 0, true, rows.flatten⟩ := by simp [look]
 have hsrc : source (look [(id, (⟨sz, 0, true, rows.flatten⟩ : Ob)), (lid, ⟨sz, lro, lgr, r⟩)]) sz (.ms lid sz 0 1) = some (1, r, [lid]) := by
  simp only [source, h1, Option.bind_some]
  subst hr
  have : Nat.ble r.length r.length = true := Nat.ble_eq_true_of_le (Nat.le_refl _)
  simp [this]
 rw [hsrc, Option.bind_some]
 simp only [h2, Option.bind_some]
 have hc : (true && Nat.beq sz sz && Nat.beq sz sz && Nat.beq 0 0 && Nat.ble ((n + 1) * bytes) 140737488355328) = true := by
  simp only [Nat.beq_refl, Bool.and_true, Bool.true_and]
  exact Nat.ble_eq_true_of_le hb
 rw [hc, Q1da hs hle]
 have hl : (rows.take n ++ [r]).length = n + 1 := by
  rw [List.length_append, List.length_take]
  simp
  omega
 rw [hl]
 simp
theorem Qz9 {l : List (List PV)} {k : Nat} {r : List PV} (h : l[k]? = some r) : l = l.set k r := by
  apply List.ext_getElem?
  intro i
  rw [List.getElem?_set]
  by_cases e : k = i
  · subst e
    rw [if_pos rfl, h, if_pos (List.getElem?_eq_some_iff.1 h).1]
  · rw [if_neg e]
end Go.Pv
end

section
/- What copying values computes (printed by a program). -/
namespace Go.Proofs.YtiflaadeikaghaaGreat
open Go.Pv
def Q1if (p0 : Val) : Val := p0
def Q13s (p0 : Val) : List Val → Nat → Unit
 | [], _i0 =>
  ()
 | _x0 :: r0, i0 =>
  Q13s p0 r0 (i0 + 1)
def Qy0 (p0 : Val) (i0 : Nat) : List PV :=
  [.un, .bx 0 0, .bx 1 0] ++ nuns 9 ++ [.ms 2 5 0 (List.length p0.list), .int .i64 ((List.length p0.list) : Int), .int .i64 (i0 : Int)] ++ nuns 33
def Qkx (p0 : Val) (_i0 : Nat) : List Ob :=
  [⟨5, 0, true, [.int .i64 p0.kind, .int .i64 p0.n, .str p0.s, .ms 2 5 0 (List.length p0.list), .sl (Fld.rows p0.fields)]⟩, ⟨5, 0, true, [.int .i64 0, .int .i64 0, .str eB, .ms 3 5 0 0, .ms 4 6 0 0]⟩, ⟨5, 0, true, (Val.rows p0.list).flatten⟩, ⟨5, 0, true, []⟩, ⟨6, 0, true, []⟩]
def Qff (p0 : Val) (i0 : Nat) : En := .loop 0 Ir.Qi8 Ir.Q1ef (Qy0 p0 i0) (Qkx p0 i0)
def Qou (p0 : Val) (z : Nat → PV) (_zo : Nat → List PV) : St :=
  ⟨[z 0, .bx 0 0, .bx 1 0] ++ zr z 3 45, [(0, ⟨5, 0, true, [.int .i64 p0.kind, .int .i64 p0.n, .str p0.s, .ms 2 5 0 (List.length p0.list), .sl (Fld.rows p0.fields)]⟩), (1, ⟨5, 0, true, [.int .i64 0, .int .i64 0, .str eB, .ms 3 5 0 0, .ms 4 6 0 0]⟩), (2, ⟨5, 0, true, (Val.rows p0.list).flatten⟩), (3, ⟨5, 0, true, []⟩), (4, ⟨6, 0, true, []⟩)], 69⟩
theorem Q10j (p0 : Val) (i0 : Nat) : VOK (Go.Pv.look (number 0 (Qkx p0 i0))) [(2, Val.rows p0.list)] := (VOK.cons (show Seen _ _ from Q42 (ob := ⟨5, 0, true, (Val.rows p0.list).flatten⟩) (Val.Qp p0.list 5 rfl)) VOK.nil)
def Qaf (p0 : Val) (e : En) (_q : Unit) : Prop := ∃ z zo, Qi G e (.st (.exit 0) (Qou p0 z zo))
theorem Qti (p0 : Val) {e e' : En} (h : ∀ r, Qi G e r → Qi G e' r) : ∀ q, Qaf p0 e q → Qaf p0 e' q
  | _, ⟨z, zo, hz⟩ => ⟨z, zo, h _ hz⟩
def Q114 (p0 : Val) : List Fld → Nat → Unit
 | [], _i1 =>
  ()
 | _x1 :: r1, i1 =>
  Q114 p0 r1 (i1 + 1)
def Qwa (p0 : Val) (i1 : Nat) : List PV :=
  [.un, .bx 0 0, .bx 1 0] ++ nuns 28 ++ [.ms 2 6 0 (List.length p0.fields), .int .i64 ((List.length p0.fields) : Int), .int .i64 (i1 : Int)] ++ nuns 14
def Qh8 (p0 : Val) (_i1 : Nat) : List Ob :=
  [⟨5, 0, true, [.int .i64 p0.kind, .int .i64 p0.n, .str p0.s, .ms 3 5 0 (List.length p0.list), .ms 2 6 0 (List.length p0.fields)]⟩, ⟨5, 0, true, [.int .i64 0, .int .i64 0, .str eB, .ms 4 5 0 0, .ms 5 6 0 0]⟩, ⟨6, 0, true, (Fld.rows p0.fields).flatten⟩, ⟨5, 0, true, (Val.rows p0.list).flatten⟩, ⟨5, 0, true, []⟩, ⟨6, 0, true, []⟩]
def Qgk (p0 : Val) (i1 : Nat) : En := .loop 0 Ir.Qmo Ir.Q1ei (Qwa p0 i1) (Qh8 p0 i1)
def Qpt (p0 : Val) (z : Nat → PV) (_zo : Nat → List PV) : St :=
  ⟨[z 0, .bx 0 0, .bx 1 0] ++ zr z 3 45, [(0, ⟨5, 0, true, [.int .i64 p0.kind, .int .i64 p0.n, .str p0.s, .ms 3 5 0 (List.length p0.list), .ms 2 6 0 (List.length p0.fields)]⟩), (1, ⟨5, 0, true, [.int .i64 0, .int .i64 0, .str eB, .ms 4 5 0 0, .ms 5 6 0 0]⟩), (2, ⟨6, 0, true, (Fld.rows p0.fields).flatten⟩), (3, ⟨5, 0, true, (Val.rows p0.list).flatten⟩), (4, ⟨5, 0, true, []⟩), (5, ⟨6, 0, true, []⟩)], 70⟩
theorem Q11k (p0 : Val) (i1 : Nat) : VOK (Go.Pv.look (number 0 (Qh8 p0 i1))) [(2, Fld.rows p0.fields), (3, Val.rows p0.list)] := (VOK.cons (show Seen _ _ from Q42 (ob := ⟨6, 0, true, (Fld.rows p0.fields).flatten⟩) (Fld.Qp p0.fields 6 rfl)) (VOK.cons (show Seen _ _ from Q42 (ob := ⟨5, 0, true, (Val.rows p0.list).flatten⟩) (Val.Qp p0.list 5 rfl)) VOK.nil))
def Q9p (p0 : Val) (e : En) (_q : Unit) : Prop := ∃ z zo, Qi G e (.st (.exit 2) (Qpt p0 z zo))
theorem Qs5 (p0 : Val) {e e' : En} (h : ∀ r, Qi G e r → Qi G e' r) : ∀ q, Q9p p0 e q → Q9p p0 e' q
  | _, ⟨z, zo, hz⟩ => ⟨z, zo, h _ hz⟩
theorem Q1p3 (p0 : Val) : Q1if p0 = (p0) := by
  rfl
def Q1cz (p0 : Val) : En := .call 136 [.agg (Val.cells p0)] []
def Q19e (p0 : Val) : Rs := .ret (.agg (Val.cells (Q1if p0))) []
abbrev Qwm (p0 : Val) : Prop := Val.Sm 1000000000 p0
def Qap (p0 : Val) : Prop := ∀ (q : Val), SizeOf.sizeOf q < SizeOf.sizeOf p0 → Qwm q → Qi G (Q1cz q) (Q19e q)
def Qh2 (p0 : Val) : Prop := (List.length p0.list ≤ 4611686018427387904) ∧ (∀ x0 ∈ p0.list, Qwm x0) ∧ True
def Qfg (p0 : Val) : Prop := (List.length p0.fields ≤ 4611686018427387904) ∧ (∀ x1 ∈ p0.fields, Qwm x1.v) ∧ True
theorem Qex (p0 : Val) (H : Qwm p0) : (List.length p0.list * 80 ≤ 140737488355328) ∧ (Qh2 p0) ∧ (List.length p0.fields * 96 ≤ 140737488355328) ∧ (Qfg p0) ∧ True := by
  obtain ⟨h1, h2, h3, h4⟩ := H.all
  exact ⟨by omega, ⟨by omega, h3, trivial⟩, by omega, ⟨by omega, h4, trivial⟩, trivial⟩
def Qno (p0 : Val) (i0 : Nat) : List PV :=
  nuns 12 ++ [.ms 2 5 0 (List.length p0.list), .int .i64 ((List.length p0.list) : Int), .int .i64 (i0 : Int), .bool false]
def Qjr (_p0 : Val) (_i0 : Nat) : List (Nat × List PV) :=
  []
theorem Q165 (p0 : Val) (_H : Qh2 p0) (_rec : Qap p0) (i0 : Nat) (hc0 : (decide ((i0 : Int) < ((List.length p0.list) : Int))) = false) : Qaf p0 (Qff p0 i0) () := by
 exact ⟨(envF (Qno p0 i0)), (zoF (Qjr p0 i0)), Q10 (Q10j p0 i0) (x := ((.exit 0), Qou p0 (envF (Qno p0 i0)) (zoF (Qjr p0 i0)))) [hB 0 hc0] [] (by kernel_rfl)⟩
theorem Q16l (p0 : Val) (H : Qh2 p0) (rec : Qap p0) (x0 : Val) (i0 : Nat) (hx0 : p0.list[i0]? = some x0) (hi0 : i0 < List.length p0.list) (hc0 : (decide ((i0 : Int) < ((List.length p0.list) : Int))) = true) {r : Rs} (hr : Qi G (Qff p0 (i0 + 1)) r) : Qi G (Qff p0 i0) r := by
 have hB0 := H.1
 exact Qw (Q10j p0 i0) (y := (Qy0 p0 (i0 + 1), Qkx p0 (i0 + 1))) [hB 0 hc0, hP 1 (Qcv 2 5 (List.length p0.list) (i0 : Int) i0 (by omega) (by omega) (by omega)), hP 0 (Q1fw 2 5 0 true ((Val.rows p0.list).flatten) (Val.rows p0.list) 5 true i0 0 (i0 * 5) (Val.cells x0) (.agg [.int .i64 x0.kind, .int .i64 x0.n, .str x0.s, .sl (Val.rows x0.list), .sl (Fld.rows x0.fields)]) rfl rfl (Val.Qe hx0) (Val.Q16 p0.list) (by decide) rfl), hP 8 (Qcv 2 5 (List.length p0.list) (i0 : Int) i0 (by omega) (by omega) (by omega)), hV 0 [(2, Val.rows p0.list)] (Q180 2 5 true ((Val.rows p0.list).flatten) (Val.rows p0.list) (Val.rows p0.list) 5 i0 0 (i0 * 5) _ (.agg [.int .i64 x0.kind, .int .i64 x0.n, .str x0.s, .sl (Val.rows x0.list), .sl (Fld.rows x0.fields)]) rfl rfl (Val.Qe hx0) (Val.Q16 p0.list) (by decide) rfl rfl (Qz9 (Val.Qe hx0))), hS 0 true (Val.Qp p0.list 5 rfl), hP 0 (Q25 i0 (by omega))] [aN (rec x0 (szL hx0) (H.2.1 x0 (Q13 hx0)))] (by kernel_rfl) hr
theorem Qwk (p0 : Val) (H : Qh2 p0) (rec : Qap p0) : ∀ (r0 : List Val) (i0 : Nat), List.drop i0 p0.list = r0 → Qaf p0 (Qff p0 i0) (Q13s p0 r0 i0)
 | [], i0, hd => by
  have hc0 : (decide ((i0 : Int) < ((List.length p0.list) : Int))) = false := by have := Q1v hd; simp; omega
  show Qaf p0 _ ()
  exact Q165 p0 H rec i0 hc0
 | x0 :: r0, i0, hd => by
  obtain ⟨hx0, hi0, hd'⟩ := Q1s hd
  have hc0 : (decide ((i0 : Int) < ((List.length p0.list) : Int))) = true := by simp; omega
  show Qaf p0 _ ()
  exact Qti p0 (fun r hr => Q16l p0 H rec x0 i0 hx0 hi0 hc0 hr) _ (Qwk p0 H rec r0 (i0 + 1) hd')
def Qpl (p0 : Val) (i1 : Nat) : List PV :=
  nuns 31 ++ [.ms 2 6 0 (List.length p0.fields), .int .i64 ((List.length p0.fields) : Int), .int .i64 (i1 : Int), .bool false]
def Qj3 (_p0 : Val) (_i1 : Nat) : List (Nat × List PV) :=
  []
theorem Q18k (p0 : Val) (_H : Qfg p0) (_rec : Qap p0) (i1 : Nat) (hc1 : (decide ((i1 : Int) < ((List.length p0.fields) : Int))) = false) : Q9p p0 (Qgk p0 i1) () := by
 exact ⟨(envF (Qpl p0 i1)), (zoF (Qj3 p0 i1)), Q10 (Q11k p0 i1) (x := ((.exit 2), Qpt p0 (envF (Qpl p0 i1)) (zoF (Qj3 p0 i1)))) [hB 0 hc1] [] (by kernel_rfl)⟩
theorem Q14j (p0 : Val) (H : Qfg p0) (rec : Qap p0) (x1 : Fld) (i1 : Nat) (hx1 : p0.fields[i1]? = some x1) (hi1 : i1 < List.length p0.fields) (hc1 : (decide ((i1 : Int) < ((List.length p0.fields) : Int))) = true) {r : Rs} (hr : Qi G (Qgk p0 (i1 + 1)) r) : Qi G (Qgk p0 i1) r := by
 have hB0 := H.1
 exact Qw (Q11k p0 i1) (y := (Qwa p0 (i1 + 1), Qh8 p0 (i1 + 1))) [hB 0 hc1, hP 1 (Qcv 2 6 (List.length p0.fields) (i1 : Int) i1 (by omega) (by omega) (by omega)), hP 0 (Q1fw 2 6 0 true ((Fld.rows p0.fields).flatten) (Fld.rows p0.fields) 6 true i1 0 (i1 * 6) (Fld.cells x1) (.agg [.str x1.name, .int .i64 x1.v.kind, .int .i64 x1.v.n, .str x1.v.s, .sl (Val.rows x1.v.list), .sl (Fld.rows x1.v.fields)]) rfl rfl (Fld.Qe hx1) (Fld.Q16 p0.fields) (by decide) rfl), hP 9 (Qcv 2 6 (List.length p0.fields) (i1 : Int) i1 (by omega) (by omega) (by omega)), hV 1 [(2, Fld.rows p0.fields)] (Q180 2 6 true ((Fld.rows p0.fields).flatten) (Fld.rows p0.fields) (Fld.rows p0.fields) 5 i1 1 (i1 * 6 + 1) _ (.agg [.int .i64 x1.v.kind, .int .i64 x1.v.n, .str x1.v.s, .sl (Val.rows x1.v.list), .sl (Fld.rows x1.v.fields)]) rfl rfl (Fld.Qe hx1) (Fld.Q16 p0.fields) (by decide) rfl rfl (Qz9 (Fld.Qe hx1))), hS 0 true (Fld.Qp p0.fields 6 rfl), hP 0 (Q25 i1 (by omega))] [aN (rec x1.v (szF hx1) (H.2.1 x1 (Q13 hx1)))] (by kernel_rfl) hr
theorem Qyw (p0 : Val) (H : Qfg p0) (rec : Qap p0) : ∀ (r1 : List Fld) (i1 : Nat), List.drop i1 p0.fields = r1 → Q9p p0 (Qgk p0 i1) (Q114 p0 r1 i1)
 | [], i1, hd => by
  have hc1 : (decide ((i1 : Int) < ((List.length p0.fields) : Int))) = false := by have := Q1v hd; simp; omega
  show Q9p p0 _ ()
  exact Q18k p0 H rec i1 hc1
 | x1 :: r1, i1, hd => by
  obtain ⟨hx1, hi1, hd'⟩ := Q1s hd
  have hc1 : (decide ((i1 : Int) < ((List.length p0.fields) : Int))) = true := by simp; omega
  show Q9p p0 _ ()
  exact Qs5 p0 (fun r hr => Q14j p0 H rec x1 i1 hx1 hi1 hc1 hr) _ (Qyw p0 H rec r1 (i1 + 1) hd')
theorem Q1m1 (p0 : Val) (H : Qwm p0) (rec : Qap p0) : Qi G (Q1cz p0) (Q19e p0) := by
  unfold Q19e
  rw [Q1p3]
  have hl0 := Qwk p0 ((Qex p0 H).2.1) rec p0.list 0 (by simp)
  obtain ⟨z0, zo0, hl0⟩ := hl0
  have hl1 := Qyw p0 ((Qex p0 H).2.2.2.1) rec p0.fields 0 (by simp)
  obtain ⟨z1, zo1, hl1⟩ := hl1
  exact Qm (fn := Ir.K42) rfl VOK.nil [hQ (Val.Qp p0.list 5 rfl), hS 0 true (Val.Qp p0.list 5 rfl), hQ (Fld.Qp p0.fields 6 rfl), hS 0 true (Fld.Qp p0.fields 6 rfl), hS 0 true (Val.Qp p0.list 5 rfl), hQ (Val.Q9 p0.list).symm, hQ (Fld.Q9 p0.fields).symm] [aV [(0, Val.rows p0.list)] (Qax (G := G) (f := 153) (sz := 5) (bytes := 80) rfl (Val.Q9 p0.list) (Val.Qp p0.list 5 rfl) (Qex p0 H).1), aV [(2, Val.rows p0.list)] hl0, aV [(0, Fld.rows p0.fields)] (Qax (G := G) (f := 132) (sz := 6) (bytes := 96) rfl (Fld.Q9 p0.fields) (Fld.Qp p0.fields 6 rfl) (Qex p0 H).2.2.1), aV [(2, Fld.rows p0.fields), (3, Val.rows p0.list)] hl1] (by kernel_rfl)
theorem Q1j5 : ∀ (k : Nat) (p0 : Val), SizeOf.sizeOf p0 < k → Qwm p0 → Qi G (Q1cz p0) (Q19e p0)
  | 0, _, h, _ => absurd h (Nat.not_lt_zero _)
  | k + 1, p0, h, H => Q1m1 p0 H (fun q hq hH => Q1j5 k q (by omega) hH)
theorem Q1sa (p0 : Val) (H : Qwm p0) : Qi G (Q1cz p0) (Q19e p0) := Q1j5 _ p0 (Nat.lt_succ_self _) H
inductive Q120 where
  | k0
  | k1 (q0 : Val)
abbrev BA : Type := ByteArray
def Q7j (p0 : Val) (p1 : BA) : List Fld → Nat → Q120
 | [], _i0 =>
  (.k0)
 | x0 :: r0, i0 =>
  bif (sEq x0.name p1) then
   (.k1 x0.v)
  else
   Q7j p0 p1 r0 (i0 + 1)
def Qwl (p0 : Val) (p1 : BA) (i0 : Nat) : List PV :=
  [.un, .str p1, .un, .un, .bx 0 0] ++ nuns 7 ++ [.sl (Fld.rows p0.fields), .int .i64 ((List.length p0.fields) : Int), .int .i64 (i0 : Int)] ++ nuns 12
def Qx2 (_p0 : Val) (_p1 : BA) (_i0 : Nat) : List Ob :=
  [⟨5, 0, true, [.int .i64 0, .int .i64 0, .str eB, .ms 1 5 0 0, .ms 2 6 0 0]⟩, ⟨5, 0, true, []⟩, ⟨6, 0, true, []⟩]
def Qbc (p0 : Val) (p1 : BA) (i0 : Nat) : En := .loop 0 Ir.Qkl Ir.Q1f5 (Qwl p0 p1 i0) (Qx2 p0 p1 i0)
def Qp8 (_p0 : Val) (_p1 : BA) (z : Nat → PV) (_zo : Nat → List PV) : St :=
  ⟨[z 0, z 1, z 2, z 3, .bx 0 0] ++ zr z 5 22, [(0, ⟨5, 0, true, [.int .i64 0, .int .i64 0, .str eB, .ms 1 5 0 0, .ms 2 6 0 0]⟩), (1, ⟨5, 0, true, []⟩), (2, ⟨6, 0, true, []⟩)], 67⟩
def Qo8 (_p0 : Val) (_p1 : BA) (q0 : Val) (z : Nat → PV) (zo : Nat → List PV) : St :=
  ⟨[z 0, z 1, z 2, z 3, .bx 0 0, .bool true] ++ zr z 6 21, [(0, ⟨5, 0, true, [.int .i64 q0.kind, .int .i64 q0.n, .str q0.s, .sl (Val.rows q0.list), .sl (Fld.rows q0.fields)]⟩), (1, ⟨5, 0, true, zo 1⟩), (2, ⟨6, 0, true, zo 2⟩), (195, ⟨6, 0, true, zo 195⟩)], 899⟩
def Qcq (p0 : Val) (p1 : BA) (e : En) : Q120 → Prop
  | .k0 => ∃ z zo, Qi G e (.st (.exit 0) (Qp8 p0 p1 z zo))
  | .k1 q0 => ∃ z zo, Qi G e (.st .ret (Qo8 p0 p1 q0 z zo))
theorem Qs6 (p0 : Val) (p1 : BA) {e e' : En} (h : ∀ r, Qi G e r → Qi G e' r) : ∀ q, Qcq p0 p1 e q → Qcq p0 p1 e' q
  | .k0, ⟨z, zo, hz⟩ => ⟨z, zo, h _ hz⟩
  | .k1 _, ⟨z, zo, hz⟩ => ⟨z, zo, h _ hz⟩
def Qcm (p0 : Val) (_p1 : BA) : Prop := (List.length p0.fields ≤ 4611686018427387904) ∧ (∀ x0 ∈ p0.fields, Qwm x0.v) ∧ True
def Qrm (p0 : Val) (p1 : BA) (i0 : Nat) : List PV :=
  [.un, .str p1] ++ nuns 10 ++ [.sl (Fld.rows p0.fields), .int .i64 ((List.length p0.fields) : Int), .int .i64 (i0 : Int), .bool false]
def Qkf (_p0 : Val) (_p1 : BA) (_i0 : Nat) : List (Nat × List PV) :=
  []
theorem Q168 (p0 : Val) (p1 : BA) (_H : Qcm p0 p1) (i0 : Nat) (hc0 : (decide ((i0 : Int) < ((List.length p0.fields) : Int))) = false) : Qcq p0 p1 (Qbc p0 p1 i0) (.k0) := by
 exact ⟨(envF (Qrm p0 p1 i0)), (zoF (Qkf p0 p1 i0)), Q10 VOK.nil (x := ((.exit 0), Qp8 p0 p1 (envF (Qrm p0 p1 i0)) (zoF (Qkf p0 p1 i0)))) [hB 0 hc0] [] (by kernel_rfl)⟩
def Qrw (p0 : Val) (p1 : BA) (i0 : Nat) (x0 : Fld) : List PV :=
  [.un, .str p1] ++ nuns 5 ++ [.bx 195 0, .un, .un, .un, .un, .sl (Fld.rows p0.fields), .int .i64 ((List.length p0.fields) : Int), .int .i64 (i0 : Int), .bool true, .rf [.str x0.name, .int .i64 x0.v.kind, .int .i64 x0.v.n, .str x0.v.s, .sl (Val.rows x0.v.list), .sl (Fld.rows x0.v.fields)], .agg [.str x0.name, .int .i64 x0.v.kind, .int .i64 x0.v.n, .str x0.v.s, .sl (Val.rows x0.v.list), .sl (Fld.rows x0.v.fields)], .bx 195 0, .str x0.name, .str p1, .bool true, .bx 195 1, .agg [.int .i64 x0.v.kind, .int .i64 x0.v.n, .str x0.v.s, .sl (Val.rows x0.v.list), .sl (Fld.rows x0.v.fields)], .agg [.int .i64 x0.v.kind, .int .i64 x0.v.n, .str x0.v.s, .sl (Val.rows x0.v.list), .sl (Fld.rows x0.v.fields)]]
def Qj0 (_p0 : Val) (_p1 : BA) (_i0 : Nat) (x0 : Fld) : List (Nat × List PV) :=
  [(1, []), (2, []), (195, [.str x0.name, .int .i64 x0.v.kind, .int .i64 x0.v.n, .str x0.v.s, .sl (Val.rows x0.v.list), .sl (Fld.rows x0.v.fields)])]
theorem Q17c (p0 : Val) (p1 : BA) (H : Qcm p0 p1) (x0 : Fld) (i0 : Nat) (hx0 : p0.fields[i0]? = some x0) (_hi0 : i0 < List.length p0.fields) (hc0 : (decide ((i0 : Int) < ((List.length p0.fields) : Int))) = true) (h0 : (sEq x0.name p1) = true) : Qcq p0 p1 (Qbc p0 p1 i0) (.k1 x0.v) := by
 exact ⟨(envF (Qrw p0 p1 i0 x0)), (zoF (Qj0 p0 p1 i0 x0)), Q10 VOK.nil (x := (.ret, Qo8 p0 p1 x0.v (envF (Qrw p0 p1 i0 x0)) (zoF (Qj0 p0 p1 i0 x0)))) [hB 0 hc0, hP 0 (Q15 6 (Fld.rows p0.fields) i0 _ (Fld.Qe hx0) rfl), hB 6 h0] [aN (Q1sa x0.v (H.2.1 x0 (Q13 hx0)))] (by kernel_rfl)⟩
theorem Q183 (p0 : Val) (p1 : BA) (H : Qcm p0 p1) (x0 : Fld) (i0 : Nat) (hx0 : p0.fields[i0]? = some x0) (hi0 : i0 < List.length p0.fields) (hc0 : (decide ((i0 : Int) < ((List.length p0.fields) : Int))) = true) (h0 : (sEq x0.name p1) = false) {r : Rs} (hr : Qi G (Qbc p0 p1 (i0 + 1)) r) : Qi G (Qbc p0 p1 i0) r := by
 have hB0 := H.1
 exact Qw VOK.nil (y := (Qwl p0 p1 (i0 + 1), Qx2 p0 p1 (i0 + 1))) [hB 0 hc0, hP 0 (Q15 6 (Fld.rows p0.fields) i0 _ (Fld.Qe hx0) rfl), hB 6 h0, hP 0 (Q25 i0 (by omega))] [] (by kernel_rfl) hr
theorem Qv4 (p0 : Val) (p1 : BA) (H : Qcm p0 p1) : ∀ (r0 : List Fld) (i0 : Nat), List.drop i0 p0.fields = r0 → Qcq p0 p1 (Qbc p0 p1 i0) (Q7j p0 p1 r0 i0)
 | [], i0, hd => by
  have hc0 : (decide ((i0 : Int) < ((List.length p0.fields) : Int))) = false := by have := Q1v hd; simp; omega
  rw [Q7j]
  exact Q168 p0 p1 H i0 hc0
 | x0 :: r0, i0, hd => by
  obtain ⟨hx0, hi0, hd'⟩ := Q1s hd
  have hc0 : (decide ((i0 : Int) < ((List.length p0.fields) : Int))) = true := by simp; omega
  rw [Q7j]
  cases h0 : (sEq x0.name p1) with
  | true =>
   exact Q17c p0 p1 H x0 i0 hx0 hi0 hc0 h0
  | false =>
   exact Qs6 p0 p1 (fun r hr => Q183 p0 p1 H x0 i0 hx0 hi0 hc0 h0 hr) _ (Qv4 p0 p1 H r0 (i0 + 1) hd')
def Qsq (p0 : Val) (p1 : BA) : Val × Bool :=
 bif (p0.kind == 5) then
  (match (Q7j p0 p1 p0.fields 0) with
  | .k0 => ((Val.mk 0 0 eB [] []), false)
  | .k1 y1_0 => (y1_0, true))
 else
  ((Val.mk 0 0 eB [] []), false)
def Q1sy (p0 : Val) (p1 : BA) : En := .call 145 [.agg (Val.cells p0), .str p1] []
def Q1in (p0 : Val) (p1 : BA) : Rs := .ret (.tup [.agg (Val.cells (Qsq p0 p1).1), .bool (Qsq p0 p1).2]) []
def Q1fs (p0 : Val) (p1 : BA) : Prop := (Qcm p0 p1) ∧ True
theorem Q1gg (p0 : Val) (p1 : BA) (H : Q1fs p0 p1) : Qi G (Q1sy p0 p1) (Q1in p0 p1) := by
 unfold Q1in Qsq
 cases h0 : (p0.kind == 5) with
 | true =>
  have hl1 := Qv4 p0 p1 (H.1) p0.fields 0 (by simp)
  cases hr1 : (Q7j p0 p1 p0.fields 0) with
  | k0 =>
   rw [hr1] at hl1
   obtain ⟨z1, zo1, hl1⟩ := hl1
   exact Qm (fn := Ir.K3w) rfl VOK.nil [hB 5 h0, hP 2 (Qz (Fld.rows p0.fields) (List.length p0.fields) (Fld.Q9 p0.fields))] [aN hl1] (by kernel_rfl)
  | k1 y1_0 =>
   rw [hr1] at hl1
   obtain ⟨z1, zo1, hl1⟩ := hl1
   exact Qm (fn := Ir.K3w) rfl VOK.nil [hB 5 h0, hP 2 (Qz (Fld.rows p0.fields) (List.length p0.fields) (Fld.Q9 p0.fields))] [aN hl1] (by kernel_rfl)
 | false =>
  exact Qm (fn := Ir.K3w) rfl VOK.nil [hB 5 h0] [] (by kernel_rfl)
end Go.Proofs.YtiflaadeikaghaaGreat
end

section
/- What building a map computes (printed by a program). -/
namespace Go.Proofs.YtiflaadeikaghaaGreat
open Go.Pv
end Go.Proofs.YtiflaadeikaghaaGreat
end

section
/- The library's stable sort as plain functions on lists, and what it answers: the stably sorted list. Program-free. -/
namespace Go.Pv.Srt
section
variable {α : Type} (z : α) (c : α → α → Int)
def gt (d : List α) (i : Int) : α := d.getD i.toNat z
end
end Go.Pv.Srt
end

section
/- The library's stable sort: its merging, and that it answers the stably sorted list. Program-free. -/
namespace Go.Pv.Srt
section
variable {α : Type} (z : α) (c : α → α → Int)
structure Tot : Prop where
  asym : ∀ x y, c x y < 0 → ¬ c y x < 0
  tr : ∀ x y w, ¬ c y x < 0 → ¬ c w y < 0 → ¬ c w x < 0
def le (x y : α) : Prop := ¬ c y x < 0
def Up (l : List α) : Prop := l.Pairwise (le c)
def eqv (x y : α) : Bool := decide (¬ c x y < 0) && decide (¬ c y x < 0)
def F (l r : List α) : Prop := l.length = r.length ∧ ∀ x, l.filter (eqv c x) = r.filter (eqv c x)
variable {c}
theorem F.rfl {l : List α} : F c l l := ⟨Eq.refl _, fun _ => Eq.refl _⟩
theorem F.trans {l r s : List α} (h : F c l r) (g : F c r s) : F c l s := ⟨h.1.trans g.1, fun x => (h.2 x).trans (g.2 x)⟩
theorem F.symm {l r : List α} (h : F c l r) : F c r l := ⟨h.1.symm, fun x => (h.2 x).symm⟩
theorem F.app {l r l' r' : List α} (h : F c l r) (g : F c l' r') : F c (l ++ l') (r ++ r') :=
 ⟨by rw [List.length_append, List.length_append, h.1, g.1], fun x => by rw [List.filter_append, List.filter_append, h.2 x, g.2 x]⟩
theorem Tot.refl (T : Tot c) (x : α) : ¬ c x x < 0 := fun h => T.asym x x h h
def bs (g : Int → Bool) : Nat → Int → Int → Int
 | 0, i, _ => i
 | k + 1, i, j => bif decide (i < j) then (bif g ((i + j) / 2) then bs g k ((i + j) / 2 + 1) j else bs g k i ((i + j) / 2)) else i
end
end Go.Pv.Srt
end

section
/- The library's stable sort: symmetric merging and the sort as a whole answer the stably sorted list. Program-free. -/
namespace Go.Pv.Srt
section
variable {α : Type} (z : α) (c : α → α → Int)
def st1 (d : List α) (a m b : Int) : Int := bs (fun h => decide (c (gt z d h) (gt z d a) < 0)) ((b - m).toNat + 1) m b
variable {c}
end
end Go.Pv.Srt
end

section
/- The library's stable sort: merging in general, blocks, the whole. Program-free. -/
namespace Go.Pv.Srt
section
variable {α : Type} (z : α) {c : α → α → Int}
end
end Go.Pv.Srt
end

section
/- The library's stable sort: blocks, and the whole: it answers what insertion answers. Program-free. -/
namespace Go.Pv.Srt
section
variable {α : Type} (z : α) (c : α → α → Int)
inductive Bl (s : Nat) : List α → Prop
  | last {l : List α} : l.length ≤ s → Up c l → Bl s l
  | cons {l r : List α} : l.length = s → Up c l → Bl s r → Bl s (l ++ r)
inductive Fu (s : Nat) : List α → Prop
  | nil : Fu s []
  | snoc {p l : List α} : Fu s p → l.length = s → Up c l → Fu s (p ++ l)
variable {c}
theorem Bl.one {s : Nat} {Q : List α} (h : Bl c s Q) (hl : Q.length ≤ s) : Up c Q := by
 cases h with
 | last _ h => exact h
 | cons h1 h2 h3 =>
  rename_i l r
  rw [List.length_append] at hl
  rw [List.length_eq_zero_iff.1 (show r.length = 0 by omega), List.append_nil]
  exact h2
theorem Bl.split {s : Nat} {Q : List α} (h : Bl c s Q) (hl : s < Q.length) : ∃ l r, Q = l ++ r ∧ l.length = s ∧ Up c l ∧ Bl c s r := by
 cases h with
 | last h _ => omega
 | cons h1 h2 h3 => exact ⟨_, _, rfl, h1, h2, h3⟩
end
end Go.Pv.Srt
end

section
/- Comparisons that answer -1, 0 or 1; the order of strings. -/
namespace Go.Pv
def lx (a b : Int) : Int := if a = 0 then b else a
def icmp (a b : Int) : Int := if a < b then -1 else if b < a then 1 else 0
theorem Q1ip (a b : Int) : lx (-a) (-b) = -lx a b := by
 unfold lx
 split <;> split <;> omega
theorem Q1cv (a b : Int) : icmp b a = -icmp a b := by
 unfold icmp
 split <;> split <;> first | omega | (split <;> omega) | skip
 all_goals omega
theorem Q1bq {a b : Int} : icmp a b = 0 ↔ a = b := by
  unfold icmp
  constructor
  · intro h
    split at h
    · omega
    · split at h <;> omega
  · intro h
    rw [if_neg (by omega), if_neg (by omega)]
theorem Qmz (x y : UInt8) (a b : List UInt8) : cmpL (x :: a) (y :: b) = lx (icmp (x.toNat : Int) (y.toNat : Int)) (cmpL a b) := by
  rw [cmpL]
  unfold lx icmp
  simp only [UInt8.lt_iff_toNat_lt]
  by_cases h1 : x.toNat < y.toNat
  · rw [if_pos h1, if_pos (show (x.toNat : Int) < (y.toNat : Int) by omega)]
    rfl
  · by_cases h2 : y.toNat < x.toNat
    · rw [if_neg h1, if_pos h2, if_neg (show ¬ (x.toNat : Int) < (y.toNat : Int) by omega), if_pos (show (y.toNat : Int) < (x.toNat : Int) by omega)]
      rfl
    · rw [if_neg h1, if_neg h2, if_neg (show ¬ (x.toNat : Int) < (y.toNat : Int) by omega), if_neg (show ¬ (y.toNat : Int) < (x.toNat : Int) by omega)]
      rfl
theorem Q11u : ∀ a b : List UInt8, cmpL b a = -cmpL a b
 | [], [] => rfl
 | [], _ :: _ => rfl
 | _ :: _, [] => rfl
 | x :: a, y :: b => by rw [Qmz, Qmz, Q11u a b, Q1cv (x.toNat : Int) (y.toNat : Int), Q1ip]
theorem Qv1 : ∀ a b : List UInt8, cmpL a b = 0 → a = b
  | [], [], _ => rfl
  | [], _ :: _, h => by simp [cmpL] at h
  | _ :: _, [], h => by simp [cmpL] at h
  | x :: a, y :: b, h => by
    rw [Qmz] at h
    unfold lx at h
    split at h
    · rename_i e
      have := Q1bq.1 e
      rw [UInt8.toNat_inj.1 (show x.toNat = y.toNat by omega), Qv1 a b h]
    · omega
theorem Q1bo (a : List UInt8) : cmpL a a = 0 := by
 have := Q11u a a
 omega
theorem Q1a2 {a b : ByteArray} : sCmp a b = 0 ↔ a = b := ⟨fun h => toList_inj (Qv1 _ _ h), fun h => by rw [h]; exact Q1bo _⟩
end Go.Pv
end

section
/- Lists of fields: strictly sorted lists are known by their members; keeping the last field of each name of a sorted list; putting a field into a sorted list. -/
namespace Go.Pv
open Srt
theorem Qxu (a : ByteArray) : sCmp a a = 0 := Q1a2.2 rfl
abbrev nlt (x y : Fld) : Prop := sCmp x.name y.name < 0
def SS (l : List Fld) : Prop := l.Pairwise nlt
theorem SS.cons {x : Fld} {l : List Fld} : SS (x :: l) ↔ (∀ y ∈ l, nlt x y) ∧ SS l := List.pairwise_cons
theorem SS.nil : SS [] := List.Pairwise.nil
theorem SS.filter {l : List Fld} (h : SS l) (p : Fld → Bool) : SS (l.filter p) := h.sublist List.filter_sublist
theorem SS.inj {l : List Fld} (h : SS l) {x y : Fld} (hx : x ∈ l) (hy : y ∈ l) (e : x.name = y.name) : x = y := by
  induction l with
  | nil => cases hx
  | cons z l ih =>
    obtain ⟨hz, hl⟩ := SS.cons.1 h
    rcases List.mem_cons.1 hx with e1 | hx' <;> rcases List.mem_cons.1 hy with e2 | hy'
    · rw [e1, e2]
    · subst e1; have := hz y hy'; unfold nlt at this; rw [e, Qxu] at this; omega
    · subst e2; have := hz x hx'; unfold nlt at this; rw [e, Qxu] at this; omega
    · exact ih hl hx' hy'
end Go.Pv
end

section
/- How many values a value holds; what that bounds. -/
namespace Go.Pv
open Srt
mutual
def tot (v : Val) : Nat := 1 + totV v.list + totF v.fields
termination_by SizeOf.sizeOf v
decreasing_by all_goals first | exact Val.Qn5 _ | exact Val.Q94 _
def totV : List Val → Nat
 | [] => 0
 | x :: l => tot x + totV l
termination_by l => SizeOf.sizeOf l
decreasing_by all_goals first | exact Qe0 _ _ | exact Qdm _ _
def totF : List Fld → Nat
 | [] => 0
 | x :: l => tot x.v + totF l
termination_by l => SizeOf.sizeOf l
decreasing_by all_goals first | exact Qb9 _ _ | exact Qdm _ _
end
theorem Qyu (v : Val) : tot v = 1 + totV v.list + totF v.fields := by rw [tot]
theorem Q1a7 (v : Val) : 1 ≤ tot v := by rw [Qyu]; omega
theorem Q1c7 : totF [] = 0 := by rw [totF]
theorem Qlw (x : Fld) (l : List Fld) : totF (x :: l) = tot x.v + totF l := by rw [totF]
theorem Qhw (x : Val) (l : List Val) : totV (x :: l) = tot x + totV l := by rw [totV]
theorem Q12p : ∀ l : List Fld, l.length ≤ totF l
 | [] => Nat.zero_le _
 | x :: l => by have := Q12p l; have := Q1a7 x.v; rw [Qlw, List.length_cons]; omega
theorem Q10h : ∀ l : List Val, l.length ≤ totV l
 | [] => Nat.zero_le _
 | x :: l => by have := Q10h l; have := Q1a7 x; rw [Qhw, List.length_cons]; omega
theorem Q123 : ∀ {l : List Fld} {x : Fld}, x ∈ l → tot x.v ≤ totF l
  | y :: l, x, h => by
    rw [Qlw]
    rcases List.mem_cons.1 h with e | h
    · rw [e]; omega
    · have := Q123 h; omega
theorem Q11y : ∀ {l : List Val} {x : Val}, x ∈ l → tot x ≤ totV l
  | y :: l, x, h => by
    rw [Qhw]
    rcases List.mem_cons.1 h with e | h
    · rw [e]; omega
    · have := Q11y h; omega
theorem Q19o {v : Val} {x : Fld} (h : x ∈ v.fields) : tot x.v < tot v := by have := Q123 h; have := Qyu v; omega
theorem Q1cj {v : Val} {x : Val} (h : x ∈ v.list) : tot x < tot v := by have := Q11y h; have := Qyu v; omega
theorem Qz6 (B : Nat) : ∀ (k : Nat) (v : Val), SizeOf.sizeOf v < k → tot v ≤ B → Val.Sm B v
 | 0, _, h, _ => absurd h (Nat.not_lt_zero _)
 | k + 1, v, h, hb => by
  have h1 := Q12p v.fields
  have h2 := Q10h v.list
  have h3 := Qyu v
  exact .mk v (by omega) (by omega) (fun x hx => Qz6 B k x (by have := szM hx; omega) (by have := Q1cj hx; omega)) fun x hx => Qz6 B k x.v (by have := szN hx; omega) (by have := Q19o hx; omega)
theorem Q1et {B : Nat} {v : Val} (h : tot v ≤ B) : Val.Sm B v := Qz6 B _ v (Nat.lt_succ_self _) h
end Go.Pv
end

section
/- Structures as values: the parts of a map, their kinds; what decodes what was encoded. No program is in sight here. -/
namespace Go.Pv
abbrev vZ : Val := .mk 0 0 (⟨#[]⟩ : ByteArray) [] []
abbrev vN (n : Int) : Val := .mk 2 n (⟨#[]⟩ : ByteArray) [] []
abbrev vS (s : ByteArray) : Val := .mk 3 0 s [] []
abbrev vB (b : Bool) : Val := .mk 1 (bif b then 1 else 0) (⟨#[]⟩ : ByteArray) [] []
abbrev vL (l : List Val) : Val := .mk 4 0 (⟨#[]⟩ : ByteArray) l []
abbrev vM (l : List Fld) : Val := .mk 5 0 (⟨#[]⟩ : ByteArray) [] l
def Qv5 (n : ByteArray) : List Fld → Val
 | [] => vZ
 | x :: r => bif sEq x.name n then x.v else Qv5 n r
def prt (v : Val) (n : ByteArray) : Val := bif v.kind == 5 then Qv5 n v.fields else vZ
def isM (v : Val) : Bool := v.kind == 5 || v.kind == 0
def xN (x : Val) : Int × Bool := bif x.kind == 2 then (x.n, true) else (0, x.kind == 0)
def xS (x : Val) : ByteArray × Bool := bif x.kind == 3 then (x.s, true) else ((⟨#[]⟩ : ByteArray), x.kind == 0)
def xB (x : Val) : Bool × Bool := bif x.kind == 1 then (!(x.n == 0), true) else (false, x.kind == 0)
def xL (x : Val) : List Val × Bool := bif x.kind == 4 then (x.list, true) else ([], x.kind == 0)
def xE {α : Type} (f : Val → α × Bool) (x : Val) : List α × Bool := ((xL x).1.map fun y => (f y).1, (xL x).2 && (xL x).1.all fun y => (f y).2)
abbrev dN (v : Val) (n : ByteArray) : Int × Bool := xN (prt v n)
abbrev dS (v : Val) (n : ByteArray) : ByteArray × Bool := xS (prt v n)
abbrev dB (v : Val) (n : ByteArray) : Bool × Bool := xB (prt v n)
abbrev dL (v : Val) (n : ByteArray) : List Val × Bool := xL (prt v n)
abbrev dE {α : Type} (f : Val → α × Bool) (v : Val) (n : ByteArray) : List α × Bool := xE f (prt v n)
abbrev dT {α : Type} (f : Val → α × Bool) (v : Val) (n : ByteArray) : α × Bool := f (prt v n)
theorem Q4a {v : Val} (h : (v.kind == 5) = false) (n : ByteArray) : prt v n = vZ := by unfold prt; rw [h]; rfl
theorem Qze {v : Val} (h : (v.kind == 5) = true) : isM v = true := by unfold isM; rw [h]; rfl
theorem Q4h {v : Val} (h : (v.kind == 5) = false) : isM v = (v.kind == 0) := by unfold isM; rw [h]; rfl
abbrev sB : Nat := 1000000000
theorem Q1rn : Val.Sm sB vZ := Val.Sm.leaf 0 0 _
theorem Q1m7 {l : List Val} (h : l.length ≤ sB) (g : ∀ x ∈ l, Val.Sm sB x) : Val.Sm sB (vL l) := .mk _ h (Nat.zero_le _) g (fun _ h => by cases h)
theorem Q8v {l : List Fld} (h : l.length ≤ sB) (g : ∀ x ∈ l, Val.Sm sB x.v) : Val.Sm sB (vM l) := .mk _ (Nat.zero_le _) h (fun _ h => by cases h) g
theorem Q19l {B : Nat} (n : ByteArray) : ∀ {l : List Fld}, (∀ x ∈ l, Val.Sm B x.v) → Val.Sm B (Qv5 n l)
 | [], _ => Val.Sm.leaf 0 0 _
 | x :: l, h => by
  unfold Qv5
  cases sEq x.name n with
  | true => exact h x List.mem_cons_self
  | false => exact Q19l n fun y hy => h y (List.mem_cons_of_mem _ hy)
theorem Q2h {B : Nat} {v : Val} (h : Val.Sm B v) (n : ByteArray) : Val.Sm B (prt v n) := by
 unfold prt
 cases v.kind == 5 with
 | true => exact Q19l n h.all.2.2.2
 | false => exact Val.Sm.leaf 0 0 _
def LSm {α : Type} (p : α → Prop) (l : List α) : Prop := l.length ≤ sB ∧ ∀ x ∈ l, p x
theorem LSm.leaf {α : Type} {l : List α} (h : l.length ≤ sB) : LSm (fun _ => True) l := ⟨h, fun _ _ => trivial⟩
theorem LSm.nil {α : Type} {p : α → Prop} : LSm p [] := ⟨Nat.zero_le _, fun _ h => by cases h⟩
theorem Q6h {x : Val} (h : Val.Sm sB x) : (xL x).1.length ≤ sB ∧ ∀ y ∈ (xL x).1, Val.Sm sB y := by
 unfold xL
 cases x.kind == 4 with
 | true => exact ⟨h.all.1, h.all.2.2.1⟩
 | false => exact ⟨Nat.zero_le _, fun _ h => by cases h⟩
theorem Q8x {α : Type} {f : Val → α × Bool} {p : α → Prop} (hf : ∀ y, Val.Sm sB y → p (f y).1) {x : Val} (h : Val.Sm sB x) : LSm p (xE f x).1 := by
 have hx := Q6h h
 refine ⟨by show ((xL x).1.map _).length ≤ _; rw [List.length_map]; exact hx.1, fun z hz => ?_⟩
 obtain ⟨y, hy, rfl⟩ := List.mem_map.1 hz
 exact hf y (hx.2 y hy)
theorem Q4j {α : Type} {e : α → Val} {p : α → Prop} (he : ∀ x, p x → Val.Sm sB (e x)) {l : List α} (h : LSm p l) : Val.Sm sB (vL (l.map e)) :=
 Q1m7 (by rw [List.length_map]; exact h.1) fun z hz => by
  obtain ⟨x, hx, rfl⟩ := List.mem_map.1 hz
  exact he x (h.2 x hx)
theorem Q19k {α : Type} (a b : Bool) (c : α) : (bif a then (c, b) else (c, false)) = (c, a && b) := by cases a <;> rfl
def s5 (x : Val) : Val := bif x.kind == 5 then x else vZ
theorem Qag {x : Val} (h : Val.Sm sB x) : Val.Sm sB (s5 x) := by
 unfold s5
 cases x.kind == 5 with
 | true => exact h
 | false => exact Q1rn
theorem Q3p {α : Type} {f : Val → α × Bool} (hn : ∀ v, (v.kind == 5) = false → f v = ((f vZ).1, v.kind == 0)) (hz : (f vZ).2 = true) (x : Val) : (f (s5 x)).1 = (f x).1 ∧ (f x).2 = (isM x && (f (s5 x)).2) := by
 unfold s5
 cases h : x.kind == 5 with
 | true => exact ⟨rfl, by rw [Qze h, cond_true, Bool.true_and]⟩
 | false => rw [hn x h, cond_false, Q4h h, hz]; exact ⟨rfl, by rw [Bool.and_true]⟩
def rS (x : Val) : ByteArray × Bool := (bif x.kind == 0 then (⟨#[]⟩ : ByteArray) else x.s, x.kind == 3 || x.kind == 0)
def Agr {α : Type} (f g : Val → α × Bool) : Prop := ∀ v, (f v).2 = (g v).2 ∧ ((g v).2 = true → (f v).1 = (g v).1)
theorem Q1s9 : Agr rS xS := fun v => by
 unfold rS xS
 cases h3 : (v.kind == 3) with
 | true =>
  have : (v.kind == 0) = false := by rw [eq_of_beq h3]; rfl
  rw [this]
  exact ⟨rfl, fun _ => rfl⟩
 | false =>
  cases h0 : (v.kind == 0) with
  | true => exact ⟨rfl, fun _ => rfl⟩
  | false => exact ⟨rfl, fun h => by cases h⟩
theorem Qxw {α : Type} {f g : Val → α × Bool} (h : Agr f g) : Agr (xE f) (xE g) := fun v => by
 have h1 : ∀ l : List Val, (l.all fun y => (f y).2) = l.all fun y => (g y).2 := by
  intro l
  induction l with
  | nil => rfl
  | cons x l ih => rw [List.all_cons, List.all_cons, ih, (h x).1]
 have h2 : ∀ l : List Val, (l.all fun y => (g y).2) = true → (l.map fun y => (f y).1) = l.map fun y => (g y).1 := by
  intro l
  induction l with
  | nil => intro _; rfl
  | cons x l ih =>
   intro hl
   rw [List.all_cons, Bool.and_eq_true] at hl
   rw [List.map_cons, List.map_cons, ih hl.2, (h x).2 hl.1]
 unfold xE
 refine ⟨by rw [h1], fun hl => ?_⟩
 rw [Bool.and_eq_true] at hl
 exact h2 _ hl.2
theorem Q1f2 {v : Val} (h : isM v = false) : (v.kind == 5) = false := by
 cases c : (v.kind == 5) with
 | true => rw [Qze c] at h; cases h
 | false => rfl
end Go.Pv
end

section
/- Maps of at most 20 fields, fields of a name and equality in plain words. -/
namespace Go.Proofs.YtiflaadeikaghaaGreat
open Go.Pv Go.Pv.Srt
theorem vind {P : Val → Prop} (h : ∀ v : Val, (∀ x ∈ v.list, P x) → (∀ f ∈ v.fields, P f.v) → P v) : ∀ v, P v := by
  have key : ∀ (k : Nat) (v : Val), SizeOf.sizeOf v < k → P v := by
    intro k
    induction k with
    | zero => intro v hv; exact absurd hv (Nat.not_lt_zero _)
    | succ k ih => intro v hv; exact h v (fun x hx => ih x (by have := szM hx; omega)) (fun f hf => ih f.v (by have := szN hf; omega))
  exact fun v => key _ v (Nat.lt_succ_self _)
theorem Q12n (p q : Val) : ∀ (r : List Val) (i : Nat), p.list.drop i = r → p.list.length = q.list.length → (∀ x ∈ r, ∀ y, Q82 x y = true ↔ x = y) → (Q6a p q r i = .k0 ↔ q.list.drop i = r)
  | [], i, hd, hl, _ => by
    rw [Q6a]
    have := List.drop_eq_nil_iff.1 hd
    simp [List.drop_eq_nil_iff.2 (hl ▸ this)]
  | x :: r, i, hd, hl, hx => by
    obtain ⟨h1, h2, h3⟩ := Q1s hd
    have hq : i < q.list.length := by omega
    rw [Q6a, List.drop_eq_getElem_cons hq, List.getD_eq_getElem?_getD, List.getElem?_eq_getElem hq, Option.getD_some]
    have ih := Q12n p q r (i + 1) h3 hl fun y hy => hx y (List.mem_cons_of_mem _ hy)
    have k := hx x List.mem_cons_self q.list[i]
    cases e : Q82 x q.list[i] with
    | true =>
      rw [cond_true, ih]
      have e' := k.1 e
      constructor
      · intro g; rw [g, ← e']
      · intro g; injection g
    | false =>
      rw [cond_false]
      constructor
      · intro g; cases g
      · intro g
        injection g with g1 g2
        rw [k.2 g1.symm] at e
        cases e
theorem Q142 (p q : Val) : ∀ (r : List Fld) (i : Nat), p.fields.drop i = r → p.fields.length = q.fields.length → (∀ x ∈ r, ∀ y, Q82 x.v y = true ↔ x.v = y) → (Q6b p q r i = .k0 ↔ q.fields.drop i = r)
  | [], i, hd, hl, _ => by
    rw [Q6b]
    have := List.drop_eq_nil_iff.1 hd
    simp [List.drop_eq_nil_iff.2 (hl ▸ this)]
  | x :: r, i, hd, hl, hx => by
    obtain ⟨h1, h2, h3⟩ := Q1s hd
    have hq : i < q.fields.length := by omega
    rw [Q6b, List.drop_eq_getElem_cons hq, List.getD_eq_getElem?_getD, List.getElem?_eq_getElem hq, Option.getD_some]
    have ih := Q142 p q r (i + 1) h3 hl fun y hy => hx y (List.mem_cons_of_mem _ hy)
    have k := hx x List.mem_cons_self q.fields[i].v
    cases en : sEq x.name q.fields[i].name with
    | false =>
      rw [cond_false]
      constructor
      · intro g; cases g
      · intro g
        injection g with g1 g2
        rw [g1] at en
        exact absurd (Qiz.2 rfl) (by rw [en]; simp)
    | true =>
      rw [cond_true]
      cases e : Q82 x.v q.fields[i].v with
      | true =>
        rw [cond_true, ih]
        have e' := k.1 e
        have e1 : x = q.fields[i] := by
          have n := Qiz.1 en
          revert e' n
          generalize q.fields[i] = y
          intro a b
          cases x; cases y
          simp only [Fld.name, Fld.v] at a b
          rw [a, b]
        constructor
        · intro g; rw [g, ← e1]
        · intro g; injection g
      | false =>
        rw [cond_false]
        constructor
        · intro g; cases g
        · intro g
          injection g with g1 g2
          rw [k.2 (by rw [g1])] at e
          cases e
theorem Q19g : ∀ a b : Val, Q82 a b = true ↔ a = b := vind fun a h1 h2 b => by
  have b0 := fun hl => Q12n a b a.list 0 rfl hl h1
  have b1 := fun hl => Q142 a b a.fields 0 rfl hl h2
  rw [Q82]
  constructor
  · intro h
    cases c1 : a.kind == b.kind with
    | false => rw [c1] at h; cases h
    | true =>
      rw [c1, cond_true] at h
      cases c2 : a.n == b.n with
      | false => rw [c2] at h; cases h
      | true =>
        rw [c2, cond_true] at h
        cases c3 : sEq a.s b.s with
        | false => rw [c3] at h; cases h
        | true =>
          rw [c3, cond_true] at h
          cases c4 : ((a.list.length : Int) == (b.list.length : Int)) with
          | false => rw [c4] at h; cases h
          | true =>
            rw [c4, cond_true] at h
            cases c5 : ((a.fields.length : Int) == (b.fields.length : Int)) with
            | false => rw [c5] at h; cases h
            | true =>
              rw [c5, cond_true] at h
              have e4 := eq_of_beq c4
              have e5 := eq_of_beq c5
              cases l0 : Q6a a b a.list 0 with
              | k1 => rw [l0] at h; cases h
              | k0 =>
                rw [l0] at h
                cases l1 : Q6b a b a.fields 0 with
                | k1 => rw [l1] at h; cases h
                | k0 =>
                  have g0 := (b0 (by omega)).1 l0
                  have g1 := (b1 (by omega)).1 l1
                  rw [List.drop_zero] at g0 g1
                  have q1 := eq_of_beq c1
                  have q2 := eq_of_beq c2
                  have q3 := Qiz.1 c3
                  revert q1 q2 q3 g0 g1
                  clear h b0 b1 h1 h2 l0 l1 c1 c2 c3 c4 c5 e4 e5
                  cases a; cases b
                  simp only [Val.kind, Val.n, Val.s, Val.list, Val.fields]
                  intro q1 q2 q3 g0 g1
                  rw [q1, q2, q3, g0, g1]
  · rintro rfl
    rw [(b0 rfl).2 rfl, (b1 rfl).2 rfl, Qiz.2 rfl]
    simp
theorem Qdx (v : Val) : Q82 v v = true := (Q19g v v).2 rfl
theorem Qxf (p : Val) (l : List Val) (i : Nat) {a : Int} (h : ¬ 0 ≤ a) : Q4b p l i a = a := by
  cases l with
  | nil => rw [Q4b]
  | cons x l => rw [Q4b, show decide (0 ≤ a) = false by simpa using h, cond_false]
theorem Qml (p : Val) (l : List Fld) (i : Nat) {a : Int} (h : ¬ 0 ≤ a) : Q5m p l i a = a := by
  cases l with
  | nil => rw [Q5m]
  | cons x l => rw [Q5m, show decide (0 ≤ a) = false by simpa using h, cond_false]
theorem Q1b6 (p : Val) : ∀ (l : List Val) (i : Nat) (a : Int), a ≤ 20000 → (∀ x ∈ l, ∀ n, -1152921504606846976 ≤ n → n ≤ 20000 → 0 ≤ Q7c x n → Q7c x n + tot x ≤ n) → 0 ≤ Q4b p l i a → Q4b p l i a + totV l ≤ a
  | [], i, a, _, _, _ => by rw [Q4b, totV]; omega
  | x :: l, i, a, ha, hx, h => by
    by_cases c : 0 ≤ a
    · rw [Q4b, show decide (0 ≤ a) = true by simpa using c, cond_true] at h ⊢
      have k : 0 ≤ Q7c x a := by
        apply Decidable.byContradiction
        intro hn
        rw [Qxf p l _ hn] at h
        exact hn h
      have h1 := hx x List.mem_cons_self a (by omega) ha k
      have h2 := Q1b6 p l (i + 1) _ (by omega) (fun y hy => hx y (List.mem_cons_of_mem _ hy)) h
      rw [Qhw]
      omega
    · rw [Qxf p _ i c] at h
      exact absurd h c
theorem Q1aq (p : Val) : ∀ (l : List Fld) (i : Nat) (a : Int), a ≤ 20000 → (∀ x ∈ l, okS x.name) → (∀ x ∈ l, ∀ n, -1152921504606846976 ≤ n → n ≤ 20000 → 0 ≤ Q7c x.v n → Q7c x.v n + tot x.v ≤ n) → 0 ≤ Q5m p l i a → Q5m p l i a + totF l ≤ a
  | [], i, a, _, _, _, _ => by rw [Q5m, Q1c7]; omega
  | x :: l, i, a, ha, hs, hx, h => by
    by_cases c : 0 ≤ a
    · have hn := hs x List.mem_cons_self
      unfold okS at hn
      rw [Q5m, show decide (0 ≤ a) = true by simpa using c, cond_true, Q148 (by omega)] at h ⊢
      have k : 0 ≤ Q7c x.v (a - (x.name.size : Int)) := by
        apply Decidable.byContradiction
        intro hn
        rw [Qml p l _ hn] at h
        exact hn h
      have h1 := hx x List.mem_cons_self (a - (x.name.size : Int)) (by omega) (by omega) k
      have h2 := Q1aq p l (i + 1) _ (by omega) (fun y hy => hs y (List.mem_cons_of_mem _ hy)) (fun y hy => hx y (List.mem_cons_of_mem _ hy)) h
      rw [Qlw]
      omega
    · rw [Qml p _ i c] at h
      exact absurd h c
theorem Q1db {v : Val} (hv : Q6c v) : ∀ n, -1152921504606846976 ≤ n → n ≤ 20000 → 0 ≤ Q7c v n → Q7c v n + tot v ≤ n := by
  induction hv with
  | mk v _ _ h3 _ _ sl sn sf i1 i2 =>
    intro n hn hn' h
    unfold okS at h3
    have e1 : w64 (n - 1) = n - 1 := Q148 (by omega)
    rw [Q7c, e1, Q148 (by omega)] at h ⊢
    have k : 0 ≤ Q4b v v.list 0 (n - 1 - (v.s.size : Int)) := by
      apply Decidable.byContradiction
      intro hn
      rw [Qml v _ _ hn] at h
      exact hn h
    have h1 := Q1b6 v v.list 0 (n - 1 - (v.s.size : Int)) (by omega) i1 k
    have h2 := Q1aq v v.fields 0 _ (by omega) sn i2 h
    have h3 := Qyu v
    omega
theorem Q1aa {v : Val} (hv : Q6c v) (h : Q47 v 20000 = true) : tot v ≤ 20000 := by
  have h : decide (0 ≤ Q7c v 20000) = true := h
  have h0 := of_decide_eq_true h
  have := Q1db hv 20000 (by omega) (by omega) h0
  omega
theorem vprt (v : Val) (n : BA) : (Qsq v n).1 = prt v n := by
  unfold Qsq prt
  cases v.kind == 5 with
  | false => rfl
  | true =>
    simp only [cond_true]
    have : ∀ (l : List Fld) (i : Nat), (match Q7j v n l i with | .k0 => (Val.mk 0 0 ⟨#[]⟩ [] [], false) | .k1 y => (y, true)).1 = Qv5 n l := by
      intro l
      induction l with
      | nil => intro i; rfl
      | cons x l ih =>
        intro i
        rw [Q7j, Qv5]
        cases sEq x.name n with
        | true => rfl
        | false => exact ih (i + 1)
    exact this _ _
theorem Q1qk {v : Val} (h : Val.Sm sB v) (n : BA) : Q1fs v n := ⟨⟨Nat.le_trans h.all.2.1 (Nat.le_of_ble_eq_true rfl), h.all.2.2.2, trivial⟩, trivial⟩
end Go.Proofs.YtiflaadeikaghaaGreat
end

section
/- Structures as values: what encodes and what decodes them, in plain words (printed by a program). -/
namespace Go.Proofs.YtiflaadeikaghaaGreat
open Go.Pv
structure Probe where
  delay : Int
  period : Int
  success : Int
  failure : Int
def Probe.cells (x : Probe) : List PV :=
  [.int .i64 x.delay, .int .i64 x.period, .int .i64 x.success, .int .i64 x.failure]
def Probe.rows (l : List Probe) : List (List PV) := l.map Probe.cells
theorem Probe.Q9 (l : List Probe) : (Probe.rows l).length = l.length := by simp [Probe.rows]
theorem Probe.Qe {l : List Probe} {i : Nat} {x : Probe} (h : l[i]? = some x) : (Probe.rows l)[i]? = some (Probe.cells x) := Go.Pv.Qe h
theorem Probe.Q1n (l : List Probe) (x : Probe) : Probe.rows (l ++ [x]) = Probe.rows l ++ [Probe.cells x] := by simp [Probe.rows]
theorem Probe.Q16 (l : List Probe) : ∀ r ∈ Probe.rows l, r.length = 4 := Q3h (f := Probe.cells) (fun _ => rfl) l
theorem Probe.Qp (l : List Probe) (sz : Nat) (h : sz = 4) : ViewOK sz (Probe.rows l).flatten (Probe.rows l) := by subst h; exact ⟨rfl, Probe.Q16 l, Q2z (f := Probe.cells) (fun _ => rfl) l⟩
structure Resources where
  cPU : Int
  memory : Int
  disk : Int
def Resources.cells (x : Resources) : List PV :=
  [.int .i64 x.cPU, .int .i64 x.memory, .int .i64 x.disk]
def Resources.rows (l : List Resources) : List (List PV) := l.map Resources.cells
theorem Resources.Q9 (l : List Resources) : (Resources.rows l).length = l.length := by simp [Resources.rows]
theorem Resources.Qe {l : List Resources} {i : Nat} {x : Resources} (h : l[i]? = some x) : (Resources.rows l)[i]? = some (Resources.cells x) := Go.Pv.Qe h
theorem Resources.Q1n (l : List Resources) (x : Resources) : Resources.rows (l ++ [x]) = Resources.rows l ++ [Resources.cells x] := by simp [Resources.rows]
theorem Resources.Q16 (l : List Resources) : ∀ r ∈ Resources.rows l, r.length = 3 := Q3h (f := Resources.cells) (fun _ => rfl) l
theorem Resources.Qp (l : List Resources) (sz : Nat) (h : sz = 3) : ViewOK sz (Resources.rows l).flatten (Resources.rows l) := by subst h; exact ⟨rfl, Resources.Q16 l, Q2z (f := Resources.cells) (fun _ => rfl) l⟩
structure Container where
  name : ByteArray
  image : ByteArray
  request : Resources
  limit : Resources
  live : List Probe
  ready : List Probe
  startup : List Probe
def Container.cells (x : Container) : List PV :=
  [.str x.name, .str x.image, .int .i64 x.request.cPU, .int .i64 x.request.memory, .int .i64 x.request.disk, .int .i64 x.limit.cPU, .int .i64 x.limit.memory, .int .i64 x.limit.disk, .sl (Probe.rows x.live), .sl (Probe.rows x.ready), .sl (Probe.rows x.startup)]
def Container.rows (l : List Container) : List (List PV) := l.map Container.cells
theorem Container.Q9 (l : List Container) : (Container.rows l).length = l.length := by simp [Container.rows]
theorem Container.Qe {l : List Container} {i : Nat} {x : Container} (h : l[i]? = some x) : (Container.rows l)[i]? = some (Container.cells x) := Go.Pv.Qe h
theorem Container.Q1n (l : List Container) (x : Container) : Container.rows (l ++ [x]) = Container.rows l ++ [Container.cells x] := by simp [Container.rows]
theorem Container.Q16 (l : List Container) : ∀ r ∈ Container.rows l, r.length = 11 := Q3h (f := Container.cells) (fun _ => rfl) l
theorem Container.Qp (l : List Container) (sz : Nat) (h : sz = 11) : ViewOK sz (Container.rows l).flatten (Container.rows l) := by subst h; exact ⟨rfl, Container.Q16 l, Q2z (f := Container.cells) (fun _ => rfl) l⟩
structure Requirement where
  key : ByteArray
  op : Int
  values : List ByteArray
def Requirement.cells (x : Requirement) : List PV :=
  [.str x.key, .int .i64 x.op, .sl (Qv x.values)]
def Requirement.rows (l : List Requirement) : List (List PV) := l.map Requirement.cells
theorem Requirement.Q9 (l : List Requirement) : (Requirement.rows l).length = l.length := by simp [Requirement.rows]
theorem Requirement.Qe {l : List Requirement} {i : Nat} {x : Requirement} (h : l[i]? = some x) : (Requirement.rows l)[i]? = some (Requirement.cells x) := Go.Pv.Qe h
theorem Requirement.Q1n (l : List Requirement) (x : Requirement) : Requirement.rows (l ++ [x]) = Requirement.rows l ++ [Requirement.cells x] := by simp [Requirement.rows]
theorem Requirement.Q16 (l : List Requirement) : ∀ r ∈ Requirement.rows l, r.length = 3 := Q3h (f := Requirement.cells) (fun _ => rfl) l
theorem Requirement.Qp (l : List Requirement) (sz : Nat) (h : sz = 3) : ViewOK sz (Requirement.rows l).flatten (Requirement.rows l) := by subst h; exact ⟨rfl, Requirement.Q16 l, Q2z (f := Requirement.cells) (fun _ => rfl) l⟩
structure NodeTerm where
  required : Bool
  selector : List Requirement
  weight : Int
def NodeTerm.cells (x : NodeTerm) : List PV :=
  [.bool x.required, .sl (Requirement.rows x.selector), .int .i64 x.weight]
def NodeTerm.rows (l : List NodeTerm) : List (List PV) := l.map NodeTerm.cells
theorem NodeTerm.Q9 (l : List NodeTerm) : (NodeTerm.rows l).length = l.length := by simp [NodeTerm.rows]
theorem NodeTerm.Qe {l : List NodeTerm} {i : Nat} {x : NodeTerm} (h : l[i]? = some x) : (NodeTerm.rows l)[i]? = some (NodeTerm.cells x) := Go.Pv.Qe h
theorem NodeTerm.Q1n (l : List NodeTerm) (x : NodeTerm) : NodeTerm.rows (l ++ [x]) = NodeTerm.rows l ++ [NodeTerm.cells x] := by simp [NodeTerm.rows]
theorem NodeTerm.Q16 (l : List NodeTerm) : ∀ r ∈ NodeTerm.rows l, r.length = 3 := Q3h (f := NodeTerm.cells) (fun _ => rfl) l
theorem NodeTerm.Qp (l : List NodeTerm) (sz : Nat) (h : sz = 3) : ViewOK sz (NodeTerm.rows l).flatten (NodeTerm.rows l) := by subst h; exact ⟨rfl, NodeTerm.Q16 l, Q2z (f := NodeTerm.cells) (fun _ => rfl) l⟩
structure PodTerm where
  required : Bool
  anti : Bool
  selector : List Requirement
  topology : ByteArray
  weight : Int
def PodTerm.cells (x : PodTerm) : List PV :=
  [.bool x.required, .bool x.anti, .sl (Requirement.rows x.selector), .str x.topology, .int .i64 x.weight]
def PodTerm.rows (l : List PodTerm) : List (List PV) := l.map PodTerm.cells
theorem PodTerm.Q9 (l : List PodTerm) : (PodTerm.rows l).length = l.length := by simp [PodTerm.rows]
theorem PodTerm.Qe {l : List PodTerm} {i : Nat} {x : PodTerm} (h : l[i]? = some x) : (PodTerm.rows l)[i]? = some (PodTerm.cells x) := Go.Pv.Qe h
theorem PodTerm.Q1n (l : List PodTerm) (x : PodTerm) : PodTerm.rows (l ++ [x]) = PodTerm.rows l ++ [PodTerm.cells x] := by simp [PodTerm.rows]
theorem PodTerm.Q16 (l : List PodTerm) : ∀ r ∈ PodTerm.rows l, r.length = 5 := Q3h (f := PodTerm.cells) (fun _ => rfl) l
theorem PodTerm.Qp (l : List PodTerm) (sz : Nat) (h : sz = 5) : ViewOK sz (PodTerm.rows l).flatten (PodTerm.rows l) := by subst h; exact ⟨rfl, PodTerm.Q16 l, Q2z (f := PodTerm.cells) (fun _ => rfl) l⟩
structure SpreadRule where
  maxSkew : Int
  topology : ByteArray
  selector : List Requirement
  required : Bool
def SpreadRule.cells (x : SpreadRule) : List PV :=
  [.int .i64 x.maxSkew, .str x.topology, .sl (Requirement.rows x.selector), .bool x.required]
def SpreadRule.rows (l : List SpreadRule) : List (List PV) := l.map SpreadRule.cells
theorem SpreadRule.Q9 (l : List SpreadRule) : (SpreadRule.rows l).length = l.length := by simp [SpreadRule.rows]
theorem SpreadRule.Qe {l : List SpreadRule} {i : Nat} {x : SpreadRule} (h : l[i]? = some x) : (SpreadRule.rows l)[i]? = some (SpreadRule.cells x) := Go.Pv.Qe h
theorem SpreadRule.Q1n (l : List SpreadRule) (x : SpreadRule) : SpreadRule.rows (l ++ [x]) = SpreadRule.rows l ++ [SpreadRule.cells x] := by simp [SpreadRule.rows]
theorem SpreadRule.Q16 (l : List SpreadRule) : ∀ r ∈ SpreadRule.rows l, r.length = 4 := Q3h (f := SpreadRule.cells) (fun _ => rfl) l
theorem SpreadRule.Qp (l : List SpreadRule) (sz : Nat) (h : sz = 4) : ViewOK sz (SpreadRule.rows l).flatten (SpreadRule.rows l) := by subst h; exact ⟨rfl, SpreadRule.Q16 l, Q2z (f := SpreadRule.cells) (fun _ => rfl) l⟩
structure Toleration where
  key : ByteArray
  value : ByteArray
  exists_ : Bool
  effect : Int
  seconds : Int
def Toleration.cells (x : Toleration) : List PV :=
  [.str x.key, .str x.value, .bool x.exists_, .int .i64 x.effect, .int .i64 x.seconds]
def Toleration.rows (l : List Toleration) : List (List PV) := l.map Toleration.cells
theorem Toleration.Q9 (l : List Toleration) : (Toleration.rows l).length = l.length := by simp [Toleration.rows]
theorem Toleration.Qe {l : List Toleration} {i : Nat} {x : Toleration} (h : l[i]? = some x) : (Toleration.rows l)[i]? = some (Toleration.cells x) := Go.Pv.Qe h
theorem Toleration.Q1n (l : List Toleration) (x : Toleration) : Toleration.rows (l ++ [x]) = Toleration.rows l ++ [Toleration.cells x] := by simp [Toleration.rows]
theorem Toleration.Q16 (l : List Toleration) : ∀ r ∈ Toleration.rows l, r.length = 5 := Q3h (f := Toleration.cells) (fun _ => rfl) l
theorem Toleration.Qp (l : List Toleration) (sz : Nat) (h : sz = 5) : ViewOK sz (Toleration.rows l).flatten (Toleration.rows l) := by subst h; exact ⟨rfl, Toleration.Q16 l, Q2z (f := Toleration.cells) (fun _ => rfl) l⟩
structure PodSpec where
  node : ByteArray
  priority : Int
  restart : Int
  grace : Int
  containers : List Container
  nodeSelector : List Requirement
  nodeTerms : List NodeTerm
  podTerms : List PodTerm
  spread : List SpreadRule
  tolerations : List Toleration
def PodSpec.cells (x : PodSpec) : List PV :=
  [.str x.node, .int .i64 x.priority, .int .i64 x.restart, .int .i64 x.grace, .sl (Container.rows x.containers), .sl (Requirement.rows x.nodeSelector), .sl (NodeTerm.rows x.nodeTerms), .sl (PodTerm.rows x.podTerms), .sl (SpreadRule.rows x.spread), .sl (Toleration.rows x.tolerations)]
def PodSpec.rows (l : List PodSpec) : List (List PV) := l.map PodSpec.cells
theorem PodSpec.Q9 (l : List PodSpec) : (PodSpec.rows l).length = l.length := by simp [PodSpec.rows]
theorem PodSpec.Qe {l : List PodSpec} {i : Nat} {x : PodSpec} (h : l[i]? = some x) : (PodSpec.rows l)[i]? = some (PodSpec.cells x) := Go.Pv.Qe h
theorem PodSpec.Q1n (l : List PodSpec) (x : PodSpec) : PodSpec.rows (l ++ [x]) = PodSpec.rows l ++ [PodSpec.cells x] := by simp [PodSpec.rows]
theorem PodSpec.Q16 (l : List PodSpec) : ∀ r ∈ PodSpec.rows l, r.length = 10 := Q3h (f := PodSpec.cells) (fun _ => rfl) l
theorem PodSpec.Qp (l : List PodSpec) (sz : Nat) (h : sz = 10) : ViewOK sz (PodSpec.rows l).flatten (PodSpec.rows l) := by subst h; exact ⟨rfl, PodSpec.Q16 l, Q2z (f := PodSpec.cells) (fun _ => rfl) l⟩
structure ContainerStatus where
  name : ByteArray
  state : Int
  restarts : Int
  exitCode : Int
  since : Int
  ready : Bool
  started : Bool
def ContainerStatus.cells (x : ContainerStatus) : List PV :=
  [.str x.name, .int .i64 x.state, .int .i64 x.restarts, .int .i64 x.exitCode, .int .i64 x.since, .bool x.ready, .bool x.started]
def ContainerStatus.rows (l : List ContainerStatus) : List (List PV) := l.map ContainerStatus.cells
theorem ContainerStatus.Q9 (l : List ContainerStatus) : (ContainerStatus.rows l).length = l.length := by simp [ContainerStatus.rows]
theorem ContainerStatus.Qe {l : List ContainerStatus} {i : Nat} {x : ContainerStatus} (h : l[i]? = some x) : (ContainerStatus.rows l)[i]? = some (ContainerStatus.cells x) := Go.Pv.Qe h
theorem ContainerStatus.Q1n (l : List ContainerStatus) (x : ContainerStatus) : ContainerStatus.rows (l ++ [x]) = ContainerStatus.rows l ++ [ContainerStatus.cells x] := by simp [ContainerStatus.rows]
theorem ContainerStatus.Q16 (l : List ContainerStatus) : ∀ r ∈ ContainerStatus.rows l, r.length = 7 := Q3h (f := ContainerStatus.cells) (fun _ => rfl) l
theorem ContainerStatus.Qp (l : List ContainerStatus) (sz : Nat) (h : sz = 7) : ViewOK sz (ContainerStatus.rows l).flatten (ContainerStatus.rows l) := by subst h; exact ⟨rfl, ContainerStatus.Q16 l, Q2z (f := ContainerStatus.cells) (fun _ => rfl) l⟩
structure PodStatus where
  phase : Int
  ready : Bool
  readySince : Int
  started : Int
  finished : Int
  containers : List ContainerStatus
  address : Int
  nominated : ByteArray
  reason : ByteArray
def PodStatus.cells (x : PodStatus) : List PV :=
  [.int .i64 x.phase, .bool x.ready, .int .i64 x.readySince, .int .i64 x.started, .int .i64 x.finished, .sl (ContainerStatus.rows x.containers), .int .i64 x.address, .str x.nominated, .str x.reason]
def PodStatus.rows (l : List PodStatus) : List (List PV) := l.map PodStatus.cells
theorem PodStatus.Q9 (l : List PodStatus) : (PodStatus.rows l).length = l.length := by simp [PodStatus.rows]
theorem PodStatus.Qe {l : List PodStatus} {i : Nat} {x : PodStatus} (h : l[i]? = some x) : (PodStatus.rows l)[i]? = some (PodStatus.cells x) := Go.Pv.Qe h
theorem PodStatus.Q1n (l : List PodStatus) (x : PodStatus) : PodStatus.rows (l ++ [x]) = PodStatus.rows l ++ [PodStatus.cells x] := by simp [PodStatus.rows]
theorem PodStatus.Q16 (l : List PodStatus) : ∀ r ∈ PodStatus.rows l, r.length = 9 := Q3h (f := PodStatus.cells) (fun _ => rfl) l
theorem PodStatus.Qp (l : List PodStatus) (sz : Nat) (h : sz = 9) : ViewOK sz (PodStatus.rows l).flatten (PodStatus.rows l) := by subst h; exact ⟨rfl, PodStatus.Q16 l, Q2z (f := PodStatus.cells) (fun _ => rfl) l⟩
structure Taint where
  key : ByteArray
  value : ByteArray
  effect : Int
  since : Int
def Taint.cells (x : Taint) : List PV :=
  [.str x.key, .str x.value, .int .i64 x.effect, .int .i64 x.since]
def Taint.rows (l : List Taint) : List (List PV) := l.map Taint.cells
theorem Taint.Q9 (l : List Taint) : (Taint.rows l).length = l.length := by simp [Taint.rows]
theorem Taint.Qe {l : List Taint} {i : Nat} {x : Taint} (h : l[i]? = some x) : (Taint.rows l)[i]? = some (Taint.cells x) := Go.Pv.Qe h
theorem Taint.Q1n (l : List Taint) (x : Taint) : Taint.rows (l ++ [x]) = Taint.rows l ++ [Taint.cells x] := by simp [Taint.rows]
theorem Taint.Q16 (l : List Taint) : ∀ r ∈ Taint.rows l, r.length = 4 := Q3h (f := Taint.cells) (fun _ => rfl) l
theorem Taint.Qp (l : List Taint) (sz : Nat) (h : sz = 4) : ViewOK sz (Taint.rows l).flatten (Taint.rows l) := by subst h; exact ⟨rfl, Taint.Q16 l, Q2z (f := Taint.cells) (fun _ => rfl) l⟩
structure Image where
  name : ByteArray
  size : Int
  used : Int
def Image.cells (x : Image) : List PV :=
  [.str x.name, .int .i64 x.size, .int .i64 x.used]
def Image.rows (l : List Image) : List (List PV) := l.map Image.cells
theorem Image.Q9 (l : List Image) : (Image.rows l).length = l.length := by simp [Image.rows]
theorem Image.Qe {l : List Image} {i : Nat} {x : Image} (h : l[i]? = some x) : (Image.rows l)[i]? = some (Image.cells x) := Go.Pv.Qe h
theorem Image.Q1n (l : List Image) (x : Image) : Image.rows (l ++ [x]) = Image.rows l ++ [Image.cells x] := by simp [Image.rows]
theorem Image.Q16 (l : List Image) : ∀ r ∈ Image.rows l, r.length = 3 := Q3h (f := Image.cells) (fun _ => rfl) l
theorem Image.Qp (l : List Image) (sz : Nat) (h : sz = 3) : ViewOK sz (Image.rows l).flatten (Image.rows l) := by subst h; exact ⟨rfl, Image.Q16 l, Q2z (f := Image.cells) (fun _ => rfl) l⟩
structure Label where
  key : ByteArray
  value : ByteArray
def Label.cells (x : Label) : List PV :=
  [.str x.key, .str x.value]
def Label.rows (l : List Label) : List (List PV) := l.map Label.cells
theorem Label.Q9 (l : List Label) : (Label.rows l).length = l.length := by simp [Label.rows]
theorem Label.Qe {l : List Label} {i : Nat} {x : Label} (h : l[i]? = some x) : (Label.rows l)[i]? = some (Label.cells x) := Go.Pv.Qe h
theorem Label.Q1n (l : List Label) (x : Label) : Label.rows (l ++ [x]) = Label.rows l ++ [Label.cells x] := by simp [Label.rows]
theorem Label.Q16 (l : List Label) : ∀ r ∈ Label.rows l, r.length = 2 := Q3h (f := Label.cells) (fun _ => rfl) l
theorem Label.Qp (l : List Label) (sz : Nat) (h : sz = 2) : ViewOK sz (Label.rows l).flatten (Label.rows l) := by subst h; exact ⟨rfl, Label.Q16 l, Q2z (f := Label.cells) (fun _ => rfl) l⟩
structure Template where
  labels : List Label
  spec : PodSpec
def Template.cells (x : Template) : List PV :=
  [.sl (Label.rows x.labels), .str x.spec.node, .int .i64 x.spec.priority, .int .i64 x.spec.restart, .int .i64 x.spec.grace, .sl (Container.rows x.spec.containers), .sl (Requirement.rows x.spec.nodeSelector), .sl (NodeTerm.rows x.spec.nodeTerms), .sl (PodTerm.rows x.spec.podTerms), .sl (SpreadRule.rows x.spec.spread), .sl (Toleration.rows x.spec.tolerations)]
def Template.rows (l : List Template) : List (List PV) := l.map Template.cells
theorem Template.Q9 (l : List Template) : (Template.rows l).length = l.length := by simp [Template.rows]
theorem Template.Qe {l : List Template} {i : Nat} {x : Template} (h : l[i]? = some x) : (Template.rows l)[i]? = some (Template.cells x) := Go.Pv.Qe h
theorem Template.Q1n (l : List Template) (x : Template) : Template.rows (l ++ [x]) = Template.rows l ++ [Template.cells x] := by simp [Template.rows]
theorem Template.Q16 (l : List Template) : ∀ r ∈ Template.rows l, r.length = 11 := Q3h (f := Template.cells) (fun _ => rfl) l
theorem Template.Qp (l : List Template) (sz : Nat) (h : sz = 11) : ViewOK sz (Template.rows l).flatten (Template.rows l) := by subst h; exact ⟨rfl, Template.Q16 l, Q2z (f := Template.cells) (fun _ => rfl) l⟩
def Qh : ByteArray := ⟨#[78, 111, 100, 101]⟩
def Q4w : ByteArray := ⟨#[80, 111, 100]⟩
def Q2l : ByteArray := ⟨#[97, 100, 100, 114, 101, 115, 115]⟩
def Q1w : ByteArray := ⟨#[97, 110, 116, 105]⟩
def Q2s : ByteArray := ⟨#[98, 101, 97, 116]⟩
def Qt : ByteArray := ⟨#[99, 97, 112, 97, 99, 105, 116, 121]⟩
def Q0 : ByteArray := ⟨#[99, 111, 110, 116, 97, 105, 110, 101, 114, 115]⟩
def Q1l : ByteArray := ⟨#[99, 111, 114, 100, 111, 110, 101, 100]⟩
def Q4d : ByteArray := ⟨#[99, 112, 117]⟩
def Q2i : ByteArray := ⟨#[100, 101, 108, 97, 121]⟩
def Q4e : ByteArray := ⟨#[100, 105, 115, 107]⟩
def Qr : ByteArray := ⟨#[101, 102, 102, 101, 99, 116]⟩
def Q1j : ByteArray := ⟨#[101, 120, 105, 115, 116, 115]⟩
def Qc : ByteArray := ⟨#[101, 120, 105, 116, 67, 111, 100, 101]⟩
def Q2c : ByteArray := ⟨#[102, 97, 105, 108, 117, 114, 101]⟩
def Q2o : ByteArray := ⟨#[102, 105, 110, 105, 115, 104, 101, 100]⟩
def Q2y : ByteArray := ⟨#[103, 114, 97, 99, 101]⟩
def Q1m : ByteArray := ⟨#[105, 109, 97, 103, 101]⟩
def Q1k : ByteArray := ⟨#[105, 109, 97, 103, 101, 115]⟩
def Qs : ByteArray := ⟨#[107, 101, 121]⟩
def Q11 : ByteArray := ⟨#[108, 97, 98, 101, 108, 115]⟩
def Q1r : ByteArray := ⟨#[108, 105, 109, 105, 116]⟩
def Q1z : ByteArray := ⟨#[108, 105, 118, 101]⟩
def Q29 : ByteArray := ⟨#[108, 111, 119, 68, 105, 115, 107]⟩
def Q2d : ByteArray := ⟨#[108, 111, 119, 77, 101, 109]⟩
def Q1o : ByteArray := ⟨#[109, 97, 120, 80, 111, 100, 115]⟩
def Q17 : ByteArray := ⟨#[109, 97, 120, 83, 107, 101, 119]⟩
def Q39 : ByteArray := ⟨#[109, 101, 109, 111, 114, 121]⟩
def Qf : ByteArray := ⟨#[110, 97, 109, 101]⟩
def Q30 : ByteArray := ⟨#[110, 111, 100, 101]⟩
def Q1f : ByteArray := ⟨#[110, 111, 100, 101, 83, 101, 108, 101, 99, 116, 111, 114]⟩
def Q12 : ByteArray := ⟨#[110, 111, 100, 101, 84, 101, 114, 109, 115]⟩
def Q2a : ByteArray := ⟨#[110, 111, 109, 105, 110, 97, 116, 101, 100]⟩
def Q31 : ByteArray := ⟨#[111, 112]⟩
def Q2g : ByteArray := ⟨#[112, 101, 114, 105, 111, 100]⟩
def Q2t : ByteArray := ⟨#[112, 104, 97, 115, 101]⟩
def Q14 : ByteArray := ⟨#[112, 111, 100, 84, 101, 114, 109, 115]⟩
def Q24 : ByteArray := ⟨#[112, 114, 105, 111, 114, 105, 116, 121]⟩
def Qa : ByteArray := ⟨#[114, 101, 97, 100, 121]⟩
def Q21 : ByteArray := ⟨#[114, 101, 97, 100, 121, 83, 105, 110, 99, 101]⟩
def Q2v : ByteArray := ⟨#[114, 101, 97, 115, 111, 110]⟩
def Q19 : ByteArray := ⟨#[114, 101, 113, 117, 101, 115, 116]⟩
def Q7 : ByteArray := ⟨#[114, 101, 113, 117, 105, 114, 101, 100]⟩
def Q2j : ByteArray := ⟨#[114, 101, 115, 116, 97, 114, 116]⟩
def Qd : ByteArray := ⟨#[114, 101, 115, 116, 97, 114, 116, 115]⟩
def Q1h : ByteArray := ⟨#[115, 101, 99, 111, 110, 100, 115]⟩
def Q8 : ByteArray := ⟨#[115, 101, 108, 101, 99, 116, 111, 114]⟩
def Qk : ByteArray := ⟨#[115, 105, 110, 99, 101]⟩
def Q26 : ByteArray := ⟨#[115, 105, 122, 101]⟩
def Q2p : ByteArray := ⟨#[115, 112, 101, 99]⟩
def Q1d : ByteArray := ⟨#[115, 112, 114, 101, 97, 100]⟩
def Qg : ByteArray := ⟨#[115, 116, 97, 114, 116, 101, 100]⟩
def Q1g : ByteArray := ⟨#[115, 116, 97, 114, 116, 117, 112]⟩
def Qq : ByteArray := ⟨#[115, 116, 97, 116, 101]⟩
def Q2e : ByteArray := ⟨#[115, 117, 99, 99, 101, 115, 115]⟩
def Q18 : ByteArray := ⟨#[116, 97, 105, 110, 116, 115]⟩
def Qu : ByteArray := ⟨#[116, 111, 108, 101, 114, 97, 116, 105, 111, 110, 115]⟩
def Ql : ByteArray := ⟨#[116, 111, 112, 111, 108, 111, 103, 121]⟩
def Q2b : ByteArray := ⟨#[117, 115, 101, 100]⟩
def Qo : ByteArray := ⟨#[118, 97, 108, 117, 101]⟩
def Q1p : ByteArray := ⟨#[118, 97, 108, 117, 101, 115]⟩
def Qx : ByteArray := ⟨#[119, 101, 105, 103, 104, 116]⟩
def Probe.enc (x : Probe) : Val := vM [.mk Q2i (vN x.delay), .mk Q2c (vN x.failure), .mk Q2g (vN x.period), .mk Q2e (vN x.success)]
def Probe.dec (v : Val) : Probe × Bool := (Probe.mk (dN v Q2i).1 (dN v Q2g).1 (dN v Q2e).1 (dN v Q2c).1, isM v && (dN v Q2i).2 && (dN v Q2c).2 && (dN v Q2g).2 && (dN v Q2e).2)
def Probe.sm (_ : Probe) : Prop := True
theorem Probe.Q34 {x : Probe} (_ : Probe.sm x) : Val.Sm sB (Probe.enc x) := Q8v (Nat.le_of_ble_eq_true rfl) (List.forall_mem_cons.2 ⟨Val.Sm.leaf 2 _ _, List.forall_mem_cons.2 ⟨Val.Sm.leaf 2 _ _, List.forall_mem_cons.2 ⟨Val.Sm.leaf 2 _ _, List.forall_mem_cons.2 ⟨Val.Sm.leaf 2 _ _, fun _ h => by cases h⟩⟩⟩⟩)
theorem Probe.Q35 {v : Val} (_ : Val.Sm sB v) : Probe.sm (Probe.dec v).1 := trivial
theorem Probe.Q2n {v : Val} (h : (v.kind == 5) = false) : Probe.dec v = ((Probe.dec vZ).1, v.kind == 0) := by
  unfold Probe.dec
  simp only [dN, Q4a h, Q4h h]
  generalize (v.kind == 0) = b
  cases b <;> rfl
theorem Probe.sub1 (x : Val) : (Probe.dec (s5 x)).1 = (Probe.dec x).1 := (Q3p (f := Probe.dec) (fun _ h => Probe.Q2n h) rfl x).1
theorem Probe.sub2 (v : Val) (k : BA) : (Probe.dec (prt v k)).2 = (isM (prt v k) && (Probe.dec (s5 (prt v k))).2) := (Q3p (f := Probe.dec) (fun _ h => Probe.Q2n h) rfl _).2
def Resources.enc (x : Resources) : Val := vM [.mk Q4d (vN x.cPU), .mk Q4e (vN x.disk), .mk Q39 (vN x.memory)]
def Resources.dec (v : Val) : Resources × Bool := (Resources.mk (dN v Q4d).1 (dN v Q39).1 (dN v Q4e).1, isM v && (dN v Q4d).2 && (dN v Q4e).2 && (dN v Q39).2)
def Resources.sm (_ : Resources) : Prop := True
theorem Resources.Q34 {x : Resources} (_ : Resources.sm x) : Val.Sm sB (Resources.enc x) := Q8v (Nat.le_of_ble_eq_true rfl) (List.forall_mem_cons.2 ⟨Val.Sm.leaf 2 _ _, List.forall_mem_cons.2 ⟨Val.Sm.leaf 2 _ _, List.forall_mem_cons.2 ⟨Val.Sm.leaf 2 _ _, fun _ h => by cases h⟩⟩⟩)
theorem Resources.Q35 {v : Val} (_ : Val.Sm sB v) : Resources.sm (Resources.dec v).1 := trivial
theorem Resources.Q2n {v : Val} (h : (v.kind == 5) = false) : Resources.dec v = ((Resources.dec vZ).1, v.kind == 0) := by
  unfold Resources.dec
  simp only [dN, Q4a h, Q4h h]
  generalize (v.kind == 0) = b
  cases b <;> rfl
theorem Resources.sub1 (x : Val) : (Resources.dec (s5 x)).1 = (Resources.dec x).1 := (Q3p (f := Resources.dec) (fun _ h => Resources.Q2n h) rfl x).1
theorem Resources.sub2 (v : Val) (k : BA) : (Resources.dec (prt v k)).2 = (isM (prt v k) && (Resources.dec (s5 (prt v k))).2) := (Q3p (f := Resources.dec) (fun _ h => Resources.Q2n h) rfl _).2
def Container.enc (x : Container) : Val := vM [.mk Q1m (vS x.image), .mk Q1r (Resources.enc x.limit), .mk Q1z (vL (x.live.map Probe.enc)), .mk Qf (vS x.name), .mk Qa (vL (x.ready.map Probe.enc)), .mk Q19 (Resources.enc x.request), .mk Q1g (vL (x.startup.map Probe.enc))]
def Container.dec (v : Val) : Container × Bool := (Container.mk (dS v Qf).1 (dS v Q1m).1 (dT Resources.dec v Q19).1 (dT Resources.dec v Q1r).1 (dE Probe.dec v Q1z).1 (dE Probe.dec v Qa).1 (dE Probe.dec v Q1g).1, isM v && (dS v Q1m).2 && (dT Resources.dec v Q1r).2 && (dE Probe.dec v Q1z).2 && (dS v Qf).2 && (dE Probe.dec v Qa).2 && (dT Resources.dec v Q19).2 && (dE Probe.dec v Q1g).2)
def Container.sm (x : Container) : Prop := Resources.sm x.request ∧ Resources.sm x.limit ∧ LSm Probe.sm x.live ∧ LSm Probe.sm x.ready ∧ LSm Probe.sm x.startup ∧ True
theorem Container.Q34 {x : Container} (h : Container.sm x) : Val.Sm sB (Container.enc x) := Q8v (Nat.le_of_ble_eq_true rfl) (List.forall_mem_cons.2 ⟨Val.Sm.leaf 3 _ _, List.forall_mem_cons.2 ⟨Resources.Q34 h.2.1, List.forall_mem_cons.2 ⟨Q4j (fun _ h => Probe.Q34 h) h.2.2.1, List.forall_mem_cons.2 ⟨Val.Sm.leaf 3 _ _, List.forall_mem_cons.2 ⟨Q4j (fun _ h => Probe.Q34 h) h.2.2.2.1, List.forall_mem_cons.2 ⟨Resources.Q34 h.1, List.forall_mem_cons.2 ⟨Q4j (fun _ h => Probe.Q34 h) h.2.2.2.2.1, fun _ h => by cases h⟩⟩⟩⟩⟩⟩⟩)
theorem Container.Q35 {v : Val} (h : Val.Sm sB v) : Container.sm (Container.dec v).1 := ⟨Resources.Q35 (Q2h h _), Resources.Q35 (Q2h h _), Q8x (fun _ h => Probe.Q35 h) (Q2h h _), Q8x (fun _ h => Probe.Q35 h) (Q2h h _), Q8x (fun _ h => Probe.Q35 h) (Q2h h _), trivial⟩
theorem Container.Q2n {v : Val} (h : (v.kind == 5) = false) : Container.dec v = ((Container.dec vZ).1, v.kind == 0) := by
  unfold Container.dec
  simp only [dS, dE, dT, Q4a h, Q4h h]
  generalize (v.kind == 0) = b
  cases b <;> rfl
theorem Container.sub1 (x : Val) : (Container.dec (s5 x)).1 = (Container.dec x).1 := (Q3p (f := Container.dec) (fun _ h => Container.Q2n h) rfl x).1
theorem Container.sub2 (v : Val) (k : BA) : (Container.dec (prt v k)).2 = (isM (prt v k) && (Container.dec (s5 (prt v k))).2) := (Q3p (f := Container.dec) (fun _ h => Container.Q2n h) rfl _).2
def Requirement.enc (x : Requirement) : Val := vM [.mk Qs (vS x.key), .mk Q31 (vN x.op), .mk Q1p (vL (x.values.map vS))]
def Requirement.dec (v : Val) : Requirement × Bool := (Requirement.mk (dS v Qs).1 (dN v Q31).1 (dE xS v Q1p).1, isM v && (dS v Qs).2 && (dN v Q31).2 && (dE xS v Q1p).2)
def Requirement.sm (x : Requirement) : Prop := LSm (fun _ : ByteArray => True) x.values ∧ True
theorem Requirement.Q34 {x : Requirement} (h : Requirement.sm x) : Val.Sm sB (Requirement.enc x) := Q8v (Nat.le_of_ble_eq_true rfl) (List.forall_mem_cons.2 ⟨Val.Sm.leaf 3 _ _, List.forall_mem_cons.2 ⟨Val.Sm.leaf 2 _ _, List.forall_mem_cons.2 ⟨Q4j (fun _ h => Val.Sm.leaf _ _ _) h.1, fun _ h => by cases h⟩⟩⟩)
theorem Requirement.Q35 {v : Val} (h : Val.Sm sB v) : Requirement.sm (Requirement.dec v).1 := ⟨Q8x (fun _ _h => trivial) (Q2h h _), trivial⟩
theorem Requirement.Q2n {v : Val} (h : (v.kind == 5) = false) : Requirement.dec v = ((Requirement.dec vZ).1, v.kind == 0) := by
  unfold Requirement.dec
  simp only [dN, dS, dE, Q4a h, Q4h h]
  generalize (v.kind == 0) = b
  cases b <;> rfl
def Requirement.rdec (v : Val) : Requirement × Bool := (Requirement.mk (dS v Qs).1 (dN v Q31).1 (dE rS v Q1p).1, isM v && (dS v Qs).2 && (dN v Q31).2 && (dE rS v Q1p).2)
theorem Requirement.agr : Agr Requirement.rdec Requirement.dec := fun v => by
  obtain ⟨a0, b0⟩ := Qxw Q1s9 (prt v Q1p)
  unfold Requirement.rdec Requirement.dec
  simp only [dE, a0]
  refine ⟨trivial, fun h => ?_⟩
  simp only [Bool.and_eq_true] at h
  rw [b0 h.2]
theorem Requirement.sub1 (x : Val) : (Requirement.dec (s5 x)).1 = (Requirement.dec x).1 := (Q3p (f := Requirement.dec) (fun _ h => Requirement.Q2n h) rfl x).1
theorem Requirement.sub2 (v : Val) (k : BA) : (Requirement.dec (prt v k)).2 = (isM (prt v k) && (Requirement.dec (s5 (prt v k))).2) := (Q3p (f := Requirement.dec) (fun _ h => Requirement.Q2n h) rfl _).2
def NodeTerm.enc (x : NodeTerm) : Val := vM [.mk Q7 (vB x.required), .mk Q8 (vL (x.selector.map Requirement.enc)), .mk Qx (vN x.weight)]
def NodeTerm.dec (v : Val) : NodeTerm × Bool := (NodeTerm.mk (dB v Q7).1 (dE Requirement.dec v Q8).1 (dN v Qx).1, isM v && (dB v Q7).2 && (dE Requirement.dec v Q8).2 && (dN v Qx).2)
def NodeTerm.sm (x : NodeTerm) : Prop := LSm Requirement.sm x.selector ∧ True
theorem NodeTerm.Q34 {x : NodeTerm} (h : NodeTerm.sm x) : Val.Sm sB (NodeTerm.enc x) := Q8v (Nat.le_of_ble_eq_true rfl) (List.forall_mem_cons.2 ⟨Val.Sm.leaf 1 _ _, List.forall_mem_cons.2 ⟨Q4j (fun _ h => Requirement.Q34 h) h.1, List.forall_mem_cons.2 ⟨Val.Sm.leaf 2 _ _, fun _ h => by cases h⟩⟩⟩)
theorem NodeTerm.Q35 {v : Val} (h : Val.Sm sB v) : NodeTerm.sm (NodeTerm.dec v).1 := ⟨Q8x (fun _ h => Requirement.Q35 h) (Q2h h _), trivial⟩
theorem NodeTerm.Q2n {v : Val} (h : (v.kind == 5) = false) : NodeTerm.dec v = ((NodeTerm.dec vZ).1, v.kind == 0) := by
  unfold NodeTerm.dec
  simp only [dN, dB, dE, Q4a h, Q4h h]
  generalize (v.kind == 0) = b
  cases b <;> rfl
def NodeTerm.rdec (v : Val) : NodeTerm × Bool := (NodeTerm.mk (dB v Q7).1 (dE Requirement.rdec v Q8).1 (dN v Qx).1, isM v && (dB v Q7).2 && (dE Requirement.rdec v Q8).2 && (dN v Qx).2)
theorem NodeTerm.agr : Agr NodeTerm.rdec NodeTerm.dec := fun v => by
  obtain ⟨a0, b0⟩ := Qxw Requirement.agr (prt v Q8)
  unfold NodeTerm.rdec NodeTerm.dec
  simp only [dE, a0]
  refine ⟨trivial, fun h => ?_⟩
  simp only [Bool.and_eq_true] at h
  rw [b0 h.1.2]
theorem NodeTerm.sub1 (x : Val) : (NodeTerm.dec (s5 x)).1 = (NodeTerm.dec x).1 := (Q3p (f := NodeTerm.dec) (fun _ h => NodeTerm.Q2n h) rfl x).1
theorem NodeTerm.sub2 (v : Val) (k : BA) : (NodeTerm.dec (prt v k)).2 = (isM (prt v k) && (NodeTerm.dec (s5 (prt v k))).2) := (Q3p (f := NodeTerm.dec) (fun _ h => NodeTerm.Q2n h) rfl _).2
def PodTerm.enc (x : PodTerm) : Val := vM [.mk Q1w (vB x.anti), .mk Q7 (vB x.required), .mk Q8 (vL (x.selector.map Requirement.enc)), .mk Ql (vS x.topology), .mk Qx (vN x.weight)]
def PodTerm.dec (v : Val) : PodTerm × Bool := (PodTerm.mk (dB v Q7).1 (dB v Q1w).1 (dE Requirement.dec v Q8).1 (dS v Ql).1 (dN v Qx).1, isM v && (dB v Q1w).2 && (dB v Q7).2 && (dE Requirement.dec v Q8).2 && (dS v Ql).2 && (dN v Qx).2)
def PodTerm.sm (x : PodTerm) : Prop := LSm Requirement.sm x.selector ∧ True
theorem PodTerm.Q34 {x : PodTerm} (h : PodTerm.sm x) : Val.Sm sB (PodTerm.enc x) := Q8v (Nat.le_of_ble_eq_true rfl) (List.forall_mem_cons.2 ⟨Val.Sm.leaf 1 _ _, List.forall_mem_cons.2 ⟨Val.Sm.leaf 1 _ _, List.forall_mem_cons.2 ⟨Q4j (fun _ h => Requirement.Q34 h) h.1, List.forall_mem_cons.2 ⟨Val.Sm.leaf 3 _ _, List.forall_mem_cons.2 ⟨Val.Sm.leaf 2 _ _, fun _ h => by cases h⟩⟩⟩⟩⟩)
theorem PodTerm.Q35 {v : Val} (h : Val.Sm sB v) : PodTerm.sm (PodTerm.dec v).1 := ⟨Q8x (fun _ h => Requirement.Q35 h) (Q2h h _), trivial⟩
theorem PodTerm.Q2n {v : Val} (h : (v.kind == 5) = false) : PodTerm.dec v = ((PodTerm.dec vZ).1, v.kind == 0) := by
  unfold PodTerm.dec
  simp only [dN, dS, dB, dE, Q4a h, Q4h h]
  generalize (v.kind == 0) = b
  cases b <;> rfl
def PodTerm.rdec (v : Val) : PodTerm × Bool := (PodTerm.mk (dB v Q7).1 (dB v Q1w).1 (dE Requirement.rdec v Q8).1 (dS v Ql).1 (dN v Qx).1, isM v && (dB v Q1w).2 && (dB v Q7).2 && (dE Requirement.rdec v Q8).2 && (dS v Ql).2 && (dN v Qx).2)
theorem PodTerm.agr : Agr PodTerm.rdec PodTerm.dec := fun v => by
  obtain ⟨a0, b0⟩ := Qxw Requirement.agr (prt v Q8)
  unfold PodTerm.rdec PodTerm.dec
  simp only [dE, a0]
  refine ⟨trivial, fun h => ?_⟩
  simp only [Bool.and_eq_true] at h
  rw [b0 h.1.1.2]
theorem PodTerm.sub1 (x : Val) : (PodTerm.dec (s5 x)).1 = (PodTerm.dec x).1 := (Q3p (f := PodTerm.dec) (fun _ h => PodTerm.Q2n h) rfl x).1
theorem PodTerm.sub2 (v : Val) (k : BA) : (PodTerm.dec (prt v k)).2 = (isM (prt v k) && (PodTerm.dec (s5 (prt v k))).2) := (Q3p (f := PodTerm.dec) (fun _ h => PodTerm.Q2n h) rfl _).2
def SpreadRule.enc (x : SpreadRule) : Val := vM [.mk Q17 (vN x.maxSkew), .mk Q7 (vB x.required), .mk Q8 (vL (x.selector.map Requirement.enc)), .mk Ql (vS x.topology)]
def SpreadRule.dec (v : Val) : SpreadRule × Bool := (SpreadRule.mk (dN v Q17).1 (dS v Ql).1 (dE Requirement.dec v Q8).1 (dB v Q7).1, isM v && (dN v Q17).2 && (dB v Q7).2 && (dE Requirement.dec v Q8).2 && (dS v Ql).2)
def SpreadRule.sm (x : SpreadRule) : Prop := LSm Requirement.sm x.selector ∧ True
theorem SpreadRule.Q34 {x : SpreadRule} (h : SpreadRule.sm x) : Val.Sm sB (SpreadRule.enc x) := Q8v (Nat.le_of_ble_eq_true rfl) (List.forall_mem_cons.2 ⟨Val.Sm.leaf 2 _ _, List.forall_mem_cons.2 ⟨Val.Sm.leaf 1 _ _, List.forall_mem_cons.2 ⟨Q4j (fun _ h => Requirement.Q34 h) h.1, List.forall_mem_cons.2 ⟨Val.Sm.leaf 3 _ _, fun _ h => by cases h⟩⟩⟩⟩)
theorem SpreadRule.Q35 {v : Val} (h : Val.Sm sB v) : SpreadRule.sm (SpreadRule.dec v).1 := ⟨Q8x (fun _ h => Requirement.Q35 h) (Q2h h _), trivial⟩
theorem SpreadRule.Q2n {v : Val} (h : (v.kind == 5) = false) : SpreadRule.dec v = ((SpreadRule.dec vZ).1, v.kind == 0) := by
  unfold SpreadRule.dec
  simp only [dN, dS, dB, dE, Q4a h, Q4h h]
  generalize (v.kind == 0) = b
  cases b <;> rfl
def SpreadRule.rdec (v : Val) : SpreadRule × Bool := (SpreadRule.mk (dN v Q17).1 (dS v Ql).1 (dE Requirement.rdec v Q8).1 (dB v Q7).1, isM v && (dN v Q17).2 && (dB v Q7).2 && (dE Requirement.rdec v Q8).2 && (dS v Ql).2)
theorem SpreadRule.agr : Agr SpreadRule.rdec SpreadRule.dec := fun v => by
  obtain ⟨a0, b0⟩ := Qxw Requirement.agr (prt v Q8)
  unfold SpreadRule.rdec SpreadRule.dec
  simp only [dE, a0]
  refine ⟨trivial, fun h => ?_⟩
  simp only [Bool.and_eq_true] at h
  rw [b0 h.1.2]
theorem SpreadRule.sub1 (x : Val) : (SpreadRule.dec (s5 x)).1 = (SpreadRule.dec x).1 := (Q3p (f := SpreadRule.dec) (fun _ h => SpreadRule.Q2n h) rfl x).1
theorem SpreadRule.sub2 (v : Val) (k : BA) : (SpreadRule.dec (prt v k)).2 = (isM (prt v k) && (SpreadRule.dec (s5 (prt v k))).2) := (Q3p (f := SpreadRule.dec) (fun _ h => SpreadRule.Q2n h) rfl _).2
def Toleration.enc (x : Toleration) : Val := vM [.mk Qr (vN x.effect), .mk Q1j (vB x.exists_), .mk Qs (vS x.key), .mk Q1h (vN x.seconds), .mk Qo (vS x.value)]
def Toleration.dec (v : Val) : Toleration × Bool := (Toleration.mk (dS v Qs).1 (dS v Qo).1 (dB v Q1j).1 (dN v Qr).1 (dN v Q1h).1, isM v && (dN v Qr).2 && (dB v Q1j).2 && (dS v Qs).2 && (dN v Q1h).2 && (dS v Qo).2)
def Toleration.sm (_ : Toleration) : Prop := True
theorem Toleration.Q34 {x : Toleration} (_ : Toleration.sm x) : Val.Sm sB (Toleration.enc x) := Q8v (Nat.le_of_ble_eq_true rfl) (List.forall_mem_cons.2 ⟨Val.Sm.leaf 2 _ _, List.forall_mem_cons.2 ⟨Val.Sm.leaf 1 _ _, List.forall_mem_cons.2 ⟨Val.Sm.leaf 3 _ _, List.forall_mem_cons.2 ⟨Val.Sm.leaf 2 _ _, List.forall_mem_cons.2 ⟨Val.Sm.leaf 3 _ _, fun _ h => by cases h⟩⟩⟩⟩⟩)
theorem Toleration.Q35 {v : Val} (_ : Val.Sm sB v) : Toleration.sm (Toleration.dec v).1 := trivial
theorem Toleration.Q2n {v : Val} (h : (v.kind == 5) = false) : Toleration.dec v = ((Toleration.dec vZ).1, v.kind == 0) := by
  unfold Toleration.dec
  simp only [dN, dS, dB, Q4a h, Q4h h]
  generalize (v.kind == 0) = b
  cases b <;> rfl
theorem Toleration.sub1 (x : Val) : (Toleration.dec (s5 x)).1 = (Toleration.dec x).1 := (Q3p (f := Toleration.dec) (fun _ h => Toleration.Q2n h) rfl x).1
theorem Toleration.sub2 (v : Val) (k : BA) : (Toleration.dec (prt v k)).2 = (isM (prt v k) && (Toleration.dec (s5 (prt v k))).2) := (Q3p (f := Toleration.dec) (fun _ h => Toleration.Q2n h) rfl _).2
def PodSpec.enc (x : PodSpec) : Val := vM [.mk Q0 (vL (x.containers.map Container.enc)), .mk Q2y (vN x.grace), .mk Q30 (vS x.node), .mk Q1f (vL (x.nodeSelector.map Requirement.enc)), .mk Q12 (vL (x.nodeTerms.map NodeTerm.enc)), .mk Q14 (vL (x.podTerms.map PodTerm.enc)), .mk Q24 (vN x.priority), .mk Q2j (vN x.restart), .mk Q1d (vL (x.spread.map SpreadRule.enc)), .mk Qu (vL (x.tolerations.map Toleration.enc))]
def PodSpec.dec (v : Val) : PodSpec × Bool := (PodSpec.mk (dS v Q30).1 (dN v Q24).1 (dN v Q2j).1 (dN v Q2y).1 (dE Container.dec v Q0).1 (dE Requirement.dec v Q1f).1 (dE NodeTerm.dec v Q12).1 (dE PodTerm.dec v Q14).1 (dE SpreadRule.dec v Q1d).1 (dE Toleration.dec v Qu).1, isM v && (dE Container.dec v Q0).2 && (dN v Q2y).2 && (dS v Q30).2 && (dE Requirement.dec v Q1f).2 && (dE NodeTerm.dec v Q12).2 && (dE PodTerm.dec v Q14).2 && (dN v Q24).2 && (dN v Q2j).2 && (dE SpreadRule.dec v Q1d).2 && (dE Toleration.dec v Qu).2)
def PodSpec.sm (x : PodSpec) : Prop := LSm Container.sm x.containers ∧ LSm Requirement.sm x.nodeSelector ∧ LSm NodeTerm.sm x.nodeTerms ∧ LSm PodTerm.sm x.podTerms ∧ LSm SpreadRule.sm x.spread ∧ LSm Toleration.sm x.tolerations ∧ True
theorem PodSpec.Q34 {x : PodSpec} (h : PodSpec.sm x) : Val.Sm sB (PodSpec.enc x) := Q8v (Nat.le_of_ble_eq_true rfl) (List.forall_mem_cons.2 ⟨Q4j (fun _ h => Container.Q34 h) h.1, List.forall_mem_cons.2 ⟨Val.Sm.leaf 2 _ _, List.forall_mem_cons.2 ⟨Val.Sm.leaf 3 _ _, List.forall_mem_cons.2 ⟨Q4j (fun _ h => Requirement.Q34 h) h.2.1, List.forall_mem_cons.2 ⟨Q4j (fun _ h => NodeTerm.Q34 h) h.2.2.1, List.forall_mem_cons.2 ⟨Q4j (fun _ h => PodTerm.Q34 h) h.2.2.2.1, List.forall_mem_cons.2 ⟨Val.Sm.leaf 2 _ _, List.forall_mem_cons.2 ⟨Val.Sm.leaf 2 _ _, List.forall_mem_cons.2 ⟨Q4j (fun _ h => SpreadRule.Q34 h) h.2.2.2.2.1, List.forall_mem_cons.2 ⟨Q4j (fun _ h => Toleration.Q34 h) h.2.2.2.2.2.1, fun _ h => by cases h⟩⟩⟩⟩⟩⟩⟩⟩⟩⟩)
theorem PodSpec.Q35 {v : Val} (h : Val.Sm sB v) : PodSpec.sm (PodSpec.dec v).1 := ⟨Q8x (fun _ h => Container.Q35 h) (Q2h h _), Q8x (fun _ h => Requirement.Q35 h) (Q2h h _), Q8x (fun _ h => NodeTerm.Q35 h) (Q2h h _), Q8x (fun _ h => PodTerm.Q35 h) (Q2h h _), Q8x (fun _ h => SpreadRule.Q35 h) (Q2h h _), Q8x (fun _ h => Toleration.Q35 h) (Q2h h _), trivial⟩
theorem PodSpec.Q2n {v : Val} (h : (v.kind == 5) = false) : PodSpec.dec v = ((PodSpec.dec vZ).1, v.kind == 0) := by
  unfold PodSpec.dec
  simp only [dN, dS, dE, Q4a h, Q4h h]
  generalize (v.kind == 0) = b
  cases b <;> rfl
def PodSpec.rdec (v : Val) : PodSpec × Bool := (PodSpec.mk (dS v Q30).1 (dN v Q24).1 (dN v Q2j).1 (dN v Q2y).1 (dE Container.dec v Q0).1 (dE Requirement.rdec v Q1f).1 (dE NodeTerm.rdec v Q12).1 (dE PodTerm.rdec v Q14).1 (dE SpreadRule.rdec v Q1d).1 (dE Toleration.dec v Qu).1, isM v && (dE Container.dec v Q0).2 && (dN v Q2y).2 && (dS v Q30).2 && (dE Requirement.rdec v Q1f).2 && (dE NodeTerm.rdec v Q12).2 && (dE PodTerm.rdec v Q14).2 && (dN v Q24).2 && (dN v Q2j).2 && (dE SpreadRule.rdec v Q1d).2 && (dE Toleration.dec v Qu).2)
theorem PodSpec.agr : Agr PodSpec.rdec PodSpec.dec := fun v => by
  obtain ⟨a0, b0⟩ := Qxw Requirement.agr (prt v Q1f)
  obtain ⟨a1, b1⟩ := Qxw NodeTerm.agr (prt v Q12)
  obtain ⟨a2, b2⟩ := Qxw PodTerm.agr (prt v Q14)
  obtain ⟨a3, b3⟩ := Qxw SpreadRule.agr (prt v Q1d)
  unfold PodSpec.rdec PodSpec.dec
  simp only [dE, a0, a1, a2, a3]
  refine ⟨trivial, fun h => ?_⟩
  simp only [Bool.and_eq_true] at h
  rw [b0 h.1.1.1.1.1.1.2, b1 h.1.1.1.1.1.2, b2 h.1.1.1.1.2, b3 h.1.2]
theorem PodSpec.sub1 (x : Val) : (PodSpec.dec (s5 x)).1 = (PodSpec.dec x).1 := (Q3p (f := PodSpec.dec) (fun _ h => PodSpec.Q2n h) rfl x).1
theorem PodSpec.sub2 (v : Val) (k : BA) : (PodSpec.dec (prt v k)).2 = (isM (prt v k) && (PodSpec.dec (s5 (prt v k))).2) := (Q3p (f := PodSpec.dec) (fun _ h => PodSpec.Q2n h) rfl _).2
def ContainerStatus.enc (x : ContainerStatus) : Val := vM [.mk Qc (vN x.exitCode), .mk Qf (vS x.name), .mk Qa (vB x.ready), .mk Qd (vN x.restarts), .mk Qk (vN x.since), .mk Qg (vB x.started), .mk Qq (vN x.state)]
def ContainerStatus.dec (v : Val) : ContainerStatus × Bool := (ContainerStatus.mk (dS v Qf).1 (dN v Qq).1 (dN v Qd).1 (dN v Qc).1 (dN v Qk).1 (dB v Qa).1 (dB v Qg).1, isM v && (dN v Qc).2 && (dS v Qf).2 && (dB v Qa).2 && (dN v Qd).2 && (dN v Qk).2 && (dB v Qg).2 && (dN v Qq).2)
def ContainerStatus.sm (_ : ContainerStatus) : Prop := True
theorem ContainerStatus.Q34 {x : ContainerStatus} (_ : ContainerStatus.sm x) : Val.Sm sB (ContainerStatus.enc x) := Q8v (Nat.le_of_ble_eq_true rfl) (List.forall_mem_cons.2 ⟨Val.Sm.leaf 2 _ _, List.forall_mem_cons.2 ⟨Val.Sm.leaf 3 _ _, List.forall_mem_cons.2 ⟨Val.Sm.leaf 1 _ _, List.forall_mem_cons.2 ⟨Val.Sm.leaf 2 _ _, List.forall_mem_cons.2 ⟨Val.Sm.leaf 2 _ _, List.forall_mem_cons.2 ⟨Val.Sm.leaf 1 _ _, List.forall_mem_cons.2 ⟨Val.Sm.leaf 2 _ _, fun _ h => by cases h⟩⟩⟩⟩⟩⟩⟩)
theorem ContainerStatus.Q35 {v : Val} (_ : Val.Sm sB v) : ContainerStatus.sm (ContainerStatus.dec v).1 := trivial
theorem ContainerStatus.Q2n {v : Val} (h : (v.kind == 5) = false) : ContainerStatus.dec v = ((ContainerStatus.dec vZ).1, v.kind == 0) := by
  unfold ContainerStatus.dec
  simp only [dN, dS, dB, Q4a h, Q4h h]
  generalize (v.kind == 0) = b
  cases b <;> rfl
theorem ContainerStatus.sub1 (x : Val) : (ContainerStatus.dec (s5 x)).1 = (ContainerStatus.dec x).1 := (Q3p (f := ContainerStatus.dec) (fun _ h => ContainerStatus.Q2n h) rfl x).1
theorem ContainerStatus.sub2 (v : Val) (k : BA) : (ContainerStatus.dec (prt v k)).2 = (isM (prt v k) && (ContainerStatus.dec (s5 (prt v k))).2) := (Q3p (f := ContainerStatus.dec) (fun _ h => ContainerStatus.Q2n h) rfl _).2
def PodStatus.enc (x : PodStatus) : Val := vM [.mk Q2l (vN x.address), .mk Q0 (vL (x.containers.map ContainerStatus.enc)), .mk Q2o (vN x.finished), .mk Q2a (vS x.nominated), .mk Q2t (vN x.phase), .mk Qa (vB x.ready), .mk Q21 (vN x.readySince), .mk Q2v (vS x.reason), .mk Qg (vN x.started)]
def PodStatus.dec (v : Val) : PodStatus × Bool := (PodStatus.mk (dN v Q2t).1 (dB v Qa).1 (dN v Q21).1 (dN v Qg).1 (dN v Q2o).1 (dE ContainerStatus.dec v Q0).1 (dN v Q2l).1 (dS v Q2a).1 (dS v Q2v).1, isM v && (dN v Q2l).2 && (dE ContainerStatus.dec v Q0).2 && (dN v Q2o).2 && (dS v Q2a).2 && (dN v Q2t).2 && (dB v Qa).2 && (dN v Q21).2 && (dS v Q2v).2 && (dN v Qg).2)
def PodStatus.sm (x : PodStatus) : Prop := LSm ContainerStatus.sm x.containers ∧ True
theorem PodStatus.Q34 {x : PodStatus} (h : PodStatus.sm x) : Val.Sm sB (PodStatus.enc x) := Q8v (Nat.le_of_ble_eq_true rfl) (List.forall_mem_cons.2 ⟨Val.Sm.leaf 2 _ _, List.forall_mem_cons.2 ⟨Q4j (fun _ h => ContainerStatus.Q34 h) h.1, List.forall_mem_cons.2 ⟨Val.Sm.leaf 2 _ _, List.forall_mem_cons.2 ⟨Val.Sm.leaf 3 _ _, List.forall_mem_cons.2 ⟨Val.Sm.leaf 2 _ _, List.forall_mem_cons.2 ⟨Val.Sm.leaf 1 _ _, List.forall_mem_cons.2 ⟨Val.Sm.leaf 2 _ _, List.forall_mem_cons.2 ⟨Val.Sm.leaf 3 _ _, List.forall_mem_cons.2 ⟨Val.Sm.leaf 2 _ _, fun _ h => by cases h⟩⟩⟩⟩⟩⟩⟩⟩⟩)
theorem PodStatus.Q35 {v : Val} (h : Val.Sm sB v) : PodStatus.sm (PodStatus.dec v).1 := ⟨Q8x (fun _ h => ContainerStatus.Q35 h) (Q2h h _), trivial⟩
theorem PodStatus.Q2n {v : Val} (h : (v.kind == 5) = false) : PodStatus.dec v = ((PodStatus.dec vZ).1, v.kind == 0) := by
  unfold PodStatus.dec
  simp only [dN, dS, dB, dE, Q4a h, Q4h h]
  generalize (v.kind == 0) = b
  cases b <;> rfl
theorem PodStatus.sub1 (x : Val) : (PodStatus.dec (s5 x)).1 = (PodStatus.dec x).1 := (Q3p (f := PodStatus.dec) (fun _ h => PodStatus.Q2n h) rfl x).1
theorem PodStatus.sub2 (v : Val) (k : BA) : (PodStatus.dec (prt v k)).2 = (isM (prt v k) && (PodStatus.dec (s5 (prt v k))).2) := (Q3p (f := PodStatus.dec) (fun _ h => PodStatus.Q2n h) rfl _).2
def Taint.enc (x : Taint) : Val := vM [.mk Qr (vN x.effect), .mk Qs (vS x.key), .mk Qk (vN x.since), .mk Qo (vS x.value)]
def Taint.dec (v : Val) : Taint × Bool := (Taint.mk (dS v Qs).1 (dS v Qo).1 (dN v Qr).1 (dN v Qk).1, isM v && (dN v Qr).2 && (dS v Qs).2 && (dN v Qk).2 && (dS v Qo).2)
def Taint.sm (_ : Taint) : Prop := True
theorem Taint.Q34 {x : Taint} (_ : Taint.sm x) : Val.Sm sB (Taint.enc x) := Q8v (Nat.le_of_ble_eq_true rfl) (List.forall_mem_cons.2 ⟨Val.Sm.leaf 2 _ _, List.forall_mem_cons.2 ⟨Val.Sm.leaf 3 _ _, List.forall_mem_cons.2 ⟨Val.Sm.leaf 2 _ _, List.forall_mem_cons.2 ⟨Val.Sm.leaf 3 _ _, fun _ h => by cases h⟩⟩⟩⟩)
theorem Taint.Q35 {v : Val} (_ : Val.Sm sB v) : Taint.sm (Taint.dec v).1 := trivial
theorem Taint.Q2n {v : Val} (h : (v.kind == 5) = false) : Taint.dec v = ((Taint.dec vZ).1, v.kind == 0) := by
  unfold Taint.dec
  simp only [dN, dS, Q4a h, Q4h h]
  generalize (v.kind == 0) = b
  cases b <;> rfl
theorem Taint.sub1 (x : Val) : (Taint.dec (s5 x)).1 = (Taint.dec x).1 := (Q3p (f := Taint.dec) (fun _ h => Taint.Q2n h) rfl x).1
theorem Taint.sub2 (v : Val) (k : BA) : (Taint.dec (prt v k)).2 = (isM (prt v k) && (Taint.dec (s5 (prt v k))).2) := (Q3p (f := Taint.dec) (fun _ h => Taint.Q2n h) rfl _).2
def Image.enc (x : Image) : Val := vM [.mk Qf (vS x.name), .mk Q26 (vN x.size), .mk Q2b (vN x.used)]
def Image.dec (v : Val) : Image × Bool := (Image.mk (dS v Qf).1 (dN v Q26).1 (dN v Q2b).1, isM v && (dS v Qf).2 && (dN v Q26).2 && (dN v Q2b).2)
def Image.sm (_ : Image) : Prop := True
theorem Image.Q34 {x : Image} (_ : Image.sm x) : Val.Sm sB (Image.enc x) := Q8v (Nat.le_of_ble_eq_true rfl) (List.forall_mem_cons.2 ⟨Val.Sm.leaf 3 _ _, List.forall_mem_cons.2 ⟨Val.Sm.leaf 2 _ _, List.forall_mem_cons.2 ⟨Val.Sm.leaf 2 _ _, fun _ h => by cases h⟩⟩⟩)
theorem Image.Q35 {v : Val} (_ : Val.Sm sB v) : Image.sm (Image.dec v).1 := trivial
theorem Image.Q2n {v : Val} (h : (v.kind == 5) = false) : Image.dec v = ((Image.dec vZ).1, v.kind == 0) := by
  unfold Image.dec
  simp only [dN, dS, Q4a h, Q4h h]
  generalize (v.kind == 0) = b
  cases b <;> rfl
theorem Image.sub1 (x : Val) : (Image.dec (s5 x)).1 = (Image.dec x).1 := (Q3p (f := Image.dec) (fun _ h => Image.Q2n h) rfl x).1
theorem Image.sub2 (v : Val) (k : BA) : (Image.dec (prt v k)).2 = (isM (prt v k) && (Image.dec (s5 (prt v k))).2) := (Q3p (f := Image.dec) (fun _ h => Image.Q2n h) rfl _).2
def Label.enc (x : Label) : Val := vM [.mk Qs (vS x.key), .mk Qo (vS x.value)]
def Label.dec (v : Val) : Label × Bool := (Label.mk (dS v Qs).1 (dS v Qo).1, isM v && (dS v Qs).2 && (dS v Qo).2)
def Label.sm (_ : Label) : Prop := True
theorem Label.Q34 {x : Label} (_ : Label.sm x) : Val.Sm sB (Label.enc x) := Q8v (Nat.le_of_ble_eq_true rfl) (List.forall_mem_cons.2 ⟨Val.Sm.leaf 3 _ _, List.forall_mem_cons.2 ⟨Val.Sm.leaf 3 _ _, fun _ h => by cases h⟩⟩)
theorem Label.Q35 {v : Val} (_ : Val.Sm sB v) : Label.sm (Label.dec v).1 := trivial
theorem Label.Q2n {v : Val} (h : (v.kind == 5) = false) : Label.dec v = ((Label.dec vZ).1, v.kind == 0) := by
  unfold Label.dec
  simp only [dS, Q4a h, Q4h h]
  generalize (v.kind == 0) = b
  cases b <;> rfl
theorem Label.sub1 (x : Val) : (Label.dec (s5 x)).1 = (Label.dec x).1 := (Q3p (f := Label.dec) (fun _ h => Label.Q2n h) rfl x).1
theorem Label.sub2 (v : Val) (k : BA) : (Label.dec (prt v k)).2 = (isM (prt v k) && (Label.dec (s5 (prt v k))).2) := (Q3p (f := Label.dec) (fun _ h => Label.Q2n h) rfl _).2
def Template.enc (x : Template) : Val := vM [.mk Q11 (vL (x.labels.map Label.enc)), .mk Q2p (PodSpec.enc x.spec)]
def Template.dec (v : Val) : Template × Bool := (Template.mk (dE Label.dec v Q11).1 (dT PodSpec.dec v Q2p).1, isM v && (dE Label.dec v Q11).2 && (dT PodSpec.dec v Q2p).2)
def Template.sm (x : Template) : Prop := LSm Label.sm x.labels ∧ PodSpec.sm x.spec ∧ True
theorem Template.Q34 {x : Template} (h : Template.sm x) : Val.Sm sB (Template.enc x) := Q8v (Nat.le_of_ble_eq_true rfl) (List.forall_mem_cons.2 ⟨Q4j (fun _ h => Label.Q34 h) h.1, List.forall_mem_cons.2 ⟨PodSpec.Q34 h.2.1, fun _ h => by cases h⟩⟩)
theorem Template.Q35 {v : Val} (h : Val.Sm sB v) : Template.sm (Template.dec v).1 := ⟨Q8x (fun _ h => Label.Q35 h) (Q2h h _), PodSpec.Q35 (Q2h h _), trivial⟩
theorem Template.Q2n {v : Val} (h : (v.kind == 5) = false) : Template.dec v = ((Template.dec vZ).1, v.kind == 0) := by
  unfold Template.dec
  simp only [dE, dT, Q4a h, Q4h h]
  generalize (v.kind == 0) = b
  cases b <;> rfl
def Template.rdec (v : Val) : Template × Bool := (Template.mk (dE Label.dec v Q11).1 (dT PodSpec.rdec v Q2p).1, isM v && (dE Label.dec v Q11).2 && (dT PodSpec.rdec v Q2p).2)
theorem Template.agr : Agr Template.rdec Template.dec := fun v => by
  obtain ⟨a0, b0⟩ := PodSpec.agr (prt v Q2p)
  unfold Template.rdec Template.dec
  simp only [dE, dT, a0]
  refine ⟨trivial, fun h => ?_⟩
  simp only [Bool.and_eq_true] at h
  rw [b0 h.2]
theorem Template.sub1 (x : Val) : (Template.dec (s5 x)).1 = (Template.dec x).1 := (Q3p (f := Template.dec) (fun _ h => Template.Q2n h) rfl x).1
theorem Template.sub2 (v : Val) (k : BA) : (Template.dec (prt v k)).2 = (isM (prt v k) && (Template.dec (s5 (prt v k))).2) := (Q3p (f := Template.dec) (fun _ h => Template.Q2n h) rfl _).2
end Go.Proofs.YtiflaadeikaghaaGreat
end

section
/- What the program's encoders compute (printed by a program). -/
namespace Go.Proofs.YtiflaadeikaghaaGreat
open Go.Pv
end Go.Proofs.YtiflaadeikaghaaGreat
end

