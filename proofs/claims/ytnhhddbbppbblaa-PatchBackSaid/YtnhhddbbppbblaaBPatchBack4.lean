/- Texts of the claim, merged by a program; what the statement does not reach is left out. -/
import Derived.Test.YtnhhddbbppbblaaBPatchBack3

section
/- What taking fields out and copying values compute (printed by a program). -/
namespace Go.Proofs.Ytnhhddbbppbblaa
open Go.Pv
def Q17p (p0 : Val) : Val := p0
def Qu2 (p0 : Val) : List Val → Nat → Unit
 | [], _i0 =>
  ()
 | _x0 :: r0, i0 =>
  Qu2 p0 r0 (i0 + 1)
def Qoj (p0 : Val) (i0 : Nat) : List PV :=
  [.un, .bx 0 0, .bx 1 0, .un, .un, .un, .un, .un, .un, .un, .un, .un, .ms 2 5 0 (List.length p0.list), .int .i64 ((List.length p0.list) : Int), .int .i64 (i0 : Int), .un, .un, .un, .un, .un, .un, .un, .un, .un, .un, .un, .un, .un, .un, .un, .un, .un, .un, .un, .un, .un, .un, .un, .un, .un, .un, .un, .un, .un, .un, .un, .un, .un]
def Qgf (p0 : Val) (_i0 : Nat) : List Ob :=
  [⟨5, 0, true, [.int .i64 p0.kind, .int .i64 p0.n, .str p0.s, .ms 2 5 0 (List.length p0.list), .sl (Fld.rows p0.fields)]⟩, ⟨5, 0, true, [.int .i64 0, .int .i64 0, .str (⟨#[]⟩ : ByteArray), .ms 3 5 0 0, .ms 4 6 0 0]⟩, ⟨5, 0, true, (Val.rows p0.list).flatten⟩, ⟨5, 0, true, []⟩, ⟨6, 0, true, []⟩]
def Qbu (p0 : Val) (i0 : Nat) : En := .loop 0 Ir.Qdl Ir.Q14i (Qoj p0 i0) (Qgf p0 i0)
def Qjt (p0 : Val) (z : Nat → PV) (_zo : Nat → List PV) : St :=
  ⟨[z 0, .bx 0 0, .bx 1 0, z 3, z 4, z 5, z 6, z 7, z 8, z 9, z 10, z 11, z 12, z 13, z 14, z 15, z 16, z 17, z 18, z 19, z 20, z 21, z 22, z 23, z 24, z 25, z 26, z 27, z 28, z 29, z 30, z 31, z 32, z 33, z 34, z 35, z 36, z 37, z 38, z 39, z 40, z 41, z 42, z 43, z 44, z 45, z 46, z 47], [(0, ⟨5, 0, true, [.int .i64 p0.kind, .int .i64 p0.n, .str p0.s, .ms 2 5 0 (List.length p0.list), .sl (Fld.rows p0.fields)]⟩), (1, ⟨5, 0, true, [.int .i64 0, .int .i64 0, .str (⟨#[]⟩ : ByteArray), .ms 3 5 0 0, .ms 4 6 0 0]⟩), (2, ⟨5, 0, true, (Val.rows p0.list).flatten⟩), (3, ⟨5, 0, true, []⟩), (4, ⟨6, 0, true, []⟩)], 69⟩
theorem Qu4 (p0 : Val) (i0 : Nat) : VOK (Go.Pv.look (number 0 (Qgf p0 i0))) [(2, Val.rows p0.list)] := (VOK.cons (show Seen _ _ from Q4n (ob := ⟨5, 0, true, (Val.rows p0.list).flatten⟩) (Val.Q5 p0.list 5 rfl)) VOK.nil)
def Q75 (p0 : Val) (e : En) (_q : Unit) : Prop := ∃ z zo, Q7 G e (.st (.exit 0) (Qjt p0 z zo))
theorem Qlr (p0 : Val) {e e' : En} (h : ∀ r, Q7 G e r → Q7 G e' r) : ∀ q, Q75 p0 e q → Q75 p0 e' q
  | _, ⟨z, zo, hz⟩ => ⟨z, zo, h _ hz⟩
def Qse (p0 : Val) : List Fld → Nat → Unit
 | [], _i1 =>
  ()
 | _x1 :: r1, i1 =>
  Qse p0 r1 (i1 + 1)
def Qq2 (p0 : Val) (i1 : Nat) : List PV :=
  [.un, .bx 0 0, .bx 1 0, .un, .un, .un, .un, .un, .un, .un, .un, .un, .un, .un, .un, .un, .un, .un, .un, .un, .un, .un, .un, .un, .un, .un, .un, .un, .un, .un, .un, .ms 2 6 0 (List.length p0.fields), .int .i64 ((List.length p0.fields) : Int), .int .i64 (i1 : Int), .un, .un, .un, .un, .un, .un, .un, .un, .un, .un, .un, .un, .un, .un]
def Qcc (p0 : Val) (_i1 : Nat) : List Ob :=
  [⟨5, 0, true, [.int .i64 p0.kind, .int .i64 p0.n, .str p0.s, .ms 3 5 0 (List.length p0.list), .ms 2 6 0 (List.length p0.fields)]⟩, ⟨5, 0, true, [.int .i64 0, .int .i64 0, .str (⟨#[]⟩ : ByteArray), .ms 4 5 0 0, .ms 5 6 0 0]⟩, ⟨6, 0, true, (Fld.rows p0.fields).flatten⟩, ⟨5, 0, true, (Val.rows p0.list).flatten⟩, ⟨5, 0, true, []⟩, ⟨6, 0, true, []⟩]
def Qbh (p0 : Val) (i1 : Nat) : En := .loop 0 Ir.Qfu Ir.Q14g (Qq2 p0 i1) (Qcc p0 i1)
def Qit (p0 : Val) (z : Nat → PV) (_zo : Nat → List PV) : St :=
  ⟨[z 0, .bx 0 0, .bx 1 0, z 3, z 4, z 5, z 6, z 7, z 8, z 9, z 10, z 11, z 12, z 13, z 14, z 15, z 16, z 17, z 18, z 19, z 20, z 21, z 22, z 23, z 24, z 25, z 26, z 27, z 28, z 29, z 30, z 31, z 32, z 33, z 34, z 35, z 36, z 37, z 38, z 39, z 40, z 41, z 42, z 43, z 44, z 45, z 46, z 47], [(0, ⟨5, 0, true, [.int .i64 p0.kind, .int .i64 p0.n, .str p0.s, .ms 3 5 0 (List.length p0.list), .ms 2 6 0 (List.length p0.fields)]⟩), (1, ⟨5, 0, true, [.int .i64 0, .int .i64 0, .str (⟨#[]⟩ : ByteArray), .ms 4 5 0 0, .ms 5 6 0 0]⟩), (2, ⟨6, 0, true, (Fld.rows p0.fields).flatten⟩), (3, ⟨5, 0, true, (Val.rows p0.list).flatten⟩), (4, ⟨5, 0, true, []⟩), (5, ⟨6, 0, true, []⟩)], 70⟩
theorem Qs2 (p0 : Val) (i1 : Nat) : VOK (Go.Pv.look (number 0 (Qcc p0 i1))) [(2, Fld.rows p0.fields), (3, Val.rows p0.list)] := (VOK.cons (show Seen _ _ from Q4n (ob := ⟨6, 0, true, (Fld.rows p0.fields).flatten⟩) (Fld.Q5 p0.fields 6 rfl)) (VOK.cons (show Seen _ _ from Q4n (ob := ⟨5, 0, true, (Val.rows p0.list).flatten⟩) (Val.Q5 p0.list 5 rfl)) VOK.nil))
def Q72 (p0 : Val) (e : En) (_q : Unit) : Prop := ∃ z zo, Q7 G e (.st (.exit 2) (Qit p0 z zo))
theorem Qkt (p0 : Val) {e e' : En} (h : ∀ r, Q7 G e r → Q7 G e' r) : ∀ q, Q72 p0 e q → Q72 p0 e' q
  | _, ⟨z, zo, hz⟩ => ⟨z, zo, h _ hz⟩
theorem Q19t (p0 : Val) : Q17p p0 = (p0) := by
  rfl
def Q137 (p0 : Val) : En := .call 45 [.agg (Val.cells p0)] []
def Qyc (p0 : Val) : Rs := .ret (.agg (Val.cells (Q17p p0))) []
abbrev Qg2 (p0 : Val) : Prop := Val.Sm 1000000000 p0
def Q7v (p0 : Val) : Prop := ∀ (q : Val), SizeOf.sizeOf q < SizeOf.sizeOf p0 → Qg2 q → Q7 G (Q137 q) (Qyc q)
def Qbg (p0 : Val) : Prop := (List.length p0.list ≤ 4611686018427387904) ∧ (∀ x0 ∈ p0.list, Qg2 x0) ∧ True
def Qbp (p0 : Val) : Prop := (List.length p0.fields ≤ 4611686018427387904) ∧ (∀ x1 ∈ p0.fields, Qg2 x1.v) ∧ True
theorem Qb9 (p0 : Val) (H : Qg2 p0) : (List.length p0.list * 80 ≤ 140737488355328) ∧ (Qbg p0) ∧ (List.length p0.fields * 96 ≤ 140737488355328) ∧ (Qbp p0) ∧ True := by
  obtain ⟨h1, h2, h3, h4⟩ := H.all
  exact ⟨by omega, ⟨by omega, h3, trivial⟩, by omega, ⟨by omega, h4, trivial⟩, trivial⟩
def Qk5 (p0 : Val) (i0 : Nat) : List PV :=
  [.un, .un, .un, .un, .un, .un, .un, .un, .un, .un, .un, .un, .ms 2 5 0 (List.length p0.list), .int .i64 ((List.length p0.list) : Int), .int .i64 (i0 : Int), .bool false]
def Qdg (_p0 : Val) (_i0 : Nat) : List (Nat × List PV) :=
  []
theorem Qwv (p0 : Val) (_H : Qbg p0) (_rec : Q7v p0) (i0 : Nat) (hc0 : (decide ((i0 : Int) < ((List.length p0.list) : Int))) = false) : Q75 p0 (Qbu p0 i0) () := by
 exact ⟨(envF (Qk5 p0 i0)), (zoF (Qdg p0 i0)), Qe (Qu4 p0 i0) (x := ((.exit 0), Qjt p0 (envF (Qk5 p0 i0)) (zoF (Qdg p0 i0)))) [hB 0 hc0] [] (by kernel_rfl)⟩
theorem Qvj (p0 : Val) (H : Qbg p0) (rec : Q7v p0) (x0 : Val) (i0 : Nat) (hx0 : p0.list[i0]? = some x0) (hi0 : i0 < List.length p0.list) (hc0 : (decide ((i0 : Int) < ((List.length p0.list) : Int))) = true) {r : Rs} (hr : Q7 G (Qbu p0 (i0 + 1)) r) : Q7 G (Qbu p0 i0) r := by
 have hB0 := H.1
 exact Qb (Qu4 p0 i0) (y := (Qoj p0 (i0 + 1), Qgf p0 (i0 + 1))) [hB 0 hc0, hP 1 (Q1h 2 5 (List.length p0.list) (i0 : Int) i0 (by omega) (by omega) (by omega)), hP 0 (Q34 2 5 0 true ((Val.rows p0.list).flatten) (Val.rows p0.list) 5 true i0 0 (i0 * 5) (Val.cells x0) (.agg [.int .i64 x0.kind, .int .i64 x0.n, .str x0.s, .sl (Val.rows x0.list), .sl (Fld.rows x0.fields)]) rfl rfl (Val.Qg hx0) (Val.Qp p0.list) (by decide) rfl), hP 8 (Q1h 2 5 (List.length p0.list) (i0 : Int) i0 (by omega) (by omega) (by omega)), hV 0 [(2, Val.rows p0.list)] (Qgb 2 5 true ((Val.rows p0.list).flatten) (Val.rows p0.list) (Val.rows p0.list) 5 i0 0 (i0 * 5) _ (.agg [.int .i64 x0.kind, .int .i64 x0.n, .str x0.s, .sl (Val.rows x0.list), .sl (Fld.rows x0.fields)]) rfl rfl (Val.Qg hx0) (Val.Qp p0.list) (by decide) rfl rfl (Qyr (Val.Qg hx0))), hS 0 true (Val.Q5 p0.list 5 rfl), hP 0 (Qt i0 (by omega))] [aN (rec x0 (szL hx0) (H.2.1 x0 (Qw hx0)))] (by kernel_rfl) hr
theorem Qot (p0 : Val) (H : Qbg p0) (rec : Q7v p0) : ∀ (r0 : List Val) (i0 : Nat), List.drop i0 p0.list = r0 → Q75 p0 (Qbu p0 i0) (Qu2 p0 r0 i0)
 | [], i0, hd => by
  have hc0 : (decide ((i0 : Int) < ((List.length p0.list) : Int))) = false := by have := Q1o hd; simp; omega
  show Q75 p0 _ ()
  exact Qwv p0 H rec i0 hc0
 | x0 :: r0, i0, hd => by
  obtain ⟨hx0, hi0, hd'⟩ := Q1b hd
  have hc0 : (decide ((i0 : Int) < ((List.length p0.list) : Int))) = true := by simp; omega
  show Q75 p0 _ ()
  exact Qlr p0 (fun r hr => Qvj p0 H rec x0 i0 hx0 hi0 hc0 hr) _ (Qot p0 H rec r0 (i0 + 1) hd')
def Qgt (p0 : Val) (i1 : Nat) : List PV :=
  [.un, .un, .un, .un, .un, .un, .un, .un, .un, .un, .un, .un, .un, .un, .un, .un, .un, .un, .un, .un, .un, .un, .un, .un, .un, .un, .un, .un, .un, .un, .un, .ms 2 6 0 (List.length p0.fields), .int .i64 ((List.length p0.fields) : Int), .int .i64 (i1 : Int), .bool false]
def Qff (_p0 : Val) (_i1 : Nat) : List (Nat × List PV) :=
  []
theorem Qve (p0 : Val) (_H : Qbp p0) (_rec : Q7v p0) (i1 : Nat) (hc1 : (decide ((i1 : Int) < ((List.length p0.fields) : Int))) = false) : Q72 p0 (Qbh p0 i1) () := by
 exact ⟨(envF (Qgt p0 i1)), (zoF (Qff p0 i1)), Qe (Qs2 p0 i1) (x := ((.exit 2), Qit p0 (envF (Qgt p0 i1)) (zoF (Qff p0 i1)))) [hB 0 hc1] [] (by kernel_rfl)⟩
theorem Qxk (p0 : Val) (H : Qbp p0) (rec : Q7v p0) (x1 : Fld) (i1 : Nat) (hx1 : p0.fields[i1]? = some x1) (hi1 : i1 < List.length p0.fields) (hc1 : (decide ((i1 : Int) < ((List.length p0.fields) : Int))) = true) {r : Rs} (hr : Q7 G (Qbh p0 (i1 + 1)) r) : Q7 G (Qbh p0 i1) r := by
 have hB0 := H.1
 exact Qb (Qs2 p0 i1) (y := (Qq2 p0 (i1 + 1), Qcc p0 (i1 + 1))) [hB 0 hc1, hP 1 (Q1h 2 6 (List.length p0.fields) (i1 : Int) i1 (by omega) (by omega) (by omega)), hP 0 (Q34 2 6 0 true ((Fld.rows p0.fields).flatten) (Fld.rows p0.fields) 6 true i1 0 (i1 * 6) (Fld.cells x1) (.agg [.str x1.name, .int .i64 x1.v.kind, .int .i64 x1.v.n, .str x1.v.s, .sl (Val.rows x1.v.list), .sl (Fld.rows x1.v.fields)]) rfl rfl (Fld.Qg hx1) (Fld.Qp p0.fields) (by decide) rfl), hP 9 (Q1h 2 6 (List.length p0.fields) (i1 : Int) i1 (by omega) (by omega) (by omega)), hV 1 [(2, Fld.rows p0.fields)] (Qgb 2 6 true ((Fld.rows p0.fields).flatten) (Fld.rows p0.fields) (Fld.rows p0.fields) 5 i1 1 (i1 * 6 + 1) _ (.agg [.int .i64 x1.v.kind, .int .i64 x1.v.n, .str x1.v.s, .sl (Val.rows x1.v.list), .sl (Fld.rows x1.v.fields)]) rfl rfl (Fld.Qg hx1) (Fld.Qp p0.fields) (by decide) rfl rfl (Qyr (Fld.Qg hx1))), hS 0 true (Fld.Q5 p0.fields 6 rfl), hP 0 (Qt i1 (by omega))] [aN (rec x1.v (szF hx1) (H.2.1 x1 (Qw hx1)))] (by kernel_rfl) hr
theorem Qof (p0 : Val) (H : Qbp p0) (rec : Q7v p0) : ∀ (r1 : List Fld) (i1 : Nat), List.drop i1 p0.fields = r1 → Q72 p0 (Qbh p0 i1) (Qse p0 r1 i1)
 | [], i1, hd => by
  have hc1 : (decide ((i1 : Int) < ((List.length p0.fields) : Int))) = false := by have := Q1o hd; simp; omega
  show Q72 p0 _ ()
  exact Qve p0 H rec i1 hc1
 | x1 :: r1, i1, hd => by
  obtain ⟨hx1, hi1, hd'⟩ := Q1b hd
  have hc1 : (decide ((i1 : Int) < ((List.length p0.fields) : Int))) = true := by simp; omega
  show Q72 p0 _ ()
  exact Qkt p0 (fun r hr => Qxk p0 H rec x1 i1 hx1 hi1 hc1 hr) _ (Qof p0 H rec r1 (i1 + 1) hd')
theorem Q18u (p0 : Val) (H : Qg2 p0) (rec : Q7v p0) : Q7 G (Q137 p0) (Qyc p0) := by
  unfold Qyc
  rw [Q19t]
  have hl0 := Qot p0 ((Qb9 p0 H).2.1) rec p0.list 0 (by simp)
  obtain ⟨z0, zo0, hl0⟩ := hl0
  have hl1 := Qof p0 ((Qb9 p0 H).2.2.2.1) rec p0.fields 0 (by simp)
  obtain ⟨z1, zo1, hl1⟩ := hl1
  exact Q8 (fn := Ir.K1r) rfl VOK.nil [hQ (Val.Q5 p0.list 5 rfl), hS 0 true (Val.Q5 p0.list 5 rfl), hQ (Fld.Q5 p0.fields 6 rfl), hS 0 true (Fld.Q5 p0.fields 6 rfl), hS 0 true (Val.Q5 p0.list 5 rfl), hQ (Val.Qd p0.list).symm, hQ (Fld.Qd p0.fields).symm] [aV [(0, Val.rows p0.list)] (Q5i (G := G) (f := 55) (sz := 5) (bytes := 80) rfl (Val.Qd p0.list) (Val.Q5 p0.list 5 rfl) (Qb9 p0 H).1), aV [(2, Val.rows p0.list)] hl0, aV [(0, Fld.rows p0.fields)] (Q5i (G := G) (f := 41) (sz := 6) (bytes := 96) rfl (Fld.Qd p0.fields) (Fld.Q5 p0.fields 6 rfl) (Qb9 p0 H).2.2.1), aV [(2, Fld.rows p0.fields), (3, Val.rows p0.list)] hl1] (by kernel_rfl)
theorem Q18a : ∀ (k : Nat) (p0 : Val), SizeOf.sizeOf p0 < k → Qg2 p0 → Q7 G (Q137 p0) (Qyc p0)
  | 0, _, h, _ => absurd h (Nat.not_lt_zero _)
  | k + 1, p0, h, H => Q18u p0 H (fun q hq hH => Q18a k q (by omega) hH)
theorem Q139 (p0 : Val) (H : Qg2 p0) : Q7 G (Q137 p0) (Qyc p0) := Q18a _ p0 (Nat.lt_succ_self _) H
inductive Qtm where
  | k0
  | k1 (q0 : Val)
def Q4q (p0 : Val) (p1 : ByteArray) : List Fld → Nat → Qtm
 | [], _i0 =>
  (.k0)
 | x0 :: r0, i0 =>
  bif (sEq x0.name p1) then
   (.k1 x0.v)
  else
   Q4q p0 p1 r0 (i0 + 1)
def Qqg (p0 : Val) (p1 : ByteArray) (i0 : Nat) : List PV :=
  [.un, .str p1, .un, .un, .bx 0 0, .un, .un, .un, .un, .un, .un, .un, .sl (Fld.rows p0.fields), .int .i64 ((List.length p0.fields) : Int), .int .i64 (i0 : Int), .un, .un, .un, .un, .un, .un, .un, .un, .un, .un, .un, .un]
def Qpp (_p0 : Val) (_p1 : ByteArray) (_i0 : Nat) : List Ob :=
  [⟨5, 0, true, [.int .i64 0, .int .i64 0, .str (⟨#[]⟩ : ByteArray), .ms 1 5 0 0, .ms 2 6 0 0]⟩, ⟨5, 0, true, []⟩, ⟨6, 0, true, []⟩]
def Q9f (p0 : Val) (p1 : ByteArray) (i0 : Nat) : En := .loop 0 Ir.Qcy Ir.Q13p (Qqg p0 p1 i0) (Qpp p0 p1 i0)
def Qi6 (_p0 : Val) (_p1 : ByteArray) (z : Nat → PV) (_zo : Nat → List PV) : St :=
  ⟨[z 0, z 1, z 2, z 3, .bx 0 0, z 5, z 6, z 7, z 8, z 9, z 10, z 11, z 12, z 13, z 14, z 15, z 16, z 17, z 18, z 19, z 20, z 21, z 22, z 23, z 24, z 25, z 26], [(0, ⟨5, 0, true, [.int .i64 0, .int .i64 0, .str (⟨#[]⟩ : ByteArray), .ms 1 5 0 0, .ms 2 6 0 0]⟩), (1, ⟨5, 0, true, []⟩), (2, ⟨6, 0, true, []⟩)], 67⟩
def Qhb (_p0 : Val) (_p1 : ByteArray) (q0 : Val) (z : Nat → PV) (zo : Nat → List PV) : St :=
  ⟨[z 0, z 1, z 2, z 3, .bx 0 0, .bool true, z 6, z 7, z 8, z 9, z 10, z 11, z 12, z 13, z 14, z 15, z 16, z 17, z 18, z 19, z 20, z 21, z 22, z 23, z 24, z 25, z 26], [(0, ⟨5, 0, true, [.int .i64 q0.kind, .int .i64 q0.n, .str q0.s, .sl (Val.rows q0.list), .sl (Fld.rows q0.fields)]⟩), (1, ⟨5, 0, true, zo 1⟩), (2, ⟨6, 0, true, zo 2⟩), (195, ⟨6, 0, true, zo 195⟩)], 899⟩
def Q9d (p0 : Val) (p1 : ByteArray) (e : En) : Qtm → Prop
  | .k0 => ∃ z zo, Q7 G e (.st (.exit 0) (Qi6 p0 p1 z zo))
  | .k1 q0 => ∃ z zo, Q7 G e (.st .ret (Qhb p0 p1 q0 z zo))
theorem Qmf (p0 : Val) (p1 : ByteArray) {e e' : En} (h : ∀ r, Q7 G e r → Q7 G e' r) : ∀ q, Q9d p0 p1 e q → Q9d p0 p1 e' q
  | .k0, ⟨z, zo, hz⟩ => ⟨z, zo, h _ hz⟩
  | .k1 _, ⟨z, zo, hz⟩ => ⟨z, zo, h _ hz⟩
def Q8e (p0 : Val) (_p1 : ByteArray) : Prop := (List.length p0.fields ≤ 4611686018427387904) ∧ (∀ x0 ∈ p0.fields, Qg2 x0.v) ∧ True
def Qje (p0 : Val) (p1 : ByteArray) (i0 : Nat) : List PV :=
  [.un, .str p1, .un, .un, .un, .un, .un, .un, .un, .un, .un, .un, .sl (Fld.rows p0.fields), .int .i64 ((List.length p0.fields) : Int), .int .i64 (i0 : Int), .bool false]
def Qe1 (_p0 : Val) (_p1 : ByteArray) (_i0 : Nat) : List (Nat × List PV) :=
  []
theorem Qwo (p0 : Val) (p1 : ByteArray) (_H : Q8e p0 p1) (i0 : Nat) (hc0 : (decide ((i0 : Int) < ((List.length p0.fields) : Int))) = false) : Q9d p0 p1 (Q9f p0 p1 i0) (.k0) := by
 exact ⟨(envF (Qje p0 p1 i0)), (zoF (Qe1 p0 p1 i0)), Qe VOK.nil (x := ((.exit 0), Qi6 p0 p1 (envF (Qje p0 p1 i0)) (zoF (Qe1 p0 p1 i0)))) [hB 0 hc0] [] (by kernel_rfl)⟩
def Qid (p0 : Val) (p1 : ByteArray) (i0 : Nat) (x0 : Fld) : List PV :=
  [.un, .str p1, .un, .un, .un, .un, .un, .bx 195 0, .un, .un, .un, .un, .sl (Fld.rows p0.fields), .int .i64 ((List.length p0.fields) : Int), .int .i64 (i0 : Int), .bool true, .rf [.str x0.name, .int .i64 x0.v.kind, .int .i64 x0.v.n, .str x0.v.s, .sl (Val.rows x0.v.list), .sl (Fld.rows x0.v.fields)], .agg [.str x0.name, .int .i64 x0.v.kind, .int .i64 x0.v.n, .str x0.v.s, .sl (Val.rows x0.v.list), .sl (Fld.rows x0.v.fields)], .bx 195 0, .str x0.name, .str p1, .bool true, .bx 195 1, .agg [.int .i64 x0.v.kind, .int .i64 x0.v.n, .str x0.v.s, .sl (Val.rows x0.v.list), .sl (Fld.rows x0.v.fields)], .agg [.int .i64 x0.v.kind, .int .i64 x0.v.n, .str x0.v.s, .sl (Val.rows x0.v.list), .sl (Fld.rows x0.v.fields)]]
def Qe5 (_p0 : Val) (_p1 : ByteArray) (_i0 : Nat) (x0 : Fld) : List (Nat × List PV) :=
  [(1, []), (2, []), (195, [.str x0.name, .int .i64 x0.v.kind, .int .i64 x0.v.n, .str x0.v.s, .sl (Val.rows x0.v.list), .sl (Fld.rows x0.v.fields)])]
theorem Qxl (p0 : Val) (p1 : ByteArray) (H : Q8e p0 p1) (x0 : Fld) (i0 : Nat) (hx0 : p0.fields[i0]? = some x0) (_hi0 : i0 < List.length p0.fields) (hc0 : (decide ((i0 : Int) < ((List.length p0.fields) : Int))) = true) (h0 : (sEq x0.name p1) = true) : Q9d p0 p1 (Q9f p0 p1 i0) (.k1 x0.v) := by
 exact ⟨(envF (Qid p0 p1 i0 x0)), (zoF (Qe5 p0 p1 i0 x0)), Qe VOK.nil (x := (.ret, Qhb p0 p1 x0.v (envF (Qid p0 p1 i0 x0)) (zoF (Qe5 p0 p1 i0 x0)))) [hB 0 hc0, hP 0 (Q1k 6 (Fld.rows p0.fields) i0 _ (Fld.Qg hx0) rfl), hB 6 h0] [aN (Q139 x0.v (H.2.1 x0 (Qw hx0)))] (by kernel_rfl)⟩
theorem Qxc (p0 : Val) (p1 : ByteArray) (H : Q8e p0 p1) (x0 : Fld) (i0 : Nat) (hx0 : p0.fields[i0]? = some x0) (hi0 : i0 < List.length p0.fields) (hc0 : (decide ((i0 : Int) < ((List.length p0.fields) : Int))) = true) (h0 : (sEq x0.name p1) = false) {r : Rs} (hr : Q7 G (Q9f p0 p1 (i0 + 1)) r) : Q7 G (Q9f p0 p1 i0) r := by
 have hB0 := H.1
 exact Qb VOK.nil (y := (Qqg p0 p1 (i0 + 1), Qpp p0 p1 (i0 + 1))) [hB 0 hc0, hP 0 (Q1k 6 (Fld.rows p0.fields) i0 _ (Fld.Qg hx0) rfl), hB 6 h0, hP 0 (Qt i0 (by omega))] [] (by kernel_rfl) hr
theorem Qov (p0 : Val) (p1 : ByteArray) (H : Q8e p0 p1) : ∀ (r0 : List Fld) (i0 : Nat), List.drop i0 p0.fields = r0 → Q9d p0 p1 (Q9f p0 p1 i0) (Q4q p0 p1 r0 i0)
 | [], i0, hd => by
  have hc0 : (decide ((i0 : Int) < ((List.length p0.fields) : Int))) = false := by have := Q1o hd; simp; omega
  rw [Q4q]
  exact Qwo p0 p1 H i0 hc0
 | x0 :: r0, i0, hd => by
  obtain ⟨hx0, hi0, hd'⟩ := Q1b hd
  have hc0 : (decide ((i0 : Int) < ((List.length p0.fields) : Int))) = true := by simp; omega
  rw [Q4q]
  cases h0 : (sEq x0.name p1) with
  | true =>
   exact Qxl p0 p1 H x0 i0 hx0 hi0 hc0 h0
  | false =>
   exact Qmf p0 p1 (fun r hr => Qxc p0 p1 H x0 i0 hx0 hi0 hc0 h0 hr) _ (Qov p0 p1 H r0 (i0 + 1) hd')
def Q11 (p0 : Val) (p1 : ByteArray) : Val × Bool :=
 bif (p0.kind == 5) then
  (match (Q4q p0 p1 p0.fields 0) with
  | .k0 => ((Val.mk 0 0 (⟨#[]⟩ : ByteArray) [] []), false)
  | .k1 y1_0 => (y1_0, true))
 else
  ((Val.mk 0 0 (⟨#[]⟩ : ByteArray) [] []), false)
def Q18y (p0 : Val) (p1 : ByteArray) : En := .call 29 [.agg (Val.cells p0), .str p1] []
def Q169 (p0 : Val) (p1 : ByteArray) : Rs := .ret (.tup [.agg (Val.cells (Q11 p0 p1).1), .bool (Q11 p0 p1).2]) []
def Qus (p0 : Val) (p1 : ByteArray) : Prop := (Q8e p0 p1) ∧ True
theorem Qp5 (p0 : Val) (p1 : ByteArray) (H : Qus p0 p1) : Q7 G (Q18y p0 p1) (Q169 p0 p1) := by
 unfold Q169 Q11
 cases h0 : (p0.kind == 5) with
 | true =>
  have hl1 := Qov p0 p1 (H.1) p0.fields 0 (by simp)
  cases hr1 : (Q4q p0 p1 p0.fields 0) with
  | k0 =>
   rw [hr1] at hl1
   obtain ⟨z1, zo1, hl1⟩ := hl1
   exact Q8 (fn := Ir.K1k) rfl VOK.nil [hB 5 h0, hP 2 (Qi (Fld.rows p0.fields) (List.length p0.fields) (Fld.Qd p0.fields))] [aN hl1] (by kernel_rfl)
  | k1 y1_0 =>
   rw [hr1] at hl1
   obtain ⟨z1, zo1, hl1⟩ := hl1
   exact Q8 (fn := Ir.K1k) rfl VOK.nil [hB 5 h0, hP 2 (Qi (Fld.rows p0.fields) (List.length p0.fields) (Fld.Qd p0.fields))] [aN hl1] (by kernel_rfl)
 | false =>
  exact Q8 (fn := Ir.K1k) rfl VOK.nil [hB 5 h0] [] (by kernel_rfl)
def Q3s (p0 : Fld) (o0 : ByteArray) : Bool :=
 (sEq p0.name o0)
def Q19y (p0 : Fld) (o0 : ByteArray) : En := .call 57 [.agg (Fld.cells p0), .bx 0 0] [⟨1, 0, false, [.str o0]⟩]
def Q11t (_p0 : Fld) (o0 : ByteArray) (q0 : Bool) : Rs := .ret (.bool q0) [⟨1, 0, false, [.str o0]⟩]
def Q18f (p0 : Fld) (o0 : ByteArray) : Rs := Q11t p0 o0 (Q3s p0 o0)
theorem Q12j (p0 : Fld) (o0 : ByteArray) : Q7 G (Q19y p0 o0) (Q18f p0 o0) := by
 unfold Q18f Q3s
 exact Q8 (fn := Ir.K1t) rfl (h := [⟨1, 0, false, [.str o0]⟩]) (vw := []) VOK.nil [] [] (by kernel_rfl)
inductive Qtr where
  | k0
  | k1 (q0 : Int)
def Q2q (p0 : List Fld) (o0 : ByteArray) : List Fld → Nat → Qtr
 | [], _i0 =>
  (.k0)
 | x0 :: r0, i0 =>
  bif (Q3s x0 o0) then
   (.k1 (i0 : Int))
  else
   Q2q p0 o0 r0 (i0 + 1)
def Qny (p0 : List Fld) (_o0 : ByteArray) (i0 : Nat) : List PV :=
  [.sl (Fld.rows p0), .fn 57 [] [.bx 0 0], .un, .un, .un, .un, .un, .int .i64 ((List.length p0) : Int), .int .i64 (i0 : Int), .un, .un, .un, .un, .un, .un, .un, .un, .un, .un]
def Qnu (_p0 : List Fld) (o0 : ByteArray) (_i0 : Nat) : List Ob :=
  [⟨1, 0, false, [.str o0]⟩]
def Q9h (p0 : List Fld) (o0 : ByteArray) (i0 : Nat) : En := .loop 1 Ir.Qc7 Ir.Q145 (Qny p0 o0 i0) (Qnu p0 o0 i0)
def Qjy (_p0 : List Fld) (o0 : ByteArray) (z : Nat → PV) (_zo : Nat → List PV) : St :=
  ⟨[z 0, z 1, z 2, z 3, z 4, z 5, z 6, z 7, z 8, z 9, z 10, z 11, z 12, z 13, z 14, z 15, z 16, z 17, z 18], [(0, ⟨1, 0, false, [.str o0]⟩)], 65⟩
def Qj7 (_p0 : List Fld) (o0 : ByteArray) (q0 : Int) (z : Nat → PV) (_zo : Nat → List PV) : St :=
  ⟨[z 0, z 1, z 2, z 3, .int .i64 q0, z 5, z 6, z 7, z 8, z 9, z 10, z 11, z 12, z 13, z 14, z 15, z 16, z 17, z 18], [(0, ⟨1, 0, false, [.str o0]⟩)], 705⟩
def Q8g (p0 : List Fld) (o0 : ByteArray) (e : En) : Qtr → Prop
  | .k0 => ∃ z zo, Q7 G e (.st (.exit 0) (Qjy p0 o0 z zo))
  | .k1 q0 => ∃ z zo, Q7 G e (.st .ret (Qj7 p0 o0 q0 z zo))
theorem Qkp (p0 : List Fld) (o0 : ByteArray) {e e' : En} (h : ∀ r, Q7 G e r → Q7 G e' r) : ∀ q, Q8g p0 o0 e q → Q8g p0 o0 e' q
  | .k0, ⟨z, zo, hz⟩ => ⟨z, zo, h _ hz⟩
  | .k1 _, ⟨z, zo, hz⟩ => ⟨z, zo, h _ hz⟩
def Q8i (p0 : List Fld) (_o0 : ByteArray) : Prop := (List.length p0 ≤ 4611686018427387904) ∧ True
def Qhx (p0 : List Fld) (_o0 : ByteArray) (i0 : Nat) : List PV :=
  [.sl (Fld.rows p0), .fn 57 [] [.bx 0 0], .un, .un, .un, .un, .un, .int .i64 ((List.length p0) : Int), .int .i64 (i0 : Int), .bool false]
def Qgc (_p0 : List Fld) (_o0 : ByteArray) (_i0 : Nat) : List (Nat × List PV) :=
  []
theorem Qw9 (p0 : List Fld) (o0 : ByteArray) (_H : Q8i p0 o0) (i0 : Nat) (hc0 : (decide ((i0 : Int) < ((List.length p0) : Int))) = false) : Q8g p0 o0 (Q9h p0 o0 i0) (.k0) := by
 exact ⟨(envF (Qhx p0 o0 i0)), (zoF (Qgc p0 o0 i0)), Qe VOK.nil (x := ((.exit 0), Qjy p0 o0 (envF (Qhx p0 o0 i0)) (zoF (Qgc p0 o0 i0)))) [hB 0 hc0] [] (by kernel_rfl)⟩
def Qht (p0 : List Fld) (_o0 : ByteArray) (i0 : Nat) (x0 : Fld) : List PV :=
  [.sl (Fld.rows p0), .fn 57 [] [.bx 0 0], .un, .un, .un, .int .i64 (i0 : Int), .un, .int .i64 ((List.length p0) : Int), .int .i64 (i0 : Int), .bool true, .int .i64 (i0 : Int), .fn 57 [] [.bx 0 0], .sl (Fld.rows p0), .int .i64 (i0 : Int), .rf [.str x0.name, .int .i64 x0.v.kind, .int .i64 x0.v.n, .str x0.v.s, .sl (Val.rows x0.v.list), .sl (Fld.rows x0.v.fields)], .agg [.str x0.name, .int .i64 x0.v.kind, .int .i64 x0.v.n, .str x0.v.s, .sl (Val.rows x0.v.list), .sl (Fld.rows x0.v.fields)], .bool true, .int .i64 (i0 : Int)]
def Qdo (_p0 : List Fld) (_o0 : ByteArray) (_i0 : Nat) (_x0 : Fld) : List (Nat × List PV) :=
  []
theorem Qwi (p0 : List Fld) (o0 : ByteArray) (_H : Q8i p0 o0) (x0 : Fld) (i0 : Nat) (hx0 : p0[i0]? = some x0) (_hi0 : i0 < List.length p0) (hc0 : (decide ((i0 : Int) < ((List.length p0) : Int))) = true) (h0 : (Q3s x0 o0) = true) : Q8g p0 o0 (Q9h p0 o0 i0) (.k1 (i0 : Int)) := by
 exact ⟨(envF (Qht p0 o0 i0 x0)), (zoF (Qdo p0 o0 i0 x0)), Qe VOK.nil (x := (.ret, Qj7 p0 o0 (i0 : Int) (envF (Qht p0 o0 i0 x0)) (zoF (Qdo p0 o0 i0 x0)))) [hB 0 hc0, hP 5 (Q1k 6 (Fld.rows p0) i0 _ (Fld.Qg hx0) rfl)] [aN (toldOf (Q12j x0 o0) (congrArg (fun b => Q11t x0 o0 b) h0))] (by kernel_rfl)⟩
theorem Qv9 (p0 : List Fld) (o0 : ByteArray) (H : Q8i p0 o0) (x0 : Fld) (i0 : Nat) (hx0 : p0[i0]? = some x0) (hi0 : i0 < List.length p0) (hc0 : (decide ((i0 : Int) < ((List.length p0) : Int))) = true) (h0 : (Q3s x0 o0) = false) {r : Rs} (hr : Q7 G (Q9h p0 o0 (i0 + 1)) r) : Q7 G (Q9h p0 o0 i0) r := by
 have hB0 := H.1
 exact Qb VOK.nil (y := (Qny p0 o0 (i0 + 1), Qnu p0 o0 (i0 + 1))) [hB 0 hc0, hP 5 (Q1k 6 (Fld.rows p0) i0 _ (Fld.Qg hx0) rfl), hP 2 (Qt i0 (by omega))] [aN (toldOf (Q12j x0 o0) (congrArg (fun b => Q11t x0 o0 b) h0))] (by kernel_rfl) hr
theorem Qni (p0 : List Fld) (o0 : ByteArray) (H : Q8i p0 o0) : ∀ (r0 : List Fld) (i0 : Nat), List.drop i0 p0 = r0 → Q8g p0 o0 (Q9h p0 o0 i0) (Q2q p0 o0 r0 i0)
 | [], i0, hd => by
  have hc0 : (decide ((i0 : Int) < ((List.length p0) : Int))) = false := by have := Q1o hd; simp; omega
  rw [Q2q]
  exact Qw9 p0 o0 H i0 hc0
 | x0 :: r0, i0, hd => by
  obtain ⟨hx0, hi0, hd'⟩ := Q1b hd
  have hc0 : (decide ((i0 : Int) < ((List.length p0) : Int))) = true := by simp; omega
  rw [Q2q]
  cases h0 : (Q3s x0 o0) with
  | true =>
   exact Qwi p0 o0 H x0 i0 hx0 hi0 hc0 h0
  | false =>
   exact Qkp p0 o0 (fun r hr => Qv9 p0 o0 H x0 i0 hx0 hi0 hc0 h0 hr) _ (Qni p0 o0 H r0 (i0 + 1) hd')
def Qx (p0 : List Fld) (o0 : ByteArray) : Int :=
 (match (Q2q p0 o0 p0 0) with
 | .k0 => (-1)
 | .k1 y0_0 => y0_0)
def Q18z (p0 : List Fld) (o0 : ByteArray) : En := .call 69 [.sl (Fld.rows p0), .fn 57 [] [.bx 0 0]] [⟨1, 0, false, [.str o0]⟩]
def Q18p (_p0 : List Fld) (o0 : ByteArray) (q0 : Int) : Rs := .ret (.int .i64 q0) [⟨1, 0, false, [.str o0]⟩]
def Q16w (p0 : List Fld) (o0 : ByteArray) : Rs := Q18p p0 o0 (Qx p0 o0)
def Q168 (p0 : List Fld) (o0 : ByteArray) : Prop := (Q8i p0 o0) ∧ True
theorem Q16c (p0 : List Fld) (o0 : ByteArray) (H : Q168 p0 o0) : Q7 G (Q18z p0 o0) (Q16w p0 o0) := by
 unfold Q16w Qx
 have hl0 := Qni p0 o0 (H.1) p0 0 (by simp)
 cases hr0 : (Q2q p0 o0 p0 0) with
 | k0 =>
  rw [hr0] at hl0
  obtain ⟨z0, zo0, hl0⟩ := hl0
  exact Q8 (fn := Ir.K19) rfl (h := [⟨1, 0, false, [.str o0]⟩]) (vw := []) VOK.nil [hP 2 (Qi (Fld.rows p0) (List.length p0) (Fld.Qd p0))] [aN hl0] (by kernel_rfl)
 | k1 y0_0 =>
  rw [hr0] at hl0
  obtain ⟨z0, zo0, hl0⟩ := hl0
  exact Q8 (fn := Ir.K19) rfl (h := [⟨1, 0, false, [.str o0]⟩]) (vw := []) VOK.nil [hP 2 (Qi (Fld.rows p0) (List.length p0) (Fld.Qd p0))] [aN hl0] (by kernel_rfl)
theorem Qb2 (p0 : List Fld) (o0 : ByteArray) : ∀ (l : List Fld) (i : Nat), match Q2q p0 o0 l i with | .k0 => True | .k1 q => (i : Int) ≤ q ∧ q < (i : Int) + (l.length : Int)
  | [], _ => trivial
  | x :: l, i => by
    rw [Q2q]
    have ih := Qb2 p0 o0 l (i + 1)
    cases Q3s x o0 with
    | true =>
      show (i : Int) ≤ (i : Int) ∧ (i : Int) < _
      simp only [List.length_cons]
      omega
    | false =>
      rw [cond_false]
      cases e : Q2q p0 o0 l (i + 1) with
      | k0 => trivial
      | k1 q =>
        rw [e] at ih
        simp only at ih ⊢
        simp only [List.length_cons]
        omega
theorem Qj (p0 : List Fld) (o0 : ByteArray) : -1 ≤ Qx p0 o0 ∧ Qx p0 o0 < (List.length p0 : Int) := by
  have h := Qb2 p0 o0 p0 0
  unfold Qx
  cases e : Q2q p0 o0 p0 0 with
  | k0 => exact ⟨Int.le_refl _, by simp only; omega⟩
  | k1 q =>
    rw [e] at h
    simp only at h ⊢
    omega
def Q16 (n0 : Nat) (o1 : ByteArray) : Nat → Int → Int → (List Fld) → (List Fld) × Int
 | 0, v0_0, _v0_1, v0_2 => (v0_2, v0_0)
 | k0 + 1, v0_0, v0_1, v0_2 =>
  bif (decide (v0_1 < (n0 : Int))) then
   bif (Q3s (List.getD v0_2 (Int.toNat v0_1) zF) o1) then
    Q16 n0 o1 k0 v0_0 (v0_1 + 1) v0_2
   else
    Q16 n0 o1 k0 (v0_0 + 1) (v0_1 + 1) (List.set v0_2 (Int.toNat v0_0) (List.getD v0_2 (Int.toNat v0_1) zF))
  else
   (v0_2, v0_0)
def Qdi (n0 : Nat) (_o1 : ByteArray) (v0_0 : Int) (v0_1 : Int) (_v0_2 : List Fld) : List PV :=
  [.ms 0 6 0 n0, .fn 57 [] [.bx 1 0], .un, .un, .un, .int .i64 v0_0, .int .i64 v0_1, .un, .un, .un, .un, .un, .un, .un, .un, .un, .un, .un, .un, .un, .un, .un, .un, .un, .un, .un, .un, .un, .un, .un, .un, .un, .un, .un, .un, .un, .un, .un, .un, .un, .un, .un]
def Q9m (_n0 : Nat) (o1 : ByteArray) (_v0_0 : Int) (_v0_1 : Int) (v0_2 : List Fld) : List Ob :=
  [⟨6, 0, false, (Fld.rows v0_2).flatten⟩, ⟨1, 0, false, [.str o1]⟩]
def Q6t (n0 : Nat) (o1 : ByteArray) (v0_0 : Int) (v0_1 : Int) (v0_2 : List Fld) : En := .loop 2 Ir.Qcq Ir.Q13x (Qdi n0 o1 v0_0 v0_1 v0_2) (Q9m n0 o1 v0_0 v0_1 v0_2)
def Qgs (n0 : Nat) (o1 : ByteArray) (q0 : List Fld) (q1 : Int) (z : Nat → PV) (_zo : Nat → List PV) : St :=
  ⟨[.ms 0 6 0 n0, z 1, z 2, z 3, z 4, .int .i64 q1, z 6, z 7, z 8, z 9, z 10, z 11, z 12, z 13, z 14, z 15, z 16, z 17, z 18, z 19, z 20, z 21, z 22, z 23, z 24, z 25, z 26, z 27, z 28, z 29, z 30, z 31, z 32, z 33, z 34, z 35, z 36, z 37, z 38, z 39, z 40, z 41], [(0, ⟨6, 0, false, (Fld.rows q0).flatten⟩), (1, ⟨1, 0, false, [.str o1]⟩)], 258⟩
theorem Qlf (n0 : Nat) (o1 : ByteArray) (v0_0 : Int) (v0_1 : Int) (v0_2 : List Fld) : VOK (Go.Pv.look (number 0 (Q9m n0 o1 v0_0 v0_1 v0_2))) [(0, Fld.rows v0_2)] := (VOK.cons (show Seen _ _ from Q4n (ob := ⟨6, 0, false, (Fld.rows v0_2).flatten⟩) (Fld.Q5 v0_2 6 rfl)) VOK.nil)
def Qbr (n0 : Nat) (o1 : ByteArray) (e : En) (q : (List Fld) × Int) : Prop := ∃ z zo, Q7 G e (.st (.exit 0) (Qgs n0 o1 q.1 q.2 z zo))
theorem Q9g (n0 : Nat) (o1 : ByteArray) {e e' : En} (h : ∀ r, Q7 G e r → Q7 G e' r) : ∀ q, Qbr n0 o1 e q → Qbr n0 o1 e' q
  | _, ⟨z, zo, hz⟩ => ⟨z, zo, h _ hz⟩
theorem Qwy (n0 : Nat) (o1 : ByteArray) (v0_0 : Int) (v0_1 : Int) (v0_2 : List Fld) (ho0_0 : 0 ≤ v0_0) (ho0_1 : v0_0 < v0_1) (_ho0_2 : v0_1 ≤ (n0 : Int)) (ho0_3 : (n0 : Int) ≤ 1152921504606846976) (ho0_4 : List.length v0_2 = n0) (h0 : (decide (v0_1 < (n0 : Int))) = true) (h1 : (Q3s (List.getD v0_2 (Int.toNat v0_1) zF) o1) = true) {r : Rs} (hr : Q7 G (Q6t n0 o1 v0_0 (v0_1 + 1) v0_2) r) : Q7 G (Q6t n0 o1 v0_0 v0_1 v0_2) r := by
 have e0 := of_decide_eq_true h0
 exact Qb (Qlf n0 o1 v0_0 v0_1 v0_2) (y := (Qdi n0 o1 v0_0 (v0_1 + 1) v0_2, Q9m n0 o1 v0_0 (v0_1 + 1) v0_2)) [hB 3 h0, hP 2 (Q1h 0 6 n0 v0_1 (Int.toNat v0_1) rfl (by omega) (by omega)), hP 0 (Q34 0 6 0 false ((Fld.rows v0_2).flatten) (Fld.rows v0_2) 6 true (Int.toNat v0_1) 0 ((Int.toNat v0_1) * 6) (Fld.cells (List.getD v0_2 (Int.toNat v0_1) zF)) (.agg [.str (List.getD v0_2 (Int.toNat v0_1) zF).name, .int .i64 (List.getD v0_2 (Int.toNat v0_1) zF).v.kind, .int .i64 (List.getD v0_2 (Int.toNat v0_1) zF).v.n, .str (List.getD v0_2 (Int.toNat v0_1) zF).v.s, .sl (Val.rows (List.getD v0_2 (Int.toNat v0_1) zF).v.list), .sl (Fld.rows (List.getD v0_2 (Int.toNat v0_1) zF).v.fields)]) rfl rfl (Fld.Qg (Qs v0_2 (Int.toNat v0_1) zF (by omega))) (Fld.Qp v0_2) (by decide) rfl), hP 7 (w_ok (v0_1 + 1) (by omega))] [aN (toldOf (Q12j (List.getD v0_2 (Int.toNat v0_1) zF) o1) (congrArg (fun b => Q11t (List.getD v0_2 (Int.toNat v0_1) zF) o1 b) h1))] (by kernel_rfl) hr
theorem Qxq (n0 : Nat) (o1 : ByteArray) (v0_0 : Int) (v0_1 : Int) (v0_2 : List Fld) (ho0_0 : 0 ≤ v0_0) (ho0_1 : v0_0 < v0_1) (_ho0_2 : v0_1 ≤ (n0 : Int)) (ho0_3 : (n0 : Int) ≤ 1152921504606846976) (ho0_4 : List.length v0_2 = n0) (h0 : (decide (v0_1 < (n0 : Int))) = true) (h1 : (Q3s (List.getD v0_2 (Int.toNat v0_1) zF) o1) = false) {r : Rs} (hr : Q7 G (Q6t n0 o1 (v0_0 + 1) (v0_1 + 1) (List.set v0_2 (Int.toNat v0_0) (List.getD v0_2 (Int.toNat v0_1) zF))) r) : Q7 G (Q6t n0 o1 v0_0 v0_1 v0_2) r := by
 have e0 := of_decide_eq_true h0
 exact Qb (Qlf n0 o1 v0_0 v0_1 v0_2) (y := (Qdi n0 o1 (v0_0 + 1) (v0_1 + 1) (List.set v0_2 (Int.toNat v0_0) (List.getD v0_2 (Int.toNat v0_1) zF)), Q9m n0 o1 (v0_0 + 1) (v0_1 + 1) (List.set v0_2 (Int.toNat v0_0) (List.getD v0_2 (Int.toNat v0_1) zF)))) [hB 3 h0, hP 2 (Q1h 0 6 n0 v0_1 (Int.toNat v0_1) rfl (by omega) (by omega)), hP 0 (Q34 0 6 0 false ((Fld.rows v0_2).flatten) (Fld.rows v0_2) 6 true (Int.toNat v0_1) 0 ((Int.toNat v0_1) * 6) (Fld.cells (List.getD v0_2 (Int.toNat v0_1) zF)) (.agg [.str (List.getD v0_2 (Int.toNat v0_1) zF).name, .int .i64 (List.getD v0_2 (Int.toNat v0_1) zF).v.kind, .int .i64 (List.getD v0_2 (Int.toNat v0_1) zF).v.n, .str (List.getD v0_2 (Int.toNat v0_1) zF).v.s, .sl (Val.rows (List.getD v0_2 (Int.toNat v0_1) zF).v.list), .sl (Fld.rows (List.getD v0_2 (Int.toNat v0_1) zF).v.fields)]) rfl rfl (Fld.Qg (Qs v0_2 (Int.toNat v0_1) zF (by omega))) (Fld.Qp v0_2) (by decide) rfl), hP 9 (Q1h 0 6 n0 v0_0 (Int.toNat v0_0) rfl (by omega) (by omega)), hV 0 [(0, Fld.rows (List.set v0_2 (Int.toNat v0_0) (List.getD v0_2 (Int.toNat v0_1) zF)))] (Qgb 0 6 false ((Fld.rows v0_2).flatten) (Fld.rows v0_2) (Fld.rows (List.set v0_2 (Int.toNat v0_0) (List.getD v0_2 (Int.toNat v0_1) zF))) 6 (Int.toNat v0_0) 0 ((Int.toNat v0_0) * 6) _ (.agg [.str (List.getD v0_2 (Int.toNat v0_1) zF).name, .int .i64 (List.getD v0_2 (Int.toNat v0_1) zF).v.kind, .int .i64 (List.getD v0_2 (Int.toNat v0_1) zF).v.n, .str (List.getD v0_2 (Int.toNat v0_1) zF).v.s, .sl (Val.rows (List.getD v0_2 (Int.toNat v0_1) zF).v.list), .sl (Fld.rows (List.getD v0_2 (Int.toNat v0_1) zF).v.fields)]) rfl rfl (Fld.Qg (Qs v0_2 (Int.toNat v0_0) zF (by omega))) (Fld.Qp v0_2) (by decide) rfl rfl (Fld.Q4d v0_2 (Int.toNat v0_0) (List.getD v0_2 (Int.toNat v0_1) zF))), hS 0 false (Fld.Q5 (List.set v0_2 (Int.toNat v0_0) (List.getD v0_2 (Int.toNat v0_1) zF)) 6 rfl), hP 1 (w_ok (v0_0 + 1) (by have f0 := (Qo ho0_4 (Int.toNat v0_0) (List.getD v0_2 (Int.toNat v0_1) zF)); omega)), hP 2 (w_ok (v0_1 + 1) (by have f0 := (Qo ho0_4 (Int.toNat v0_0) (List.getD v0_2 (Int.toNat v0_1) zF)); omega))] [aN (toldOf (Q12j (List.getD v0_2 (Int.toNat v0_1) zF) o1) (congrArg (fun b => Q11t (List.getD v0_2 (Int.toNat v0_1) zF) o1 b) h1))] (by kernel_rfl) hr
def Qhw (n0 : Nat) (_o1 : ByteArray) (_v0_0 : Int) (v0_1 : Int) (_v0_2 : List Fld) : List PV :=
  [.un, .fn 57 [] [.bx 1 0], .un, .un, .un, .un, .int .i64 v0_1, .un, .un, .un, .un, .un, .un, .un, .un, .un, .int .i64 v0_1, .ms 0 6 0 n0, .int .i64 (n0 : Int), .bool false]
def Qfm (_n0 : Nat) (_o1 : ByteArray) (_v0_0 : Int) (_v0_1 : Int) (_v0_2 : List Fld) : List (Nat × List PV) :=
  []
theorem Qvg (n0 : Nat) (o1 : ByteArray) (v0_0 : Int) (v0_1 : Int) (v0_2 : List Fld) (_ho0_0 : 0 ≤ v0_0) (_ho0_1 : v0_0 < v0_1) (_ho0_2 : v0_1 ≤ (n0 : Int)) (_ho0_3 : (n0 : Int) ≤ 1152921504606846976) (_ho0_4 : List.length v0_2 = n0) (h0 : (decide (v0_1 < (n0 : Int))) = false) : Qbr n0 o1 (Q6t n0 o1 v0_0 v0_1 v0_2) (v0_2, v0_0) := by
 exact ⟨(envF (Qhw n0 o1 v0_0 v0_1 v0_2)), (zoF (Qfm n0 o1 v0_0 v0_1 v0_2)), Qe (Qlf n0 o1 v0_0 v0_1 v0_2) (x := ((.exit 0), Qgs n0 o1 v0_2 v0_0 (envF (Qhw n0 o1 v0_0 v0_1 v0_2)) (zoF (Qfm n0 o1 v0_0 v0_1 v0_2)))) [hB 3 h0] [] (by kernel_rfl)⟩
theorem Qfi (n0 : Nat) (o1 : ByteArray) : ∀ (k0 : Nat) (v0_0 : Int) (v0_1 : Int) (v0_2 : List Fld), 0 ≤ v0_0 → v0_0 < v0_1 → v0_1 ≤ (n0 : Int) → (n0 : Int) ≤ 1152921504606846976 → List.length v0_2 = n0 → Int.toNat ((n0 : Int) - v0_1) < k0 → Qbr n0 o1 (Q6t n0 o1 v0_0 v0_1 v0_2) (Q16 n0 o1 k0 v0_0 v0_1 v0_2)
 | 0, v0_0, v0_1, v0_2, _, _, _, _, _, hm => absurd hm (Nat.not_lt_zero _)
 | k0 + 1, v0_0, v0_1, v0_2, ho0_0, ho0_1, ho0_2, ho0_3, ho0_4, hm => by
  rw [Q16]
  cases h0 : (decide (v0_1 < (n0 : Int))) with
  | true =>
   have e0 := of_decide_eq_true h0
   cases h1 : (Q3s (List.getD v0_2 (Int.toNat v0_1) zF) o1) with
   | true =>
    exact Q9g n0 o1 (fun r hr => Qwy n0 o1 v0_0 v0_1 v0_2 ho0_0 ho0_1 ho0_2 ho0_3 ho0_4 h0 h1 hr) _ (Qfi n0 o1 k0 v0_0 (v0_1 + 1) v0_2 (by omega) (by omega) (by omega) (by omega) ho0_4 (by omega))
   | false =>
    exact Q9g n0 o1 (fun r hr => Qxq n0 o1 v0_0 v0_1 v0_2 ho0_0 ho0_1 ho0_2 ho0_3 ho0_4 h0 h1 hr) _ (Qfi n0 o1 k0 (v0_0 + 1) (v0_1 + 1) (List.set v0_2 (Int.toNat v0_0) (List.getD v0_2 (Int.toNat v0_1) zF)) (by have f0 := (Qo ho0_4 (Int.toNat v0_0) (List.getD v0_2 (Int.toNat v0_1) zF)); omega) (by have f0 := (Qo ho0_4 (Int.toNat v0_0) (List.getD v0_2 (Int.toNat v0_1) zF)); omega) (by have f0 := (Qo ho0_4 (Int.toNat v0_0) (List.getD v0_2 (Int.toNat v0_1) zF)); omega) (by have f0 := (Qo ho0_4 (Int.toNat v0_0) (List.getD v0_2 (Int.toNat v0_1) zF)); omega) (Qo ho0_4 (Int.toNat v0_0) (List.getD v0_2 (Int.toNat v0_1) zF)) (by have f0 := (Qo ho0_4 (Int.toNat v0_0) (List.getD v0_2 (Int.toNat v0_1) zF)); omega))
  | false =>
   exact Qvg n0 o1 v0_0 v0_1 v0_2 ho0_0 ho0_1 ho0_2 ho0_3 ho0_4 h0
theorem Q3q (n0 : Nat) (o1 : ByteArray) : ∀ (k0 : Nat) (v0_0 : Int) (v0_1 : Int) (v0_2 : List Fld), List.length v0_2 = n0 → List.length (Q16 n0 o1 k0 v0_0 v0_1 v0_2).1 = n0
 | 0, v0_0, v0_1, v0_2, ho0_4 => by rw [Q16]; exact ho0_4
 | k0 + 1, v0_0, v0_1, v0_2, ho0_4 => by
  rw [Q16]
  cases h0 : (decide (v0_1 < (n0 : Int))) with
  | true =>
   cases h1 : (Q3s (List.getD v0_2 (Int.toNat v0_1) zF) o1) with
   | true =>
    exact Q3q n0 o1 k0 v0_0 (v0_1 + 1) v0_2 ho0_4
   | false =>
    exact Q3q n0 o1 k0 (v0_0 + 1) (v0_1 + 1) (List.set v0_2 (Int.toNat v0_0) (List.getD v0_2 (Int.toNat v0_1) zF)) (Qo ho0_4 (Int.toNat v0_0) (List.getD v0_2 (Int.toNat v0_1) zF))
  | false =>
   exact ho0_4
theorem Q3x (n0 : Nat) (o1 : ByteArray) : ∀ (k0 : Nat) (v0_0 : Int) (v0_1 : Int) (v0_2 : List Fld), 0 ≤ v0_0 → v0_0 < v0_1 → v0_1 ≤ (n0 : Int) → (n0 : Int) ≤ 1152921504606846976 → List.length v0_2 = n0 → Int.toNat ((n0 : Int) - v0_1) < k0 → 0 ≤ (Q16 n0 o1 k0 v0_0 v0_1 v0_2).2 ∧ (Q16 n0 o1 k0 v0_0 v0_1 v0_2).2 < (n0 : Int)
 | 0, v0_0, v0_1, v0_2, _, _, _, _, _, hm => absurd hm (Nat.not_lt_zero _)
 | k0 + 1, v0_0, v0_1, v0_2, ho0_0, ho0_1, ho0_2, ho0_3, ho0_4, hm => by
  rw [Q16]
  cases h0 : (decide (v0_1 < (n0 : Int))) with
  | true =>
   have e0 := of_decide_eq_true h0
   cases h1 : (Q3s (List.getD v0_2 (Int.toNat v0_1) zF) o1) with
   | true =>
    exact Q3x n0 o1 k0 v0_0 (v0_1 + 1) v0_2 (by omega) (by omega) (by omega) (by omega) ho0_4 (by omega)
   | false =>
    exact Q3x n0 o1 k0 (v0_0 + 1) (v0_1 + 1) (List.set v0_2 (Int.toNat v0_0) (List.getD v0_2 (Int.toNat v0_1) zF)) (by have f0 := (Qo ho0_4 (Int.toNat v0_0) (List.getD v0_2 (Int.toNat v0_1) zF)); omega) (by have f0 := (Qo ho0_4 (Int.toNat v0_0) (List.getD v0_2 (Int.toNat v0_1) zF)); omega) (by have f0 := (Qo ho0_4 (Int.toNat v0_0) (List.getD v0_2 (Int.toNat v0_1) zF)); omega) (by have f0 := (Qo ho0_4 (Int.toNat v0_0) (List.getD v0_2 (Int.toNat v0_1) zF)); omega) (Qo ho0_4 (Int.toNat v0_0) (List.getD v0_2 (Int.toNat v0_1) zF)) (by have f0 := (Qo ho0_4 (Int.toNat v0_0) (List.getD v0_2 (Int.toNat v0_1) zF)); omega)
  | false =>
   have e0 := of_decide_eq_false h0
   exact (show 0 ≤ v0_0 ∧ v0_0 < (n0 : Int) from ⟨(by omega), (by omega)⟩)
def Qkz (n0 : Nat) (o0 : List Fld) (o1 : ByteArray) : Nat × (List Fld) :=
 bif ((Qx o0 o1) == (-1)) then
  (n0, o0)
 else
  ((Int.toNat (Q16 n0 o1 ((Int.toNat ((n0 : Int) - ((Qx o0 o1) + 1))) + 1) (Qx o0 o1) ((Qx o0 o1) + 1) o0).2), (List.take (Int.toNat (Q16 n0 o1 ((Int.toNat ((n0 : Int) - ((Qx o0 o1) + 1))) + 1) (Qx o0 o1) ((Qx o0 o1) + 1) o0).2) (Q16 n0 o1 ((Int.toNat ((n0 : Int) - ((Qx o0 o1) + 1))) + 1) (Qx o0 o1) ((Qx o0 o1) + 1) o0).1))
def Q19r (n0 : Nat) (o0 : List Fld) (o1 : ByteArray) : En := .call 56 [.ms 0 6 0 n0, .fn 57 [] [.bx 1 0]] [⟨6, 0, false, (Fld.rows o0).flatten⟩, ⟨1, 0, false, [.str o1]⟩]
def Q18m (_n0 : Nat) (_o0 : List Fld) (o1 : ByteArray) (q0 : Nat) (q1 : List Fld) : Rs := .ret (.ms 0 6 0 q0) [⟨6, 0, false, (Fld.rows q1).flatten⟩, ⟨1, 0, false, [.str o1]⟩]
def Q16f (n0 : Nat) (o0 : List Fld) (o1 : ByteArray) : Rs := Q18m n0 o0 o1 (Qkz n0 o0 o1).1 (Qkz n0 o0 o1).2
def Q17v (_n0 : Nat) (o0 : List Fld) (o1 : ByteArray) : Prop := (Q168 o0 o1) ∧ True
theorem Q19h (n0 : Nat) (o0 : List Fld) (o1 : ByteArray) (hn0 : List.length o0 = n0) (hq0 : (n0 : Int) ≤ 1152921504606846976) (H : Q17v n0 o0 o1) : Q7 G (Q19r n0 o0 o1) (Q16f n0 o0 o1) := by
 unfold Q16f Qkz
 cases h0 : ((Qx o0 o1) == (-1)) with
 | true =>
  exact Q8 (fn := Ir.K18) rfl (h := [⟨6, 0, false, (Fld.rows o0).flatten⟩, ⟨1, 0, false, [.str o1]⟩]) (vw := [(0, Fld.rows o0)]) (VOK.cons (show Seen _ _ from Q4n (ob := ⟨6, 0, false, (Fld.rows o0).flatten⟩) (Fld.Q5 o0 6 rfl)) VOK.nil) [hQ ((Fld.Qd o0).trans hn0).symm, hB 6 h0] [aN (Q16c o0 o1 H.1)] (by kernel_rfl)
 | false =>
  have e0 := beq_eq_false_iff_ne.1 h0
  have hl1 := Qfi n0 o1 ((Int.toNat ((n0 : Int) - ((Qx o0 o1) + 1))) + 1) (Qx o0 o1) ((Qx o0 o1) + 1) o0 (by have g0 := (Qj o0 o1); omega) (by have g0 := (Qj o0 o1); omega) (by have g0 := (Qj o0 o1); omega) (by have g0 := (Qj o0 o1); omega) hn0 (by omega)
  obtain ⟨z1, zo1, hl1⟩ := hl1
  exact Q8 (fn := Ir.K18) rfl (h := [⟨6, 0, false, (Fld.rows o0).flatten⟩, ⟨1, 0, false, [.str o1]⟩]) (vw := [(0, Fld.rows o0)]) (VOK.cons (show Seen _ _ from Q4n (ob := ⟨6, 0, false, (Fld.rows o0).flatten⟩) (Fld.Q5 o0 6 rfl)) VOK.nil) [hQ ((Fld.Qd o0).trans hn0).symm, hB 6 h0, hP 1 (w_ok ((Qx o0 o1) + 1) (by have g0 := (Qj o0 o1); omega)), hS 0 false (Fld.Q5 (Q16 n0 o1 ((Int.toNat ((n0 : Int) - ((Qx o0 o1) + 1))) + 1) (Qx o0 o1) ((Qx o0 o1) + 1) o0).1 6 rfl), hP 3 (Q13i 0 6 n0 (Q16 n0 o1 ((Int.toNat ((n0 : Int) - ((Qx o0 o1) + 1))) + 1) (Qx o0 o1) ((Qx o0 o1) + 1) o0).2 (by have f0 := (Q3q n0 o1 ((Int.toNat ((n0 : Int) - ((Qx o0 o1) + 1))) + 1) (Qx o0 o1) ((Qx o0 o1) + 1) o0 hn0); have g0 := (Qj o0 o1); have g1 := Q3x n0 o1 ((Int.toNat ((n0 : Int) - ((Qx o0 o1) + 1))) + 1) (Qx o0 o1) ((Qx o0 o1) + 1) o0 (by have g0 := (Qj o0 o1); omega) (by have g0 := (Qj o0 o1); omega) (by have g0 := (Qj o0 o1); omega) (by have g0 := (Qj o0 o1); omega) hn0 (by omega); omega) (by have f0 := (Q3q n0 o1 ((Int.toNat ((n0 : Int) - ((Qx o0 o1) + 1))) + 1) (Qx o0 o1) ((Qx o0 o1) + 1) o0 hn0); have g0 := (Qj o0 o1); have g1 := Q3x n0 o1 ((Int.toNat ((n0 : Int) - ((Qx o0 o1) + 1))) + 1) (Qx o0 o1) ((Qx o0 o1) + 1) o0 (by have g0 := (Qj o0 o1); omega) (by have g0 := (Qj o0 o1); omega) (by have g0 := (Qj o0 o1); omega) (by have g0 := (Qj o0 o1); omega) hn0 (by omega); omega)), hV 0 [(0, Fld.rows (List.take (Int.toNat (Q16 n0 o1 ((Int.toNat ((n0 : Int) - ((Qx o0 o1) + 1))) + 1) (Qx o0 o1) ((Qx o0 o1) + 1) o0).2) (Q16 n0 o1 ((Int.toNat ((n0 : Int) - ((Qx o0 o1) + 1))) + 1) (Qx o0 o1) ((Qx o0 o1) + 1) o0).1))] (Q16a 0 6 false (Fld.rows (Q16 n0 o1 ((Int.toNat ((n0 : Int) - ((Qx o0 o1) + 1))) + 1) (Qx o0 o1) ((Qx o0 o1) + 1) o0).1) (Fld.rows (List.take (Int.toNat (Q16 n0 o1 ((Int.toNat ((n0 : Int) - ((Qx o0 o1) + 1))) + 1) (Qx o0 o1) ((Qx o0 o1) + 1) o0).2) (Q16 n0 o1 ((Int.toNat ((n0 : Int) - ((Qx o0 o1) + 1))) + 1) (Qx o0 o1) ((Qx o0 o1) + 1) o0).1)) (Int.toNat (Q16 n0 o1 ((Int.toNat ((n0 : Int) - ((Qx o0 o1) + 1))) + 1) (Qx o0 o1) ((Qx o0 o1) + 1) o0).2) (n0 - (Int.toNat (Q16 n0 o1 ((Int.toNat ((n0 : Int) - ((Qx o0 o1) + 1))) + 1) (Qx o0 o1) ((Qx o0 o1) + 1) o0).2)) [.str (⟨#[]⟩ : ByteArray), .int .i64 0, .int .i64 0, .str (⟨#[]⟩ : ByteArray), .ns 5, .ns 6] (Fld.Qp (Q16 n0 o1 ((Int.toNat ((n0 : Int) - ((Qx o0 o1) + 1))) + 1) (Qx o0 o1) ((Qx o0 o1) + 1) o0).1) (by rw [Fld.Qd]; exact (by have f0 := (Q3q n0 o1 ((Int.toNat ((n0 : Int) - ((Qx o0 o1) + 1))) + 1) (Qx o0 o1) ((Qx o0 o1) + 1) o0 hn0); have g0 := (Qj o0 o1); have g1 := Q3x n0 o1 ((Int.toNat ((n0 : Int) - ((Qx o0 o1) + 1))) + 1) (Qx o0 o1) ((Qx o0 o1) + 1) o0 (by have g0 := (Qj o0 o1); omega) (by have g0 := (Qj o0 o1); omega) (by have g0 := (Qj o0 o1); omega) (by have g0 := (Qj o0 o1); omega) hn0 (by omega); omega)) (by have f0 := (Q3q n0 o1 ((Int.toNat ((n0 : Int) - ((Qx o0 o1) + 1))) + 1) (Qx o0 o1) ((Qx o0 o1) + 1) o0 hn0); have g0 := (Qj o0 o1); have g1 := Q3x n0 o1 ((Int.toNat ((n0 : Int) - ((Qx o0 o1) + 1))) + 1) (Qx o0 o1) ((Qx o0 o1) + 1) o0 (by have g0 := (Qj o0 o1); omega) (by have g0 := (Qj o0 o1); omega) (by have g0 := (Qj o0 o1); omega) (by have g0 := (Qj o0 o1); omega) hn0 (by omega); omega) (by rw [Fld.Ql4])), hS 0 false (Fld.Q5 (List.take (Int.toNat (Q16 n0 o1 ((Int.toNat ((n0 : Int) - ((Qx o0 o1) + 1))) + 1) (Qx o0 o1) ((Qx o0 o1) + 1) o0).2) (Q16 n0 o1 ((Int.toNat ((n0 : Int) - ((Qx o0 o1) + 1))) + 1) (Qx o0 o1) ((Qx o0 o1) + 1) o0).1) 6 rfl), hP 2 (Q131 0 6 n0 (Q16 n0 o1 ((Int.toNat ((n0 : Int) - ((Qx o0 o1) + 1))) + 1) (Qx o0 o1) ((Qx o0 o1) + 1) o0).2 (by have g0 := (Qj o0 o1); have g1 := Q3x n0 o1 ((Int.toNat ((n0 : Int) - ((Qx o0 o1) + 1))) + 1) (Qx o0 o1) ((Qx o0 o1) + 1) o0 (by have g0 := (Qj o0 o1); omega) (by have g0 := (Qj o0 o1); omega) (by have g0 := (Qj o0 o1); omega) (by have g0 := (Qj o0 o1); omega) hn0 (by omega); omega) (by have g0 := (Qj o0 o1); have g1 := Q3x n0 o1 ((Int.toNat ((n0 : Int) - ((Qx o0 o1) + 1))) + 1) (Qx o0 o1) ((Qx o0 o1) + 1) o0 (by have g0 := (Qj o0 o1); omega) (by have g0 := (Qj o0 o1); omega) (by have g0 := (Qj o0 o1); omega) (by have g0 := (Qj o0 o1); omega) hn0 (by omega); omega))] [aN (Q16c o0 o1 H.1), aV [(0, Fld.rows (Q16 n0 o1 ((Int.toNat ((n0 : Int) - ((Qx o0 o1) + 1))) + 1) (Qx o0 o1) ((Qx o0 o1) + 1) o0).1)] hl1] (by kernel_rfl)
def Q2j (p0 : Val) (p1 : ByteArray) : Nat × (List Fld) :=
 bif (p0.kind == 5) then
  ((Qkz (List.length p0.fields) p0.fields p1).1, (Qkz (List.length p0.fields) p0.fields p1).2)
 else
  (0, [])
def Q1a9 (p0 : Val) (p1 : ByteArray) : En := .call 46 [.agg (Val.cells p0), .str p1] []
def Q18x (_p0 : Val) (_p1 : ByteArray) (q0 : Nat) (q1 : List Fld) : Rs := .ret (.ms 0 6 0 q0) [⟨6, 0, true, (Fld.rows q1).flatten⟩]
def Q18h (p0 : Val) (p1 : ByteArray) : Rs := Q18x p0 p1 (Q2j p0 p1).1 (Q2j p0 p1).2
def Q12c (p0 : Val) (p1 : ByteArray) : Prop := (List.length p0.fields * 96 ≤ 140737488355328) ∧ ((p0.kind == 5) = true → ((List.length p0.fields) : Int) ≤ 1152921504606846976) ∧ (Q17v (List.length p0.fields) p0.fields p1) ∧ True
theorem Q171 (p0 : Val) (p1 : ByteArray) (H : Q12c p0 p1) : Q7 G (Q1a9 p0 p1) (Q18h p0 p1) := by
 unfold Q18h Q2j
 cases h0 : (p0.kind == 5) with
 | true =>
  exact Q8 (fn := Ir.K1s) rfl VOK.nil [hP 5 (dec (!(p0.kind == 5)) false (by rw [h0]; rfl)), hQ (Fld.Q5 p0.fields 6 rfl), hQ (Fld.Q5 (Qkz (List.length p0.fields) p0.fields p1).2 6 rfl)] [aV [(0, Fld.rows p0.fields)] (Q5i (G := G) (f := 41) (sz := 6) (bytes := 96) rfl (Fld.Qd p0.fields) (Fld.Q5 p0.fields 6 rfl) H.1), aV [(0, Fld.rows (Qkz (List.length p0.fields) p0.fields p1).2)] (Q19h (List.length p0.fields) p0.fields p1 rfl (H.2.1 h0) H.2.2.1)] (by kernel_rfl)
 | false =>
  exact Q8 (fn := Ir.K1s) rfl VOK.nil [hP 5 (dec (!(p0.kind == 5)) true (by rw [h0]; rfl))] [] (by kernel_rfl)
def Qx4 (p0 : List Val) : Val :=
 (Val.mk 4 0 (⟨#[]⟩ : ByteArray) p0 [])
def Q17j (p0 : List Val) : En := .call 40 [.sl (Val.rows p0)] []
def Q167 (p0 : List Val) : Rs := .ret (.agg (Val.cells (Qx4 p0))) []
def Q14p (p0 : List Val) : Prop := (Qg2 (Val.mk 4 0 (⟨#[]⟩ : ByteArray) p0 [])) ∧ True
theorem Q193 (p0 : List Val) (H : Q14p p0) : Q7 G (Q17j p0) (Q167 p0) := by
 unfold Q167 Qx4
 exact Q8 (fn := Ir.K1l) rfl VOK.nil [] [aN (Q139 (Val.mk 4 0 (⟨#[]⟩ : ByteArray) p0 []) H.1)] (by kernel_rfl)
end Go.Proofs.Ytnhhddbbppbblaa
end

section
/- What building a map computes (printed by a program). -/
namespace Go.Proofs.Ytnhhddbbppbblaa
open Go.Pv
def Q28 (p0 : Fld) (p1 : Fld) : Int :=
 (Qb7 p0.name p1.name)
def Q19n (p0 : Fld) (p1 : Fld) : En := .call 43 [.agg (Fld.cells p0), .agg (Fld.cells p1)] []
def Q15t (p0 : Fld) (p1 : Fld) : Rs := .ret (.int .i64 (Q28 p0 p1)) []
theorem Qnr (p0 : Fld) (p1 : Fld) : Q7 G (Q19n p0 p1) (Q15t p0 p1) := by
 unfold Q15t Q28
 exact Q8 (fn := Ir.K1n) rfl VOK.nil [] [aN (Q14v p0.name p1.name)] (by kernel_rfl)
def Q2a (n0 : Nat) (p1 : Int) (p2 : Int) (v0_0 : Int) : Nat → (List Fld) → Int → List Fld
 | 0, v1_0, _v1_1 => v1_0
 | k1 + 1, v1_0, v1_1 =>
  bif (decide (p1 < v1_1)) then
   bif (decide ((Q28 (List.getD v1_0 (Int.toNat v1_1) zF) (List.getD v1_0 (Int.toNat (v1_1 - 1)) zF)) < 0)) then
    Q2a n0 p1 p2 v0_0 k1 (List.set (List.set v1_0 (Int.toNat v1_1) (List.getD v1_0 (Int.toNat (v1_1 - 1)) zF)) (Int.toNat (v1_1 - 1)) (List.getD v1_0 (Int.toNat v1_1) zF)) (v1_1 - 1)
   else
    v1_0
  else
   v1_0
def Qmx (n0 : Nat) (p1 : Int) (p2 : Int) (v0_0 : Int) (_v1_0 : List Fld) (v1_1 : Int) : List PV :=
  [.ms 0 6 0 n0, .int .i64 p1, .int .i64 p2, .fn 43 [] [], .un, .un, .un, .un, .int .i64 v0_0, .int .i64 v1_1, .un, .un, .un, .un, .un, .un, .un, .un, .un, .un, .un, .un, .un, .un, .un, .un, .un, .un, .un, .un, .un, .un, .un, .un, .un, .un, .un, .un, .un, .un, .un, .un, .un, .un, .un, .un, .un, .un, .un, .un, .un, .un, .un]
def Qdb (_n0 : Nat) (_p1 : Int) (_p2 : Int) (_v0_0 : Int) (v1_0 : List Fld) (_v1_1 : Int) : List Ob :=
  [⟨6, 0, false, (Fld.rows v1_0).flatten⟩]
def Q73 (n0 : Nat) (p1 : Int) (p2 : Int) (v0_0 : Int) (v1_0 : List Fld) (v1_1 : Int) : En := .loop 1 Ir.Qfb Ir.Q13t (Qmx n0 p1 p2 v0_0 v1_0 v1_1) (Qdb n0 p1 p2 v0_0 v1_0 v1_1)
def Q6p (n0 : Nat) (p1 : Int) (p2 : Int) (v0_0 : Int) (q0 : List Fld) (z : Nat → PV) (_zo : Nat → List PV) : St :=
  ⟨[.ms 0 6 0 n0, .int .i64 p1, .int .i64 p2, .fn 43 [] [], z 4, z 5, z 6, z 7, .int .i64 v0_0, z 9, z 10, z 11, z 12, z 13, z 14, z 15, z 16, z 17, z 18, z 19, z 20, z 21, z 22, z 23, z 24, z 25, z 26, z 27, z 28, z 29, z 30, z 31, z 32, z 33, z 34, z 35, z 36, z 37, z 38, z 39, z 40, z 41, z 42, z 43, z 44, z 45, z 46, z 47, z 48, z 49, z 50, z 51, z 52], [(0, ⟨6, 0, false, (Fld.rows q0).flatten⟩)], 1089⟩
theorem Ql5 (n0 : Nat) (p1 : Int) (p2 : Int) (v0_0 : Int) (v1_0 : List Fld) (v1_1 : Int) : VOK (Go.Pv.look (number 0 (Qdb n0 p1 p2 v0_0 v1_0 v1_1))) [(0, Fld.rows v1_0)] := (VOK.cons (show Seen _ _ from Q4n (ob := ⟨6, 0, false, (Fld.rows v1_0).flatten⟩) (Fld.Q5 v1_0 6 rfl)) VOK.nil)
def Q8a (n0 : Nat) (p1 : Int) (p2 : Int) (v0_0 : Int) (e : En) (q : List Fld) : Prop := ∃ z zo, Q7 G e (.st (.exit 2) (Q6p n0 p1 p2 v0_0 q z zo))
theorem Qlz (n0 : Nat) (p1 : Int) (p2 : Int) (v0_0 : Int) {e e' : En} (h : ∀ r, Q7 G e r → Q7 G e' r) : ∀ q, Q8a n0 p1 p2 v0_0 e q → Q8a n0 p1 p2 v0_0 e' q
  | _, ⟨z, zo, hz⟩ => ⟨z, zo, h _ hz⟩
theorem Qug (n0 : Nat) (p1 : Int) (p2 : Int) (v0_0 : Int) (v1_0 : List Fld) (v1_1 : Int) (ho1_0 : 0 ≤ p1) (_ho1_1 : p1 ≤ v1_1) (ho1_2 : v1_1 < n0) (ho1_3 : (n0 : Int) ≤ 1152921504606846976) (ho1_4 : List.length v1_0 = n0) (h0 : (decide (p1 < v1_1)) = true) (h1 : (decide ((Q28 (List.getD v1_0 (Int.toNat v1_1) zF) (List.getD v1_0 (Int.toNat (v1_1 - 1)) zF)) < 0)) = true) {r : Rs} (hr : Q7 G (Q73 n0 p1 p2 v0_0 (List.set (List.set v1_0 (Int.toNat v1_1) (List.getD v1_0 (Int.toNat (v1_1 - 1)) zF)) (Int.toNat (v1_1 - 1)) (List.getD v1_0 (Int.toNat v1_1) zF)) (v1_1 - 1)) r) : Q7 G (Q73 n0 p1 p2 v0_0 v1_0 v1_1) r := by
 have e0 := of_decide_eq_true h0; have e1 := of_decide_eq_true h1
 exact Qb (Ql5 n0 p1 p2 v0_0 v1_0 v1_1) (y := (Qmx n0 p1 p2 v0_0 (List.set (List.set v1_0 (Int.toNat v1_1) (List.getD v1_0 (Int.toNat (v1_1 - 1)) zF)) (Int.toNat (v1_1 - 1)) (List.getD v1_0 (Int.toNat v1_1) zF)) (v1_1 - 1), Qdb n0 p1 p2 v0_0 (List.set (List.set v1_0 (Int.toNat v1_1) (List.getD v1_0 (Int.toNat (v1_1 - 1)) zF)) (Int.toNat (v1_1 - 1)) (List.getD v1_0 (Int.toNat v1_1) zF)) (v1_1 - 1))) [hB 2 h0, hP 4 (Q1h 0 6 n0 v1_1 (Int.toNat v1_1) rfl (by omega) (by omega)), hP 0 (Q34 0 6 0 false ((Fld.rows v1_0).flatten) (Fld.rows v1_0) 6 true (Int.toNat v1_1) 0 ((Int.toNat v1_1) * 6) (Fld.cells (List.getD v1_0 (Int.toNat v1_1) zF)) (.agg [.str (List.getD v1_0 (Int.toNat v1_1) zF).name, .int .i64 (List.getD v1_0 (Int.toNat v1_1) zF).v.kind, .int .i64 (List.getD v1_0 (Int.toNat v1_1) zF).v.n, .str (List.getD v1_0 (Int.toNat v1_1) zF).v.s, .sl (Val.rows (List.getD v1_0 (Int.toNat v1_1) zF).v.list), .sl (Fld.rows (List.getD v1_0 (Int.toNat v1_1) zF).v.fields)]) rfl rfl (Fld.Qg (Qs v1_0 (Int.toNat v1_1) zF (by omega))) (Fld.Qp v1_0) (by decide) rfl), hP 2 (w_ok (v1_1 - 1) (by omega)), hP 0 (Q1h 0 6 n0 (v1_1 - 1) (Int.toNat (v1_1 - 1)) rfl (by omega) (by omega)), hP 0 (Q34 0 6 0 false ((Fld.rows v1_0).flatten) (Fld.rows v1_0) 6 true (Int.toNat (v1_1 - 1)) 0 ((Int.toNat (v1_1 - 1)) * 6) (Fld.cells (List.getD v1_0 (Int.toNat (v1_1 - 1)) zF)) (.agg [.str (List.getD v1_0 (Int.toNat (v1_1 - 1)) zF).name, .int .i64 (List.getD v1_0 (Int.toNat (v1_1 - 1)) zF).v.kind, .int .i64 (List.getD v1_0 (Int.toNat (v1_1 - 1)) zF).v.n, .str (List.getD v1_0 (Int.toNat (v1_1 - 1)) zF).v.s, .sl (Val.rows (List.getD v1_0 (Int.toNat (v1_1 - 1)) zF).v.list), .sl (Fld.rows (List.getD v1_0 (Int.toNat (v1_1 - 1)) zF).v.fields)]) rfl rfl (Fld.Qg (Qs v1_0 (Int.toNat (v1_1 - 1)) zF (by omega))) (Fld.Qp v1_0) (by decide) rfl), hB 1 h1, hP 5 (w_ok (v1_1 - 1) (by omega)), hP 2 (w_ok (v1_1 - 1) (by omega)), hP 0 (Q1h 0 6 n0 (v1_1 - 1) (Int.toNat (v1_1 - 1)) rfl (by omega) (by omega)), hP 0 (Q34 0 6 0 false ((Fld.rows v1_0).flatten) (Fld.rows v1_0) 6 true (Int.toNat (v1_1 - 1)) 0 ((Int.toNat (v1_1 - 1)) * 6) (Fld.cells (List.getD v1_0 (Int.toNat (v1_1 - 1)) zF)) (.agg [.str (List.getD v1_0 (Int.toNat (v1_1 - 1)) zF).name, .int .i64 (List.getD v1_0 (Int.toNat (v1_1 - 1)) zF).v.kind, .int .i64 (List.getD v1_0 (Int.toNat (v1_1 - 1)) zF).v.n, .str (List.getD v1_0 (Int.toNat (v1_1 - 1)) zF).v.s, .sl (Val.rows (List.getD v1_0 (Int.toNat (v1_1 - 1)) zF).v.list), .sl (Fld.rows (List.getD v1_0 (Int.toNat (v1_1 - 1)) zF).v.fields)]) rfl rfl (Fld.Qg (Qs v1_0 (Int.toNat (v1_1 - 1)) zF (by omega))) (Fld.Qp v1_0) (by decide) rfl), hP 2 (Q1h 0 6 n0 v1_1 (Int.toNat v1_1) rfl (by omega) (by omega)), hP 0 (Q34 0 6 0 false ((Fld.rows v1_0).flatten) (Fld.rows v1_0) 6 true (Int.toNat v1_1) 0 ((Int.toNat v1_1) * 6) (Fld.cells (List.getD v1_0 (Int.toNat v1_1) zF)) (.agg [.str (List.getD v1_0 (Int.toNat v1_1) zF).name, .int .i64 (List.getD v1_0 (Int.toNat v1_1) zF).v.kind, .int .i64 (List.getD v1_0 (Int.toNat v1_1) zF).v.n, .str (List.getD v1_0 (Int.toNat v1_1) zF).v.s, .sl (Val.rows (List.getD v1_0 (Int.toNat v1_1) zF).v.list), .sl (Fld.rows (List.getD v1_0 (Int.toNat v1_1) zF).v.fields)]) rfl rfl (Fld.Qg (Qs v1_0 (Int.toNat v1_1) zF (by omega))) (Fld.Qp v1_0) (by decide) rfl), hP 0 (Q1h 0 6 n0 v1_1 (Int.toNat v1_1) rfl (by omega) (by omega)), hV 0 [(0, Fld.rows (List.set v1_0 (Int.toNat v1_1) (List.getD v1_0 (Int.toNat (v1_1 - 1)) zF)))] (Qgb 0 6 false ((Fld.rows v1_0).flatten) (Fld.rows v1_0) (Fld.rows (List.set v1_0 (Int.toNat v1_1) (List.getD v1_0 (Int.toNat (v1_1 - 1)) zF))) 6 (Int.toNat v1_1) 0 ((Int.toNat v1_1) * 6) _ (.agg [.str (List.getD v1_0 (Int.toNat (v1_1 - 1)) zF).name, .int .i64 (List.getD v1_0 (Int.toNat (v1_1 - 1)) zF).v.kind, .int .i64 (List.getD v1_0 (Int.toNat (v1_1 - 1)) zF).v.n, .str (List.getD v1_0 (Int.toNat (v1_1 - 1)) zF).v.s, .sl (Val.rows (List.getD v1_0 (Int.toNat (v1_1 - 1)) zF).v.list), .sl (Fld.rows (List.getD v1_0 (Int.toNat (v1_1 - 1)) zF).v.fields)]) rfl rfl (Fld.Qg (Qs v1_0 (Int.toNat v1_1) zF (by omega))) (Fld.Qp v1_0) (by decide) rfl rfl (Fld.Q4d v1_0 (Int.toNat v1_1) (List.getD v1_0 (Int.toNat (v1_1 - 1)) zF))), hS 0 false (Fld.Q5 (List.set v1_0 (Int.toNat v1_1) (List.getD v1_0 (Int.toNat (v1_1 - 1)) zF)) 6 rfl), hP 0 (Q1h 0 6 n0 (v1_1 - 1) (Int.toNat (v1_1 - 1)) rfl (by have f0 := (Qo ho1_4 (Int.toNat v1_1) (List.getD v1_0 (Int.toNat (v1_1 - 1)) zF)); omega) (by have f0 := (Qo ho1_4 (Int.toNat v1_1) (List.getD v1_0 (Int.toNat (v1_1 - 1)) zF)); omega)), hV 0 [(0, Fld.rows (List.set (List.set v1_0 (Int.toNat v1_1) (List.getD v1_0 (Int.toNat (v1_1 - 1)) zF)) (Int.toNat (v1_1 - 1)) (List.getD v1_0 (Int.toNat v1_1) zF)))] (Qgb 0 6 false ((Fld.rows (List.set v1_0 (Int.toNat v1_1) (List.getD v1_0 (Int.toNat (v1_1 - 1)) zF))).flatten) (Fld.rows (List.set v1_0 (Int.toNat v1_1) (List.getD v1_0 (Int.toNat (v1_1 - 1)) zF))) (Fld.rows (List.set (List.set v1_0 (Int.toNat v1_1) (List.getD v1_0 (Int.toNat (v1_1 - 1)) zF)) (Int.toNat (v1_1 - 1)) (List.getD v1_0 (Int.toNat v1_1) zF))) 6 (Int.toNat (v1_1 - 1)) 0 ((Int.toNat (v1_1 - 1)) * 6) _ (.agg [.str (List.getD v1_0 (Int.toNat v1_1) zF).name, .int .i64 (List.getD v1_0 (Int.toNat v1_1) zF).v.kind, .int .i64 (List.getD v1_0 (Int.toNat v1_1) zF).v.n, .str (List.getD v1_0 (Int.toNat v1_1) zF).v.s, .sl (Val.rows (List.getD v1_0 (Int.toNat v1_1) zF).v.list), .sl (Fld.rows (List.getD v1_0 (Int.toNat v1_1) zF).v.fields)]) rfl rfl (Fld.Qg (Qs (List.set v1_0 (Int.toNat v1_1) (List.getD v1_0 (Int.toNat (v1_1 - 1)) zF)) (Int.toNat (v1_1 - 1)) zF (by have f0 := (Qo ho1_4 (Int.toNat v1_1) (List.getD v1_0 (Int.toNat (v1_1 - 1)) zF)); try simp only [List.length_set]; omega))) (Fld.Qp (List.set v1_0 (Int.toNat v1_1) (List.getD v1_0 (Int.toNat (v1_1 - 1)) zF))) (by decide) rfl rfl (Fld.Q4d (List.set v1_0 (Int.toNat v1_1) (List.getD v1_0 (Int.toNat (v1_1 - 1)) zF)) (Int.toNat (v1_1 - 1)) (List.getD v1_0 (Int.toNat v1_1) zF))), hS 0 false (Fld.Q5 (List.set (List.set v1_0 (Int.toNat v1_1) (List.getD v1_0 (Int.toNat (v1_1 - 1)) zF)) (Int.toNat (v1_1 - 1)) (List.getD v1_0 (Int.toNat v1_1) zF)) 6 rfl), hP 1 (w_ok (v1_1 - 1) (by have f0 := (Qo (Qo ho1_4 (Int.toNat v1_1) (List.getD v1_0 (Int.toNat (v1_1 - 1)) zF)) (Int.toNat (v1_1 - 1)) (List.getD v1_0 (Int.toNat v1_1) zF)); omega))] [aN (Qnr (List.getD v1_0 (Int.toNat v1_1) zF) (List.getD v1_0 (Int.toNat (v1_1 - 1)) zF))] (by kernel_rfl) hr
def Qjm (n0 : Nat) (p1 : Int) (_p2 : Int) (_v0_0 : Int) (v1_0 : List Fld) (v1_1 : Int) : List PV :=
  [.un, .un, .un, .un, .un, .un, .un, .un, .un, .int .i64 v1_1, .un, .un, .un, .un, .un, .un, .un, .un, .int .i64 v1_1, .int .i64 p1, .bool true, .bool true, .fn 43 [] [], .ms 0 6 0 n0, .int .i64 v1_1, .bx 0 ((Int.toNat v1_1) * 6), .agg [.str (List.getD v1_0 (Int.toNat v1_1) zF).name, .int .i64 (List.getD v1_0 (Int.toNat v1_1) zF).v.kind, .int .i64 (List.getD v1_0 (Int.toNat v1_1) zF).v.n, .str (List.getD v1_0 (Int.toNat v1_1) zF).v.s, .sl (Val.rows (List.getD v1_0 (Int.toNat v1_1) zF).v.list), .sl (Fld.rows (List.getD v1_0 (Int.toNat v1_1) zF).v.fields)], .ms 0 6 0 n0, .int .i64 v1_1, .int .i64 (v1_1 - 1), .bx 0 ((Int.toNat (v1_1 - 1)) * 6), .agg [.str (List.getD v1_0 (Int.toNat (v1_1 - 1)) zF).name, .int .i64 (List.getD v1_0 (Int.toNat (v1_1 - 1)) zF).v.kind, .int .i64 (List.getD v1_0 (Int.toNat (v1_1 - 1)) zF).v.n, .str (List.getD v1_0 (Int.toNat (v1_1 - 1)) zF).v.s, .sl (Val.rows (List.getD v1_0 (Int.toNat (v1_1 - 1)) zF).v.list), .sl (Fld.rows (List.getD v1_0 (Int.toNat (v1_1 - 1)) zF).v.fields)], .int .i64 (Q28 (List.getD v1_0 (Int.toNat v1_1) zF) (List.getD v1_0 (Int.toNat (v1_1 - 1)) zF)), .bool false, .bool false]
def Qg4 (_n0 : Nat) (_p1 : Int) (_p2 : Int) (_v0_0 : Int) (_v1_0 : List Fld) (_v1_1 : Int) : List (Nat × List PV) :=
  []
theorem Qva (n0 : Nat) (p1 : Int) (p2 : Int) (v0_0 : Int) (v1_0 : List Fld) (v1_1 : Int) (ho1_0 : 0 ≤ p1) (_ho1_1 : p1 ≤ v1_1) (ho1_2 : v1_1 < n0) (ho1_3 : (n0 : Int) ≤ 1152921504606846976) (ho1_4 : List.length v1_0 = n0) (h0 : (decide (p1 < v1_1)) = true) (h1 : (decide ((Q28 (List.getD v1_0 (Int.toNat v1_1) zF) (List.getD v1_0 (Int.toNat (v1_1 - 1)) zF)) < 0)) = false) : Q8a n0 p1 p2 v0_0 (Q73 n0 p1 p2 v0_0 v1_0 v1_1) v1_0 := by
 have e0 := of_decide_eq_true h0; have e1 := of_decide_eq_false h1
 exact ⟨(envF (Qjm n0 p1 p2 v0_0 v1_0 v1_1)), (zoF (Qg4 n0 p1 p2 v0_0 v1_0 v1_1)), Qe (Ql5 n0 p1 p2 v0_0 v1_0 v1_1) (x := ((.exit 2), Q6p n0 p1 p2 v0_0 v1_0 (envF (Qjm n0 p1 p2 v0_0 v1_0 v1_1)) (zoF (Qg4 n0 p1 p2 v0_0 v1_0 v1_1)))) [hB 2 h0, hP 4 (Q1h 0 6 n0 v1_1 (Int.toNat v1_1) rfl (by omega) (by omega)), hP 0 (Q34 0 6 0 false ((Fld.rows v1_0).flatten) (Fld.rows v1_0) 6 true (Int.toNat v1_1) 0 ((Int.toNat v1_1) * 6) (Fld.cells (List.getD v1_0 (Int.toNat v1_1) zF)) (.agg [.str (List.getD v1_0 (Int.toNat v1_1) zF).name, .int .i64 (List.getD v1_0 (Int.toNat v1_1) zF).v.kind, .int .i64 (List.getD v1_0 (Int.toNat v1_1) zF).v.n, .str (List.getD v1_0 (Int.toNat v1_1) zF).v.s, .sl (Val.rows (List.getD v1_0 (Int.toNat v1_1) zF).v.list), .sl (Fld.rows (List.getD v1_0 (Int.toNat v1_1) zF).v.fields)]) rfl rfl (Fld.Qg (Qs v1_0 (Int.toNat v1_1) zF (by omega))) (Fld.Qp v1_0) (by decide) rfl), hP 2 (w_ok (v1_1 - 1) (by omega)), hP 0 (Q1h 0 6 n0 (v1_1 - 1) (Int.toNat (v1_1 - 1)) rfl (by omega) (by omega)), hP 0 (Q34 0 6 0 false ((Fld.rows v1_0).flatten) (Fld.rows v1_0) 6 true (Int.toNat (v1_1 - 1)) 0 ((Int.toNat (v1_1 - 1)) * 6) (Fld.cells (List.getD v1_0 (Int.toNat (v1_1 - 1)) zF)) (.agg [.str (List.getD v1_0 (Int.toNat (v1_1 - 1)) zF).name, .int .i64 (List.getD v1_0 (Int.toNat (v1_1 - 1)) zF).v.kind, .int .i64 (List.getD v1_0 (Int.toNat (v1_1 - 1)) zF).v.n, .str (List.getD v1_0 (Int.toNat (v1_1 - 1)) zF).v.s, .sl (Val.rows (List.getD v1_0 (Int.toNat (v1_1 - 1)) zF).v.list), .sl (Fld.rows (List.getD v1_0 (Int.toNat (v1_1 - 1)) zF).v.fields)]) rfl rfl (Fld.Qg (Qs v1_0 (Int.toNat (v1_1 - 1)) zF (by omega))) (Fld.Qp v1_0) (by decide) rfl), hB 1 h1] [aN (Qnr (List.getD v1_0 (Int.toNat v1_1) zF) (List.getD v1_0 (Int.toNat (v1_1 - 1)) zF))] (by kernel_rfl)⟩
def Qhc (_n0 : Nat) (p1 : Int) (_p2 : Int) (_v0_0 : Int) (_v1_0 : List Fld) (v1_1 : Int) : List PV :=
  [.un, .un, .un, .un, .un, .un, .un, .un, .un, .int .i64 v1_1, .un, .un, .un, .un, .un, .un, .un, .un, .int .i64 v1_1, .int .i64 p1, .bool false, .bool false, .tup [], .tup [], .tup [], .tup [], .tup [], .tup [], .tup [], .tup [], .tup [], .tup [], .tup [], .tup [], .bool false]
def Qdu (_n0 : Nat) (_p1 : Int) (_p2 : Int) (_v0_0 : Int) (_v1_0 : List Fld) (_v1_1 : Int) : List (Nat × List PV) :=
  []
theorem Qwm (n0 : Nat) (p1 : Int) (p2 : Int) (v0_0 : Int) (v1_0 : List Fld) (v1_1 : Int) (_ho1_0 : 0 ≤ p1) (_ho1_1 : p1 ≤ v1_1) (_ho1_2 : v1_1 < n0) (_ho1_3 : (n0 : Int) ≤ 1152921504606846976) (_ho1_4 : List.length v1_0 = n0) (h0 : (decide (p1 < v1_1)) = false) : Q8a n0 p1 p2 v0_0 (Q73 n0 p1 p2 v0_0 v1_0 v1_1) v1_0 := by
 exact ⟨(envF (Qhc n0 p1 p2 v0_0 v1_0 v1_1)), (zoF (Qdu n0 p1 p2 v0_0 v1_0 v1_1)), Qe (Ql5 n0 p1 p2 v0_0 v1_0 v1_1) (x := ((.exit 2), Q6p n0 p1 p2 v0_0 v1_0 (envF (Qhc n0 p1 p2 v0_0 v1_0 v1_1)) (zoF (Qdu n0 p1 p2 v0_0 v1_0 v1_1)))) [hB 2 h0] [] (by kernel_rfl)⟩
theorem Qob (n0 : Nat) (p1 : Int) (p2 : Int) (v0_0 : Int) : ∀ (k1 : Nat) (v1_0 : List Fld) (v1_1 : Int), 0 ≤ p1 → p1 ≤ v1_1 → v1_1 < n0 → (n0 : Int) ≤ 1152921504606846976 → List.length v1_0 = n0 → Int.toNat v1_1 < k1 → Q8a n0 p1 p2 v0_0 (Q73 n0 p1 p2 v0_0 v1_0 v1_1) (Q2a n0 p1 p2 v0_0 k1 v1_0 v1_1)
 | 0, v1_0, v1_1, _, _, _, _, _, hm => absurd hm (Nat.not_lt_zero _)
 | k1 + 1, v1_0, v1_1, ho1_0, ho1_1, ho1_2, ho1_3, ho1_4, hm => by
  rw [Q2a]
  cases h0 : (decide (p1 < v1_1)) with
  | true =>
   have e0 := of_decide_eq_true h0
   cases h1 : (decide ((Q28 (List.getD v1_0 (Int.toNat v1_1) zF) (List.getD v1_0 (Int.toNat (v1_1 - 1)) zF)) < 0)) with
   | true =>
    have e1 := of_decide_eq_true h1
    exact Qlz n0 p1 p2 v0_0 (fun r hr => Qug n0 p1 p2 v0_0 v1_0 v1_1 ho1_0 ho1_1 ho1_2 ho1_3 ho1_4 h0 h1 hr) _ (Qob n0 p1 p2 v0_0 k1 (List.set (List.set v1_0 (Int.toNat v1_1) (List.getD v1_0 (Int.toNat (v1_1 - 1)) zF)) (Int.toNat (v1_1 - 1)) (List.getD v1_0 (Int.toNat v1_1) zF)) (v1_1 - 1) (by have f0 := (Qo (Qo ho1_4 (Int.toNat v1_1) (List.getD v1_0 (Int.toNat (v1_1 - 1)) zF)) (Int.toNat (v1_1 - 1)) (List.getD v1_0 (Int.toNat v1_1) zF)); omega) (by have f0 := (Qo (Qo ho1_4 (Int.toNat v1_1) (List.getD v1_0 (Int.toNat (v1_1 - 1)) zF)) (Int.toNat (v1_1 - 1)) (List.getD v1_0 (Int.toNat v1_1) zF)); omega) (by have f0 := (Qo (Qo ho1_4 (Int.toNat v1_1) (List.getD v1_0 (Int.toNat (v1_1 - 1)) zF)) (Int.toNat (v1_1 - 1)) (List.getD v1_0 (Int.toNat v1_1) zF)); omega) (by have f0 := (Qo (Qo ho1_4 (Int.toNat v1_1) (List.getD v1_0 (Int.toNat (v1_1 - 1)) zF)) (Int.toNat (v1_1 - 1)) (List.getD v1_0 (Int.toNat v1_1) zF)); omega) (Qo (Qo ho1_4 (Int.toNat v1_1) (List.getD v1_0 (Int.toNat (v1_1 - 1)) zF)) (Int.toNat (v1_1 - 1)) (List.getD v1_0 (Int.toNat v1_1) zF)) (by have f0 := (Qo (Qo ho1_4 (Int.toNat v1_1) (List.getD v1_0 (Int.toNat (v1_1 - 1)) zF)) (Int.toNat (v1_1 - 1)) (List.getD v1_0 (Int.toNat v1_1) zF)); omega))
   | false =>
    exact Qva n0 p1 p2 v0_0 v1_0 v1_1 ho1_0 ho1_1 ho1_2 ho1_3 ho1_4 h0 h1
  | false =>
   exact Qwm n0 p1 p2 v0_0 v1_0 v1_1 ho1_0 ho1_1 ho1_2 ho1_3 ho1_4 h0
theorem Q2i (n0 : Nat) (p1 : Int) (p2 : Int) (v0_0 : Int) : ∀ (k1 : Nat) (v1_0 : List Fld) (v1_1 : Int), List.length v1_0 = n0 → List.length (Q2a n0 p1 p2 v0_0 k1 v1_0 v1_1) = n0
 | 0, v1_0, v1_1, ho1_4 => by rw [Q2a]; exact ho1_4
 | k1 + 1, v1_0, v1_1, ho1_4 => by
  rw [Q2a]
  cases h0 : (decide (p1 < v1_1)) with
  | true =>
   cases h1 : (decide ((Q28 (List.getD v1_0 (Int.toNat v1_1) zF) (List.getD v1_0 (Int.toNat (v1_1 - 1)) zF)) < 0)) with
   | true =>
    exact Q2i n0 p1 p2 v0_0 k1 (List.set (List.set v1_0 (Int.toNat v1_1) (List.getD v1_0 (Int.toNat (v1_1 - 1)) zF)) (Int.toNat (v1_1 - 1)) (List.getD v1_0 (Int.toNat v1_1) zF)) (v1_1 - 1) (Qo (Qo ho1_4 (Int.toNat v1_1) (List.getD v1_0 (Int.toNat (v1_1 - 1)) zF)) (Int.toNat (v1_1 - 1)) (List.getD v1_0 (Int.toNat v1_1) zF))
   | false =>
    exact ho1_4
  | false =>
   exact ho1_4
def Q2z (n0 : Nat) (p1 : Int) (p2 : Int) : Nat → Int → (List Fld) → List Fld
 | 0, _v0_0, v0_1 => v0_1
 | k0 + 1, v0_0, v0_1 =>
  bif (decide (v0_0 < p2)) then
   Q2z n0 p1 p2 k0 (v0_0 + 1) (Q2a n0 p1 p2 v0_0 ((Int.toNat v0_0) + 1) v0_1 v0_0)
  else
   v0_1
def Qoi (n0 : Nat) (p1 : Int) (p2 : Int) (v0_0 : Int) (_v0_1 : List Fld) : List PV :=
  [.ms 0 6 0 n0, .int .i64 p1, .int .i64 p2, .fn 43 [] [], .un, .un, .un, .un, .int .i64 v0_0, .un, .un, .un, .un, .un, .un, .un, .un, .un, .un, .un, .un, .un, .un, .un, .un, .un, .un, .un, .un, .un, .un, .un, .un, .un, .un, .un, .un, .un, .un, .un, .un, .un, .un, .un, .un, .un, .un, .un, .un, .un, .un, .un, .un]
def Qei (_n0 : Nat) (_p1 : Int) (_p2 : Int) (_v0_0 : Int) (v0_1 : List Fld) : List Ob :=
  [⟨6, 0, false, (Fld.rows v0_1).flatten⟩]
def Qbq (n0 : Nat) (p1 : Int) (p2 : Int) (v0_0 : Int) (v0_1 : List Fld) : En := .loop 1 Ir.Qdf Ir.Q13v (Qoi n0 p1 p2 v0_0 v0_1) (Qei n0 p1 p2 v0_0 v0_1)
def Qkg (_n0 : Nat) (_p1 : Int) (_p2 : Int) (q0 : List Fld) (z : Nat → PV) (_zo : Nat → List PV) : St :=
  ⟨[z 0, z 1, z 2, z 3, z 4, z 5, z 6, z 7, z 8, z 9, z 10, z 11, z 12, z 13, z 14, z 15, z 16, z 17, z 18, z 19, z 20, z 21, z 22, z 23, z 24, z 25, z 26, z 27, z 28, z 29, z 30, z 31, z 32, z 33, z 34, z 35, z 36, z 37, z 38, z 39, z 40, z 41, z 42, z 43, z 44, z 45, z 46, z 47, z 48, z 49, z 50, z 51, z 52], [(0, ⟨6, 0, false, (Fld.rows q0).flatten⟩)], 193⟩
theorem Qtu (n0 : Nat) (p1 : Int) (p2 : Int) (v0_0 : Int) (v0_1 : List Fld) : VOK (Go.Pv.look (number 0 (Qei n0 p1 p2 v0_0 v0_1))) [(0, Fld.rows v0_1)] := (VOK.cons (show Seen _ _ from Q4n (ob := ⟨6, 0, false, (Fld.rows v0_1).flatten⟩) (Fld.Q5 v0_1 6 rfl)) VOK.nil)
def Qc2 (n0 : Nat) (p1 : Int) (p2 : Int) (e : En) (q : List Fld) : Prop := ∃ z zo, Q7 G e (.st (.exit 0) (Qkg n0 p1 p2 q z zo))
theorem Qli (n0 : Nat) (p1 : Int) (p2 : Int) {e e' : En} (h : ∀ r, Q7 G e r → Q7 G e' r) : ∀ q, Qc2 n0 p1 p2 e q → Qc2 n0 p1 p2 e' q
  | _, ⟨z, zo, hz⟩ => ⟨z, zo, h _ hz⟩
theorem Qv5 (n0 : Nat) (p1 : Int) (p2 : Int) (v0_0 : Int) (v0_1 : List Fld) (ho0_0 : 0 ≤ p1) (ho0_1 : p1 < v0_0) (ho0_2 : p2 ≤ n0) (ho0_3 : (n0 : Int) ≤ 1152921504606846976) (ho0_4 : List.length v0_1 = n0) (h0 : (decide (v0_0 < p2)) = true) (z1 : Nat → PV) (zo1 : Nat → List PV) (hl1 : Q7 G (Q73 n0 p1 p2 v0_0 v0_1 v0_0) (.st (.exit 2) (Q6p n0 p1 p2 v0_0 (Q2a n0 p1 p2 v0_0 ((Int.toNat v0_0) + 1) v0_1 v0_0) z1 zo1))) {r : Rs} (hr : Q7 G (Qbq n0 p1 p2 (v0_0 + 1) (Q2a n0 p1 p2 v0_0 ((Int.toNat v0_0) + 1) v0_1 v0_0)) r) : Q7 G (Qbq n0 p1 p2 v0_0 v0_1) r := by
 have e0 := of_decide_eq_true h0
 exact Qb (Qtu n0 p1 p2 v0_0 v0_1) (y := (Qoi n0 p1 p2 (v0_0 + 1) (Q2a n0 p1 p2 v0_0 ((Int.toNat v0_0) + 1) v0_1 v0_0), Qei n0 p1 p2 (v0_0 + 1) (Q2a n0 p1 p2 v0_0 ((Int.toNat v0_0) + 1) v0_1 v0_0))) [hB 2 h0, hS 0 false (Fld.Q5 (Q2a n0 p1 p2 v0_0 ((Int.toNat v0_0) + 1) v0_1 v0_0) 6 rfl), hP 3 (w_ok (v0_0 + 1) (by have f0 := (Q2i n0 p1 p2 v0_0 ((Int.toNat v0_0) + 1) v0_1 v0_0 ho0_4); omega))] [aV [(0, Fld.rows (Q2a n0 p1 p2 v0_0 ((Int.toNat v0_0) + 1) v0_1 v0_0))] hl1] (by kernel_rfl) hr
def Qin (n0 : Nat) (p1 : Int) (p2 : Int) (v0_0 : Int) (_v0_1 : List Fld) : List PV :=
  [.ms 0 6 0 n0, .int .i64 p1, .int .i64 p2, .fn 43 [] [], .un, .un, .un, .un, .int .i64 v0_0, .un, .un, .un, .int .i64 v0_0, .int .i64 p2, .bool false]
def Qcp (_n0 : Nat) (_p1 : Int) (_p2 : Int) (_v0_0 : Int) (_v0_1 : List Fld) : List (Nat × List PV) :=
  []
theorem Qvb (n0 : Nat) (p1 : Int) (p2 : Int) (v0_0 : Int) (v0_1 : List Fld) (_ho0_0 : 0 ≤ p1) (_ho0_1 : p1 < v0_0) (_ho0_2 : p2 ≤ n0) (_ho0_3 : (n0 : Int) ≤ 1152921504606846976) (_ho0_4 : List.length v0_1 = n0) (h0 : (decide (v0_0 < p2)) = false) : Qc2 n0 p1 p2 (Qbq n0 p1 p2 v0_0 v0_1) v0_1 := by
 exact ⟨(envF (Qin n0 p1 p2 v0_0 v0_1)), (zoF (Qcp n0 p1 p2 v0_0 v0_1)), Qe (Qtu n0 p1 p2 v0_0 v0_1) (x := ((.exit 0), Qkg n0 p1 p2 v0_1 (envF (Qin n0 p1 p2 v0_0 v0_1)) (zoF (Qcp n0 p1 p2 v0_0 v0_1)))) [hB 2 h0] [] (by kernel_rfl)⟩
theorem Qp4 (n0 : Nat) (p1 : Int) (p2 : Int) : ∀ (k0 : Nat) (v0_0 : Int) (v0_1 : List Fld), 0 ≤ p1 → p1 < v0_0 → p2 ≤ n0 → (n0 : Int) ≤ 1152921504606846976 → List.length v0_1 = n0 → Int.toNat (p2 - v0_0) < k0 → Qc2 n0 p1 p2 (Qbq n0 p1 p2 v0_0 v0_1) (Q2z n0 p1 p2 k0 v0_0 v0_1)
 | 0, v0_0, v0_1, _, _, _, _, _, hm => absurd hm (Nat.not_lt_zero _)
 | k0 + 1, v0_0, v0_1, ho0_0, ho0_1, ho0_2, ho0_3, ho0_4, hm => by
  rw [Q2z]
  cases h0 : (decide (v0_0 < p2)) with
  | true =>
   have e0 := of_decide_eq_true h0
   have hl1 := Qob n0 p1 p2 v0_0 ((Int.toNat v0_0) + 1) v0_1 v0_0 (by omega) (by omega) (by omega) (by omega) ho0_4 (by omega)
   obtain ⟨z1, zo1, hl1⟩ := hl1
   exact Qli n0 p1 p2 (fun r hr => Qv5 n0 p1 p2 v0_0 v0_1 ho0_0 ho0_1 ho0_2 ho0_3 ho0_4 h0 z1 zo1 hl1 hr) _ (Qp4 n0 p1 p2 k0 (v0_0 + 1) (Q2a n0 p1 p2 v0_0 ((Int.toNat v0_0) + 1) v0_1 v0_0) (by have f0 := (Q2i n0 p1 p2 v0_0 ((Int.toNat v0_0) + 1) v0_1 v0_0 ho0_4); omega) (by have f0 := (Q2i n0 p1 p2 v0_0 ((Int.toNat v0_0) + 1) v0_1 v0_0 ho0_4); omega) (by have f0 := (Q2i n0 p1 p2 v0_0 ((Int.toNat v0_0) + 1) v0_1 v0_0 ho0_4); omega) (by have f0 := (Q2i n0 p1 p2 v0_0 ((Int.toNat v0_0) + 1) v0_1 v0_0 ho0_4); omega) (Q2i n0 p1 p2 v0_0 ((Int.toNat v0_0) + 1) v0_1 v0_0 ho0_4) (by have f0 := (Q2i n0 p1 p2 v0_0 ((Int.toNat v0_0) + 1) v0_1 v0_0 ho0_4); omega))
  | false =>
   exact Qvb n0 p1 p2 v0_0 v0_1 ho0_0 ho0_1 ho0_2 ho0_3 ho0_4 h0
theorem Q7w (n0 : Nat) (p1 : Int) (p2 : Int) : ∀ (k0 : Nat) (v0_0 : Int) (v0_1 : List Fld), List.length v0_1 = n0 → List.length (Q2z n0 p1 p2 k0 v0_0 v0_1) = n0
 | 0, v0_0, v0_1, ho0_4 => by rw [Q2z]; exact ho0_4
 | k0 + 1, v0_0, v0_1, ho0_4 => by
  rw [Q2z]
  cases h0 : (decide (v0_0 < p2)) with
  | true =>
   exact Q7w n0 p1 p2 k0 (v0_0 + 1) (Q2a n0 p1 p2 v0_0 ((Int.toNat v0_0) + 1) v0_1 v0_0) (Q2i n0 p1 p2 v0_0 ((Int.toNat v0_0) + 1) v0_1 v0_0 ho0_4)
  | false =>
   exact ho0_4
def Q19 (n0 : Nat) (p0 : List Fld) (p1 : Int) (p2 : Int) : List Fld :=
 (Q2z n0 p1 p2 ((Int.toNat (p2 - (p1 + 1))) + 1) (p1 + 1) p0)
def Qzr (n0 : Nat) (p0 : List Fld) (p1 : Int) (p2 : Int) : En := .call 66 [.ms 0 6 0 n0, .int .i64 p1, .int .i64 p2, .fn 43 [] []] [⟨6, 0, false, (Fld.rows p0).flatten⟩]
def Qpn (n0 : Nat) (p0 : List Fld) (p1 : Int) (p2 : Int) : Rs := .ret (.tup []) [⟨6, 0, false, (Fld.rows (Q19 n0 p0 p1 p2)).flatten⟩]
theorem Qu (n0 : Nat) (p0 : List Fld) (p1 : Int) (p2 : Int) (hn : List.length p0 = n0) : List.length (Q19 n0 p0 p1 p2) = n0 := by
 unfold Q19
 have hz0_0 : List.length (Q2z n0 p1 p2 ((Int.toNat (p2 - (p1 + 1))) + 1) (p1 + 1) p0) = n0 := Q7w n0 p1 p2 ((Int.toNat (p2 - (p1 + 1))) + 1) (p1 + 1) p0 hn
 obtain ⟨R0, eR0⟩ : ∃ R, (Q2z n0 p1 p2 ((Int.toNat (p2 - (p1 + 1))) + 1) (p1 + 1) p0) = R := ⟨_, rfl⟩
 rw [eR0] at hz0_0 ⊢
 exact hz0_0
theorem Qok (n0 : Nat) (p0 : List Fld) (p1 : Int) (p2 : Int) (hn : List.length p0 = n0) (hq0 : 0 ≤ p1 ∧ p1 ≤ p2 ∧ p2 ≤ n0 ∧ (n0 : Int) ≤ 1152921504606846976) : Q7 G (Qzr n0 p0 p1 p2) (Qpn n0 p0 p1 p2) := by
 unfold Qpn Q19
 have hl0 := Qp4 n0 p1 p2 ((Int.toNat (p2 - (p1 + 1))) + 1) (p1 + 1) p0 (by omega) (by omega) (by omega) (by omega) hn (by omega)
 have hz0_0 : List.length (Q2z n0 p1 p2 ((Int.toNat (p2 - (p1 + 1))) + 1) (p1 + 1) p0) = n0 := Q7w n0 p1 p2 ((Int.toNat (p2 - (p1 + 1))) + 1) (p1 + 1) p0 hn
 obtain ⟨R0, eR0⟩ : ∃ R, (Q2z n0 p1 p2 ((Int.toNat (p2 - (p1 + 1))) + 1) (p1 + 1) p0) = R := ⟨_, rfl⟩
 rw [eR0] at hz0_0 hl0 ⊢
 obtain ⟨z0, zo0, hl0⟩ := hl0
 exact Q8 (fn := Ir.K1b) rfl (vk1 (Fld.Q5 p0 6 rfl)) [hP 1 (w_ok (p1 + 1) (by omega)), hS 0 false (Fld.Q5 R0 6 rfl)] [aV [(0, Fld.rows R0)] hl0] (by kernel_rfl)
def Q2x (n0 : Nat) (p1 : Int) (p2 : Int) (p3 : Int) : Nat → (List Fld) → Int → List Fld
 | 0, v0_0, _v0_1 => v0_0
 | k0 + 1, v0_0, v0_1 =>
  bif (decide (v0_1 < p3)) then
   Q2x n0 p1 p2 p3 k0 (List.set (List.set v0_0 (Int.toNat (p1 + v0_1)) (List.getD v0_0 (Int.toNat (p2 + v0_1)) zF)) (Int.toNat (p2 + v0_1)) (List.getD v0_0 (Int.toNat (p1 + v0_1)) zF)) (v0_1 + 1)
  else
   v0_0
def Qo8 (n0 : Nat) (p1 : Int) (p2 : Int) (p3 : Int) (_v0_0 : List Fld) (v0_1 : Int) : List PV :=
  [.ms 0 6 0 n0, .int .i64 p1, .int .i64 p2, .int .i64 p3, .un, .un, .un, .un, .un, .un, .int .i64 v0_1, .un, .un, .un, .un, .un, .un, .un, .un, .un, .un, .un, .un, .un, .un, .un, .un, .un, .un, .un, .un, .un, .un, .un, .un, .un, .un, .un]
def Qg0 (_n0 : Nat) (_p1 : Int) (_p2 : Int) (_p3 : Int) (v0_0 : List Fld) (_v0_1 : Int) : List Ob :=
  [⟨6, 0, false, (Fld.rows v0_0).flatten⟩]
def Qbd (n0 : Nat) (p1 : Int) (p2 : Int) (p3 : Int) (v0_0 : List Fld) (v0_1 : Int) : En := .loop 1 Ir.Qg9 Ir.Q14c (Qo8 n0 p1 p2 p3 v0_0 v0_1) (Qg0 n0 p1 p2 p3 v0_0 v0_1)
def Qju (_n0 : Nat) (_p1 : Int) (_p2 : Int) (_p3 : Int) (q0 : List Fld) (z : Nat → PV) (_zo : Nat → List PV) : St :=
  ⟨[z 0, z 1, z 2, z 3, z 4, z 5, z 6, z 7, z 8, z 9, z 10, z 11, z 12, z 13, z 14, z 15, z 16, z 17, z 18, z 19, z 20, z 21, z 22, z 23, z 24, z 25, z 26, z 27, z 28, z 29, z 30, z 31, z 32, z 33, z 34, z 35, z 36, z 37], [(0, ⟨6, 0, false, (Fld.rows q0).flatten⟩)], 193⟩
theorem Qt8 (n0 : Nat) (p1 : Int) (p2 : Int) (p3 : Int) (v0_0 : List Fld) (v0_1 : Int) : VOK (Go.Pv.look (number 0 (Qg0 n0 p1 p2 p3 v0_0 v0_1))) [(0, Fld.rows v0_0)] := (VOK.cons (show Seen _ _ from Q4n (ob := ⟨6, 0, false, (Fld.rows v0_0).flatten⟩) (Fld.Q5 v0_0 6 rfl)) VOK.nil)
def Qb8 (n0 : Nat) (p1 : Int) (p2 : Int) (p3 : Int) (e : En) (q : List Fld) : Prop := ∃ z zo, Q7 G e (.st (.exit 0) (Qju n0 p1 p2 p3 q z zo))
theorem Qmd (n0 : Nat) (p1 : Int) (p2 : Int) (p3 : Int) {e e' : En} (h : ∀ r, Q7 G e r → Q7 G e' r) : ∀ q, Qb8 n0 p1 p2 p3 e q → Qb8 n0 p1 p2 p3 e' q
  | _, ⟨z, zo, hz⟩ => ⟨z, zo, h _ hz⟩
theorem Qxn (n0 : Nat) (p1 : Int) (p2 : Int) (p3 : Int) (v0_0 : List Fld) (v0_1 : Int) (ho0_0 : 0 ≤ v0_1) (ho0_1 : 0 ≤ p1) (ho0_2 : 0 ≤ p2) (ho0_3 : p1 + p3 ≤ n0) (ho0_4 : p2 + p3 ≤ n0) (ho0_5 : (n0 : Int) ≤ 1152921504606846976) (ho0_6 : List.length v0_0 = n0) (h0 : (decide (v0_1 < p3)) = true) {r : Rs} (hr : Q7 G (Qbd n0 p1 p2 p3 (List.set (List.set v0_0 (Int.toNat (p1 + v0_1)) (List.getD v0_0 (Int.toNat (p2 + v0_1)) zF)) (Int.toNat (p2 + v0_1)) (List.getD v0_0 (Int.toNat (p1 + v0_1)) zF)) (v0_1 + 1)) r) : Q7 G (Qbd n0 p1 p2 p3 v0_0 v0_1) r := by
 have e0 := of_decide_eq_true h0
 exact Qb (Qt8 n0 p1 p2 p3 v0_0 v0_1) (y := (Qo8 n0 p1 p2 p3 (List.set (List.set v0_0 (Int.toNat (p1 + v0_1)) (List.getD v0_0 (Int.toNat (p2 + v0_1)) zF)) (Int.toNat (p2 + v0_1)) (List.getD v0_0 (Int.toNat (p1 + v0_1)) zF)) (v0_1 + 1), Qg0 n0 p1 p2 p3 (List.set (List.set v0_0 (Int.toNat (p1 + v0_1)) (List.getD v0_0 (Int.toNat (p2 + v0_1)) zF)) (Int.toNat (p2 + v0_1)) (List.getD v0_0 (Int.toNat (p1 + v0_1)) zF)) (v0_1 + 1))) [hB 2 h0, hP 3 (w_ok (p1 + v0_1) (by omega)), hP 3 (w_ok (p2 + v0_1) (by omega)), hP 3 (w_ok (p2 + v0_1) (by omega)), hP 0 (Q1h 0 6 n0 (p2 + v0_1) (Int.toNat (p2 + v0_1)) rfl (by omega) (by omega)), hP 0 (Q34 0 6 0 false ((Fld.rows v0_0).flatten) (Fld.rows v0_0) 6 true (Int.toNat (p2 + v0_1)) 0 ((Int.toNat (p2 + v0_1)) * 6) (Fld.cells (List.getD v0_0 (Int.toNat (p2 + v0_1)) zF)) (.agg [.str (List.getD v0_0 (Int.toNat (p2 + v0_1)) zF).name, .int .i64 (List.getD v0_0 (Int.toNat (p2 + v0_1)) zF).v.kind, .int .i64 (List.getD v0_0 (Int.toNat (p2 + v0_1)) zF).v.n, .str (List.getD v0_0 (Int.toNat (p2 + v0_1)) zF).v.s, .sl (Val.rows (List.getD v0_0 (Int.toNat (p2 + v0_1)) zF).v.list), .sl (Fld.rows (List.getD v0_0 (Int.toNat (p2 + v0_1)) zF).v.fields)]) rfl rfl (Fld.Qg (Qs v0_0 (Int.toNat (p2 + v0_1)) zF (by omega))) (Fld.Qp v0_0) (by decide) rfl), hP 3 (w_ok (p1 + v0_1) (by omega)), hP 0 (Q1h 0 6 n0 (p1 + v0_1) (Int.toNat (p1 + v0_1)) rfl (by omega) (by omega)), hP 0 (Q34 0 6 0 false ((Fld.rows v0_0).flatten) (Fld.rows v0_0) 6 true (Int.toNat (p1 + v0_1)) 0 ((Int.toNat (p1 + v0_1)) * 6) (Fld.cells (List.getD v0_0 (Int.toNat (p1 + v0_1)) zF)) (.agg [.str (List.getD v0_0 (Int.toNat (p1 + v0_1)) zF).name, .int .i64 (List.getD v0_0 (Int.toNat (p1 + v0_1)) zF).v.kind, .int .i64 (List.getD v0_0 (Int.toNat (p1 + v0_1)) zF).v.n, .str (List.getD v0_0 (Int.toNat (p1 + v0_1)) zF).v.s, .sl (Val.rows (List.getD v0_0 (Int.toNat (p1 + v0_1)) zF).v.list), .sl (Fld.rows (List.getD v0_0 (Int.toNat (p1 + v0_1)) zF).v.fields)]) rfl rfl (Fld.Qg (Qs v0_0 (Int.toNat (p1 + v0_1)) zF (by omega))) (Fld.Qp v0_0) (by decide) rfl), hP 0 (Q1h 0 6 n0 (p1 + v0_1) (Int.toNat (p1 + v0_1)) rfl (by omega) (by omega)), hV 0 [(0, Fld.rows (List.set v0_0 (Int.toNat (p1 + v0_1)) (List.getD v0_0 (Int.toNat (p2 + v0_1)) zF)))] (Qgb 0 6 false ((Fld.rows v0_0).flatten) (Fld.rows v0_0) (Fld.rows (List.set v0_0 (Int.toNat (p1 + v0_1)) (List.getD v0_0 (Int.toNat (p2 + v0_1)) zF))) 6 (Int.toNat (p1 + v0_1)) 0 ((Int.toNat (p1 + v0_1)) * 6) _ (.agg [.str (List.getD v0_0 (Int.toNat (p2 + v0_1)) zF).name, .int .i64 (List.getD v0_0 (Int.toNat (p2 + v0_1)) zF).v.kind, .int .i64 (List.getD v0_0 (Int.toNat (p2 + v0_1)) zF).v.n, .str (List.getD v0_0 (Int.toNat (p2 + v0_1)) zF).v.s, .sl (Val.rows (List.getD v0_0 (Int.toNat (p2 + v0_1)) zF).v.list), .sl (Fld.rows (List.getD v0_0 (Int.toNat (p2 + v0_1)) zF).v.fields)]) rfl rfl (Fld.Qg (Qs v0_0 (Int.toNat (p1 + v0_1)) zF (by omega))) (Fld.Qp v0_0) (by decide) rfl rfl (Fld.Q4d v0_0 (Int.toNat (p1 + v0_1)) (List.getD v0_0 (Int.toNat (p2 + v0_1)) zF))), hS 0 false (Fld.Q5 (List.set v0_0 (Int.toNat (p1 + v0_1)) (List.getD v0_0 (Int.toNat (p2 + v0_1)) zF)) 6 rfl), hP 0 (Q1h 0 6 n0 (p2 + v0_1) (Int.toNat (p2 + v0_1)) rfl (by have f0 := (Qo ho0_6 (Int.toNat (p1 + v0_1)) (List.getD v0_0 (Int.toNat (p2 + v0_1)) zF)); omega) (by have f0 := (Qo ho0_6 (Int.toNat (p1 + v0_1)) (List.getD v0_0 (Int.toNat (p2 + v0_1)) zF)); omega)), hV 0 [(0, Fld.rows (List.set (List.set v0_0 (Int.toNat (p1 + v0_1)) (List.getD v0_0 (Int.toNat (p2 + v0_1)) zF)) (Int.toNat (p2 + v0_1)) (List.getD v0_0 (Int.toNat (p1 + v0_1)) zF)))] (Qgb 0 6 false ((Fld.rows (List.set v0_0 (Int.toNat (p1 + v0_1)) (List.getD v0_0 (Int.toNat (p2 + v0_1)) zF))).flatten) (Fld.rows (List.set v0_0 (Int.toNat (p1 + v0_1)) (List.getD v0_0 (Int.toNat (p2 + v0_1)) zF))) (Fld.rows (List.set (List.set v0_0 (Int.toNat (p1 + v0_1)) (List.getD v0_0 (Int.toNat (p2 + v0_1)) zF)) (Int.toNat (p2 + v0_1)) (List.getD v0_0 (Int.toNat (p1 + v0_1)) zF))) 6 (Int.toNat (p2 + v0_1)) 0 ((Int.toNat (p2 + v0_1)) * 6) _ (.agg [.str (List.getD v0_0 (Int.toNat (p1 + v0_1)) zF).name, .int .i64 (List.getD v0_0 (Int.toNat (p1 + v0_1)) zF).v.kind, .int .i64 (List.getD v0_0 (Int.toNat (p1 + v0_1)) zF).v.n, .str (List.getD v0_0 (Int.toNat (p1 + v0_1)) zF).v.s, .sl (Val.rows (List.getD v0_0 (Int.toNat (p1 + v0_1)) zF).v.list), .sl (Fld.rows (List.getD v0_0 (Int.toNat (p1 + v0_1)) zF).v.fields)]) rfl rfl (Fld.Qg (Qs (List.set v0_0 (Int.toNat (p1 + v0_1)) (List.getD v0_0 (Int.toNat (p2 + v0_1)) zF)) (Int.toNat (p2 + v0_1)) zF (by have f0 := (Qo ho0_6 (Int.toNat (p1 + v0_1)) (List.getD v0_0 (Int.toNat (p2 + v0_1)) zF)); try simp only [List.length_set]; omega))) (Fld.Qp (List.set v0_0 (Int.toNat (p1 + v0_1)) (List.getD v0_0 (Int.toNat (p2 + v0_1)) zF))) (by decide) rfl rfl (Fld.Q4d (List.set v0_0 (Int.toNat (p1 + v0_1)) (List.getD v0_0 (Int.toNat (p2 + v0_1)) zF)) (Int.toNat (p2 + v0_1)) (List.getD v0_0 (Int.toNat (p1 + v0_1)) zF))), hS 0 false (Fld.Q5 (List.set (List.set v0_0 (Int.toNat (p1 + v0_1)) (List.getD v0_0 (Int.toNat (p2 + v0_1)) zF)) (Int.toNat (p2 + v0_1)) (List.getD v0_0 (Int.toNat (p1 + v0_1)) zF)) 6 rfl), hP 1 (w_ok (v0_1 + 1) (by have f0 := (Qo (Qo ho0_6 (Int.toNat (p1 + v0_1)) (List.getD v0_0 (Int.toNat (p2 + v0_1)) zF)) (Int.toNat (p2 + v0_1)) (List.getD v0_0 (Int.toNat (p1 + v0_1)) zF)); omega))] [] (by kernel_rfl) hr
def Qk6 (n0 : Nat) (p1 : Int) (p2 : Int) (p3 : Int) (_v0_0 : List Fld) (v0_1 : Int) : List PV :=
  [.ms 0 6 0 n0, .int .i64 p1, .int .i64 p2, .int .i64 p3, .un, .un, .un, .un, .un, .un, .int .i64 v0_1, .int .i64 v0_1, .int .i64 p3, .bool false]
def Qer (_n0 : Nat) (_p1 : Int) (_p2 : Int) (_p3 : Int) (_v0_0 : List Fld) (_v0_1 : Int) : List (Nat × List PV) :=
  []
theorem Qv3 (n0 : Nat) (p1 : Int) (p2 : Int) (p3 : Int) (v0_0 : List Fld) (v0_1 : Int) (_ho0_0 : 0 ≤ v0_1) (_ho0_1 : 0 ≤ p1) (_ho0_2 : 0 ≤ p2) (_ho0_3 : p1 + p3 ≤ n0) (_ho0_4 : p2 + p3 ≤ n0) (_ho0_5 : (n0 : Int) ≤ 1152921504606846976) (_ho0_6 : List.length v0_0 = n0) (h0 : (decide (v0_1 < p3)) = false) : Qb8 n0 p1 p2 p3 (Qbd n0 p1 p2 p3 v0_0 v0_1) v0_0 := by
 exact ⟨(envF (Qk6 n0 p1 p2 p3 v0_0 v0_1)), (zoF (Qer n0 p1 p2 p3 v0_0 v0_1)), Qe (Qt8 n0 p1 p2 p3 v0_0 v0_1) (x := ((.exit 0), Qju n0 p1 p2 p3 v0_0 (envF (Qk6 n0 p1 p2 p3 v0_0 v0_1)) (zoF (Qer n0 p1 p2 p3 v0_0 v0_1)))) [hB 2 h0] [] (by kernel_rfl)⟩
theorem Qp6 (n0 : Nat) (p1 : Int) (p2 : Int) (p3 : Int) : ∀ (k0 : Nat) (v0_0 : List Fld) (v0_1 : Int), 0 ≤ v0_1 → 0 ≤ p1 → 0 ≤ p2 → p1 + p3 ≤ n0 → p2 + p3 ≤ n0 → (n0 : Int) ≤ 1152921504606846976 → List.length v0_0 = n0 → Int.toNat (p3 - v0_1) < k0 → Qb8 n0 p1 p2 p3 (Qbd n0 p1 p2 p3 v0_0 v0_1) (Q2x n0 p1 p2 p3 k0 v0_0 v0_1)
 | 0, v0_0, v0_1, _, _, _, _, _, _, _, hm => absurd hm (Nat.not_lt_zero _)
 | k0 + 1, v0_0, v0_1, ho0_0, ho0_1, ho0_2, ho0_3, ho0_4, ho0_5, ho0_6, hm => by
  rw [Q2x]
  cases h0 : (decide (v0_1 < p3)) with
  | true =>
   have e0 := of_decide_eq_true h0
   exact Qmd n0 p1 p2 p3 (fun r hr => Qxn n0 p1 p2 p3 v0_0 v0_1 ho0_0 ho0_1 ho0_2 ho0_3 ho0_4 ho0_5 ho0_6 h0 hr) _ (Qp6 n0 p1 p2 p3 k0 (List.set (List.set v0_0 (Int.toNat (p1 + v0_1)) (List.getD v0_0 (Int.toNat (p2 + v0_1)) zF)) (Int.toNat (p2 + v0_1)) (List.getD v0_0 (Int.toNat (p1 + v0_1)) zF)) (v0_1 + 1) (by have f0 := (Qo (Qo ho0_6 (Int.toNat (p1 + v0_1)) (List.getD v0_0 (Int.toNat (p2 + v0_1)) zF)) (Int.toNat (p2 + v0_1)) (List.getD v0_0 (Int.toNat (p1 + v0_1)) zF)); omega) (by have f0 := (Qo (Qo ho0_6 (Int.toNat (p1 + v0_1)) (List.getD v0_0 (Int.toNat (p2 + v0_1)) zF)) (Int.toNat (p2 + v0_1)) (List.getD v0_0 (Int.toNat (p1 + v0_1)) zF)); omega) (by have f0 := (Qo (Qo ho0_6 (Int.toNat (p1 + v0_1)) (List.getD v0_0 (Int.toNat (p2 + v0_1)) zF)) (Int.toNat (p2 + v0_1)) (List.getD v0_0 (Int.toNat (p1 + v0_1)) zF)); omega) (by have f0 := (Qo (Qo ho0_6 (Int.toNat (p1 + v0_1)) (List.getD v0_0 (Int.toNat (p2 + v0_1)) zF)) (Int.toNat (p2 + v0_1)) (List.getD v0_0 (Int.toNat (p1 + v0_1)) zF)); omega) (by have f0 := (Qo (Qo ho0_6 (Int.toNat (p1 + v0_1)) (List.getD v0_0 (Int.toNat (p2 + v0_1)) zF)) (Int.toNat (p2 + v0_1)) (List.getD v0_0 (Int.toNat (p1 + v0_1)) zF)); omega) (by have f0 := (Qo (Qo ho0_6 (Int.toNat (p1 + v0_1)) (List.getD v0_0 (Int.toNat (p2 + v0_1)) zF)) (Int.toNat (p2 + v0_1)) (List.getD v0_0 (Int.toNat (p1 + v0_1)) zF)); omega) (Qo (Qo ho0_6 (Int.toNat (p1 + v0_1)) (List.getD v0_0 (Int.toNat (p2 + v0_1)) zF)) (Int.toNat (p2 + v0_1)) (List.getD v0_0 (Int.toNat (p1 + v0_1)) zF)) (by have f0 := (Qo (Qo ho0_6 (Int.toNat (p1 + v0_1)) (List.getD v0_0 (Int.toNat (p2 + v0_1)) zF)) (Int.toNat (p2 + v0_1)) (List.getD v0_0 (Int.toNat (p1 + v0_1)) zF)); omega))
  | false =>
   exact Qv3 n0 p1 p2 p3 v0_0 v0_1 ho0_0 ho0_1 ho0_2 ho0_3 ho0_4 ho0_5 ho0_6 h0
theorem Q7y (n0 : Nat) (p1 : Int) (p2 : Int) (p3 : Int) : ∀ (k0 : Nat) (v0_0 : List Fld) (v0_1 : Int), List.length v0_0 = n0 → List.length (Q2x n0 p1 p2 p3 k0 v0_0 v0_1) = n0
 | 0, v0_0, v0_1, ho0_6 => by rw [Q2x]; exact ho0_6
 | k0 + 1, v0_0, v0_1, ho0_6 => by
  rw [Q2x]
  cases h0 : (decide (v0_1 < p3)) with
  | true =>
   exact Q7y n0 p1 p2 p3 k0 (List.set (List.set v0_0 (Int.toNat (p1 + v0_1)) (List.getD v0_0 (Int.toNat (p2 + v0_1)) zF)) (Int.toNat (p2 + v0_1)) (List.getD v0_0 (Int.toNat (p1 + v0_1)) zF)) (v0_1 + 1) (Qo (Qo ho0_6 (Int.toNat (p1 + v0_1)) (List.getD v0_0 (Int.toNat (p2 + v0_1)) zF)) (Int.toNat (p2 + v0_1)) (List.getD v0_0 (Int.toNat (p1 + v0_1)) zF))
  | false =>
   exact ho0_6
def Q15 (n0 : Nat) (p0 : List Fld) (p1 : Int) (p2 : Int) (p3 : Int) : List Fld :=
 (Q2x n0 p1 p2 p3 ((Int.toNat (p3 - 0)) + 1) p0 0)
def Qzg (n0 : Nat) (p0 : List Fld) (p1 : Int) (p2 : Int) (p3 : Int) : En := .call 72 [.ms 0 6 0 n0, .int .i64 p1, .int .i64 p2, .int .i64 p3, .fn 43 [] []] [⟨6, 0, false, (Fld.rows p0).flatten⟩]
def Qmr (n0 : Nat) (p0 : List Fld) (p1 : Int) (p2 : Int) (p3 : Int) : Rs := .ret (.tup []) [⟨6, 0, false, (Fld.rows (Q15 n0 p0 p1 p2 p3)).flatten⟩]
theorem Ql (n0 : Nat) (p0 : List Fld) (p1 : Int) (p2 : Int) (p3 : Int) (hn : List.length p0 = n0) : List.length (Q15 n0 p0 p1 p2 p3) = n0 := by
 unfold Q15
 have hz0_0 : List.length (Q2x n0 p1 p2 p3 ((Int.toNat (p3 - 0)) + 1) p0 0) = n0 := Q7y n0 p1 p2 p3 ((Int.toNat (p3 - 0)) + 1) p0 0 hn
 obtain ⟨R0, eR0⟩ : ∃ R, (Q2x n0 p1 p2 p3 ((Int.toNat (p3 - 0)) + 1) p0 0) = R := ⟨_, rfl⟩
 rw [eR0] at hz0_0 ⊢
 exact hz0_0
theorem Qfo (n0 : Nat) (p0 : List Fld) (p1 : Int) (p2 : Int) (p3 : Int) (hn : List.length p0 = n0) (hq0 : 0 ≤ p1 ∧ 0 ≤ p2 ∧ 0 ≤ p3 ∧ p1 + p3 ≤ n0 ∧ p2 + p3 ≤ n0 ∧ (n0 : Int) ≤ 1152921504606846976) : Q7 G (Qzg n0 p0 p1 p2 p3) (Qmr n0 p0 p1 p2 p3) := by
 unfold Qmr Q15
 have hl0 := Qp6 n0 p1 p2 p3 ((Int.toNat (p3 - 0)) + 1) p0 0 (by omega) (by omega) (by omega) (by omega) (by omega) (by omega) hn (by omega)
 have hz0_0 : List.length (Q2x n0 p1 p2 p3 ((Int.toNat (p3 - 0)) + 1) p0 0) = n0 := Q7y n0 p1 p2 p3 ((Int.toNat (p3 - 0)) + 1) p0 0 hn
 obtain ⟨R0, eR0⟩ : ∃ R, (Q2x n0 p1 p2 p3 ((Int.toNat (p3 - 0)) + 1) p0 0) = R := ⟨_, rfl⟩
 rw [eR0] at hz0_0 hl0 ⊢
 obtain ⟨z0, zo0, hl0⟩ := hl0
 exact Q8 (fn := Ir.K1e) rfl (vk1 (Fld.Q5 p0 6 rfl)) [hS 0 false (Fld.Q5 R0 6 rfl)] [aV [(0, Fld.rows R0)] hl0] (by kernel_rfl)
def Q1n (n0 : Nat) (p2 : Int) : Nat → Int → Int → (List Fld) → (List Fld) × Int
 | 0, v0_0, _v0_1, v0_2 => (v0_2, v0_0)
 | k0 + 1, v0_0, v0_1, v0_2 =>
  bif (v0_0 == v0_1) then
   (v0_2, v0_0)
  else
   bif (decide (v0_1 < v0_0)) then
    Q1n n0 p2 k0 (v0_0 - v0_1) v0_1 (Q15 n0 v0_2 (p2 - v0_0) p2 v0_1)
   else
    Q1n n0 p2 k0 v0_0 (v0_1 - v0_0) (Q15 n0 v0_2 (p2 - v0_0) ((p2 + v0_1) - v0_0) v0_0)
def Qc9 (n0 : Nat) (p2 : Int) (v0_0 : Int) (v0_1 : Int) (_v0_2 : List Fld) : List PV :=
  [.ms 0 6 0 n0, .un, .int .i64 p2, .un, .fn 43 [] [], .un, .un, .un, .un, .un, .int .i64 v0_0, .int .i64 v0_1, .un, .un, .un, .un, .un, .un, .un, .un, .un, .un, .un, .un, .un, .un, .un, .un, .un, .un, .un, .un, .un, .un, .un, .un, .un, .un, .un, .un, .un, .un, .un, .un, .un, .un, .un, .un, .un, .un, .un, .un, .un, .un, .un, .un, .un, .un]
def Q8r (_n0 : Nat) (_p2 : Int) (_v0_0 : Int) (_v0_1 : Int) (v0_2 : List Fld) : List Ob :=
  [⟨6, 0, false, (Fld.rows v0_2).flatten⟩]
def Q76 (n0 : Nat) (p2 : Int) (v0_0 : Int) (v0_1 : Int) (v0_2 : List Fld) : En := .loop 1 Ir.Qdx Ir.Q143 (Qc9 n0 p2 v0_0 v0_1 v0_2) (Q8r n0 p2 v0_0 v0_1 v0_2)
def Qgu (n0 : Nat) (p2 : Int) (q0 : List Fld) (q1 : Int) (z : Nat → PV) (_zo : Nat → List PV) : St :=
  ⟨[.ms 0 6 0 n0, z 1, .int .i64 p2, z 3, .fn 43 [] [], z 5, z 6, z 7, z 8, z 9, .int .i64 q1, z 11, z 12, z 13, z 14, z 15, z 16, z 17, z 18, z 19, z 20, z 21, z 22, z 23, z 24, z 25, z 26, z 27, z 28, z 29, z 30, z 31, z 32, z 33, z 34, z 35, z 36, z 37, z 38, z 39, z 40, z 41, z 42, z 43, z 44, z 45, z 46, z 47, z 48, z 49, z 50, z 51, z 52, z 53, z 54, z 55, z 56, z 57], [(0, ⟨6, 0, false, (Fld.rows q0).flatten⟩)], 193⟩
theorem Qkq (n0 : Nat) (p2 : Int) (v0_0 : Int) (v0_1 : Int) (v0_2 : List Fld) : VOK (Go.Pv.look (number 0 (Q8r n0 p2 v0_0 v0_1 v0_2))) [(0, Fld.rows v0_2)] := (VOK.cons (show Seen _ _ from Q4n (ob := ⟨6, 0, false, (Fld.rows v0_2).flatten⟩) (Fld.Q5 v0_2 6 rfl)) VOK.nil)
def Qba (n0 : Nat) (p2 : Int) (e : En) (q : (List Fld) × Int) : Prop := ∃ z zo, Q7 G e (.st (.exit 0) (Qgu n0 p2 q.1 q.2 z zo))
theorem Q92 (n0 : Nat) (p2 : Int) {e e' : En} (h : ∀ r, Q7 G e r → Q7 G e' r) : ∀ q, Qba n0 p2 e q → Qba n0 p2 e' q
  | _, ⟨z, zo, hz⟩ => ⟨z, zo, h _ hz⟩
def Qh0 (_n0 : Nat) (_p2 : Int) (v0_0 : Int) (v0_1 : Int) (_v0_2 : List Fld) : List PV :=
  [.un, .un, .un, .un, .un, .un, .un, .un, .un, .un, .un, .int .i64 v0_1, .un, .un, .un, .un, .un, .un, .int .i64 v0_0, .int .i64 v0_1, .bool false]
def Qfx (_n0 : Nat) (_p2 : Int) (_v0_0 : Int) (_v0_1 : Int) (_v0_2 : List Fld) : List (Nat × List PV) :=
  []
theorem Qur (n0 : Nat) (p2 : Int) (v0_0 : Int) (v0_1 : Int) (v0_2 : List Fld) (_ho0_0 : 0 < v0_0) (_ho0_1 : 0 < v0_1) (_ho0_2 : v0_0 ≤ p2) (_ho0_3 : p2 + v0_1 ≤ n0) (_ho0_4 : (n0 : Int) ≤ 1152921504606846976) (_ho0_5 : List.length v0_2 = n0) (h0 : (v0_0 == v0_1) = true) : Qba n0 p2 (Q76 n0 p2 v0_0 v0_1 v0_2) (v0_2, v0_0) := by
 exact ⟨(envF (Qh0 n0 p2 v0_0 v0_1 v0_2)), (zoF (Qfx n0 p2 v0_0 v0_1 v0_2)), Qe (Qkq n0 p2 v0_0 v0_1 v0_2) (x := ((.exit 0), Qgu n0 p2 v0_2 v0_0 (envF (Qh0 n0 p2 v0_0 v0_1 v0_2)) (zoF (Qfx n0 p2 v0_0 v0_1 v0_2)))) [hP 2 (dec (!(v0_0 == v0_1)) false (by rw [h0]; rfl))] [] (by kernel_rfl)⟩
theorem Quh (n0 : Nat) (p2 : Int) (v0_0 : Int) (v0_1 : Int) (v0_2 : List Fld) (ho0_0 : 0 < v0_0) (ho0_1 : 0 < v0_1) (ho0_2 : v0_0 ≤ p2) (ho0_3 : p2 + v0_1 ≤ n0) (ho0_4 : (n0 : Int) ≤ 1152921504606846976) (ho0_5 : List.length v0_2 = n0) (h0 : (v0_0 == v0_1) = false) (h1 : (decide (v0_1 < v0_0)) = true) {r : Rs} (hr : Q7 G (Q76 n0 p2 (v0_0 - v0_1) v0_1 (Q15 n0 v0_2 (p2 - v0_0) p2 v0_1)) r) : Q7 G (Q76 n0 p2 v0_0 v0_1 v0_2) r := by
 have e0 := beq_eq_false_iff_ne.1 h0; have e1 := of_decide_eq_true h1
 exact Qb (Qkq n0 p2 v0_0 v0_1 v0_2) (y := (Qc9 n0 p2 (v0_0 - v0_1) v0_1 (Q15 n0 v0_2 (p2 - v0_0) p2 v0_1), Q8r n0 p2 (v0_0 - v0_1) v0_1 (Q15 n0 v0_2 (p2 - v0_0) p2 v0_1))) [hP 2 (dec (!(v0_0 == v0_1)) true (by rw [h0]; rfl)), hB 2 h1, hP 3 (w_ok (p2 - v0_0) (by omega)), hQ (Fld.Q5 (Q15 n0 v0_2 (p2 - v0_0) p2 v0_1) 6 rfl), hP 6 (w_ok (v0_0 - v0_1) (by have f0 := (Ql n0 v0_2 (p2 - v0_0) p2 v0_1 ho0_5); omega))] [aV [(0, Fld.rows (Q15 n0 v0_2 (p2 - v0_0) p2 v0_1))] (Qfo n0 v0_2 (p2 - v0_0) p2 v0_1 ho0_5 (by omega))] (by kernel_rfl) hr
theorem Qwk (n0 : Nat) (p2 : Int) (v0_0 : Int) (v0_1 : Int) (v0_2 : List Fld) (ho0_0 : 0 < v0_0) (ho0_1 : 0 < v0_1) (ho0_2 : v0_0 ≤ p2) (ho0_3 : p2 + v0_1 ≤ n0) (ho0_4 : (n0 : Int) ≤ 1152921504606846976) (ho0_5 : List.length v0_2 = n0) (h0 : (v0_0 == v0_1) = false) (h1 : (decide (v0_1 < v0_0)) = false) {r : Rs} (hr : Q7 G (Q76 n0 p2 v0_0 (v0_1 - v0_0) (Q15 n0 v0_2 (p2 - v0_0) ((p2 + v0_1) - v0_0) v0_0)) r) : Q7 G (Q76 n0 p2 v0_0 v0_1 v0_2) r := by
 have e0 := beq_eq_false_iff_ne.1 h0; have e1 := of_decide_eq_false h1
 exact Qb (Qkq n0 p2 v0_0 v0_1 v0_2) (y := (Qc9 n0 p2 v0_0 (v0_1 - v0_0) (Q15 n0 v0_2 (p2 - v0_0) ((p2 + v0_1) - v0_0) v0_0), Q8r n0 p2 v0_0 (v0_1 - v0_0) (Q15 n0 v0_2 (p2 - v0_0) ((p2 + v0_1) - v0_0) v0_0))) [hP 2 (dec (!(v0_0 == v0_1)) true (by rw [h0]; rfl)), hB 2 h1, hP 3 (w_ok (p2 - v0_0) (by omega)), hP 2 (w_ok (p2 + v0_1) (by omega)), hP 1 (w_ok ((p2 + v0_1) - v0_0) (by omega)), hQ (Fld.Q5 (Q15 n0 v0_2 (p2 - v0_0) ((p2 + v0_1) - v0_0) v0_0) 6 rfl), hP 5 (w_ok (v0_1 - v0_0) (by have f0 := (Ql n0 v0_2 (p2 - v0_0) ((p2 + v0_1) - v0_0) v0_0 ho0_5); omega))] [aV [(0, Fld.rows (Q15 n0 v0_2 (p2 - v0_0) ((p2 + v0_1) - v0_0) v0_0))] (Qfo n0 v0_2 (p2 - v0_0) ((p2 + v0_1) - v0_0) v0_0 ho0_5 (by omega))] (by kernel_rfl) hr
theorem Qf9 (n0 : Nat) (p2 : Int) : ∀ (k0 : Nat) (v0_0 : Int) (v0_1 : Int) (v0_2 : List Fld), 0 < v0_0 → 0 < v0_1 → v0_0 ≤ p2 → p2 + v0_1 ≤ n0 → (n0 : Int) ≤ 1152921504606846976 → List.length v0_2 = n0 → Int.toNat (v0_0 + v0_1) < k0 → Qba n0 p2 (Q76 n0 p2 v0_0 v0_1 v0_2) (Q1n n0 p2 k0 v0_0 v0_1 v0_2)
 | 0, v0_0, v0_1, v0_2, _, _, _, _, _, _, hm => absurd hm (Nat.not_lt_zero _)
 | k0 + 1, v0_0, v0_1, v0_2, ho0_0, ho0_1, ho0_2, ho0_3, ho0_4, ho0_5, hm => by
  rw [Q1n]
  cases h0 : (v0_0 == v0_1) with
  | true =>
   exact Qur n0 p2 v0_0 v0_1 v0_2 ho0_0 ho0_1 ho0_2 ho0_3 ho0_4 ho0_5 h0
  | false =>
   have e0 := beq_eq_false_iff_ne.1 h0
   cases h1 : (decide (v0_1 < v0_0)) with
   | true =>
    have e1 := of_decide_eq_true h1
    exact Q92 n0 p2 (fun r hr => Quh n0 p2 v0_0 v0_1 v0_2 ho0_0 ho0_1 ho0_2 ho0_3 ho0_4 ho0_5 h0 h1 hr) _ (Qf9 n0 p2 k0 (v0_0 - v0_1) v0_1 (Q15 n0 v0_2 (p2 - v0_0) p2 v0_1) (by have f0 := (Ql n0 v0_2 (p2 - v0_0) p2 v0_1 ho0_5); omega) (by have f0 := (Ql n0 v0_2 (p2 - v0_0) p2 v0_1 ho0_5); omega) (by have f0 := (Ql n0 v0_2 (p2 - v0_0) p2 v0_1 ho0_5); omega) (by have f0 := (Ql n0 v0_2 (p2 - v0_0) p2 v0_1 ho0_5); omega) (by have f0 := (Ql n0 v0_2 (p2 - v0_0) p2 v0_1 ho0_5); omega) (Ql n0 v0_2 (p2 - v0_0) p2 v0_1 ho0_5) (by have f0 := (Ql n0 v0_2 (p2 - v0_0) p2 v0_1 ho0_5); omega))
   | false =>
    have e1 := of_decide_eq_false h1
    exact Q92 n0 p2 (fun r hr => Qwk n0 p2 v0_0 v0_1 v0_2 ho0_0 ho0_1 ho0_2 ho0_3 ho0_4 ho0_5 h0 h1 hr) _ (Qf9 n0 p2 k0 v0_0 (v0_1 - v0_0) (Q15 n0 v0_2 (p2 - v0_0) ((p2 + v0_1) - v0_0) v0_0) (by have f0 := (Ql n0 v0_2 (p2 - v0_0) ((p2 + v0_1) - v0_0) v0_0 ho0_5); omega) (by have f0 := (Ql n0 v0_2 (p2 - v0_0) ((p2 + v0_1) - v0_0) v0_0 ho0_5); omega) (by have f0 := (Ql n0 v0_2 (p2 - v0_0) ((p2 + v0_1) - v0_0) v0_0 ho0_5); omega) (by have f0 := (Ql n0 v0_2 (p2 - v0_0) ((p2 + v0_1) - v0_0) v0_0 ho0_5); omega) (by have f0 := (Ql n0 v0_2 (p2 - v0_0) ((p2 + v0_1) - v0_0) v0_0 ho0_5); omega) (Ql n0 v0_2 (p2 - v0_0) ((p2 + v0_1) - v0_0) v0_0 ho0_5) (by have f0 := (Ql n0 v0_2 (p2 - v0_0) ((p2 + v0_1) - v0_0) v0_0 ho0_5); omega))
theorem Q5p (n0 : Nat) (p2 : Int) : ∀ (k0 : Nat) (v0_0 : Int) (v0_1 : Int) (v0_2 : List Fld), List.length v0_2 = n0 → List.length (Q1n n0 p2 k0 v0_0 v0_1 v0_2).1 = n0
 | 0, v0_0, v0_1, v0_2, ho0_5 => by rw [Q1n]; exact ho0_5
 | k0 + 1, v0_0, v0_1, v0_2, ho0_5 => by
  rw [Q1n]
  cases h0 : (v0_0 == v0_1) with
  | true =>
   exact ho0_5
  | false =>
   cases h1 : (decide (v0_1 < v0_0)) with
   | true =>
    exact Q5p n0 p2 k0 (v0_0 - v0_1) v0_1 (Q15 n0 v0_2 (p2 - v0_0) p2 v0_1) (Ql n0 v0_2 (p2 - v0_0) p2 v0_1 ho0_5)
   | false =>
    exact Q5p n0 p2 k0 v0_0 (v0_1 - v0_0) (Q15 n0 v0_2 (p2 - v0_0) ((p2 + v0_1) - v0_0) v0_0) (Ql n0 v0_2 (p2 - v0_0) ((p2 + v0_1) - v0_0) v0_0 ho0_5)
theorem Qge (n0 : Nat) (p2 : Int) : ∀ (k0 : Nat) (v0_0 : Int) (v0_1 : Int) (v0_2 : List Fld), 0 < v0_0 → 0 < v0_1 → v0_0 ≤ p2 → p2 + v0_1 ≤ n0 → (n0 : Int) ≤ 1152921504606846976 → List.length v0_2 = n0 → Int.toNat (v0_0 + v0_1) < k0 → 0 < (Q1n n0 p2 k0 v0_0 v0_1 v0_2).2 ∧ (Q1n n0 p2 k0 v0_0 v0_1 v0_2).2 ≤ p2 ∧ p2 + (Q1n n0 p2 k0 v0_0 v0_1 v0_2).2 ≤ n0
 | 0, v0_0, v0_1, v0_2, _, _, _, _, _, _, hm => absurd hm (Nat.not_lt_zero _)
 | k0 + 1, v0_0, v0_1, v0_2, ho0_0, ho0_1, ho0_2, ho0_3, ho0_4, ho0_5, hm => by
  rw [Q1n]
  cases h0 : (v0_0 == v0_1) with
  | true =>
   have e0 := eq_of_beq h0
   exact (show 0 < v0_0 ∧ v0_0 ≤ p2 ∧ p2 + v0_0 ≤ n0 from ⟨(by omega), (by omega), (by omega)⟩)
  | false =>
   have e0 := beq_eq_false_iff_ne.1 h0
   cases h1 : (decide (v0_1 < v0_0)) with
   | true =>
    have e1 := of_decide_eq_true h1
    exact Qge n0 p2 k0 (v0_0 - v0_1) v0_1 (Q15 n0 v0_2 (p2 - v0_0) p2 v0_1) (by have f0 := (Ql n0 v0_2 (p2 - v0_0) p2 v0_1 ho0_5); omega) (by have f0 := (Ql n0 v0_2 (p2 - v0_0) p2 v0_1 ho0_5); omega) (by have f0 := (Ql n0 v0_2 (p2 - v0_0) p2 v0_1 ho0_5); omega) (by have f0 := (Ql n0 v0_2 (p2 - v0_0) p2 v0_1 ho0_5); omega) (by have f0 := (Ql n0 v0_2 (p2 - v0_0) p2 v0_1 ho0_5); omega) (Ql n0 v0_2 (p2 - v0_0) p2 v0_1 ho0_5) (by have f0 := (Ql n0 v0_2 (p2 - v0_0) p2 v0_1 ho0_5); omega)
   | false =>
    have e1 := of_decide_eq_false h1
    exact Qge n0 p2 k0 v0_0 (v0_1 - v0_0) (Q15 n0 v0_2 (p2 - v0_0) ((p2 + v0_1) - v0_0) v0_0) (by have f0 := (Ql n0 v0_2 (p2 - v0_0) ((p2 + v0_1) - v0_0) v0_0 ho0_5); omega) (by have f0 := (Ql n0 v0_2 (p2 - v0_0) ((p2 + v0_1) - v0_0) v0_0 ho0_5); omega) (by have f0 := (Ql n0 v0_2 (p2 - v0_0) ((p2 + v0_1) - v0_0) v0_0 ho0_5); omega) (by have f0 := (Ql n0 v0_2 (p2 - v0_0) ((p2 + v0_1) - v0_0) v0_0 ho0_5); omega) (by have f0 := (Ql n0 v0_2 (p2 - v0_0) ((p2 + v0_1) - v0_0) v0_0 ho0_5); omega) (Ql n0 v0_2 (p2 - v0_0) ((p2 + v0_1) - v0_0) v0_0 ho0_5) (by have f0 := (Ql n0 v0_2 (p2 - v0_0) ((p2 + v0_1) - v0_0) v0_0 ho0_5); omega)
def Q9 (n0 : Nat) (p0 : List Fld) (p1 : Int) (p2 : Int) (p3 : Int) : List Fld :=
 (Q15 n0 (Q1n n0 p2 ((Int.toNat ((p2 - p1) + (p3 - p2))) + 1) (p2 - p1) (p3 - p2) p0).1 (p2 - (Q1n n0 p2 ((Int.toNat ((p2 - p1) + (p3 - p2))) + 1) (p2 - p1) (p3 - p2) p0).2) p2 (Q1n n0 p2 ((Int.toNat ((p2 - p1) + (p3 - p2))) + 1) (p2 - p1) (p3 - p2) p0).2)
def Q10s (n0 : Nat) (p0 : List Fld) (p1 : Int) (p2 : Int) (p3 : Int) : En := .call 71 [.ms 0 6 0 n0, .int .i64 p1, .int .i64 p2, .int .i64 p3, .fn 43 [] []] [⟨6, 0, false, (Fld.rows p0).flatten⟩]
def Qoa (n0 : Nat) (p0 : List Fld) (p1 : Int) (p2 : Int) (p3 : Int) : Rs := .ret (.tup []) [⟨6, 0, false, (Fld.rows (Q9 n0 p0 p1 p2 p3)).flatten⟩]
theorem Qf (n0 : Nat) (p0 : List Fld) (p1 : Int) (p2 : Int) (p3 : Int) (hn : List.length p0 = n0) : List.length (Q9 n0 p0 p1 p2 p3) = n0 := by
 unfold Q9
 have hz0_0 : List.length (Q1n n0 p2 ((Int.toNat ((p2 - p1) + (p3 - p2))) + 1) (p2 - p1) (p3 - p2) p0).1 = n0 := Q5p n0 p2 ((Int.toNat ((p2 - p1) + (p3 - p2))) + 1) (p2 - p1) (p3 - p2) p0 hn
 obtain ⟨R1, eR1⟩ : ∃ R, (Q1n n0 p2 ((Int.toNat ((p2 - p1) + (p3 - p2))) + 1) (p2 - p1) (p3 - p2) p0) = R := ⟨_, rfl⟩
 rw [eR1] at hz0_0 ⊢
 exact (Ql n0 R1.1 (p2 - R1.2) p2 R1.2 hz0_0)
theorem Q1q (n0 : Nat) (p0 : List Fld) (p1 : Int) (p2 : Int) (p3 : Int) (hn : List.length p0 = n0) (hq0 : 0 ≤ p1 ∧ p1 < p2 ∧ p2 < p3 ∧ p3 ≤ n0 ∧ (n0 : Int) ≤ 1152921504606846976) : Q7 G (Q10s n0 p0 p1 p2 p3) (Qoa n0 p0 p1 p2 p3) := by
 unfold Qoa Q9
 have hl0 := Qf9 n0 p2 ((Int.toNat ((p2 - p1) + (p3 - p2))) + 1) (p2 - p1) (p3 - p2) p0 (by omega) (by omega) (by omega) (by omega) (by omega) hn (by omega)
 have hz0_0 : List.length (Q1n n0 p2 ((Int.toNat ((p2 - p1) + (p3 - p2))) + 1) (p2 - p1) (p3 - p2) p0).1 = n0 := Q5p n0 p2 ((Int.toNat ((p2 - p1) + (p3 - p2))) + 1) (p2 - p1) (p3 - p2) p0 hn
 have hy0 : 0 < (Q1n n0 p2 ((Int.toNat ((p2 - p1) + (p3 - p2))) + 1) (p2 - p1) (p3 - p2) p0).2 ∧ (Q1n n0 p2 ((Int.toNat ((p2 - p1) + (p3 - p2))) + 1) (p2 - p1) (p3 - p2) p0).2 ≤ p2 ∧ p2 + (Q1n n0 p2 ((Int.toNat ((p2 - p1) + (p3 - p2))) + 1) (p2 - p1) (p3 - p2) p0).2 ≤ n0 := Qge n0 p2 ((Int.toNat ((p2 - p1) + (p3 - p2))) + 1) (p2 - p1) (p3 - p2) p0 (by omega) (by omega) (by omega) (by omega) (by omega) hn (by omega)
 obtain ⟨R1, eR1⟩ : ∃ R, (Q1n n0 p2 ((Int.toNat ((p2 - p1) + (p3 - p2))) + 1) (p2 - p1) (p3 - p2) p0) = R := ⟨_, rfl⟩
 rw [eR1] at hz0_0 hy0 hl0 ⊢
 obtain ⟨z0, zo0, hl0⟩ := hl0
 exact Q8 (fn := Ir.K1c) rfl (vk1 (Fld.Q5 p0 6 rfl)) [hP 2 (w_ok (p2 - p1) (by omega)), hP 3 (w_ok (p3 - p2) (by omega)), hS 0 false (Fld.Q5 R1.1 6 rfl), hP 4 (w_ok (p2 - R1.2) (by have g0 := hy0; omega)), hQ (Fld.Q5 (Q15 n0 R1.1 (p2 - R1.2) p2 R1.2) 6 rfl)] [aV [(0, Fld.rows R1.1)] hl0, aV [(0, Fld.rows (Q15 n0 R1.1 (p2 - R1.2) p2 R1.2))] (Qfo n0 R1.1 (p2 - R1.2) p2 R1.2 hz0_0 (by have g0 := hy0; omega))] (by kernel_rfl)
end Go.Proofs.Ytnhhddbbppbblaa
end

