/- Texts of the claim, merged by a program; what the statement does not reach is left out. -/
import Derived.Test.YtnhhddbbppbblaaBPatchAgain3

section
/- What taking fields out and copying values compute (printed by a program). -/
namespace Go.Proofs.Ytnhhddbbppbblaa
open Go.Pv
def Q126 (p0 : Val) : Val := p0
def Qpx (p0 : Val) : List Val → Nat → Unit
 | [], _i0 =>
  ()
 | _x0 :: r0, i0 =>
  Qpx p0 r0 (i0 + 1)
def Qm5 (p0 : Val) (i0 : Nat) : List PV :=
  [.un, .bx 0 0, .bx 1 0, .un, .un, .un, .un, .un, .un, .un, .un, .un, .ms 2 5 0 (List.length p0.list), .int .i64 ((List.length p0.list) : Int), .int .i64 (i0 : Int), .un, .un, .un, .un, .un, .un, .un, .un, .un, .un, .un, .un, .un, .un, .un, .un, .un, .un, .un, .un, .un, .un, .un, .un, .un, .un, .un, .un, .un, .un, .un, .un, .un]
def Qe6 (p0 : Val) (_i0 : Nat) : List Ob :=
  [⟨5, 0, true, [.int .i64 p0.kind, .int .i64 p0.n, .str p0.s, .ms 2 5 0 (List.length p0.list), .sl (Fld.rows p0.fields)]⟩, ⟨5, 0, true, [.int .i64 0, .int .i64 0, .str (⟨#[]⟩ : ByteArray), .ms 3 5 0 0, .ms 4 6 0 0]⟩, ⟨5, 0, true, (Val.rows p0.list).flatten⟩, ⟨5, 0, true, []⟩, ⟨6, 0, true, []⟩]
def Qam (p0 : Val) (i0 : Nat) : En := .loop 0 Ir.Qd5 Ir.Qy8 (Qm5 p0 i0) (Qe6 p0 i0)
def Qh4 (p0 : Val) (z : Nat → PV) (_zo : Nat → List PV) : St :=
  ⟨[z 0, .bx 0 0, .bx 1 0, z 3, z 4, z 5, z 6, z 7, z 8, z 9, z 10, z 11, z 12, z 13, z 14, z 15, z 16, z 17, z 18, z 19, z 20, z 21, z 22, z 23, z 24, z 25, z 26, z 27, z 28, z 29, z 30, z 31, z 32, z 33, z 34, z 35, z 36, z 37, z 38, z 39, z 40, z 41, z 42, z 43, z 44, z 45, z 46, z 47], [(0, ⟨5, 0, true, [.int .i64 p0.kind, .int .i64 p0.n, .str p0.s, .ms 2 5 0 (List.length p0.list), .sl (Fld.rows p0.fields)]⟩), (1, ⟨5, 0, true, [.int .i64 0, .int .i64 0, .str (⟨#[]⟩ : ByteArray), .ms 3 5 0 0, .ms 4 6 0 0]⟩), (2, ⟨5, 0, true, (Val.rows p0.list).flatten⟩), (3, ⟨5, 0, true, []⟩), (4, ⟨6, 0, true, []⟩)], 69⟩
theorem Qp3 (p0 : Val) (i0 : Nat) : VOK (Go.Pv.look (number 0 (Qe6 p0 i0))) [(2, Val.rows p0.list)] := (VOK.cons (show Seen _ _ from Q47 (ob := ⟨5, 0, true, (Val.rows p0.list).flatten⟩) (Val.Q5 p0.list 5 rfl)) VOK.nil)
def Q6g (p0 : Val) (e : En) (_q : Unit) : Prop := ∃ z zo, Q7 G e (.st (.exit 0) (Qh4 p0 z zo))
theorem Qis (p0 : Val) {e e' : En} (h : ∀ r, Q7 G e r → Q7 G e' r) : ∀ q, Q6g p0 e q → Q6g p0 e' q
  | _, ⟨z, zo, hz⟩ => ⟨z, zo, h _ hz⟩
def Qo4 (p0 : Val) : List Fld → Nat → Unit
 | [], _i1 =>
  ()
 | _x1 :: r1, i1 =>
  Qo4 p0 r1 (i1 + 1)
def Qkq (p0 : Val) (i1 : Nat) : List PV :=
  [.un, .bx 0 0, .bx 1 0, .un, .un, .un, .un, .un, .un, .un, .un, .un, .un, .un, .un, .un, .un, .un, .un, .un, .un, .un, .un, .un, .un, .un, .un, .un, .un, .un, .un, .ms 2 6 0 (List.length p0.fields), .int .i64 ((List.length p0.fields) : Int), .int .i64 (i1 : Int), .un, .un, .un, .un, .un, .un, .un, .un, .un, .un, .un, .un, .un, .un]
def Qdz (p0 : Val) (_i1 : Nat) : List Ob :=
  [⟨5, 0, true, [.int .i64 p0.kind, .int .i64 p0.n, .str p0.s, .ms 3 5 0 (List.length p0.list), .ms 2 6 0 (List.length p0.fields)]⟩, ⟨5, 0, true, [.int .i64 0, .int .i64 0, .str (⟨#[]⟩ : ByteArray), .ms 4 5 0 0, .ms 5 6 0 0]⟩, ⟨6, 0, true, (Fld.rows p0.fields).flatten⟩, ⟨5, 0, true, (Val.rows p0.list).flatten⟩, ⟨5, 0, true, []⟩, ⟨6, 0, true, []⟩]
def Qap (p0 : Val) (i1 : Nat) : En := .loop 0 Ir.Qcr Ir.Qyj (Qkq p0 i1) (Qdz p0 i1)
def Qgn (p0 : Val) (z : Nat → PV) (_zo : Nat → List PV) : St :=
  ⟨[z 0, .bx 0 0, .bx 1 0, z 3, z 4, z 5, z 6, z 7, z 8, z 9, z 10, z 11, z 12, z 13, z 14, z 15, z 16, z 17, z 18, z 19, z 20, z 21, z 22, z 23, z 24, z 25, z 26, z 27, z 28, z 29, z 30, z 31, z 32, z 33, z 34, z 35, z 36, z 37, z 38, z 39, z 40, z 41, z 42, z 43, z 44, z 45, z 46, z 47], [(0, ⟨5, 0, true, [.int .i64 p0.kind, .int .i64 p0.n, .str p0.s, .ms 3 5 0 (List.length p0.list), .ms 2 6 0 (List.length p0.fields)]⟩), (1, ⟨5, 0, true, [.int .i64 0, .int .i64 0, .str (⟨#[]⟩ : ByteArray), .ms 4 5 0 0, .ms 5 6 0 0]⟩), (2, ⟨6, 0, true, (Fld.rows p0.fields).flatten⟩), (3, ⟨5, 0, true, (Val.rows p0.list).flatten⟩), (4, ⟨5, 0, true, []⟩), (5, ⟨6, 0, true, []⟩)], 70⟩
theorem Qp1 (p0 : Val) (i1 : Nat) : VOK (Go.Pv.look (number 0 (Qdz p0 i1))) [(2, Fld.rows p0.fields), (3, Val.rows p0.list)] := (VOK.cons (show Seen _ _ from Q47 (ob := ⟨6, 0, true, (Fld.rows p0.fields).flatten⟩) (Fld.Q5 p0.fields 6 rfl)) (VOK.cons (show Seen _ _ from Q47 (ob := ⟨5, 0, true, (Val.rows p0.list).flatten⟩) (Val.Q5 p0.list 5 rfl)) VOK.nil))
def Q6c (p0 : Val) (e : En) (_q : Unit) : Prop := ∃ z zo, Q7 G e (.st (.exit 2) (Qgn p0 z zo))
theorem Qhu (p0 : Val) {e e' : En} (h : ∀ r, Q7 G e r → Q7 G e' r) : ∀ q, Q6c p0 e q → Q6c p0 e' q
  | _, ⟨z, zo, hz⟩ => ⟨z, zo, h _ hz⟩
theorem Q12p (p0 : Val) : Q126 p0 = (p0) := by
  rfl
def Qxh (p0 : Val) : En := .call 45 [.agg (Val.cells p0)] []
def Qu3 (p0 : Val) : Rs := .ret (.agg (Val.cells (Q126 p0))) []
abbrev Qdr (p0 : Val) : Prop := Val.Sm 1000000000 p0
def Q6w (p0 : Val) : Prop := ∀ (q : Val), SizeOf.sizeOf q < SizeOf.sizeOf p0 → Qdr q → Q7 G (Qxh q) (Qu3 q)
def Qa2 (p0 : Val) : Prop := (List.length p0.list ≤ 4611686018427387904) ∧ (∀ x0 ∈ p0.list, Qdr x0) ∧ True
def Qa6 (p0 : Val) : Prop := (List.length p0.fields ≤ 4611686018427387904) ∧ (∀ x1 ∈ p0.fields, Qdr x1.v) ∧ True
theorem Qac (p0 : Val) (H : Qdr p0) : (List.length p0.list * 80 ≤ 140737488355328) ∧ (Qa2 p0) ∧ (List.length p0.fields * 96 ≤ 140737488355328) ∧ (Qa6 p0) ∧ True := by
  obtain ⟨h1, h2, h3, h4⟩ := H.all
  exact ⟨by omega, ⟨by omega, h3, trivial⟩, by omega, ⟨by omega, h4, trivial⟩, trivial⟩
def Qgv (p0 : Val) (i0 : Nat) : List PV :=
  [.un, .un, .un, .un, .un, .un, .un, .un, .un, .un, .un, .un, .ms 2 5 0 (List.length p0.list), .int .i64 ((List.length p0.list) : Int), .int .i64 (i0 : Int), .bool false]
def Qd3 (_p0 : Val) (_i0 : Nat) : List (Nat × List PV) :=
  []
theorem Qri (p0 : Val) (_H : Qa2 p0) (_rec : Q6w p0) (i0 : Nat) (hc0 : (decide ((i0 : Int) < ((List.length p0.list) : Int))) = false) : Q6g p0 (Qam p0 i0) () := by
 exact ⟨(envF (Qgv p0 i0)), (zoF (Qd3 p0 i0)), Qf (Qp3 p0 i0) (x := ((.exit 0), Qh4 p0 (envF (Qgv p0 i0)) (zoF (Qd3 p0 i0)))) [hB 0 hc0] [] (by kernel_rfl)⟩
theorem Qrq (p0 : Val) (H : Qa2 p0) (rec : Q6w p0) (x0 : Val) (i0 : Nat) (hx0 : p0.list[i0]? = some x0) (hi0 : i0 < List.length p0.list) (hc0 : (decide ((i0 : Int) < ((List.length p0.list) : Int))) = true) {r : Rs} (hr : Q7 G (Qam p0 (i0 + 1)) r) : Q7 G (Qam p0 i0) r := by
 have hB0 := H.1
 exact Qc (Qp3 p0 i0) (y := (Qm5 p0 (i0 + 1), Qe6 p0 (i0 + 1))) [hB 0 hc0, hP 1 (Q1c 2 5 (List.length p0.list) (i0 : Int) i0 (by omega) (by omega) (by omega)), hP 0 (Q2x 2 5 0 true ((Val.rows p0.list).flatten) (Val.rows p0.list) 5 true i0 0 (i0 * 5) (Val.cells x0) (.agg [.int .i64 x0.kind, .int .i64 x0.n, .str x0.s, .sl (Val.rows x0.list), .sl (Fld.rows x0.fields)]) rfl rfl (Val.Qi hx0) (Val.Qp p0.list) (by decide) rfl), hP 8 (Q1c 2 5 (List.length p0.list) (i0 : Int) i0 (by omega) (by omega) (by omega)), hV 0 [(2, Val.rows p0.list)] (Qbe 2 5 true ((Val.rows p0.list).flatten) (Val.rows p0.list) (Val.rows p0.list) 5 i0 0 (i0 * 5) _ (.agg [.int .i64 x0.kind, .int .i64 x0.n, .str x0.s, .sl (Val.rows x0.list), .sl (Fld.rows x0.fields)]) rfl rfl (Val.Qi hx0) (Val.Qp p0.list) (by decide) rfl rfl (Qvx (Val.Qi hx0))), hS 0 true (Val.Q5 p0.list 5 rfl), hP 0 (Qy i0 (by omega))] [aN (rec x0 (szL hx0) (H.2.1 x0 (Q1f hx0)))] (by kernel_rfl) hr
theorem Qmf (p0 : Val) (H : Qa2 p0) (rec : Q6w p0) : ∀ (r0 : List Val) (i0 : Nat), List.drop i0 p0.list = r0 → Q6g p0 (Qam p0 i0) (Qpx p0 r0 i0)
 | [], i0, hd => by
  have hc0 : (decide ((i0 : Int) < ((List.length p0.list) : Int))) = false := by have := Q23 hd; simp; omega
  show Q6g p0 _ ()
  exact Qri p0 H rec i0 hc0
 | x0 :: r0, i0, hd => by
  obtain ⟨hx0, hi0, hd'⟩ := Q1j hd
  have hc0 : (decide ((i0 : Int) < ((List.length p0.list) : Int))) = true := by simp; omega
  show Q6g p0 _ ()
  exact Qis p0 (fun r hr => Qrq p0 H rec x0 i0 hx0 hi0 hc0 hr) _ (Qmf p0 H rec r0 (i0 + 1) hd')
def Qet (p0 : Val) (i1 : Nat) : List PV :=
  [.un, .un, .un, .un, .un, .un, .un, .un, .un, .un, .un, .un, .un, .un, .un, .un, .un, .un, .un, .un, .un, .un, .un, .un, .un, .un, .un, .un, .un, .un, .un, .ms 2 6 0 (List.length p0.fields), .int .i64 ((List.length p0.fields) : Int), .int .i64 (i1 : Int), .bool false]
def Qda (_p0 : Val) (_i1 : Nat) : List (Nat × List PV) :=
  []
theorem Qsw (p0 : Val) (_H : Qa6 p0) (_rec : Q6w p0) (i1 : Nat) (hc1 : (decide ((i1 : Int) < ((List.length p0.fields) : Int))) = false) : Q6c p0 (Qap p0 i1) () := by
 exact ⟨(envF (Qet p0 i1)), (zoF (Qda p0 i1)), Qf (Qp1 p0 i1) (x := ((.exit 2), Qgn p0 (envF (Qet p0 i1)) (zoF (Qda p0 i1)))) [hB 0 hc1] [] (by kernel_rfl)⟩
theorem Qrl (p0 : Val) (H : Qa6 p0) (rec : Q6w p0) (x1 : Fld) (i1 : Nat) (hx1 : p0.fields[i1]? = some x1) (hi1 : i1 < List.length p0.fields) (hc1 : (decide ((i1 : Int) < ((List.length p0.fields) : Int))) = true) {r : Rs} (hr : Q7 G (Qap p0 (i1 + 1)) r) : Q7 G (Qap p0 i1) r := by
 have hB0 := H.1
 exact Qc (Qp1 p0 i1) (y := (Qkq p0 (i1 + 1), Qdz p0 (i1 + 1))) [hB 0 hc1, hP 1 (Q1c 2 6 (List.length p0.fields) (i1 : Int) i1 (by omega) (by omega) (by omega)), hP 0 (Q2x 2 6 0 true ((Fld.rows p0.fields).flatten) (Fld.rows p0.fields) 6 true i1 0 (i1 * 6) (Fld.cells x1) (.agg [.str x1.name, .int .i64 x1.v.kind, .int .i64 x1.v.n, .str x1.v.s, .sl (Val.rows x1.v.list), .sl (Fld.rows x1.v.fields)]) rfl rfl (Fld.Qi hx1) (Fld.Qp p0.fields) (by decide) rfl), hP 9 (Q1c 2 6 (List.length p0.fields) (i1 : Int) i1 (by omega) (by omega) (by omega)), hV 1 [(2, Fld.rows p0.fields)] (Qbe 2 6 true ((Fld.rows p0.fields).flatten) (Fld.rows p0.fields) (Fld.rows p0.fields) 5 i1 1 (i1 * 6 + 1) _ (.agg [.int .i64 x1.v.kind, .int .i64 x1.v.n, .str x1.v.s, .sl (Val.rows x1.v.list), .sl (Fld.rows x1.v.fields)]) rfl rfl (Fld.Qi hx1) (Fld.Qp p0.fields) (by decide) rfl rfl (Qvx (Fld.Qi hx1))), hS 0 true (Fld.Q5 p0.fields 6 rfl), hP 0 (Qy i1 (by omega))] [aN (rec x1.v (szF hx1) (H.2.1 x1 (Q1f hx1)))] (by kernel_rfl) hr
theorem Qmh (p0 : Val) (H : Qa6 p0) (rec : Q6w p0) : ∀ (r1 : List Fld) (i1 : Nat), List.drop i1 p0.fields = r1 → Q6c p0 (Qap p0 i1) (Qo4 p0 r1 i1)
 | [], i1, hd => by
  have hc1 : (decide ((i1 : Int) < ((List.length p0.fields) : Int))) = false := by have := Q23 hd; simp; omega
  show Q6c p0 _ ()
  exact Qsw p0 H rec i1 hc1
 | x1 :: r1, i1, hd => by
  obtain ⟨hx1, hi1, hd'⟩ := Q1j hd
  have hc1 : (decide ((i1 : Int) < ((List.length p0.fields) : Int))) = true := by simp; omega
  show Q6c p0 _ ()
  exact Qhu p0 (fun r hr => Qrl p0 H rec x1 i1 hx1 hi1 hc1 hr) _ (Qmh p0 H rec r1 (i1 + 1) hd')
theorem Q13u (p0 : Val) (H : Qdr p0) (rec : Q6w p0) : Q7 G (Qxh p0) (Qu3 p0) := by
  unfold Qu3
  rw [Q12p]
  have hl0 := Qmf p0 ((Qac p0 H).2.1) rec p0.list 0 (by simp)
  obtain ⟨z0, zo0, hl0⟩ := hl0
  have hl1 := Qmh p0 ((Qac p0 H).2.2.2.1) rec p0.fields 0 (by simp)
  obtain ⟨z1, zo1, hl1⟩ := hl1
  exact Qa (fn := Ir.K1r) rfl VOK.nil [hQ (Val.Q5 p0.list 5 rfl), hS 0 true (Val.Q5 p0.list 5 rfl), hQ (Fld.Q5 p0.fields 6 rfl), hS 0 true (Fld.Q5 p0.fields 6 rfl), hS 0 true (Val.Q5 p0.list 5 rfl), hQ (Val.Qe p0.list).symm, hQ (Fld.Qe p0.fields).symm] [aV [(0, Val.rows p0.list)] (Q50 (G := G) (f := 55) (sz := 5) (bytes := 80) rfl (Val.Qe p0.list) (Val.Q5 p0.list 5 rfl) (Qac p0 H).1), aV [(2, Val.rows p0.list)] hl0, aV [(0, Fld.rows p0.fields)] (Q50 (G := G) (f := 41) (sz := 6) (bytes := 96) rfl (Fld.Qe p0.fields) (Fld.Q5 p0.fields 6 rfl) (Qac p0 H).2.2.1), aV [(2, Fld.rows p0.fields), (3, Val.rows p0.list)] hl1] (by kernel_rfl)
theorem Q10y : ∀ (k : Nat) (p0 : Val), SizeOf.sizeOf p0 < k → Qdr p0 → Q7 G (Qxh p0) (Qu3 p0)
  | 0, _, h, _ => absurd h (Nat.not_lt_zero _)
  | k + 1, p0, h, H => Q13u p0 H (fun q hq hH => Q10y k q (by omega) hH)
theorem Qxr (p0 : Val) (H : Qdr p0) : Q7 G (Qxh p0) (Qu3 p0) := Q10y _ p0 (Nat.lt_succ_self _) H
inductive Qpt where
  | k0
  | k1 (q0 : Val)
def Q4d (p0 : Val) (p1 : ByteArray) : List Fld → Nat → Qpt
 | [], _i0 =>
  (.k0)
 | x0 :: r0, i0 =>
  bif (sEq x0.name p1) then
   (.k1 x0.v)
  else
   Q4d p0 p1 r0 (i0 + 1)
def Qm1 (p0 : Val) (p1 : ByteArray) (i0 : Nat) : List PV :=
  [.un, .str p1, .un, .un, .bx 0 0, .un, .un, .un, .un, .un, .un, .un, .sl (Fld.rows p0.fields), .int .i64 ((List.length p0.fields) : Int), .int .i64 (i0 : Int), .un, .un, .un, .un, .un, .un, .un, .un, .un, .un, .un, .un]
def Qk0 (_p0 : Val) (_p1 : ByteArray) (_i0 : Nat) : List Ob :=
  [⟨5, 0, true, [.int .i64 0, .int .i64 0, .str (⟨#[]⟩ : ByteArray), .ms 1 5 0 0, .ms 2 6 0 0]⟩, ⟨5, 0, true, []⟩, ⟨6, 0, true, []⟩]
def Q7l (p0 : Val) (p1 : ByteArray) (i0 : Nat) : En := .loop 0 Ir.Qcy Ir.Qyu (Qm1 p0 p1 i0) (Qk0 p0 p1 i0)
def Qfb (_p0 : Val) (_p1 : ByteArray) (z : Nat → PV) (_zo : Nat → List PV) : St :=
  ⟨[z 0, z 1, z 2, z 3, .bx 0 0, z 5, z 6, z 7, z 8, z 9, z 10, z 11, z 12, z 13, z 14, z 15, z 16, z 17, z 18, z 19, z 20, z 21, z 22, z 23, z 24, z 25, z 26], [(0, ⟨5, 0, true, [.int .i64 0, .int .i64 0, .str (⟨#[]⟩ : ByteArray), .ms 1 5 0 0, .ms 2 6 0 0]⟩), (1, ⟨5, 0, true, []⟩), (2, ⟨6, 0, true, []⟩)], 67⟩
def Qf5 (_p0 : Val) (_p1 : ByteArray) (q0 : Val) (z : Nat → PV) (zo : Nat → List PV) : St :=
  ⟨[z 0, z 1, z 2, z 3, .bx 0 0, .bool true, z 6, z 7, z 8, z 9, z 10, z 11, z 12, z 13, z 14, z 15, z 16, z 17, z 18, z 19, z 20, z 21, z 22, z 23, z 24, z 25, z 26], [(0, ⟨5, 0, true, [.int .i64 q0.kind, .int .i64 q0.n, .str q0.s, .sl (Val.rows q0.list), .sl (Fld.rows q0.fields)]⟩), (1, ⟨5, 0, true, zo 1⟩), (2, ⟨6, 0, true, zo 2⟩), (195, ⟨6, 0, true, zo 195⟩)], 899⟩
def Q7h (p0 : Val) (p1 : ByteArray) (e : En) : Qpt → Prop
  | .k0 => ∃ z zo, Q7 G e (.st (.exit 0) (Qfb p0 p1 z zo))
  | .k1 q0 => ∃ z zo, Q7 G e (.st .ret (Qf5 p0 p1 q0 z zo))
theorem Qj2 (p0 : Val) (p1 : ByteArray) {e e' : En} (h : ∀ r, Q7 G e r → Q7 G e' r) : ∀ q, Q7h p0 p1 e q → Q7h p0 p1 e' q
  | .k0, ⟨z, zo, hz⟩ => ⟨z, zo, h _ hz⟩
  | .k1 _, ⟨z, zo, hz⟩ => ⟨z, zo, h _ hz⟩
def Q83 (p0 : Val) (_p1 : ByteArray) : Prop := (List.length p0.fields ≤ 4611686018427387904) ∧ (∀ x0 ∈ p0.fields, Qdr x0.v) ∧ True
def Qhj (p0 : Val) (p1 : ByteArray) (i0 : Nat) : List PV :=
  [.un, .str p1, .un, .un, .un, .un, .un, .un, .un, .un, .un, .un, .sl (Fld.rows p0.fields), .int .i64 ((List.length p0.fields) : Int), .int .i64 (i0 : Int), .bool false]
def Qbz (_p0 : Val) (_p1 : ByteArray) (_i0 : Nat) : List (Nat × List PV) :=
  []
theorem Qre (p0 : Val) (p1 : ByteArray) (_H : Q83 p0 p1) (i0 : Nat) (hc0 : (decide ((i0 : Int) < ((List.length p0.fields) : Int))) = false) : Q7h p0 p1 (Q7l p0 p1 i0) (.k0) := by
 exact ⟨(envF (Qhj p0 p1 i0)), (zoF (Qbz p0 p1 i0)), Qf VOK.nil (x := ((.exit 0), Qfb p0 p1 (envF (Qhj p0 p1 i0)) (zoF (Qbz p0 p1 i0)))) [hB 0 hc0] [] (by kernel_rfl)⟩
def Qg1 (p0 : Val) (p1 : ByteArray) (i0 : Nat) (x0 : Fld) : List PV :=
  [.un, .str p1, .un, .un, .un, .un, .un, .bx 195 0, .un, .un, .un, .un, .sl (Fld.rows p0.fields), .int .i64 ((List.length p0.fields) : Int), .int .i64 (i0 : Int), .bool true, .rf [.str x0.name, .int .i64 x0.v.kind, .int .i64 x0.v.n, .str x0.v.s, .sl (Val.rows x0.v.list), .sl (Fld.rows x0.v.fields)], .agg [.str x0.name, .int .i64 x0.v.kind, .int .i64 x0.v.n, .str x0.v.s, .sl (Val.rows x0.v.list), .sl (Fld.rows x0.v.fields)], .bx 195 0, .str x0.name, .str p1, .bool true, .bx 195 1, .agg [.int .i64 x0.v.kind, .int .i64 x0.v.n, .str x0.v.s, .sl (Val.rows x0.v.list), .sl (Fld.rows x0.v.fields)], .agg [.int .i64 x0.v.kind, .int .i64 x0.v.n, .str x0.v.s, .sl (Val.rows x0.v.list), .sl (Fld.rows x0.v.fields)]]
def Qdo (_p0 : Val) (_p1 : ByteArray) (_i0 : Nat) (x0 : Fld) : List (Nat × List PV) :=
  [(1, []), (2, []), (195, [.str x0.name, .int .i64 x0.v.kind, .int .i64 x0.v.n, .str x0.v.s, .sl (Val.rows x0.v.list), .sl (Fld.rows x0.v.fields)])]
theorem Qs9 (p0 : Val) (p1 : ByteArray) (H : Q83 p0 p1) (x0 : Fld) (i0 : Nat) (hx0 : p0.fields[i0]? = some x0) (_hi0 : i0 < List.length p0.fields) (hc0 : (decide ((i0 : Int) < ((List.length p0.fields) : Int))) = true) (h0 : (sEq x0.name p1) = true) : Q7h p0 p1 (Q7l p0 p1 i0) (.k1 x0.v) := by
 exact ⟨(envF (Qg1 p0 p1 i0 x0)), (zoF (Qdo p0 p1 i0 x0)), Qf VOK.nil (x := (.ret, Qf5 p0 p1 x0.v (envF (Qg1 p0 p1 i0 x0)) (zoF (Qdo p0 p1 i0 x0)))) [hB 0 hc0, hP 0 (Q25 6 (Fld.rows p0.fields) i0 _ (Fld.Qi hx0) rfl), hB 6 h0] [aN (Qxr x0.v (H.2.1 x0 (Q1f hx0)))] (by kernel_rfl)⟩
theorem Qry (p0 : Val) (p1 : ByteArray) (H : Q83 p0 p1) (x0 : Fld) (i0 : Nat) (hx0 : p0.fields[i0]? = some x0) (hi0 : i0 < List.length p0.fields) (hc0 : (decide ((i0 : Int) < ((List.length p0.fields) : Int))) = true) (h0 : (sEq x0.name p1) = false) {r : Rs} (hr : Q7 G (Q7l p0 p1 (i0 + 1)) r) : Q7 G (Q7l p0 p1 i0) r := by
 have hB0 := H.1
 exact Qc VOK.nil (y := (Qm1 p0 p1 (i0 + 1), Qk0 p0 p1 (i0 + 1))) [hB 0 hc0, hP 0 (Q25 6 (Fld.rows p0.fields) i0 _ (Fld.Qi hx0) rfl), hB 6 h0, hP 0 (Qy i0 (by omega))] [] (by kernel_rfl) hr
theorem Qlz (p0 : Val) (p1 : ByteArray) (H : Q83 p0 p1) : ∀ (r0 : List Fld) (i0 : Nat), List.drop i0 p0.fields = r0 → Q7h p0 p1 (Q7l p0 p1 i0) (Q4d p0 p1 r0 i0)
 | [], i0, hd => by
  have hc0 : (decide ((i0 : Int) < ((List.length p0.fields) : Int))) = false := by have := Q23 hd; simp; omega
  rw [Q4d]
  exact Qre p0 p1 H i0 hc0
 | x0 :: r0, i0, hd => by
  obtain ⟨hx0, hi0, hd'⟩ := Q1j hd
  have hc0 : (decide ((i0 : Int) < ((List.length p0.fields) : Int))) = true := by simp; omega
  rw [Q4d]
  cases h0 : (sEq x0.name p1) with
  | true =>
   exact Qs9 p0 p1 H x0 i0 hx0 hi0 hc0 h0
  | false =>
   exact Qj2 p0 p1 (fun r hr => Qry p0 p1 H x0 i0 hx0 hi0 hc0 h0 hr) _ (Qlz p0 p1 H r0 (i0 + 1) hd')
def Q5j (p0 : Val) (p1 : ByteArray) : Val × Bool :=
 bif (p0.kind == 5) then
  (match (Q4d p0 p1 p0.fields 0) with
  | .k0 => ((Val.mk 0 0 (⟨#[]⟩ : ByteArray) [] []), false)
  | .k1 y1_0 => (y1_0, true))
 else
  ((Val.mk 0 0 (⟨#[]⟩ : ByteArray) [] []), false)
def Q13w (p0 : Val) (p1 : ByteArray) : En := .call 29 [.agg (Val.cells p0), .str p1] []
def Q10s (p0 : Val) (p1 : ByteArray) : Rs := .ret (.tup [.agg (Val.cells (Q5j p0 p1).1), .bool (Q5j p0 p1).2]) []
def Qxl (p0 : Val) (p1 : ByteArray) : Prop := (Q83 p0 p1) ∧ True
theorem Q13e (p0 : Val) (p1 : ByteArray) (H : Qxl p0 p1) : Q7 G (Q13w p0 p1) (Q10s p0 p1) := by
 unfold Q10s Q5j
 cases h0 : (p0.kind == 5) with
 | true =>
  have hl1 := Qlz p0 p1 (H.1) p0.fields 0 (by simp)
  cases hr1 : (Q4d p0 p1 p0.fields 0) with
  | k0 =>
   rw [hr1] at hl1
   obtain ⟨z1, zo1, hl1⟩ := hl1
   exact Qa (fn := Ir.K1k) rfl VOK.nil [hB 5 h0, hP 2 (Qk (Fld.rows p0.fields) (List.length p0.fields) (Fld.Qe p0.fields))] [aN hl1] (by kernel_rfl)
  | k1 y1_0 =>
   rw [hr1] at hl1
   obtain ⟨z1, zo1, hl1⟩ := hl1
   exact Qa (fn := Ir.K1k) rfl VOK.nil [hB 5 h0, hP 2 (Qk (Fld.rows p0.fields) (List.length p0.fields) (Fld.Qe p0.fields))] [aN hl1] (by kernel_rfl)
 | false =>
  exact Qa (fn := Ir.K1k) rfl VOK.nil [hB 5 h0] [] (by kernel_rfl)
def Q3j (p0 : Fld) (o0 : ByteArray) : Bool :=
 (sEq p0.name o0)
def Q12n (p0 : Fld) (o0 : ByteArray) : En := .call 57 [.agg (Fld.cells p0), .bx 0 0] [⟨1, 0, false, [.str o0]⟩]
def Qum (_p0 : Fld) (o0 : ByteArray) (q0 : Bool) : Rs := .ret (.bool q0) [⟨1, 0, false, [.str o0]⟩]
def Q129 (p0 : Fld) (o0 : ByteArray) : Rs := Qum p0 o0 (Q3j p0 o0)
theorem Qx1 (p0 : Fld) (o0 : ByteArray) : Q7 G (Q12n p0 o0) (Q129 p0 o0) := by
 unfold Q129 Q3j
 exact Qa (fn := Ir.K1t) rfl (h := [⟨1, 0, false, [.str o0]⟩]) (vw := []) VOK.nil [] [] (by kernel_rfl)
inductive Qoj where
  | k0
  | k1 (q0 : Int)
def Q2i (p0 : List Fld) (o0 : ByteArray) : List Fld → Nat → Qoj
 | [], _i0 =>
  (.k0)
 | x0 :: r0, i0 =>
  bif (Q3j x0 o0) then
   (.k1 (i0 : Int))
  else
   Q2i p0 o0 r0 (i0 + 1)
def Qjx (p0 : List Fld) (_o0 : ByteArray) (i0 : Nat) : List PV :=
  [.sl (Fld.rows p0), .fn 57 [] [.bx 0 0], .un, .un, .un, .un, .un, .int .i64 ((List.length p0) : Int), .int .i64 (i0 : Int), .un, .un, .un, .un, .un, .un, .un, .un, .un, .un]
def Qku (_p0 : List Fld) (o0 : ByteArray) (_i0 : Nat) : List Ob :=
  [⟨1, 0, false, [.str o0]⟩]
def Q7s (p0 : List Fld) (o0 : ByteArray) (i0 : Nat) : En := .loop 1 Ir.Qd4 Ir.Qyc (Qjx p0 o0 i0) (Qku p0 o0 i0)
def Qfi (_p0 : List Fld) (o0 : ByteArray) (z : Nat → PV) (_zo : Nat → List PV) : St :=
  ⟨[z 0, z 1, z 2, z 3, z 4, z 5, z 6, z 7, z 8, z 9, z 10, z 11, z 12, z 13, z 14, z 15, z 16, z 17, z 18], [(0, ⟨1, 0, false, [.str o0]⟩)], 65⟩
def Qf4 (_p0 : List Fld) (o0 : ByteArray) (q0 : Int) (z : Nat → PV) (_zo : Nat → List PV) : St :=
  ⟨[z 0, z 1, z 2, z 3, .int .i64 q0, z 5, z 6, z 7, z 8, z 9, z 10, z 11, z 12, z 13, z 14, z 15, z 16, z 17, z 18], [(0, ⟨1, 0, false, [.str o0]⟩)], 705⟩
def Q8e (p0 : List Fld) (o0 : ByteArray) (e : En) : Qoj → Prop
  | .k0 => ∃ z zo, Q7 G e (.st (.exit 0) (Qfi p0 o0 z zo))
  | .k1 q0 => ∃ z zo, Q7 G e (.st .ret (Qf4 p0 o0 q0 z zo))
theorem Qj6 (p0 : List Fld) (o0 : ByteArray) {e e' : En} (h : ∀ r, Q7 G e r → Q7 G e' r) : ∀ q, Q8e p0 o0 e q → Q8e p0 o0 e' q
  | .k0, ⟨z, zo, hz⟩ => ⟨z, zo, h _ hz⟩
  | .k1 _, ⟨z, zo, hz⟩ => ⟨z, zo, h _ hz⟩
def Q8d (p0 : List Fld) (_o0 : ByteArray) : Prop := (List.length p0 ≤ 4611686018427387904) ∧ True
def Qer (p0 : List Fld) (_o0 : ByteArray) (i0 : Nat) : List PV :=
  [.sl (Fld.rows p0), .fn 57 [] [.bx 0 0], .un, .un, .un, .un, .un, .int .i64 ((List.length p0) : Int), .int .i64 (i0 : Int), .bool false]
def Qdu (_p0 : List Fld) (_o0 : ByteArray) (_i0 : Nat) : List (Nat × List PV) :=
  []
theorem Qs2 (p0 : List Fld) (o0 : ByteArray) (_H : Q8d p0 o0) (i0 : Nat) (hc0 : (decide ((i0 : Int) < ((List.length p0) : Int))) = false) : Q8e p0 o0 (Q7s p0 o0 i0) (.k0) := by
 exact ⟨(envF (Qer p0 o0 i0)), (zoF (Qdu p0 o0 i0)), Qf VOK.nil (x := ((.exit 0), Qfi p0 o0 (envF (Qer p0 o0 i0)) (zoF (Qdu p0 o0 i0)))) [hB 0 hc0] [] (by kernel_rfl)⟩
def Qft (p0 : List Fld) (_o0 : ByteArray) (i0 : Nat) (x0 : Fld) : List PV :=
  [.sl (Fld.rows p0), .fn 57 [] [.bx 0 0], .un, .un, .un, .int .i64 (i0 : Int), .un, .int .i64 ((List.length p0) : Int), .int .i64 (i0 : Int), .bool true, .int .i64 (i0 : Int), .fn 57 [] [.bx 0 0], .sl (Fld.rows p0), .int .i64 (i0 : Int), .rf [.str x0.name, .int .i64 x0.v.kind, .int .i64 x0.v.n, .str x0.v.s, .sl (Val.rows x0.v.list), .sl (Fld.rows x0.v.fields)], .agg [.str x0.name, .int .i64 x0.v.kind, .int .i64 x0.v.n, .str x0.v.s, .sl (Val.rows x0.v.list), .sl (Fld.rows x0.v.fields)], .bool true, .int .i64 (i0 : Int)]
def Qba (_p0 : List Fld) (_o0 : ByteArray) (_i0 : Nat) (_x0 : Fld) : List (Nat × List PV) :=
  []
theorem Qs8 (p0 : List Fld) (o0 : ByteArray) (_H : Q8d p0 o0) (x0 : Fld) (i0 : Nat) (hx0 : p0[i0]? = some x0) (_hi0 : i0 < List.length p0) (hc0 : (decide ((i0 : Int) < ((List.length p0) : Int))) = true) (h0 : (Q3j x0 o0) = true) : Q8e p0 o0 (Q7s p0 o0 i0) (.k1 (i0 : Int)) := by
 exact ⟨(envF (Qft p0 o0 i0 x0)), (zoF (Qba p0 o0 i0 x0)), Qf VOK.nil (x := (.ret, Qf4 p0 o0 (i0 : Int) (envF (Qft p0 o0 i0 x0)) (zoF (Qba p0 o0 i0 x0)))) [hB 0 hc0, hP 5 (Q25 6 (Fld.rows p0) i0 _ (Fld.Qi hx0) rfl)] [aN (toldOf (Qx1 x0 o0) (congrArg (fun b => Qum x0 o0 b) h0))] (by kernel_rfl)⟩
theorem Qqx (p0 : List Fld) (o0 : ByteArray) (H : Q8d p0 o0) (x0 : Fld) (i0 : Nat) (hx0 : p0[i0]? = some x0) (hi0 : i0 < List.length p0) (hc0 : (decide ((i0 : Int) < ((List.length p0) : Int))) = true) (h0 : (Q3j x0 o0) = false) {r : Rs} (hr : Q7 G (Q7s p0 o0 (i0 + 1)) r) : Q7 G (Q7s p0 o0 i0) r := by
 have hB0 := H.1
 exact Qc VOK.nil (y := (Qjx p0 o0 (i0 + 1), Qku p0 o0 (i0 + 1))) [hB 0 hc0, hP 5 (Q25 6 (Fld.rows p0) i0 _ (Fld.Qi hx0) rfl), hP 2 (Qy i0 (by omega))] [aN (toldOf (Qx1 x0 o0) (congrArg (fun b => Qum x0 o0 b) h0))] (by kernel_rfl) hr
theorem Qk4 (p0 : List Fld) (o0 : ByteArray) (H : Q8d p0 o0) : ∀ (r0 : List Fld) (i0 : Nat), List.drop i0 p0 = r0 → Q8e p0 o0 (Q7s p0 o0 i0) (Q2i p0 o0 r0 i0)
 | [], i0, hd => by
  have hc0 : (decide ((i0 : Int) < ((List.length p0) : Int))) = false := by have := Q23 hd; simp; omega
  rw [Q2i]
  exact Qs2 p0 o0 H i0 hc0
 | x0 :: r0, i0, hd => by
  obtain ⟨hx0, hi0, hd'⟩ := Q1j hd
  have hc0 : (decide ((i0 : Int) < ((List.length p0) : Int))) = true := by simp; omega
  rw [Q2i]
  cases h0 : (Q3j x0 o0) with
  | true =>
   exact Qs8 p0 o0 H x0 i0 hx0 hi0 hc0 h0
  | false =>
   exact Qj6 p0 o0 (fun r hr => Qqx p0 o0 H x0 i0 hx0 hi0 hc0 h0 hr) _ (Qk4 p0 o0 H r0 (i0 + 1) hd')
def Qv (p0 : List Fld) (o0 : ByteArray) : Int :=
 (match (Q2i p0 o0 p0 0) with
 | .k0 => (-1)
 | .k1 y0_0 => y0_0)
def Q141 (p0 : List Fld) (o0 : ByteArray) : En := .call 69 [.sl (Fld.rows p0), .fn 57 [] [.bx 0 0]] [⟨1, 0, false, [.str o0]⟩]
def Q131 (_p0 : List Fld) (o0 : ByteArray) (q0 : Int) : Rs := .ret (.int .i64 q0) [⟨1, 0, false, [.str o0]⟩]
def Q10z (p0 : List Fld) (o0 : ByteArray) : Rs := Q131 p0 o0 (Qv p0 o0)
def Q11e (p0 : List Fld) (o0 : ByteArray) : Prop := (Q8d p0 o0) ∧ True
theorem Q10c (p0 : List Fld) (o0 : ByteArray) (H : Q11e p0 o0) : Q7 G (Q141 p0 o0) (Q10z p0 o0) := by
 unfold Q10z Qv
 have hl0 := Qk4 p0 o0 (H.1) p0 0 (by simp)
 cases hr0 : (Q2i p0 o0 p0 0) with
 | k0 =>
  rw [hr0] at hl0
  obtain ⟨z0, zo0, hl0⟩ := hl0
  exact Qa (fn := Ir.K19) rfl (h := [⟨1, 0, false, [.str o0]⟩]) (vw := []) VOK.nil [hP 2 (Qk (Fld.rows p0) (List.length p0) (Fld.Qe p0))] [aN hl0] (by kernel_rfl)
 | k1 y0_0 =>
  rw [hr0] at hl0
  obtain ⟨z0, zo0, hl0⟩ := hl0
  exact Qa (fn := Ir.K19) rfl (h := [⟨1, 0, false, [.str o0]⟩]) (vw := []) VOK.nil [hP 2 (Qk (Fld.rows p0) (List.length p0) (Fld.Qe p0))] [aN hl0] (by kernel_rfl)
theorem Q9b (p0 : List Fld) (o0 : ByteArray) : ∀ (l : List Fld) (i : Nat), match Q2i p0 o0 l i with | .k0 => True | .k1 q => (i : Int) ≤ q ∧ q < (i : Int) + (l.length : Int)
  | [], _ => trivial
  | x :: l, i => by
    rw [Q2i]
    have ih := Q9b p0 o0 l (i + 1)
    cases Q3j x o0 with
    | true =>
      show (i : Int) ≤ (i : Int) ∧ (i : Int) < _
      simp only [List.length_cons]
      omega
    | false =>
      rw [cond_false]
      cases e : Q2i p0 o0 l (i + 1) with
      | k0 => trivial
      | k1 q =>
        rw [e] at ih
        simp only at ih ⊢
        simp only [List.length_cons]
        omega
theorem Qh (p0 : List Fld) (o0 : ByteArray) : -1 ≤ Qv p0 o0 ∧ Qv p0 o0 < (List.length p0 : Int) := by
  have h := Q9b p0 o0 p0 0
  unfold Qv
  cases e : Q2i p0 o0 p0 0 with
  | k0 => exact ⟨Int.le_refl _, by simp only; omega⟩
  | k1 q =>
    rw [e] at h
    simp only at h ⊢
    omega
def Q14 (n0 : Nat) (o1 : ByteArray) : Nat → Int → Int → (List Fld) → (List Fld) × Int
 | 0, v0_0, _v0_1, v0_2 => (v0_2, v0_0)
 | k0 + 1, v0_0, v0_1, v0_2 =>
  bif (decide (v0_1 < (n0 : Int))) then
   bif (Q3j (List.getD v0_2 (Int.toNat v0_1) zF) o1) then
    Q14 n0 o1 k0 v0_0 (v0_1 + 1) v0_2
   else
    Q14 n0 o1 k0 (v0_0 + 1) (v0_1 + 1) (List.set v0_2 (Int.toNat v0_0) (List.getD v0_2 (Int.toNat v0_1) zF))
  else
   (v0_2, v0_0)
def Qdn (n0 : Nat) (_o1 : ByteArray) (v0_0 : Int) (v0_1 : Int) (_v0_2 : List Fld) : List PV :=
  [.ms 0 6 0 n0, .fn 57 [] [.bx 1 0], .un, .un, .un, .int .i64 v0_0, .int .i64 v0_1, .un, .un, .un, .un, .un, .un, .un, .un, .un, .un, .un, .un, .un, .un, .un, .un, .un, .un, .un, .un, .un, .un, .un, .un, .un, .un, .un, .un, .un, .un, .un, .un, .un, .un, .un]
def Q8f (_n0 : Nat) (o1 : ByteArray) (_v0_0 : Int) (_v0_1 : Int) (v0_2 : List Fld) : List Ob :=
  [⟨6, 0, false, (Fld.rows v0_2).flatten⟩, ⟨1, 0, false, [.str o1]⟩]
def Q6b (n0 : Nat) (o1 : ByteArray) (v0_0 : Int) (v0_1 : Int) (v0_2 : List Fld) : En := .loop 2 Ir.Qck Ir.Qy6 (Qdn n0 o1 v0_0 v0_1 v0_2) (Q8f n0 o1 v0_0 v0_1 v0_2)
def Qhi (n0 : Nat) (o1 : ByteArray) (q0 : List Fld) (q1 : Int) (z : Nat → PV) (_zo : Nat → List PV) : St :=
  ⟨[.ms 0 6 0 n0, z 1, z 2, z 3, z 4, .int .i64 q1, z 6, z 7, z 8, z 9, z 10, z 11, z 12, z 13, z 14, z 15, z 16, z 17, z 18, z 19, z 20, z 21, z 22, z 23, z 24, z 25, z 26, z 27, z 28, z 29, z 30, z 31, z 32, z 33, z 34, z 35, z 36, z 37, z 38, z 39, z 40, z 41], [(0, ⟨6, 0, false, (Fld.rows q0).flatten⟩), (1, ⟨1, 0, false, [.str o1]⟩)], 258⟩
theorem Qip (n0 : Nat) (o1 : ByteArray) (v0_0 : Int) (v0_1 : Int) (v0_2 : List Fld) : VOK (Go.Pv.look (number 0 (Q8f n0 o1 v0_0 v0_1 v0_2))) [(0, Fld.rows v0_2)] := (VOK.cons (show Seen _ _ from Q47 (ob := ⟨6, 0, false, (Fld.rows v0_2).flatten⟩) (Fld.Q5 v0_2 6 rfl)) VOK.nil)
def Qa5 (n0 : Nat) (o1 : ByteArray) (e : En) (q : (List Fld) × Int) : Prop := ∃ z zo, Q7 G e (.st (.exit 0) (Qhi n0 o1 q.1 q.2 z zo))
theorem Q8b (n0 : Nat) (o1 : ByteArray) {e e' : En} (h : ∀ r, Q7 G e r → Q7 G e' r) : ∀ q, Qa5 n0 o1 e q → Qa5 n0 o1 e' q
  | _, ⟨z, zo, hz⟩ => ⟨z, zo, h _ hz⟩
theorem Qqq (n0 : Nat) (o1 : ByteArray) (v0_0 : Int) (v0_1 : Int) (v0_2 : List Fld) (ho0_0 : 0 ≤ v0_0) (ho0_1 : v0_0 < v0_1) (_ho0_2 : v0_1 ≤ (n0 : Int)) (ho0_3 : (n0 : Int) ≤ 1152921504606846976) (ho0_4 : List.length v0_2 = n0) (h0 : (decide (v0_1 < (n0 : Int))) = true) (h1 : (Q3j (List.getD v0_2 (Int.toNat v0_1) zF) o1) = true) {r : Rs} (hr : Q7 G (Q6b n0 o1 v0_0 (v0_1 + 1) v0_2) r) : Q7 G (Q6b n0 o1 v0_0 v0_1 v0_2) r := by
 have e0 := of_decide_eq_true h0
 exact Qc (Qip n0 o1 v0_0 v0_1 v0_2) (y := (Qdn n0 o1 v0_0 (v0_1 + 1) v0_2, Q8f n0 o1 v0_0 (v0_1 + 1) v0_2)) [hB 3 h0, hP 2 (Q1c 0 6 n0 v0_1 (Int.toNat v0_1) rfl (by omega) (by omega)), hP 0 (Q2x 0 6 0 false ((Fld.rows v0_2).flatten) (Fld.rows v0_2) 6 true (Int.toNat v0_1) 0 ((Int.toNat v0_1) * 6) (Fld.cells (List.getD v0_2 (Int.toNat v0_1) zF)) (.agg [.str (List.getD v0_2 (Int.toNat v0_1) zF).name, .int .i64 (List.getD v0_2 (Int.toNat v0_1) zF).v.kind, .int .i64 (List.getD v0_2 (Int.toNat v0_1) zF).v.n, .str (List.getD v0_2 (Int.toNat v0_1) zF).v.s, .sl (Val.rows (List.getD v0_2 (Int.toNat v0_1) zF).v.list), .sl (Fld.rows (List.getD v0_2 (Int.toNat v0_1) zF).v.fields)]) rfl rfl (Fld.Qi (Qu v0_2 (Int.toNat v0_1) zF (by omega))) (Fld.Qp v0_2) (by decide) rfl), hP 7 (w_ok (v0_1 + 1) (by omega))] [aN (toldOf (Qx1 (List.getD v0_2 (Int.toNat v0_1) zF) o1) (congrArg (fun b => Qum (List.getD v0_2 (Int.toNat v0_1) zF) o1 b) h1))] (by kernel_rfl) hr
theorem Qrx (n0 : Nat) (o1 : ByteArray) (v0_0 : Int) (v0_1 : Int) (v0_2 : List Fld) (ho0_0 : 0 ≤ v0_0) (ho0_1 : v0_0 < v0_1) (_ho0_2 : v0_1 ≤ (n0 : Int)) (ho0_3 : (n0 : Int) ≤ 1152921504606846976) (ho0_4 : List.length v0_2 = n0) (h0 : (decide (v0_1 < (n0 : Int))) = true) (h1 : (Q3j (List.getD v0_2 (Int.toNat v0_1) zF) o1) = false) {r : Rs} (hr : Q7 G (Q6b n0 o1 (v0_0 + 1) (v0_1 + 1) (List.set v0_2 (Int.toNat v0_0) (List.getD v0_2 (Int.toNat v0_1) zF))) r) : Q7 G (Q6b n0 o1 v0_0 v0_1 v0_2) r := by
 have e0 := of_decide_eq_true h0
 exact Qc (Qip n0 o1 v0_0 v0_1 v0_2) (y := (Qdn n0 o1 (v0_0 + 1) (v0_1 + 1) (List.set v0_2 (Int.toNat v0_0) (List.getD v0_2 (Int.toNat v0_1) zF)), Q8f n0 o1 (v0_0 + 1) (v0_1 + 1) (List.set v0_2 (Int.toNat v0_0) (List.getD v0_2 (Int.toNat v0_1) zF)))) [hB 3 h0, hP 2 (Q1c 0 6 n0 v0_1 (Int.toNat v0_1) rfl (by omega) (by omega)), hP 0 (Q2x 0 6 0 false ((Fld.rows v0_2).flatten) (Fld.rows v0_2) 6 true (Int.toNat v0_1) 0 ((Int.toNat v0_1) * 6) (Fld.cells (List.getD v0_2 (Int.toNat v0_1) zF)) (.agg [.str (List.getD v0_2 (Int.toNat v0_1) zF).name, .int .i64 (List.getD v0_2 (Int.toNat v0_1) zF).v.kind, .int .i64 (List.getD v0_2 (Int.toNat v0_1) zF).v.n, .str (List.getD v0_2 (Int.toNat v0_1) zF).v.s, .sl (Val.rows (List.getD v0_2 (Int.toNat v0_1) zF).v.list), .sl (Fld.rows (List.getD v0_2 (Int.toNat v0_1) zF).v.fields)]) rfl rfl (Fld.Qi (Qu v0_2 (Int.toNat v0_1) zF (by omega))) (Fld.Qp v0_2) (by decide) rfl), hP 9 (Q1c 0 6 n0 v0_0 (Int.toNat v0_0) rfl (by omega) (by omega)), hV 0 [(0, Fld.rows (List.set v0_2 (Int.toNat v0_0) (List.getD v0_2 (Int.toNat v0_1) zF)))] (Qbe 0 6 false ((Fld.rows v0_2).flatten) (Fld.rows v0_2) (Fld.rows (List.set v0_2 (Int.toNat v0_0) (List.getD v0_2 (Int.toNat v0_1) zF))) 6 (Int.toNat v0_0) 0 ((Int.toNat v0_0) * 6) _ (.agg [.str (List.getD v0_2 (Int.toNat v0_1) zF).name, .int .i64 (List.getD v0_2 (Int.toNat v0_1) zF).v.kind, .int .i64 (List.getD v0_2 (Int.toNat v0_1) zF).v.n, .str (List.getD v0_2 (Int.toNat v0_1) zF).v.s, .sl (Val.rows (List.getD v0_2 (Int.toNat v0_1) zF).v.list), .sl (Fld.rows (List.getD v0_2 (Int.toNat v0_1) zF).v.fields)]) rfl rfl (Fld.Qi (Qu v0_2 (Int.toNat v0_0) zF (by omega))) (Fld.Qp v0_2) (by decide) rfl rfl (Fld.Q44 v0_2 (Int.toNat v0_0) (List.getD v0_2 (Int.toNat v0_1) zF))), hS 0 false (Fld.Q5 (List.set v0_2 (Int.toNat v0_0) (List.getD v0_2 (Int.toNat v0_1) zF)) 6 rfl), hP 1 (w_ok (v0_0 + 1) (by have f0 := (Qo ho0_4 (Int.toNat v0_0) (List.getD v0_2 (Int.toNat v0_1) zF)); omega)), hP 2 (w_ok (v0_1 + 1) (by have f0 := (Qo ho0_4 (Int.toNat v0_0) (List.getD v0_2 (Int.toNat v0_1) zF)); omega))] [aN (toldOf (Qx1 (List.getD v0_2 (Int.toNat v0_1) zF) o1) (congrArg (fun b => Qum (List.getD v0_2 (Int.toNat v0_1) zF) o1 b) h1))] (by kernel_rfl) hr
def Qhl (n0 : Nat) (_o1 : ByteArray) (_v0_0 : Int) (v0_1 : Int) (_v0_2 : List Fld) : List PV :=
  [.un, .fn 57 [] [.bx 1 0], .un, .un, .un, .un, .int .i64 v0_1, .un, .un, .un, .un, .un, .un, .un, .un, .un, .int .i64 v0_1, .ms 0 6 0 n0, .int .i64 (n0 : Int), .bool false]
def Qb5 (_n0 : Nat) (_o1 : ByteArray) (_v0_0 : Int) (_v0_1 : Int) (_v0_2 : List Fld) : List (Nat × List PV) :=
  []
theorem Qqt (n0 : Nat) (o1 : ByteArray) (v0_0 : Int) (v0_1 : Int) (v0_2 : List Fld) (_ho0_0 : 0 ≤ v0_0) (_ho0_1 : v0_0 < v0_1) (_ho0_2 : v0_1 ≤ (n0 : Int)) (_ho0_3 : (n0 : Int) ≤ 1152921504606846976) (_ho0_4 : List.length v0_2 = n0) (h0 : (decide (v0_1 < (n0 : Int))) = false) : Qa5 n0 o1 (Q6b n0 o1 v0_0 v0_1 v0_2) (v0_2, v0_0) := by
 exact ⟨(envF (Qhl n0 o1 v0_0 v0_1 v0_2)), (zoF (Qb5 n0 o1 v0_0 v0_1 v0_2)), Qf (Qip n0 o1 v0_0 v0_1 v0_2) (x := ((.exit 0), Qhi n0 o1 v0_2 v0_0 (envF (Qhl n0 o1 v0_0 v0_1 v0_2)) (zoF (Qb5 n0 o1 v0_0 v0_1 v0_2)))) [hB 3 h0] [] (by kernel_rfl)⟩
theorem Qc0 (n0 : Nat) (o1 : ByteArray) : ∀ (k0 : Nat) (v0_0 : Int) (v0_1 : Int) (v0_2 : List Fld), 0 ≤ v0_0 → v0_0 < v0_1 → v0_1 ≤ (n0 : Int) → (n0 : Int) ≤ 1152921504606846976 → List.length v0_2 = n0 → Int.toNat ((n0 : Int) - v0_1) < k0 → Qa5 n0 o1 (Q6b n0 o1 v0_0 v0_1 v0_2) (Q14 n0 o1 k0 v0_0 v0_1 v0_2)
 | 0, v0_0, v0_1, v0_2, _, _, _, _, _, hm => absurd hm (Nat.not_lt_zero _)
 | k0 + 1, v0_0, v0_1, v0_2, ho0_0, ho0_1, ho0_2, ho0_3, ho0_4, hm => by
  rw [Q14]
  cases h0 : (decide (v0_1 < (n0 : Int))) with
  | true =>
   have e0 := of_decide_eq_true h0
   cases h1 : (Q3j (List.getD v0_2 (Int.toNat v0_1) zF) o1) with
   | true =>
    exact Q8b n0 o1 (fun r hr => Qqq n0 o1 v0_0 v0_1 v0_2 ho0_0 ho0_1 ho0_2 ho0_3 ho0_4 h0 h1 hr) _ (Qc0 n0 o1 k0 v0_0 (v0_1 + 1) v0_2 (by omega) (by omega) (by omega) (by omega) ho0_4 (by omega))
   | false =>
    exact Q8b n0 o1 (fun r hr => Qrx n0 o1 v0_0 v0_1 v0_2 ho0_0 ho0_1 ho0_2 ho0_3 ho0_4 h0 h1 hr) _ (Qc0 n0 o1 k0 (v0_0 + 1) (v0_1 + 1) (List.set v0_2 (Int.toNat v0_0) (List.getD v0_2 (Int.toNat v0_1) zF)) (by have f0 := (Qo ho0_4 (Int.toNat v0_0) (List.getD v0_2 (Int.toNat v0_1) zF)); omega) (by have f0 := (Qo ho0_4 (Int.toNat v0_0) (List.getD v0_2 (Int.toNat v0_1) zF)); omega) (by have f0 := (Qo ho0_4 (Int.toNat v0_0) (List.getD v0_2 (Int.toNat v0_1) zF)); omega) (by have f0 := (Qo ho0_4 (Int.toNat v0_0) (List.getD v0_2 (Int.toNat v0_1) zF)); omega) (Qo ho0_4 (Int.toNat v0_0) (List.getD v0_2 (Int.toNat v0_1) zF)) (by have f0 := (Qo ho0_4 (Int.toNat v0_0) (List.getD v0_2 (Int.toNat v0_1) zF)); omega))
  | false =>
   exact Qqt n0 o1 v0_0 v0_1 v0_2 ho0_0 ho0_1 ho0_2 ho0_3 ho0_4 h0
theorem Q3e (n0 : Nat) (o1 : ByteArray) : ∀ (k0 : Nat) (v0_0 : Int) (v0_1 : Int) (v0_2 : List Fld), List.length v0_2 = n0 → List.length (Q14 n0 o1 k0 v0_0 v0_1 v0_2).1 = n0
 | 0, v0_0, v0_1, v0_2, ho0_4 => by rw [Q14]; exact ho0_4
 | k0 + 1, v0_0, v0_1, v0_2, ho0_4 => by
  rw [Q14]
  cases h0 : (decide (v0_1 < (n0 : Int))) with
  | true =>
   cases h1 : (Q3j (List.getD v0_2 (Int.toNat v0_1) zF) o1) with
   | true =>
    exact Q3e n0 o1 k0 v0_0 (v0_1 + 1) v0_2 ho0_4
   | false =>
    exact Q3e n0 o1 k0 (v0_0 + 1) (v0_1 + 1) (List.set v0_2 (Int.toNat v0_0) (List.getD v0_2 (Int.toNat v0_1) zF)) (Qo ho0_4 (Int.toNat v0_0) (List.getD v0_2 (Int.toNat v0_1) zF))
  | false =>
   exact ho0_4
theorem Q3n (n0 : Nat) (o1 : ByteArray) : ∀ (k0 : Nat) (v0_0 : Int) (v0_1 : Int) (v0_2 : List Fld), 0 ≤ v0_0 → v0_0 < v0_1 → v0_1 ≤ (n0 : Int) → (n0 : Int) ≤ 1152921504606846976 → List.length v0_2 = n0 → Int.toNat ((n0 : Int) - v0_1) < k0 → 0 ≤ (Q14 n0 o1 k0 v0_0 v0_1 v0_2).2 ∧ (Q14 n0 o1 k0 v0_0 v0_1 v0_2).2 < (n0 : Int)
 | 0, v0_0, v0_1, v0_2, _, _, _, _, _, hm => absurd hm (Nat.not_lt_zero _)
 | k0 + 1, v0_0, v0_1, v0_2, ho0_0, ho0_1, ho0_2, ho0_3, ho0_4, hm => by
  rw [Q14]
  cases h0 : (decide (v0_1 < (n0 : Int))) with
  | true =>
   have e0 := of_decide_eq_true h0
   cases h1 : (Q3j (List.getD v0_2 (Int.toNat v0_1) zF) o1) with
   | true =>
    exact Q3n n0 o1 k0 v0_0 (v0_1 + 1) v0_2 (by omega) (by omega) (by omega) (by omega) ho0_4 (by omega)
   | false =>
    exact Q3n n0 o1 k0 (v0_0 + 1) (v0_1 + 1) (List.set v0_2 (Int.toNat v0_0) (List.getD v0_2 (Int.toNat v0_1) zF)) (by have f0 := (Qo ho0_4 (Int.toNat v0_0) (List.getD v0_2 (Int.toNat v0_1) zF)); omega) (by have f0 := (Qo ho0_4 (Int.toNat v0_0) (List.getD v0_2 (Int.toNat v0_1) zF)); omega) (by have f0 := (Qo ho0_4 (Int.toNat v0_0) (List.getD v0_2 (Int.toNat v0_1) zF)); omega) (by have f0 := (Qo ho0_4 (Int.toNat v0_0) (List.getD v0_2 (Int.toNat v0_1) zF)); omega) (Qo ho0_4 (Int.toNat v0_0) (List.getD v0_2 (Int.toNat v0_1) zF)) (by have f0 := (Qo ho0_4 (Int.toNat v0_0) (List.getD v0_2 (Int.toNat v0_1) zF)); omega)
  | false =>
   have e0 := of_decide_eq_false h0
   exact (show 0 ≤ v0_0 ∧ v0_0 < (n0 : Int) from ⟨(by omega), (by omega)⟩)
def Qiu (n0 : Nat) (o0 : List Fld) (o1 : ByteArray) : Nat × (List Fld) :=
 bif ((Qv o0 o1) == (-1)) then
  (n0, o0)
 else
  ((Int.toNat (Q14 n0 o1 ((Int.toNat ((n0 : Int) - ((Qv o0 o1) + 1))) + 1) (Qv o0 o1) ((Qv o0 o1) + 1) o0).2), (List.take (Int.toNat (Q14 n0 o1 ((Int.toNat ((n0 : Int) - ((Qv o0 o1) + 1))) + 1) (Qv o0 o1) ((Qv o0 o1) + 1) o0).2) (Q14 n0 o1 ((Int.toNat ((n0 : Int) - ((Qv o0 o1) + 1))) + 1) (Qv o0 o1) ((Qv o0 o1) + 1) o0).1))
def Q146 (n0 : Nat) (o0 : List Fld) (o1 : ByteArray) : En := .call 56 [.ms 0 6 0 n0, .fn 57 [] [.bx 1 0]] [⟨6, 0, false, (Fld.rows o0).flatten⟩, ⟨1, 0, false, [.str o1]⟩]
def Q13b (_n0 : Nat) (_o0 : List Fld) (o1 : ByteArray) (q0 : Nat) (q1 : List Fld) : Rs := .ret (.ms 0 6 0 q0) [⟨6, 0, false, (Fld.rows q1).flatten⟩, ⟨1, 0, false, [.str o1]⟩]
def Q10d (n0 : Nat) (o0 : List Fld) (o1 : ByteArray) : Rs := Q13b n0 o0 o1 (Qiu n0 o0 o1).1 (Qiu n0 o0 o1).2
def Q10h (_n0 : Nat) (o0 : List Fld) (o1 : ByteArray) : Prop := (Q11e o0 o1) ∧ True
theorem Q130 (n0 : Nat) (o0 : List Fld) (o1 : ByteArray) (hn0 : List.length o0 = n0) (hq0 : (n0 : Int) ≤ 1152921504606846976) (H : Q10h n0 o0 o1) : Q7 G (Q146 n0 o0 o1) (Q10d n0 o0 o1) := by
 unfold Q10d Qiu
 cases h0 : ((Qv o0 o1) == (-1)) with
 | true =>
  exact Qa (fn := Ir.K18) rfl (h := [⟨6, 0, false, (Fld.rows o0).flatten⟩, ⟨1, 0, false, [.str o1]⟩]) (vw := [(0, Fld.rows o0)]) (VOK.cons (show Seen _ _ from Q47 (ob := ⟨6, 0, false, (Fld.rows o0).flatten⟩) (Fld.Q5 o0 6 rfl)) VOK.nil) [hQ ((Fld.Qe o0).trans hn0).symm, hB 6 h0] [aN (Q10c o0 o1 H.1)] (by kernel_rfl)
 | false =>
  have e0 := beq_eq_false_iff_ne.1 h0
  have hl1 := Qc0 n0 o1 ((Int.toNat ((n0 : Int) - ((Qv o0 o1) + 1))) + 1) (Qv o0 o1) ((Qv o0 o1) + 1) o0 (by have g0 := (Qh o0 o1); omega) (by have g0 := (Qh o0 o1); omega) (by have g0 := (Qh o0 o1); omega) (by have g0 := (Qh o0 o1); omega) hn0 (by omega)
  obtain ⟨z1, zo1, hl1⟩ := hl1
  exact Qa (fn := Ir.K18) rfl (h := [⟨6, 0, false, (Fld.rows o0).flatten⟩, ⟨1, 0, false, [.str o1]⟩]) (vw := [(0, Fld.rows o0)]) (VOK.cons (show Seen _ _ from Q47 (ob := ⟨6, 0, false, (Fld.rows o0).flatten⟩) (Fld.Q5 o0 6 rfl)) VOK.nil) [hQ ((Fld.Qe o0).trans hn0).symm, hB 6 h0, hP 1 (w_ok ((Qv o0 o1) + 1) (by have g0 := (Qh o0 o1); omega)), hS 0 false (Fld.Q5 (Q14 n0 o1 ((Int.toNat ((n0 : Int) - ((Qv o0 o1) + 1))) + 1) (Qv o0 o1) ((Qv o0 o1) + 1) o0).1 6 rfl), hP 3 (Qxz 0 6 n0 (Q14 n0 o1 ((Int.toNat ((n0 : Int) - ((Qv o0 o1) + 1))) + 1) (Qv o0 o1) ((Qv o0 o1) + 1) o0).2 (by have f0 := (Q3e n0 o1 ((Int.toNat ((n0 : Int) - ((Qv o0 o1) + 1))) + 1) (Qv o0 o1) ((Qv o0 o1) + 1) o0 hn0); have g0 := (Qh o0 o1); have g1 := Q3n n0 o1 ((Int.toNat ((n0 : Int) - ((Qv o0 o1) + 1))) + 1) (Qv o0 o1) ((Qv o0 o1) + 1) o0 (by have g0 := (Qh o0 o1); omega) (by have g0 := (Qh o0 o1); omega) (by have g0 := (Qh o0 o1); omega) (by have g0 := (Qh o0 o1); omega) hn0 (by omega); omega) (by have f0 := (Q3e n0 o1 ((Int.toNat ((n0 : Int) - ((Qv o0 o1) + 1))) + 1) (Qv o0 o1) ((Qv o0 o1) + 1) o0 hn0); have g0 := (Qh o0 o1); have g1 := Q3n n0 o1 ((Int.toNat ((n0 : Int) - ((Qv o0 o1) + 1))) + 1) (Qv o0 o1) ((Qv o0 o1) + 1) o0 (by have g0 := (Qh o0 o1); omega) (by have g0 := (Qh o0 o1); omega) (by have g0 := (Qh o0 o1); omega) (by have g0 := (Qh o0 o1); omega) hn0 (by omega); omega)), hV 0 [(0, Fld.rows (List.take (Int.toNat (Q14 n0 o1 ((Int.toNat ((n0 : Int) - ((Qv o0 o1) + 1))) + 1) (Qv o0 o1) ((Qv o0 o1) + 1) o0).2) (Q14 n0 o1 ((Int.toNat ((n0 : Int) - ((Qv o0 o1) + 1))) + 1) (Qv o0 o1) ((Qv o0 o1) + 1) o0).1))] (Q11v 0 6 false (Fld.rows (Q14 n0 o1 ((Int.toNat ((n0 : Int) - ((Qv o0 o1) + 1))) + 1) (Qv o0 o1) ((Qv o0 o1) + 1) o0).1) (Fld.rows (List.take (Int.toNat (Q14 n0 o1 ((Int.toNat ((n0 : Int) - ((Qv o0 o1) + 1))) + 1) (Qv o0 o1) ((Qv o0 o1) + 1) o0).2) (Q14 n0 o1 ((Int.toNat ((n0 : Int) - ((Qv o0 o1) + 1))) + 1) (Qv o0 o1) ((Qv o0 o1) + 1) o0).1)) (Int.toNat (Q14 n0 o1 ((Int.toNat ((n0 : Int) - ((Qv o0 o1) + 1))) + 1) (Qv o0 o1) ((Qv o0 o1) + 1) o0).2) (n0 - (Int.toNat (Q14 n0 o1 ((Int.toNat ((n0 : Int) - ((Qv o0 o1) + 1))) + 1) (Qv o0 o1) ((Qv o0 o1) + 1) o0).2)) [.str (⟨#[]⟩ : ByteArray), .int .i64 0, .int .i64 0, .str (⟨#[]⟩ : ByteArray), .ns 5, .ns 6] (Fld.Qp (Q14 n0 o1 ((Int.toNat ((n0 : Int) - ((Qv o0 o1) + 1))) + 1) (Qv o0 o1) ((Qv o0 o1) + 1) o0).1) (by rw [Fld.Qe]; exact (by have f0 := (Q3e n0 o1 ((Int.toNat ((n0 : Int) - ((Qv o0 o1) + 1))) + 1) (Qv o0 o1) ((Qv o0 o1) + 1) o0 hn0); have g0 := (Qh o0 o1); have g1 := Q3n n0 o1 ((Int.toNat ((n0 : Int) - ((Qv o0 o1) + 1))) + 1) (Qv o0 o1) ((Qv o0 o1) + 1) o0 (by have g0 := (Qh o0 o1); omega) (by have g0 := (Qh o0 o1); omega) (by have g0 := (Qh o0 o1); omega) (by have g0 := (Qh o0 o1); omega) hn0 (by omega); omega)) (by have f0 := (Q3e n0 o1 ((Int.toNat ((n0 : Int) - ((Qv o0 o1) + 1))) + 1) (Qv o0 o1) ((Qv o0 o1) + 1) o0 hn0); have g0 := (Qh o0 o1); have g1 := Q3n n0 o1 ((Int.toNat ((n0 : Int) - ((Qv o0 o1) + 1))) + 1) (Qv o0 o1) ((Qv o0 o1) + 1) o0 (by have g0 := (Qh o0 o1); omega) (by have g0 := (Qh o0 o1); omega) (by have g0 := (Qh o0 o1); omega) (by have g0 := (Qh o0 o1); omega) hn0 (by omega); omega) (by rw [Fld.Qik])), hS 0 false (Fld.Q5 (List.take (Int.toNat (Q14 n0 o1 ((Int.toNat ((n0 : Int) - ((Qv o0 o1) + 1))) + 1) (Qv o0 o1) ((Qv o0 o1) + 1) o0).2) (Q14 n0 o1 ((Int.toNat ((n0 : Int) - ((Qv o0 o1) + 1))) + 1) (Qv o0 o1) ((Qv o0 o1) + 1) o0).1) 6 rfl), hP 2 (Qwz 0 6 n0 (Q14 n0 o1 ((Int.toNat ((n0 : Int) - ((Qv o0 o1) + 1))) + 1) (Qv o0 o1) ((Qv o0 o1) + 1) o0).2 (by have g0 := (Qh o0 o1); have g1 := Q3n n0 o1 ((Int.toNat ((n0 : Int) - ((Qv o0 o1) + 1))) + 1) (Qv o0 o1) ((Qv o0 o1) + 1) o0 (by have g0 := (Qh o0 o1); omega) (by have g0 := (Qh o0 o1); omega) (by have g0 := (Qh o0 o1); omega) (by have g0 := (Qh o0 o1); omega) hn0 (by omega); omega) (by have g0 := (Qh o0 o1); have g1 := Q3n n0 o1 ((Int.toNat ((n0 : Int) - ((Qv o0 o1) + 1))) + 1) (Qv o0 o1) ((Qv o0 o1) + 1) o0 (by have g0 := (Qh o0 o1); omega) (by have g0 := (Qh o0 o1); omega) (by have g0 := (Qh o0 o1); omega) (by have g0 := (Qh o0 o1); omega) hn0 (by omega); omega))] [aN (Q10c o0 o1 H.1), aV [(0, Fld.rows (Q14 n0 o1 ((Int.toNat ((n0 : Int) - ((Qv o0 o1) + 1))) + 1) (Qv o0 o1) ((Qv o0 o1) + 1) o0).1)] hl1] (by kernel_rfl)
def Q2a (p0 : Val) (p1 : ByteArray) : Nat × (List Fld) :=
 bif (p0.kind == 5) then
  ((Qiu (List.length p0.fields) p0.fields p1).1, (Qiu (List.length p0.fields) p0.fields p1).2)
 else
  (0, [])
def Q140 (p0 : Val) (p1 : ByteArray) : En := .call 46 [.agg (Val.cells p0), .str p1] []
def Q12j (_p0 : Val) (_p1 : ByteArray) (q0 : Nat) (q1 : List Fld) : Rs := .ret (.ms 0 6 0 q0) [⟨6, 0, true, (Fld.rows q1).flatten⟩]
def Q11f (p0 : Val) (p1 : ByteArray) : Rs := Q12j p0 p1 (Q2a p0 p1).1 (Q2a p0 p1).2
def Qxw (p0 : Val) (p1 : ByteArray) : Prop := (List.length p0.fields * 96 ≤ 140737488355328) ∧ ((p0.kind == 5) = true → ((List.length p0.fields) : Int) ≤ 1152921504606846976) ∧ (Q10h (List.length p0.fields) p0.fields p1) ∧ True
theorem Q102 (p0 : Val) (p1 : ByteArray) (H : Qxw p0 p1) : Q7 G (Q140 p0 p1) (Q11f p0 p1) := by
 unfold Q11f Q2a
 cases h0 : (p0.kind == 5) with
 | true =>
  exact Qa (fn := Ir.K1s) rfl VOK.nil [hP 5 (dec (!(p0.kind == 5)) false (by rw [h0]; rfl)), hQ (Fld.Q5 p0.fields 6 rfl), hQ (Fld.Q5 (Qiu (List.length p0.fields) p0.fields p1).2 6 rfl)] [aV [(0, Fld.rows p0.fields)] (Q50 (G := G) (f := 41) (sz := 6) (bytes := 96) rfl (Fld.Qe p0.fields) (Fld.Q5 p0.fields 6 rfl) H.1), aV [(0, Fld.rows (Qiu (List.length p0.fields) p0.fields p1).2)] (Q130 (List.length p0.fields) p0.fields p1 rfl (H.2.1 h0) H.2.2.1)] (by kernel_rfl)
 | false =>
  exact Qa (fn := Ir.K1s) rfl VOK.nil [hP 5 (dec (!(p0.kind == 5)) true (by rw [h0]; rfl))] [] (by kernel_rfl)
def Qqi (p0 : List Val) : Val :=
 (Val.mk 4 0 (⟨#[]⟩ : ByteArray) p0 [])
def Q121 (p0 : List Val) : En := .call 40 [.sl (Val.rows p0)] []
def Q11y (p0 : List Val) : Rs := .ret (.agg (Val.cells (Qqi p0))) []
def Qz0 (p0 : List Val) : Prop := (Qdr (Val.mk 4 0 (⟨#[]⟩ : ByteArray) p0 [])) ∧ True
theorem Q13t (p0 : List Val) (H : Qz0 p0) : Q7 G (Q121 p0) (Q11y p0) := by
 unfold Q11y Qqi
 exact Qa (fn := Ir.K1l) rfl VOK.nil [] [aN (Qxr (Val.mk 4 0 (⟨#[]⟩ : ByteArray) p0 []) H.1)] (by kernel_rfl)
end Go.Proofs.Ytnhhddbbppbblaa
end

section
/- What building a map computes (printed by a program). -/
namespace Go.Proofs.Ytnhhddbbppbblaa
open Go.Pv
def Q20 (p0 : Fld) (p1 : Fld) : Int :=
 (Qzr p0.name p1.name)
def Q13o (p0 : Fld) (p1 : Fld) : En := .call 43 [.agg (Fld.cells p0), .agg (Fld.cells p1)] []
def Q10k (p0 : Fld) (p1 : Fld) : Rs := .ret (.int .i64 (Q20 p0 p1)) []
theorem Ql6 (p0 : Fld) (p1 : Fld) : Q7 G (Q13o p0 p1) (Q10k p0 p1) := by
 unfold Q10k Q20
 exact Qa (fn := Ir.K1n) rfl VOK.nil [] [aN (Q132 p0.name p1.name)] (by kernel_rfl)
def Q22 (n0 : Nat) (p1 : Int) (p2 : Int) (v0_0 : Int) : Nat → (List Fld) → Int → List Fld
 | 0, v1_0, _v1_1 => v1_0
 | k1 + 1, v1_0, v1_1 =>
  bif (decide (p1 < v1_1)) then
   bif (decide ((Q20 (List.getD v1_0 (Int.toNat v1_1) zF) (List.getD v1_0 (Int.toNat (v1_1 - 1)) zF)) < 0)) then
    Q22 n0 p1 p2 v0_0 k1 (List.set (List.set v1_0 (Int.toNat v1_1) (List.getD v1_0 (Int.toNat (v1_1 - 1)) zF)) (Int.toNat (v1_1 - 1)) (List.getD v1_0 (Int.toNat v1_1) zF)) (v1_1 - 1)
   else
    v1_0
  else
   v1_0
def Qm9 (n0 : Nat) (p1 : Int) (p2 : Int) (v0_0 : Int) (_v1_0 : List Fld) (v1_1 : Int) : List PV :=
  [.ms 0 6 0 n0, .int .i64 p1, .int .i64 p2, .fn 43 [] [], .un, .un, .un, .un, .int .i64 v0_0, .int .i64 v1_1, .un, .un, .un, .un, .un, .un, .un, .un, .un, .un, .un, .un, .un, .un, .un, .un, .un, .un, .un, .un, .un, .un, .un, .un, .un, .un, .un, .un, .un, .un, .un, .un, .un, .un, .un, .un, .un, .un, .un, .un, .un, .un, .un]
def Qb9 (_n0 : Nat) (_p1 : Int) (_p2 : Int) (_v0_0 : Int) (v1_0 : List Fld) (_v1_1 : Int) : List Ob :=
  [⟨6, 0, false, (Fld.rows v1_0).flatten⟩]
def Q6h (n0 : Nat) (p1 : Int) (p2 : Int) (v0_0 : Int) (v1_0 : List Fld) (v1_1 : Int) : En := .loop 1 Ir.Qdm Ir.Qy3 (Qm9 n0 p1 p2 v0_0 v1_0 v1_1) (Qb9 n0 p1 p2 v0_0 v1_0 v1_1)
def Q66 (n0 : Nat) (p1 : Int) (p2 : Int) (v0_0 : Int) (q0 : List Fld) (z : Nat → PV) (_zo : Nat → List PV) : St :=
  ⟨[.ms 0 6 0 n0, .int .i64 p1, .int .i64 p2, .fn 43 [] [], z 4, z 5, z 6, z 7, .int .i64 v0_0, z 9, z 10, z 11, z 12, z 13, z 14, z 15, z 16, z 17, z 18, z 19, z 20, z 21, z 22, z 23, z 24, z 25, z 26, z 27, z 28, z 29, z 30, z 31, z 32, z 33, z 34, z 35, z 36, z 37, z 38, z 39, z 40, z 41, z 42, z 43, z 44, z 45, z 46, z 47, z 48, z 49, z 50, z 51, z 52], [(0, ⟨6, 0, false, (Fld.rows q0).flatten⟩)], 1089⟩
theorem Qij (n0 : Nat) (p1 : Int) (p2 : Int) (v0_0 : Int) (v1_0 : List Fld) (v1_1 : Int) : VOK (Go.Pv.look (number 0 (Qb9 n0 p1 p2 v0_0 v1_0 v1_1))) [(0, Fld.rows v1_0)] := (VOK.cons (show Seen _ _ from Q47 (ob := ⟨6, 0, false, (Fld.rows v1_0).flatten⟩) (Fld.Q5 v1_0 6 rfl)) VOK.nil)
def Q7y (n0 : Nat) (p1 : Int) (p2 : Int) (v0_0 : Int) (e : En) (q : List Fld) : Prop := ∃ z zo, Q7 G e (.st (.exit 2) (Q66 n0 p1 p2 v0_0 q z zo))
theorem Qjc (n0 : Nat) (p1 : Int) (p2 : Int) (v0_0 : Int) {e e' : En} (h : ∀ r, Q7 G e r → Q7 G e' r) : ∀ q, Q7y n0 p1 p2 v0_0 e q → Q7y n0 p1 p2 v0_0 e' q
  | _, ⟨z, zo, hz⟩ => ⟨z, zo, h _ hz⟩
theorem Qsl (n0 : Nat) (p1 : Int) (p2 : Int) (v0_0 : Int) (v1_0 : List Fld) (v1_1 : Int) (ho1_0 : 0 ≤ p1) (_ho1_1 : p1 ≤ v1_1) (ho1_2 : v1_1 < n0) (ho1_3 : (n0 : Int) ≤ 1152921504606846976) (ho1_4 : List.length v1_0 = n0) (h0 : (decide (p1 < v1_1)) = true) (h1 : (decide ((Q20 (List.getD v1_0 (Int.toNat v1_1) zF) (List.getD v1_0 (Int.toNat (v1_1 - 1)) zF)) < 0)) = true) {r : Rs} (hr : Q7 G (Q6h n0 p1 p2 v0_0 (List.set (List.set v1_0 (Int.toNat v1_1) (List.getD v1_0 (Int.toNat (v1_1 - 1)) zF)) (Int.toNat (v1_1 - 1)) (List.getD v1_0 (Int.toNat v1_1) zF)) (v1_1 - 1)) r) : Q7 G (Q6h n0 p1 p2 v0_0 v1_0 v1_1) r := by
 have e0 := of_decide_eq_true h0; have e1 := of_decide_eq_true h1
 exact Qc (Qij n0 p1 p2 v0_0 v1_0 v1_1) (y := (Qm9 n0 p1 p2 v0_0 (List.set (List.set v1_0 (Int.toNat v1_1) (List.getD v1_0 (Int.toNat (v1_1 - 1)) zF)) (Int.toNat (v1_1 - 1)) (List.getD v1_0 (Int.toNat v1_1) zF)) (v1_1 - 1), Qb9 n0 p1 p2 v0_0 (List.set (List.set v1_0 (Int.toNat v1_1) (List.getD v1_0 (Int.toNat (v1_1 - 1)) zF)) (Int.toNat (v1_1 - 1)) (List.getD v1_0 (Int.toNat v1_1) zF)) (v1_1 - 1))) [hB 2 h0, hP 4 (Q1c 0 6 n0 v1_1 (Int.toNat v1_1) rfl (by omega) (by omega)), hP 0 (Q2x 0 6 0 false ((Fld.rows v1_0).flatten) (Fld.rows v1_0) 6 true (Int.toNat v1_1) 0 ((Int.toNat v1_1) * 6) (Fld.cells (List.getD v1_0 (Int.toNat v1_1) zF)) (.agg [.str (List.getD v1_0 (Int.toNat v1_1) zF).name, .int .i64 (List.getD v1_0 (Int.toNat v1_1) zF).v.kind, .int .i64 (List.getD v1_0 (Int.toNat v1_1) zF).v.n, .str (List.getD v1_0 (Int.toNat v1_1) zF).v.s, .sl (Val.rows (List.getD v1_0 (Int.toNat v1_1) zF).v.list), .sl (Fld.rows (List.getD v1_0 (Int.toNat v1_1) zF).v.fields)]) rfl rfl (Fld.Qi (Qu v1_0 (Int.toNat v1_1) zF (by omega))) (Fld.Qp v1_0) (by decide) rfl), hP 2 (w_ok (v1_1 - 1) (by omega)), hP 0 (Q1c 0 6 n0 (v1_1 - 1) (Int.toNat (v1_1 - 1)) rfl (by omega) (by omega)), hP 0 (Q2x 0 6 0 false ((Fld.rows v1_0).flatten) (Fld.rows v1_0) 6 true (Int.toNat (v1_1 - 1)) 0 ((Int.toNat (v1_1 - 1)) * 6) (Fld.cells (List.getD v1_0 (Int.toNat (v1_1 - 1)) zF)) (.agg [.str (List.getD v1_0 (Int.toNat (v1_1 - 1)) zF).name, .int .i64 (List.getD v1_0 (Int.toNat (v1_1 - 1)) zF).v.kind, .int .i64 (List.getD v1_0 (Int.toNat (v1_1 - 1)) zF).v.n, .str (List.getD v1_0 (Int.toNat (v1_1 - 1)) zF).v.s, .sl (Val.rows (List.getD v1_0 (Int.toNat (v1_1 - 1)) zF).v.list), .sl (Fld.rows (List.getD v1_0 (Int.toNat (v1_1 - 1)) zF).v.fields)]) rfl rfl (Fld.Qi (Qu v1_0 (Int.toNat (v1_1 - 1)) zF (by omega))) (Fld.Qp v1_0) (by decide) rfl), hB 1 h1, hP 5 (w_ok (v1_1 - 1) (by omega)), hP 2 (w_ok (v1_1 - 1) (by omega)), hP 0 (Q1c 0 6 n0 (v1_1 - 1) (Int.toNat (v1_1 - 1)) rfl (by omega) (by omega)), hP 0 (Q2x 0 6 0 false ((Fld.rows v1_0).flatten) (Fld.rows v1_0) 6 true (Int.toNat (v1_1 - 1)) 0 ((Int.toNat (v1_1 - 1)) * 6) (Fld.cells (List.getD v1_0 (Int.toNat (v1_1 - 1)) zF)) (.agg [.str (List.getD v1_0 (Int.toNat (v1_1 - 1)) zF).name, .int .i64 (List.getD v1_0 (Int.toNat (v1_1 - 1)) zF).v.kind, .int .i64 (List.getD v1_0 (Int.toNat (v1_1 - 1)) zF).v.n, .str (List.getD v1_0 (Int.toNat (v1_1 - 1)) zF).v.s, .sl (Val.rows (List.getD v1_0 (Int.toNat (v1_1 - 1)) zF).v.list), .sl (Fld.rows (List.getD v1_0 (Int.toNat (v1_1 - 1)) zF).v.fields)]) rfl rfl (Fld.Qi (Qu v1_0 (Int.toNat (v1_1 - 1)) zF (by omega))) (Fld.Qp v1_0) (by decide) rfl), hP 2 (Q1c 0 6 n0 v1_1 (Int.toNat v1_1) rfl (by omega) (by omega)), hP 0 (Q2x 0 6 0 false ((Fld.rows v1_0).flatten) (Fld.rows v1_0) 6 true (Int.toNat v1_1) 0 ((Int.toNat v1_1) * 6) (Fld.cells (List.getD v1_0 (Int.toNat v1_1) zF)) (.agg [.str (List.getD v1_0 (Int.toNat v1_1) zF).name, .int .i64 (List.getD v1_0 (Int.toNat v1_1) zF).v.kind, .int .i64 (List.getD v1_0 (Int.toNat v1_1) zF).v.n, .str (List.getD v1_0 (Int.toNat v1_1) zF).v.s, .sl (Val.rows (List.getD v1_0 (Int.toNat v1_1) zF).v.list), .sl (Fld.rows (List.getD v1_0 (Int.toNat v1_1) zF).v.fields)]) rfl rfl (Fld.Qi (Qu v1_0 (Int.toNat v1_1) zF (by omega))) (Fld.Qp v1_0) (by decide) rfl), hP 0 (Q1c 0 6 n0 v1_1 (Int.toNat v1_1) rfl (by omega) (by omega)), hV 0 [(0, Fld.rows (List.set v1_0 (Int.toNat v1_1) (List.getD v1_0 (Int.toNat (v1_1 - 1)) zF)))] (Qbe 0 6 false ((Fld.rows v1_0).flatten) (Fld.rows v1_0) (Fld.rows (List.set v1_0 (Int.toNat v1_1) (List.getD v1_0 (Int.toNat (v1_1 - 1)) zF))) 6 (Int.toNat v1_1) 0 ((Int.toNat v1_1) * 6) _ (.agg [.str (List.getD v1_0 (Int.toNat (v1_1 - 1)) zF).name, .int .i64 (List.getD v1_0 (Int.toNat (v1_1 - 1)) zF).v.kind, .int .i64 (List.getD v1_0 (Int.toNat (v1_1 - 1)) zF).v.n, .str (List.getD v1_0 (Int.toNat (v1_1 - 1)) zF).v.s, .sl (Val.rows (List.getD v1_0 (Int.toNat (v1_1 - 1)) zF).v.list), .sl (Fld.rows (List.getD v1_0 (Int.toNat (v1_1 - 1)) zF).v.fields)]) rfl rfl (Fld.Qi (Qu v1_0 (Int.toNat v1_1) zF (by omega))) (Fld.Qp v1_0) (by decide) rfl rfl (Fld.Q44 v1_0 (Int.toNat v1_1) (List.getD v1_0 (Int.toNat (v1_1 - 1)) zF))), hS 0 false (Fld.Q5 (List.set v1_0 (Int.toNat v1_1) (List.getD v1_0 (Int.toNat (v1_1 - 1)) zF)) 6 rfl), hP 0 (Q1c 0 6 n0 (v1_1 - 1) (Int.toNat (v1_1 - 1)) rfl (by have f0 := (Qo ho1_4 (Int.toNat v1_1) (List.getD v1_0 (Int.toNat (v1_1 - 1)) zF)); omega) (by have f0 := (Qo ho1_4 (Int.toNat v1_1) (List.getD v1_0 (Int.toNat (v1_1 - 1)) zF)); omega)), hV 0 [(0, Fld.rows (List.set (List.set v1_0 (Int.toNat v1_1) (List.getD v1_0 (Int.toNat (v1_1 - 1)) zF)) (Int.toNat (v1_1 - 1)) (List.getD v1_0 (Int.toNat v1_1) zF)))] (Qbe 0 6 false ((Fld.rows (List.set v1_0 (Int.toNat v1_1) (List.getD v1_0 (Int.toNat (v1_1 - 1)) zF))).flatten) (Fld.rows (List.set v1_0 (Int.toNat v1_1) (List.getD v1_0 (Int.toNat (v1_1 - 1)) zF))) (Fld.rows (List.set (List.set v1_0 (Int.toNat v1_1) (List.getD v1_0 (Int.toNat (v1_1 - 1)) zF)) (Int.toNat (v1_1 - 1)) (List.getD v1_0 (Int.toNat v1_1) zF))) 6 (Int.toNat (v1_1 - 1)) 0 ((Int.toNat (v1_1 - 1)) * 6) _ (.agg [.str (List.getD v1_0 (Int.toNat v1_1) zF).name, .int .i64 (List.getD v1_0 (Int.toNat v1_1) zF).v.kind, .int .i64 (List.getD v1_0 (Int.toNat v1_1) zF).v.n, .str (List.getD v1_0 (Int.toNat v1_1) zF).v.s, .sl (Val.rows (List.getD v1_0 (Int.toNat v1_1) zF).v.list), .sl (Fld.rows (List.getD v1_0 (Int.toNat v1_1) zF).v.fields)]) rfl rfl (Fld.Qi (Qu (List.set v1_0 (Int.toNat v1_1) (List.getD v1_0 (Int.toNat (v1_1 - 1)) zF)) (Int.toNat (v1_1 - 1)) zF (by have f0 := (Qo ho1_4 (Int.toNat v1_1) (List.getD v1_0 (Int.toNat (v1_1 - 1)) zF)); try simp only [List.length_set]; omega))) (Fld.Qp (List.set v1_0 (Int.toNat v1_1) (List.getD v1_0 (Int.toNat (v1_1 - 1)) zF))) (by decide) rfl rfl (Fld.Q44 (List.set v1_0 (Int.toNat v1_1) (List.getD v1_0 (Int.toNat (v1_1 - 1)) zF)) (Int.toNat (v1_1 - 1)) (List.getD v1_0 (Int.toNat v1_1) zF))), hS 0 false (Fld.Q5 (List.set (List.set v1_0 (Int.toNat v1_1) (List.getD v1_0 (Int.toNat (v1_1 - 1)) zF)) (Int.toNat (v1_1 - 1)) (List.getD v1_0 (Int.toNat v1_1) zF)) 6 rfl), hP 1 (w_ok (v1_1 - 1) (by have f0 := (Qo (Qo ho1_4 (Int.toNat v1_1) (List.getD v1_0 (Int.toNat (v1_1 - 1)) zF)) (Int.toNat (v1_1 - 1)) (List.getD v1_0 (Int.toNat v1_1) zF)); omega))] [aN (Ql6 (List.getD v1_0 (Int.toNat v1_1) zF) (List.getD v1_0 (Int.toNat (v1_1 - 1)) zF))] (by kernel_rfl) hr
def Qg4 (n0 : Nat) (p1 : Int) (_p2 : Int) (_v0_0 : Int) (v1_0 : List Fld) (v1_1 : Int) : List PV :=
  [.un, .un, .un, .un, .un, .un, .un, .un, .un, .int .i64 v1_1, .un, .un, .un, .un, .un, .un, .un, .un, .int .i64 v1_1, .int .i64 p1, .bool true, .bool true, .fn 43 [] [], .ms 0 6 0 n0, .int .i64 v1_1, .bx 0 ((Int.toNat v1_1) * 6), .agg [.str (List.getD v1_0 (Int.toNat v1_1) zF).name, .int .i64 (List.getD v1_0 (Int.toNat v1_1) zF).v.kind, .int .i64 (List.getD v1_0 (Int.toNat v1_1) zF).v.n, .str (List.getD v1_0 (Int.toNat v1_1) zF).v.s, .sl (Val.rows (List.getD v1_0 (Int.toNat v1_1) zF).v.list), .sl (Fld.rows (List.getD v1_0 (Int.toNat v1_1) zF).v.fields)], .ms 0 6 0 n0, .int .i64 v1_1, .int .i64 (v1_1 - 1), .bx 0 ((Int.toNat (v1_1 - 1)) * 6), .agg [.str (List.getD v1_0 (Int.toNat (v1_1 - 1)) zF).name, .int .i64 (List.getD v1_0 (Int.toNat (v1_1 - 1)) zF).v.kind, .int .i64 (List.getD v1_0 (Int.toNat (v1_1 - 1)) zF).v.n, .str (List.getD v1_0 (Int.toNat (v1_1 - 1)) zF).v.s, .sl (Val.rows (List.getD v1_0 (Int.toNat (v1_1 - 1)) zF).v.list), .sl (Fld.rows (List.getD v1_0 (Int.toNat (v1_1 - 1)) zF).v.fields)], .int .i64 (Q20 (List.getD v1_0 (Int.toNat v1_1) zF) (List.getD v1_0 (Int.toNat (v1_1 - 1)) zF)), .bool false, .bool false]
def Qav (_n0 : Nat) (_p1 : Int) (_p2 : Int) (_v0_0 : Int) (_v1_0 : List Fld) (_v1_1 : Int) : List (Nat × List PV) :=
  []
theorem Qsf (n0 : Nat) (p1 : Int) (p2 : Int) (v0_0 : Int) (v1_0 : List Fld) (v1_1 : Int) (ho1_0 : 0 ≤ p1) (_ho1_1 : p1 ≤ v1_1) (ho1_2 : v1_1 < n0) (ho1_3 : (n0 : Int) ≤ 1152921504606846976) (ho1_4 : List.length v1_0 = n0) (h0 : (decide (p1 < v1_1)) = true) (h1 : (decide ((Q20 (List.getD v1_0 (Int.toNat v1_1) zF) (List.getD v1_0 (Int.toNat (v1_1 - 1)) zF)) < 0)) = false) : Q7y n0 p1 p2 v0_0 (Q6h n0 p1 p2 v0_0 v1_0 v1_1) v1_0 := by
 have e0 := of_decide_eq_true h0; have e1 := of_decide_eq_false h1
 exact ⟨(envF (Qg4 n0 p1 p2 v0_0 v1_0 v1_1)), (zoF (Qav n0 p1 p2 v0_0 v1_0 v1_1)), Qf (Qij n0 p1 p2 v0_0 v1_0 v1_1) (x := ((.exit 2), Q66 n0 p1 p2 v0_0 v1_0 (envF (Qg4 n0 p1 p2 v0_0 v1_0 v1_1)) (zoF (Qav n0 p1 p2 v0_0 v1_0 v1_1)))) [hB 2 h0, hP 4 (Q1c 0 6 n0 v1_1 (Int.toNat v1_1) rfl (by omega) (by omega)), hP 0 (Q2x 0 6 0 false ((Fld.rows v1_0).flatten) (Fld.rows v1_0) 6 true (Int.toNat v1_1) 0 ((Int.toNat v1_1) * 6) (Fld.cells (List.getD v1_0 (Int.toNat v1_1) zF)) (.agg [.str (List.getD v1_0 (Int.toNat v1_1) zF).name, .int .i64 (List.getD v1_0 (Int.toNat v1_1) zF).v.kind, .int .i64 (List.getD v1_0 (Int.toNat v1_1) zF).v.n, .str (List.getD v1_0 (Int.toNat v1_1) zF).v.s, .sl (Val.rows (List.getD v1_0 (Int.toNat v1_1) zF).v.list), .sl (Fld.rows (List.getD v1_0 (Int.toNat v1_1) zF).v.fields)]) rfl rfl (Fld.Qi (Qu v1_0 (Int.toNat v1_1) zF (by omega))) (Fld.Qp v1_0) (by decide) rfl), hP 2 (w_ok (v1_1 - 1) (by omega)), hP 0 (Q1c 0 6 n0 (v1_1 - 1) (Int.toNat (v1_1 - 1)) rfl (by omega) (by omega)), hP 0 (Q2x 0 6 0 false ((Fld.rows v1_0).flatten) (Fld.rows v1_0) 6 true (Int.toNat (v1_1 - 1)) 0 ((Int.toNat (v1_1 - 1)) * 6) (Fld.cells (List.getD v1_0 (Int.toNat (v1_1 - 1)) zF)) (.agg [.str (List.getD v1_0 (Int.toNat (v1_1 - 1)) zF).name, .int .i64 (List.getD v1_0 (Int.toNat (v1_1 - 1)) zF).v.kind, .int .i64 (List.getD v1_0 (Int.toNat (v1_1 - 1)) zF).v.n, .str (List.getD v1_0 (Int.toNat (v1_1 - 1)) zF).v.s, .sl (Val.rows (List.getD v1_0 (Int.toNat (v1_1 - 1)) zF).v.list), .sl (Fld.rows (List.getD v1_0 (Int.toNat (v1_1 - 1)) zF).v.fields)]) rfl rfl (Fld.Qi (Qu v1_0 (Int.toNat (v1_1 - 1)) zF (by omega))) (Fld.Qp v1_0) (by decide) rfl), hB 1 h1] [aN (Ql6 (List.getD v1_0 (Int.toNat v1_1) zF) (List.getD v1_0 (Int.toNat (v1_1 - 1)) zF))] (by kernel_rfl)⟩
def Qg8 (_n0 : Nat) (p1 : Int) (_p2 : Int) (_v0_0 : Int) (_v1_0 : List Fld) (v1_1 : Int) : List PV :=
  [.un, .un, .un, .un, .un, .un, .un, .un, .un, .int .i64 v1_1, .un, .un, .un, .un, .un, .un, .un, .un, .int .i64 v1_1, .int .i64 p1, .bool false, .bool false, .tup [], .tup [], .tup [], .tup [], .tup [], .tup [], .tup [], .tup [], .tup [], .tup [], .tup [], .tup [], .bool false]
def Qbo (_n0 : Nat) (_p1 : Int) (_p2 : Int) (_v0_0 : Int) (_v1_0 : List Fld) (_v1_1 : Int) : List (Nat × List PV) :=
  []
theorem Qr0 (n0 : Nat) (p1 : Int) (p2 : Int) (v0_0 : Int) (v1_0 : List Fld) (v1_1 : Int) (_ho1_0 : 0 ≤ p1) (_ho1_1 : p1 ≤ v1_1) (_ho1_2 : v1_1 < n0) (_ho1_3 : (n0 : Int) ≤ 1152921504606846976) (_ho1_4 : List.length v1_0 = n0) (h0 : (decide (p1 < v1_1)) = false) : Q7y n0 p1 p2 v0_0 (Q6h n0 p1 p2 v0_0 v1_0 v1_1) v1_0 := by
 exact ⟨(envF (Qg8 n0 p1 p2 v0_0 v1_0 v1_1)), (zoF (Qbo n0 p1 p2 v0_0 v1_0 v1_1)), Qf (Qij n0 p1 p2 v0_0 v1_0 v1_1) (x := ((.exit 2), Q66 n0 p1 p2 v0_0 v1_0 (envF (Qg8 n0 p1 p2 v0_0 v1_0 v1_1)) (zoF (Qbo n0 p1 p2 v0_0 v1_0 v1_1)))) [hB 2 h0] [] (by kernel_rfl)⟩
theorem Qjf (n0 : Nat) (p1 : Int) (p2 : Int) (v0_0 : Int) : ∀ (k1 : Nat) (v1_0 : List Fld) (v1_1 : Int), 0 ≤ p1 → p1 ≤ v1_1 → v1_1 < n0 → (n0 : Int) ≤ 1152921504606846976 → List.length v1_0 = n0 → Int.toNat v1_1 < k1 → Q7y n0 p1 p2 v0_0 (Q6h n0 p1 p2 v0_0 v1_0 v1_1) (Q22 n0 p1 p2 v0_0 k1 v1_0 v1_1)
 | 0, v1_0, v1_1, _, _, _, _, _, hm => absurd hm (Nat.not_lt_zero _)
 | k1 + 1, v1_0, v1_1, ho1_0, ho1_1, ho1_2, ho1_3, ho1_4, hm => by
  rw [Q22]
  cases h0 : (decide (p1 < v1_1)) with
  | true =>
   have e0 := of_decide_eq_true h0
   cases h1 : (decide ((Q20 (List.getD v1_0 (Int.toNat v1_1) zF) (List.getD v1_0 (Int.toNat (v1_1 - 1)) zF)) < 0)) with
   | true =>
    have e1 := of_decide_eq_true h1
    exact Qjc n0 p1 p2 v0_0 (fun r hr => Qsl n0 p1 p2 v0_0 v1_0 v1_1 ho1_0 ho1_1 ho1_2 ho1_3 ho1_4 h0 h1 hr) _ (Qjf n0 p1 p2 v0_0 k1 (List.set (List.set v1_0 (Int.toNat v1_1) (List.getD v1_0 (Int.toNat (v1_1 - 1)) zF)) (Int.toNat (v1_1 - 1)) (List.getD v1_0 (Int.toNat v1_1) zF)) (v1_1 - 1) (by have f0 := (Qo (Qo ho1_4 (Int.toNat v1_1) (List.getD v1_0 (Int.toNat (v1_1 - 1)) zF)) (Int.toNat (v1_1 - 1)) (List.getD v1_0 (Int.toNat v1_1) zF)); omega) (by have f0 := (Qo (Qo ho1_4 (Int.toNat v1_1) (List.getD v1_0 (Int.toNat (v1_1 - 1)) zF)) (Int.toNat (v1_1 - 1)) (List.getD v1_0 (Int.toNat v1_1) zF)); omega) (by have f0 := (Qo (Qo ho1_4 (Int.toNat v1_1) (List.getD v1_0 (Int.toNat (v1_1 - 1)) zF)) (Int.toNat (v1_1 - 1)) (List.getD v1_0 (Int.toNat v1_1) zF)); omega) (by have f0 := (Qo (Qo ho1_4 (Int.toNat v1_1) (List.getD v1_0 (Int.toNat (v1_1 - 1)) zF)) (Int.toNat (v1_1 - 1)) (List.getD v1_0 (Int.toNat v1_1) zF)); omega) (Qo (Qo ho1_4 (Int.toNat v1_1) (List.getD v1_0 (Int.toNat (v1_1 - 1)) zF)) (Int.toNat (v1_1 - 1)) (List.getD v1_0 (Int.toNat v1_1) zF)) (by have f0 := (Qo (Qo ho1_4 (Int.toNat v1_1) (List.getD v1_0 (Int.toNat (v1_1 - 1)) zF)) (Int.toNat (v1_1 - 1)) (List.getD v1_0 (Int.toNat v1_1) zF)); omega))
   | false =>
    exact Qsf n0 p1 p2 v0_0 v1_0 v1_1 ho1_0 ho1_1 ho1_2 ho1_3 ho1_4 h0 h1
  | false =>
   exact Qr0 n0 p1 p2 v0_0 v1_0 v1_1 ho1_0 ho1_1 ho1_2 ho1_3 ho1_4 h0
theorem Q2d (n0 : Nat) (p1 : Int) (p2 : Int) (v0_0 : Int) : ∀ (k1 : Nat) (v1_0 : List Fld) (v1_1 : Int), List.length v1_0 = n0 → List.length (Q22 n0 p1 p2 v0_0 k1 v1_0 v1_1) = n0
 | 0, v1_0, v1_1, ho1_4 => by rw [Q22]; exact ho1_4
 | k1 + 1, v1_0, v1_1, ho1_4 => by
  rw [Q22]
  cases h0 : (decide (p1 < v1_1)) with
  | true =>
   cases h1 : (decide ((Q20 (List.getD v1_0 (Int.toNat v1_1) zF) (List.getD v1_0 (Int.toNat (v1_1 - 1)) zF)) < 0)) with
   | true =>
    exact Q2d n0 p1 p2 v0_0 k1 (List.set (List.set v1_0 (Int.toNat v1_1) (List.getD v1_0 (Int.toNat (v1_1 - 1)) zF)) (Int.toNat (v1_1 - 1)) (List.getD v1_0 (Int.toNat v1_1) zF)) (v1_1 - 1) (Qo (Qo ho1_4 (Int.toNat v1_1) (List.getD v1_0 (Int.toNat (v1_1 - 1)) zF)) (Int.toNat (v1_1 - 1)) (List.getD v1_0 (Int.toNat v1_1) zF))
   | false =>
    exact ho1_4
  | false =>
   exact ho1_4
def Q2r (n0 : Nat) (p1 : Int) (p2 : Int) : Nat → Int → (List Fld) → List Fld
 | 0, _v0_0, v0_1 => v0_1
 | k0 + 1, v0_0, v0_1 =>
  bif (decide (v0_0 < p2)) then
   Q2r n0 p1 p2 k0 (v0_0 + 1) (Q22 n0 p1 p2 v0_0 ((Int.toNat v0_0) + 1) v0_1 v0_0)
  else
   v0_1
def Qkb (n0 : Nat) (p1 : Int) (p2 : Int) (v0_0 : Int) (_v0_1 : List Fld) : List PV :=
  [.ms 0 6 0 n0, .int .i64 p1, .int .i64 p2, .fn 43 [] [], .un, .un, .un, .un, .int .i64 v0_0, .un, .un, .un, .un, .un, .un, .un, .un, .un, .un, .un, .un, .un, .un, .un, .un, .un, .un, .un, .un, .un, .un, .un, .un, .un, .un, .un, .un, .un, .un, .un, .un, .un, .un, .un, .un, .un, .un, .un, .un, .un, .un, .un, .un]
def Qdl (_n0 : Nat) (_p1 : Int) (_p2 : Int) (_v0_0 : Int) (v0_1 : List Fld) : List Ob :=
  [⟨6, 0, false, (Fld.rows v0_1).flatten⟩]
def Qa8 (n0 : Nat) (p1 : Int) (p2 : Int) (v0_0 : Int) (v0_1 : List Fld) : En := .loop 1 Ir.Qcp Ir.Qy7 (Qkb n0 p1 p2 v0_0 v0_1) (Qdl n0 p1 p2 v0_0 v0_1)
def Qf9 (_n0 : Nat) (_p1 : Int) (_p2 : Int) (q0 : List Fld) (z : Nat → PV) (_zo : Nat → List PV) : St :=
  ⟨[z 0, z 1, z 2, z 3, z 4, z 5, z 6, z 7, z 8, z 9, z 10, z 11, z 12, z 13, z 14, z 15, z 16, z 17, z 18, z 19, z 20, z 21, z 22, z 23, z 24, z 25, z 26, z 27, z 28, z 29, z 30, z 31, z 32, z 33, z 34, z 35, z 36, z 37, z 38, z 39, z 40, z 41, z 42, z 43, z 44, z 45, z 46, z 47, z 48, z 49, z 50, z 51, z 52], [(0, ⟨6, 0, false, (Fld.rows q0).flatten⟩)], 193⟩
theorem Qp6 (n0 : Nat) (p1 : Int) (p2 : Int) (v0_0 : Int) (v0_1 : List Fld) : VOK (Go.Pv.look (number 0 (Qdl n0 p1 p2 v0_0 v0_1))) [(0, Fld.rows v0_1)] := (VOK.cons (show Seen _ _ from Q47 (ob := ⟨6, 0, false, (Fld.rows v0_1).flatten⟩) (Fld.Q5 v0_1 6 rfl)) VOK.nil)
def Qao (n0 : Nat) (p1 : Int) (p2 : Int) (e : En) (q : List Fld) : Prop := ∃ z zo, Q7 G e (.st (.exit 0) (Qf9 n0 p1 p2 q z zo))
theorem Qi9 (n0 : Nat) (p1 : Int) (p2 : Int) {e e' : En} (h : ∀ r, Q7 G e r → Q7 G e' r) : ∀ q, Qao n0 p1 p2 e q → Qao n0 p1 p2 e' q
  | _, ⟨z, zo, hz⟩ => ⟨z, zo, h _ hz⟩
theorem Qr1 (n0 : Nat) (p1 : Int) (p2 : Int) (v0_0 : Int) (v0_1 : List Fld) (ho0_0 : 0 ≤ p1) (ho0_1 : p1 < v0_0) (ho0_2 : p2 ≤ n0) (ho0_3 : (n0 : Int) ≤ 1152921504606846976) (ho0_4 : List.length v0_1 = n0) (h0 : (decide (v0_0 < p2)) = true) (z1 : Nat → PV) (zo1 : Nat → List PV) (hl1 : Q7 G (Q6h n0 p1 p2 v0_0 v0_1 v0_0) (.st (.exit 2) (Q66 n0 p1 p2 v0_0 (Q22 n0 p1 p2 v0_0 ((Int.toNat v0_0) + 1) v0_1 v0_0) z1 zo1))) {r : Rs} (hr : Q7 G (Qa8 n0 p1 p2 (v0_0 + 1) (Q22 n0 p1 p2 v0_0 ((Int.toNat v0_0) + 1) v0_1 v0_0)) r) : Q7 G (Qa8 n0 p1 p2 v0_0 v0_1) r := by
 have e0 := of_decide_eq_true h0
 exact Qc (Qp6 n0 p1 p2 v0_0 v0_1) (y := (Qkb n0 p1 p2 (v0_0 + 1) (Q22 n0 p1 p2 v0_0 ((Int.toNat v0_0) + 1) v0_1 v0_0), Qdl n0 p1 p2 (v0_0 + 1) (Q22 n0 p1 p2 v0_0 ((Int.toNat v0_0) + 1) v0_1 v0_0))) [hB 2 h0, hS 0 false (Fld.Q5 (Q22 n0 p1 p2 v0_0 ((Int.toNat v0_0) + 1) v0_1 v0_0) 6 rfl), hP 3 (w_ok (v0_0 + 1) (by have f0 := (Q2d n0 p1 p2 v0_0 ((Int.toNat v0_0) + 1) v0_1 v0_0 ho0_4); omega))] [aV [(0, Fld.rows (Q22 n0 p1 p2 v0_0 ((Int.toNat v0_0) + 1) v0_1 v0_0))] hl1] (by kernel_rfl) hr
def Qgu (n0 : Nat) (p1 : Int) (p2 : Int) (v0_0 : Int) (_v0_1 : List Fld) : List PV :=
  [.ms 0 6 0 n0, .int .i64 p1, .int .i64 p2, .fn 43 [] [], .un, .un, .un, .un, .int .i64 v0_0, .un, .un, .un, .int .i64 v0_0, .int .i64 p2, .bool false]
def Qbh (_n0 : Nat) (_p1 : Int) (_p2 : Int) (_v0_0 : Int) (_v0_1 : List Fld) : List (Nat × List PV) :=
  []
theorem Qt0 (n0 : Nat) (p1 : Int) (p2 : Int) (v0_0 : Int) (v0_1 : List Fld) (_ho0_0 : 0 ≤ p1) (_ho0_1 : p1 < v0_0) (_ho0_2 : p2 ≤ n0) (_ho0_3 : (n0 : Int) ≤ 1152921504606846976) (_ho0_4 : List.length v0_1 = n0) (h0 : (decide (v0_0 < p2)) = false) : Qao n0 p1 p2 (Qa8 n0 p1 p2 v0_0 v0_1) v0_1 := by
 exact ⟨(envF (Qgu n0 p1 p2 v0_0 v0_1)), (zoF (Qbh n0 p1 p2 v0_0 v0_1)), Qf (Qp6 n0 p1 p2 v0_0 v0_1) (x := ((.exit 0), Qf9 n0 p1 p2 v0_1 (envF (Qgu n0 p1 p2 v0_0 v0_1)) (zoF (Qbh n0 p1 p2 v0_0 v0_1)))) [hB 2 h0] [] (by kernel_rfl)⟩
theorem Qk8 (n0 : Nat) (p1 : Int) (p2 : Int) : ∀ (k0 : Nat) (v0_0 : Int) (v0_1 : List Fld), 0 ≤ p1 → p1 < v0_0 → p2 ≤ n0 → (n0 : Int) ≤ 1152921504606846976 → List.length v0_1 = n0 → Int.toNat (p2 - v0_0) < k0 → Qao n0 p1 p2 (Qa8 n0 p1 p2 v0_0 v0_1) (Q2r n0 p1 p2 k0 v0_0 v0_1)
 | 0, v0_0, v0_1, _, _, _, _, _, hm => absurd hm (Nat.not_lt_zero _)
 | k0 + 1, v0_0, v0_1, ho0_0, ho0_1, ho0_2, ho0_3, ho0_4, hm => by
  rw [Q2r]
  cases h0 : (decide (v0_0 < p2)) with
  | true =>
   have e0 := of_decide_eq_true h0
   have hl1 := Qjf n0 p1 p2 v0_0 ((Int.toNat v0_0) + 1) v0_1 v0_0 (by omega) (by omega) (by omega) (by omega) ho0_4 (by omega)
   obtain ⟨z1, zo1, hl1⟩ := hl1
   exact Qi9 n0 p1 p2 (fun r hr => Qr1 n0 p1 p2 v0_0 v0_1 ho0_0 ho0_1 ho0_2 ho0_3 ho0_4 h0 z1 zo1 hl1 hr) _ (Qk8 n0 p1 p2 k0 (v0_0 + 1) (Q22 n0 p1 p2 v0_0 ((Int.toNat v0_0) + 1) v0_1 v0_0) (by have f0 := (Q2d n0 p1 p2 v0_0 ((Int.toNat v0_0) + 1) v0_1 v0_0 ho0_4); omega) (by have f0 := (Q2d n0 p1 p2 v0_0 ((Int.toNat v0_0) + 1) v0_1 v0_0 ho0_4); omega) (by have f0 := (Q2d n0 p1 p2 v0_0 ((Int.toNat v0_0) + 1) v0_1 v0_0 ho0_4); omega) (by have f0 := (Q2d n0 p1 p2 v0_0 ((Int.toNat v0_0) + 1) v0_1 v0_0 ho0_4); omega) (Q2d n0 p1 p2 v0_0 ((Int.toNat v0_0) + 1) v0_1 v0_0 ho0_4) (by have f0 := (Q2d n0 p1 p2 v0_0 ((Int.toNat v0_0) + 1) v0_1 v0_0 ho0_4); omega))
  | false =>
   exact Qt0 n0 p1 p2 v0_0 v0_1 ho0_0 ho0_1 ho0_2 ho0_3 ho0_4 h0
theorem Q6u (n0 : Nat) (p1 : Int) (p2 : Int) : ∀ (k0 : Nat) (v0_0 : Int) (v0_1 : List Fld), List.length v0_1 = n0 → List.length (Q2r n0 p1 p2 k0 v0_0 v0_1) = n0
 | 0, v0_0, v0_1, ho0_4 => by rw [Q2r]; exact ho0_4
 | k0 + 1, v0_0, v0_1, ho0_4 => by
  rw [Q2r]
  cases h0 : (decide (v0_0 < p2)) with
  | true =>
   exact Q6u n0 p1 p2 k0 (v0_0 + 1) (Q22 n0 p1 p2 v0_0 ((Int.toNat v0_0) + 1) v0_1 v0_0) (Q2d n0 p1 p2 v0_0 ((Int.toNat v0_0) + 1) v0_1 v0_0 ho0_4)
  | false =>
   exact ho0_4
def Q16 (n0 : Nat) (p0 : List Fld) (p1 : Int) (p2 : Int) : List Fld :=
 (Q2r n0 p1 p2 ((Int.toNat (p2 - (p1 + 1))) + 1) (p1 + 1) p0)
def Qvg (n0 : Nat) (p0 : List Fld) (p1 : Int) (p2 : Int) : En := .call 66 [.ms 0 6 0 n0, .int .i64 p1, .int .i64 p2, .fn 43 [] []] [⟨6, 0, false, (Fld.rows p0).flatten⟩]
def Qme (n0 : Nat) (p0 : List Fld) (p1 : Int) (p2 : Int) : Rs := .ret (.tup []) [⟨6, 0, false, (Fld.rows (Q16 n0 p0 p1 p2)).flatten⟩]
theorem Qs (n0 : Nat) (p0 : List Fld) (p1 : Int) (p2 : Int) (hn : List.length p0 = n0) : List.length (Q16 n0 p0 p1 p2) = n0 := by
 unfold Q16
 have hz0_0 : List.length (Q2r n0 p1 p2 ((Int.toNat (p2 - (p1 + 1))) + 1) (p1 + 1) p0) = n0 := Q6u n0 p1 p2 ((Int.toNat (p2 - (p1 + 1))) + 1) (p1 + 1) p0 hn
 obtain ⟨R0, eR0⟩ : ∃ R, (Q2r n0 p1 p2 ((Int.toNat (p2 - (p1 + 1))) + 1) (p1 + 1) p0) = R := ⟨_, rfl⟩
 rw [eR0] at hz0_0 ⊢
 exact hz0_0
theorem Qkg (n0 : Nat) (p0 : List Fld) (p1 : Int) (p2 : Int) (hn : List.length p0 = n0) (hq0 : 0 ≤ p1 ∧ p1 ≤ p2 ∧ p2 ≤ n0 ∧ (n0 : Int) ≤ 1152921504606846976) : Q7 G (Qvg n0 p0 p1 p2) (Qme n0 p0 p1 p2) := by
 unfold Qme Q16
 have hl0 := Qk8 n0 p1 p2 ((Int.toNat (p2 - (p1 + 1))) + 1) (p1 + 1) p0 (by omega) (by omega) (by omega) (by omega) hn (by omega)
 have hz0_0 : List.length (Q2r n0 p1 p2 ((Int.toNat (p2 - (p1 + 1))) + 1) (p1 + 1) p0) = n0 := Q6u n0 p1 p2 ((Int.toNat (p2 - (p1 + 1))) + 1) (p1 + 1) p0 hn
 obtain ⟨R0, eR0⟩ : ∃ R, (Q2r n0 p1 p2 ((Int.toNat (p2 - (p1 + 1))) + 1) (p1 + 1) p0) = R := ⟨_, rfl⟩
 rw [eR0] at hz0_0 hl0 ⊢
 obtain ⟨z0, zo0, hl0⟩ := hl0
 exact Qa (fn := Ir.K1b) rfl (vk1 (Fld.Q5 p0 6 rfl)) [hP 1 (w_ok (p1 + 1) (by omega)), hS 0 false (Fld.Q5 R0 6 rfl)] [aV [(0, Fld.rows R0)] hl0] (by kernel_rfl)
def Q2o (n0 : Nat) (p1 : Int) (p2 : Int) (p3 : Int) : Nat → (List Fld) → Int → List Fld
 | 0, v0_0, _v0_1 => v0_0
 | k0 + 1, v0_0, v0_1 =>
  bif (decide (v0_1 < p3)) then
   Q2o n0 p1 p2 p3 k0 (List.set (List.set v0_0 (Int.toNat (p1 + v0_1)) (List.getD v0_0 (Int.toNat (p2 + v0_1)) zF)) (Int.toNat (p2 + v0_1)) (List.getD v0_0 (Int.toNat (p1 + v0_1)) zF)) (v0_1 + 1)
  else
   v0_0
def Ql4 (n0 : Nat) (p1 : Int) (p2 : Int) (p3 : Int) (_v0_0 : List Fld) (v0_1 : Int) : List PV :=
  [.ms 0 6 0 n0, .int .i64 p1, .int .i64 p2, .int .i64 p3, .un, .un, .un, .un, .un, .un, .int .i64 v0_1, .un, .un, .un, .un, .un, .un, .un, .un, .un, .un, .un, .un, .un, .un, .un, .un, .un, .un, .un, .un, .un, .un, .un, .un, .un, .un, .un]
def Qcw (_n0 : Nat) (_p1 : Int) (_p2 : Int) (_p3 : Int) (v0_0 : List Fld) (_v0_1 : Int) : List Ob :=
  [⟨6, 0, false, (Fld.rows v0_0).flatten⟩]
def Qad (n0 : Nat) (p1 : Int) (p2 : Int) (p3 : Int) (v0_0 : List Fld) (v0_1 : Int) : En := .loop 1 Ir.Qc3 Ir.Qye (Ql4 n0 p1 p2 p3 v0_0 v0_1) (Qcw n0 p1 p2 p3 v0_0 v0_1)
def Qfa (_n0 : Nat) (_p1 : Int) (_p2 : Int) (_p3 : Int) (q0 : List Fld) (z : Nat → PV) (_zo : Nat → List PV) : St :=
  ⟨[z 0, z 1, z 2, z 3, z 4, z 5, z 6, z 7, z 8, z 9, z 10, z 11, z 12, z 13, z 14, z 15, z 16, z 17, z 18, z 19, z 20, z 21, z 22, z 23, z 24, z 25, z 26, z 27, z 28, z 29, z 30, z 31, z 32, z 33, z 34, z 35, z 36, z 37], [(0, ⟨6, 0, false, (Fld.rows q0).flatten⟩)], 193⟩
theorem Qos (n0 : Nat) (p1 : Int) (p2 : Int) (p3 : Int) (v0_0 : List Fld) (v0_1 : Int) : VOK (Go.Pv.look (number 0 (Qcw n0 p1 p2 p3 v0_0 v0_1))) [(0, Fld.rows v0_0)] := (VOK.cons (show Seen _ _ from Q47 (ob := ⟨6, 0, false, (Fld.rows v0_0).flatten⟩) (Fld.Q5 v0_0 6 rfl)) VOK.nil)
def Qa4 (n0 : Nat) (p1 : Int) (p2 : Int) (p3 : Int) (e : En) (q : List Fld) : Prop := ∃ z zo, Q7 G e (.st (.exit 0) (Qfa n0 p1 p2 p3 q z zo))
theorem Qj5 (n0 : Nat) (p1 : Int) (p2 : Int) (p3 : Int) {e e' : En} (h : ∀ r, Q7 G e r → Q7 G e' r) : ∀ q, Qa4 n0 p1 p2 p3 e q → Qa4 n0 p1 p2 p3 e' q
  | _, ⟨z, zo, hz⟩ => ⟨z, zo, h _ hz⟩
theorem Qqs (n0 : Nat) (p1 : Int) (p2 : Int) (p3 : Int) (v0_0 : List Fld) (v0_1 : Int) (ho0_0 : 0 ≤ v0_1) (ho0_1 : 0 ≤ p1) (ho0_2 : 0 ≤ p2) (ho0_3 : p1 + p3 ≤ n0) (ho0_4 : p2 + p3 ≤ n0) (ho0_5 : (n0 : Int) ≤ 1152921504606846976) (ho0_6 : List.length v0_0 = n0) (h0 : (decide (v0_1 < p3)) = true) {r : Rs} (hr : Q7 G (Qad n0 p1 p2 p3 (List.set (List.set v0_0 (Int.toNat (p1 + v0_1)) (List.getD v0_0 (Int.toNat (p2 + v0_1)) zF)) (Int.toNat (p2 + v0_1)) (List.getD v0_0 (Int.toNat (p1 + v0_1)) zF)) (v0_1 + 1)) r) : Q7 G (Qad n0 p1 p2 p3 v0_0 v0_1) r := by
 have e0 := of_decide_eq_true h0
 exact Qc (Qos n0 p1 p2 p3 v0_0 v0_1) (y := (Ql4 n0 p1 p2 p3 (List.set (List.set v0_0 (Int.toNat (p1 + v0_1)) (List.getD v0_0 (Int.toNat (p2 + v0_1)) zF)) (Int.toNat (p2 + v0_1)) (List.getD v0_0 (Int.toNat (p1 + v0_1)) zF)) (v0_1 + 1), Qcw n0 p1 p2 p3 (List.set (List.set v0_0 (Int.toNat (p1 + v0_1)) (List.getD v0_0 (Int.toNat (p2 + v0_1)) zF)) (Int.toNat (p2 + v0_1)) (List.getD v0_0 (Int.toNat (p1 + v0_1)) zF)) (v0_1 + 1))) [hB 2 h0, hP 3 (w_ok (p1 + v0_1) (by omega)), hP 3 (w_ok (p2 + v0_1) (by omega)), hP 3 (w_ok (p2 + v0_1) (by omega)), hP 0 (Q1c 0 6 n0 (p2 + v0_1) (Int.toNat (p2 + v0_1)) rfl (by omega) (by omega)), hP 0 (Q2x 0 6 0 false ((Fld.rows v0_0).flatten) (Fld.rows v0_0) 6 true (Int.toNat (p2 + v0_1)) 0 ((Int.toNat (p2 + v0_1)) * 6) (Fld.cells (List.getD v0_0 (Int.toNat (p2 + v0_1)) zF)) (.agg [.str (List.getD v0_0 (Int.toNat (p2 + v0_1)) zF).name, .int .i64 (List.getD v0_0 (Int.toNat (p2 + v0_1)) zF).v.kind, .int .i64 (List.getD v0_0 (Int.toNat (p2 + v0_1)) zF).v.n, .str (List.getD v0_0 (Int.toNat (p2 + v0_1)) zF).v.s, .sl (Val.rows (List.getD v0_0 (Int.toNat (p2 + v0_1)) zF).v.list), .sl (Fld.rows (List.getD v0_0 (Int.toNat (p2 + v0_1)) zF).v.fields)]) rfl rfl (Fld.Qi (Qu v0_0 (Int.toNat (p2 + v0_1)) zF (by omega))) (Fld.Qp v0_0) (by decide) rfl), hP 3 (w_ok (p1 + v0_1) (by omega)), hP 0 (Q1c 0 6 n0 (p1 + v0_1) (Int.toNat (p1 + v0_1)) rfl (by omega) (by omega)), hP 0 (Q2x 0 6 0 false ((Fld.rows v0_0).flatten) (Fld.rows v0_0) 6 true (Int.toNat (p1 + v0_1)) 0 ((Int.toNat (p1 + v0_1)) * 6) (Fld.cells (List.getD v0_0 (Int.toNat (p1 + v0_1)) zF)) (.agg [.str (List.getD v0_0 (Int.toNat (p1 + v0_1)) zF).name, .int .i64 (List.getD v0_0 (Int.toNat (p1 + v0_1)) zF).v.kind, .int .i64 (List.getD v0_0 (Int.toNat (p1 + v0_1)) zF).v.n, .str (List.getD v0_0 (Int.toNat (p1 + v0_1)) zF).v.s, .sl (Val.rows (List.getD v0_0 (Int.toNat (p1 + v0_1)) zF).v.list), .sl (Fld.rows (List.getD v0_0 (Int.toNat (p1 + v0_1)) zF).v.fields)]) rfl rfl (Fld.Qi (Qu v0_0 (Int.toNat (p1 + v0_1)) zF (by omega))) (Fld.Qp v0_0) (by decide) rfl), hP 0 (Q1c 0 6 n0 (p1 + v0_1) (Int.toNat (p1 + v0_1)) rfl (by omega) (by omega)), hV 0 [(0, Fld.rows (List.set v0_0 (Int.toNat (p1 + v0_1)) (List.getD v0_0 (Int.toNat (p2 + v0_1)) zF)))] (Qbe 0 6 false ((Fld.rows v0_0).flatten) (Fld.rows v0_0) (Fld.rows (List.set v0_0 (Int.toNat (p1 + v0_1)) (List.getD v0_0 (Int.toNat (p2 + v0_1)) zF))) 6 (Int.toNat (p1 + v0_1)) 0 ((Int.toNat (p1 + v0_1)) * 6) _ (.agg [.str (List.getD v0_0 (Int.toNat (p2 + v0_1)) zF).name, .int .i64 (List.getD v0_0 (Int.toNat (p2 + v0_1)) zF).v.kind, .int .i64 (List.getD v0_0 (Int.toNat (p2 + v0_1)) zF).v.n, .str (List.getD v0_0 (Int.toNat (p2 + v0_1)) zF).v.s, .sl (Val.rows (List.getD v0_0 (Int.toNat (p2 + v0_1)) zF).v.list), .sl (Fld.rows (List.getD v0_0 (Int.toNat (p2 + v0_1)) zF).v.fields)]) rfl rfl (Fld.Qi (Qu v0_0 (Int.toNat (p1 + v0_1)) zF (by omega))) (Fld.Qp v0_0) (by decide) rfl rfl (Fld.Q44 v0_0 (Int.toNat (p1 + v0_1)) (List.getD v0_0 (Int.toNat (p2 + v0_1)) zF))), hS 0 false (Fld.Q5 (List.set v0_0 (Int.toNat (p1 + v0_1)) (List.getD v0_0 (Int.toNat (p2 + v0_1)) zF)) 6 rfl), hP 0 (Q1c 0 6 n0 (p2 + v0_1) (Int.toNat (p2 + v0_1)) rfl (by have f0 := (Qo ho0_6 (Int.toNat (p1 + v0_1)) (List.getD v0_0 (Int.toNat (p2 + v0_1)) zF)); omega) (by have f0 := (Qo ho0_6 (Int.toNat (p1 + v0_1)) (List.getD v0_0 (Int.toNat (p2 + v0_1)) zF)); omega)), hV 0 [(0, Fld.rows (List.set (List.set v0_0 (Int.toNat (p1 + v0_1)) (List.getD v0_0 (Int.toNat (p2 + v0_1)) zF)) (Int.toNat (p2 + v0_1)) (List.getD v0_0 (Int.toNat (p1 + v0_1)) zF)))] (Qbe 0 6 false ((Fld.rows (List.set v0_0 (Int.toNat (p1 + v0_1)) (List.getD v0_0 (Int.toNat (p2 + v0_1)) zF))).flatten) (Fld.rows (List.set v0_0 (Int.toNat (p1 + v0_1)) (List.getD v0_0 (Int.toNat (p2 + v0_1)) zF))) (Fld.rows (List.set (List.set v0_0 (Int.toNat (p1 + v0_1)) (List.getD v0_0 (Int.toNat (p2 + v0_1)) zF)) (Int.toNat (p2 + v0_1)) (List.getD v0_0 (Int.toNat (p1 + v0_1)) zF))) 6 (Int.toNat (p2 + v0_1)) 0 ((Int.toNat (p2 + v0_1)) * 6) _ (.agg [.str (List.getD v0_0 (Int.toNat (p1 + v0_1)) zF).name, .int .i64 (List.getD v0_0 (Int.toNat (p1 + v0_1)) zF).v.kind, .int .i64 (List.getD v0_0 (Int.toNat (p1 + v0_1)) zF).v.n, .str (List.getD v0_0 (Int.toNat (p1 + v0_1)) zF).v.s, .sl (Val.rows (List.getD v0_0 (Int.toNat (p1 + v0_1)) zF).v.list), .sl (Fld.rows (List.getD v0_0 (Int.toNat (p1 + v0_1)) zF).v.fields)]) rfl rfl (Fld.Qi (Qu (List.set v0_0 (Int.toNat (p1 + v0_1)) (List.getD v0_0 (Int.toNat (p2 + v0_1)) zF)) (Int.toNat (p2 + v0_1)) zF (by have f0 := (Qo ho0_6 (Int.toNat (p1 + v0_1)) (List.getD v0_0 (Int.toNat (p2 + v0_1)) zF)); try simp only [List.length_set]; omega))) (Fld.Qp (List.set v0_0 (Int.toNat (p1 + v0_1)) (List.getD v0_0 (Int.toNat (p2 + v0_1)) zF))) (by decide) rfl rfl (Fld.Q44 (List.set v0_0 (Int.toNat (p1 + v0_1)) (List.getD v0_0 (Int.toNat (p2 + v0_1)) zF)) (Int.toNat (p2 + v0_1)) (List.getD v0_0 (Int.toNat (p1 + v0_1)) zF))), hS 0 false (Fld.Q5 (List.set (List.set v0_0 (Int.toNat (p1 + v0_1)) (List.getD v0_0 (Int.toNat (p2 + v0_1)) zF)) (Int.toNat (p2 + v0_1)) (List.getD v0_0 (Int.toNat (p1 + v0_1)) zF)) 6 rfl), hP 1 (w_ok (v0_1 + 1) (by have f0 := (Qo (Qo ho0_6 (Int.toNat (p1 + v0_1)) (List.getD v0_0 (Int.toNat (p2 + v0_1)) zF)) (Int.toNat (p2 + v0_1)) (List.getD v0_0 (Int.toNat (p1 + v0_1)) zF)); omega))] [] (by kernel_rfl) hr
def Qeq (n0 : Nat) (p1 : Int) (p2 : Int) (p3 : Int) (_v0_0 : List Fld) (v0_1 : Int) : List PV :=
  [.ms 0 6 0 n0, .int .i64 p1, .int .i64 p2, .int .i64 p3, .un, .un, .un, .un, .un, .un, .int .i64 v0_1, .int .i64 v0_1, .int .i64 p3, .bool false]
def Qbp (_n0 : Nat) (_p1 : Int) (_p2 : Int) (_p3 : Int) (_v0_0 : List Fld) (_v0_1 : Int) : List (Nat × List PV) :=
  []
theorem Qqb (n0 : Nat) (p1 : Int) (p2 : Int) (p3 : Int) (v0_0 : List Fld) (v0_1 : Int) (_ho0_0 : 0 ≤ v0_1) (_ho0_1 : 0 ≤ p1) (_ho0_2 : 0 ≤ p2) (_ho0_3 : p1 + p3 ≤ n0) (_ho0_4 : p2 + p3 ≤ n0) (_ho0_5 : (n0 : Int) ≤ 1152921504606846976) (_ho0_6 : List.length v0_0 = n0) (h0 : (decide (v0_1 < p3)) = false) : Qa4 n0 p1 p2 p3 (Qad n0 p1 p2 p3 v0_0 v0_1) v0_0 := by
 exact ⟨(envF (Qeq n0 p1 p2 p3 v0_0 v0_1)), (zoF (Qbp n0 p1 p2 p3 v0_0 v0_1)), Qf (Qos n0 p1 p2 p3 v0_0 v0_1) (x := ((.exit 0), Qfa n0 p1 p2 p3 v0_0 (envF (Qeq n0 p1 p2 p3 v0_0 v0_1)) (zoF (Qbp n0 p1 p2 p3 v0_0 v0_1)))) [hB 2 h0] [] (by kernel_rfl)⟩
theorem Ql5 (n0 : Nat) (p1 : Int) (p2 : Int) (p3 : Int) : ∀ (k0 : Nat) (v0_0 : List Fld) (v0_1 : Int), 0 ≤ v0_1 → 0 ≤ p1 → 0 ≤ p2 → p1 + p3 ≤ n0 → p2 + p3 ≤ n0 → (n0 : Int) ≤ 1152921504606846976 → List.length v0_0 = n0 → Int.toNat (p3 - v0_1) < k0 → Qa4 n0 p1 p2 p3 (Qad n0 p1 p2 p3 v0_0 v0_1) (Q2o n0 p1 p2 p3 k0 v0_0 v0_1)
 | 0, v0_0, v0_1, _, _, _, _, _, _, _, hm => absurd hm (Nat.not_lt_zero _)
 | k0 + 1, v0_0, v0_1, ho0_0, ho0_1, ho0_2, ho0_3, ho0_4, ho0_5, ho0_6, hm => by
  rw [Q2o]
  cases h0 : (decide (v0_1 < p3)) with
  | true =>
   have e0 := of_decide_eq_true h0
   exact Qj5 n0 p1 p2 p3 (fun r hr => Qqs n0 p1 p2 p3 v0_0 v0_1 ho0_0 ho0_1 ho0_2 ho0_3 ho0_4 ho0_5 ho0_6 h0 hr) _ (Ql5 n0 p1 p2 p3 k0 (List.set (List.set v0_0 (Int.toNat (p1 + v0_1)) (List.getD v0_0 (Int.toNat (p2 + v0_1)) zF)) (Int.toNat (p2 + v0_1)) (List.getD v0_0 (Int.toNat (p1 + v0_1)) zF)) (v0_1 + 1) (by have f0 := (Qo (Qo ho0_6 (Int.toNat (p1 + v0_1)) (List.getD v0_0 (Int.toNat (p2 + v0_1)) zF)) (Int.toNat (p2 + v0_1)) (List.getD v0_0 (Int.toNat (p1 + v0_1)) zF)); omega) (by have f0 := (Qo (Qo ho0_6 (Int.toNat (p1 + v0_1)) (List.getD v0_0 (Int.toNat (p2 + v0_1)) zF)) (Int.toNat (p2 + v0_1)) (List.getD v0_0 (Int.toNat (p1 + v0_1)) zF)); omega) (by have f0 := (Qo (Qo ho0_6 (Int.toNat (p1 + v0_1)) (List.getD v0_0 (Int.toNat (p2 + v0_1)) zF)) (Int.toNat (p2 + v0_1)) (List.getD v0_0 (Int.toNat (p1 + v0_1)) zF)); omega) (by have f0 := (Qo (Qo ho0_6 (Int.toNat (p1 + v0_1)) (List.getD v0_0 (Int.toNat (p2 + v0_1)) zF)) (Int.toNat (p2 + v0_1)) (List.getD v0_0 (Int.toNat (p1 + v0_1)) zF)); omega) (by have f0 := (Qo (Qo ho0_6 (Int.toNat (p1 + v0_1)) (List.getD v0_0 (Int.toNat (p2 + v0_1)) zF)) (Int.toNat (p2 + v0_1)) (List.getD v0_0 (Int.toNat (p1 + v0_1)) zF)); omega) (by have f0 := (Qo (Qo ho0_6 (Int.toNat (p1 + v0_1)) (List.getD v0_0 (Int.toNat (p2 + v0_1)) zF)) (Int.toNat (p2 + v0_1)) (List.getD v0_0 (Int.toNat (p1 + v0_1)) zF)); omega) (Qo (Qo ho0_6 (Int.toNat (p1 + v0_1)) (List.getD v0_0 (Int.toNat (p2 + v0_1)) zF)) (Int.toNat (p2 + v0_1)) (List.getD v0_0 (Int.toNat (p1 + v0_1)) zF)) (by have f0 := (Qo (Qo ho0_6 (Int.toNat (p1 + v0_1)) (List.getD v0_0 (Int.toNat (p2 + v0_1)) zF)) (Int.toNat (p2 + v0_1)) (List.getD v0_0 (Int.toNat (p1 + v0_1)) zF)); omega))
  | false =>
   exact Qqb n0 p1 p2 p3 v0_0 v0_1 ho0_0 ho0_1 ho0_2 ho0_3 ho0_4 ho0_5 ho0_6 h0
theorem Q6s (n0 : Nat) (p1 : Int) (p2 : Int) (p3 : Int) : ∀ (k0 : Nat) (v0_0 : List Fld) (v0_1 : Int), List.length v0_0 = n0 → List.length (Q2o n0 p1 p2 p3 k0 v0_0 v0_1) = n0
 | 0, v0_0, v0_1, ho0_6 => by rw [Q2o]; exact ho0_6
 | k0 + 1, v0_0, v0_1, ho0_6 => by
  rw [Q2o]
  cases h0 : (decide (v0_1 < p3)) with
  | true =>
   exact Q6s n0 p1 p2 p3 k0 (List.set (List.set v0_0 (Int.toNat (p1 + v0_1)) (List.getD v0_0 (Int.toNat (p2 + v0_1)) zF)) (Int.toNat (p2 + v0_1)) (List.getD v0_0 (Int.toNat (p1 + v0_1)) zF)) (v0_1 + 1) (Qo (Qo ho0_6 (Int.toNat (p1 + v0_1)) (List.getD v0_0 (Int.toNat (p2 + v0_1)) zF)) (Int.toNat (p2 + v0_1)) (List.getD v0_0 (Int.toNat (p1 + v0_1)) zF))
  | false =>
   exact ho0_6
def Q13 (n0 : Nat) (p0 : List Fld) (p1 : Int) (p2 : Int) (p3 : Int) : List Fld :=
 (Q2o n0 p1 p2 p3 ((Int.toNat (p3 - 0)) + 1) p0 0)
def Que (n0 : Nat) (p0 : List Fld) (p1 : Int) (p2 : Int) (p3 : Int) : En := .call 72 [.ms 0 6 0 n0, .int .i64 p1, .int .i64 p2, .int .i64 p3, .fn 43 [] []] [⟨6, 0, false, (Fld.rows p0).flatten⟩]
def Qle (n0 : Nat) (p0 : List Fld) (p1 : Int) (p2 : Int) (p3 : Int) : Rs := .ret (.tup []) [⟨6, 0, false, (Fld.rows (Q13 n0 p0 p1 p2 p3)).flatten⟩]
theorem Ql (n0 : Nat) (p0 : List Fld) (p1 : Int) (p2 : Int) (p3 : Int) (hn : List.length p0 = n0) : List.length (Q13 n0 p0 p1 p2 p3) = n0 := by
 unfold Q13
 have hz0_0 : List.length (Q2o n0 p1 p2 p3 ((Int.toNat (p3 - 0)) + 1) p0 0) = n0 := Q6s n0 p1 p2 p3 ((Int.toNat (p3 - 0)) + 1) p0 0 hn
 obtain ⟨R0, eR0⟩ : ∃ R, (Q2o n0 p1 p2 p3 ((Int.toNat (p3 - 0)) + 1) p0 0) = R := ⟨_, rfl⟩
 rw [eR0] at hz0_0 ⊢
 exact hz0_0
theorem Qcl (n0 : Nat) (p0 : List Fld) (p1 : Int) (p2 : Int) (p3 : Int) (hn : List.length p0 = n0) (hq0 : 0 ≤ p1 ∧ 0 ≤ p2 ∧ 0 ≤ p3 ∧ p1 + p3 ≤ n0 ∧ p2 + p3 ≤ n0 ∧ (n0 : Int) ≤ 1152921504606846976) : Q7 G (Que n0 p0 p1 p2 p3) (Qle n0 p0 p1 p2 p3) := by
 unfold Qle Q13
 have hl0 := Ql5 n0 p1 p2 p3 ((Int.toNat (p3 - 0)) + 1) p0 0 (by omega) (by omega) (by omega) (by omega) (by omega) (by omega) hn (by omega)
 have hz0_0 : List.length (Q2o n0 p1 p2 p3 ((Int.toNat (p3 - 0)) + 1) p0 0) = n0 := Q6s n0 p1 p2 p3 ((Int.toNat (p3 - 0)) + 1) p0 0 hn
 obtain ⟨R0, eR0⟩ : ∃ R, (Q2o n0 p1 p2 p3 ((Int.toNat (p3 - 0)) + 1) p0 0) = R := ⟨_, rfl⟩
 rw [eR0] at hz0_0 hl0 ⊢
 obtain ⟨z0, zo0, hl0⟩ := hl0
 exact Qa (fn := Ir.K1e) rfl (vk1 (Fld.Q5 p0 6 rfl)) [hS 0 false (Fld.Q5 R0 6 rfl)] [aV [(0, Fld.rows R0)] hl0] (by kernel_rfl)
def Q1k (n0 : Nat) (p2 : Int) : Nat → Int → Int → (List Fld) → (List Fld) × Int
 | 0, v0_0, _v0_1, v0_2 => (v0_2, v0_0)
 | k0 + 1, v0_0, v0_1, v0_2 =>
  bif (v0_0 == v0_1) then
   (v0_2, v0_0)
  else
   bif (decide (v0_1 < v0_0)) then
    Q1k n0 p2 k0 (v0_0 - v0_1) v0_1 (Q13 n0 v0_2 (p2 - v0_0) p2 v0_1)
   else
    Q1k n0 p2 k0 v0_0 (v0_1 - v0_0) (Q13 n0 v0_2 (p2 - v0_0) ((p2 + v0_1) - v0_0) v0_0)
def Qb3 (n0 : Nat) (p2 : Int) (v0_0 : Int) (v0_1 : Int) (_v0_2 : List Fld) : List PV :=
  [.ms 0 6 0 n0, .un, .int .i64 p2, .un, .fn 43 [] [], .un, .un, .un, .un, .un, .int .i64 v0_0, .int .i64 v0_1, .un, .un, .un, .un, .un, .un, .un, .un, .un, .un, .un, .un, .un, .un, .un, .un, .un, .un, .un, .un, .un, .un, .un, .un, .un, .un, .un, .un, .un, .un, .un, .un, .un, .un, .un, .un, .un, .un, .un, .un, .un, .un, .un, .un, .un, .un]
def Q78 (_n0 : Nat) (_p2 : Int) (_v0_0 : Int) (_v0_1 : Int) (v0_2 : List Fld) : List Ob :=
  [⟨6, 0, false, (Fld.rows v0_2).flatten⟩]
def Q5z (n0 : Nat) (p2 : Int) (v0_0 : Int) (v0_1 : Int) (v0_2 : List Fld) : En := .loop 1 Ir.Qd8 Ir.Qyo (Qb3 n0 p2 v0_0 v0_1 v0_2) (Q78 n0 p2 v0_0 v0_1 v0_2)
def Qgs (n0 : Nat) (p2 : Int) (q0 : List Fld) (q1 : Int) (z : Nat → PV) (_zo : Nat → List PV) : St :=
  ⟨[.ms 0 6 0 n0, z 1, .int .i64 p2, z 3, .fn 43 [] [], z 5, z 6, z 7, z 8, z 9, .int .i64 q1, z 11, z 12, z 13, z 14, z 15, z 16, z 17, z 18, z 19, z 20, z 21, z 22, z 23, z 24, z 25, z 26, z 27, z 28, z 29, z 30, z 31, z 32, z 33, z 34, z 35, z 36, z 37, z 38, z 39, z 40, z 41, z 42, z 43, z 44, z 45, z 46, z 47, z 48, z 49, z 50, z 51, z 52, z 53, z 54, z 55, z 56, z 57], [(0, ⟨6, 0, false, (Fld.rows q0).flatten⟩)], 193⟩
theorem Qj9 (n0 : Nat) (p2 : Int) (v0_0 : Int) (v0_1 : Int) (v0_2 : List Fld) : VOK (Go.Pv.look (number 0 (Q78 n0 p2 v0_0 v0_1 v0_2))) [(0, Fld.rows v0_2)] := (VOK.cons (show Seen _ _ from Q47 (ob := ⟨6, 0, false, (Fld.rows v0_2).flatten⟩) (Fld.Q5 v0_2 6 rfl)) VOK.nil)
def Qaa (n0 : Nat) (p2 : Int) (e : En) (q : (List Fld) × Int) : Prop := ∃ z zo, Q7 G e (.st (.exit 0) (Qgs n0 p2 q.1 q.2 z zo))
theorem Q7u (n0 : Nat) (p2 : Int) {e e' : En} (h : ∀ r, Q7 G e r → Q7 G e' r) : ∀ q, Qaa n0 p2 e q → Qaa n0 p2 e' q
  | _, ⟨z, zo, hz⟩ => ⟨z, zo, h _ hz⟩
def Qgw (_n0 : Nat) (_p2 : Int) (v0_0 : Int) (v0_1 : Int) (_v0_2 : List Fld) : List PV :=
  [.un, .un, .un, .un, .un, .un, .un, .un, .un, .un, .un, .int .i64 v0_1, .un, .un, .un, .un, .un, .un, .int .i64 v0_0, .int .i64 v0_1, .bool false]
def Qbg (_n0 : Nat) (_p2 : Int) (_v0_0 : Int) (_v0_1 : Int) (_v0_2 : List Fld) : List (Nat × List PV) :=
  []
theorem Qt3 (n0 : Nat) (p2 : Int) (v0_0 : Int) (v0_1 : Int) (v0_2 : List Fld) (_ho0_0 : 0 < v0_0) (_ho0_1 : 0 < v0_1) (_ho0_2 : v0_0 ≤ p2) (_ho0_3 : p2 + v0_1 ≤ n0) (_ho0_4 : (n0 : Int) ≤ 1152921504606846976) (_ho0_5 : List.length v0_2 = n0) (h0 : (v0_0 == v0_1) = true) : Qaa n0 p2 (Q5z n0 p2 v0_0 v0_1 v0_2) (v0_2, v0_0) := by
 exact ⟨(envF (Qgw n0 p2 v0_0 v0_1 v0_2)), (zoF (Qbg n0 p2 v0_0 v0_1 v0_2)), Qf (Qj9 n0 p2 v0_0 v0_1 v0_2) (x := ((.exit 0), Qgs n0 p2 v0_2 v0_0 (envF (Qgw n0 p2 v0_0 v0_1 v0_2)) (zoF (Qbg n0 p2 v0_0 v0_1 v0_2)))) [hP 2 (dec (!(v0_0 == v0_1)) false (by rw [h0]; rfl))] [] (by kernel_rfl)⟩
theorem Qqz (n0 : Nat) (p2 : Int) (v0_0 : Int) (v0_1 : Int) (v0_2 : List Fld) (ho0_0 : 0 < v0_0) (ho0_1 : 0 < v0_1) (ho0_2 : v0_0 ≤ p2) (ho0_3 : p2 + v0_1 ≤ n0) (ho0_4 : (n0 : Int) ≤ 1152921504606846976) (ho0_5 : List.length v0_2 = n0) (h0 : (v0_0 == v0_1) = false) (h1 : (decide (v0_1 < v0_0)) = true) {r : Rs} (hr : Q7 G (Q5z n0 p2 (v0_0 - v0_1) v0_1 (Q13 n0 v0_2 (p2 - v0_0) p2 v0_1)) r) : Q7 G (Q5z n0 p2 v0_0 v0_1 v0_2) r := by
 have e0 := beq_eq_false_iff_ne.1 h0; have e1 := of_decide_eq_true h1
 exact Qc (Qj9 n0 p2 v0_0 v0_1 v0_2) (y := (Qb3 n0 p2 (v0_0 - v0_1) v0_1 (Q13 n0 v0_2 (p2 - v0_0) p2 v0_1), Q78 n0 p2 (v0_0 - v0_1) v0_1 (Q13 n0 v0_2 (p2 - v0_0) p2 v0_1))) [hP 2 (dec (!(v0_0 == v0_1)) true (by rw [h0]; rfl)), hB 2 h1, hP 3 (w_ok (p2 - v0_0) (by omega)), hQ (Fld.Q5 (Q13 n0 v0_2 (p2 - v0_0) p2 v0_1) 6 rfl), hP 6 (w_ok (v0_0 - v0_1) (by have f0 := (Ql n0 v0_2 (p2 - v0_0) p2 v0_1 ho0_5); omega))] [aV [(0, Fld.rows (Q13 n0 v0_2 (p2 - v0_0) p2 v0_1))] (Qcl n0 v0_2 (p2 - v0_0) p2 v0_1 ho0_5 (by omega))] (by kernel_rfl) hr
theorem Qs4 (n0 : Nat) (p2 : Int) (v0_0 : Int) (v0_1 : Int) (v0_2 : List Fld) (ho0_0 : 0 < v0_0) (ho0_1 : 0 < v0_1) (ho0_2 : v0_0 ≤ p2) (ho0_3 : p2 + v0_1 ≤ n0) (ho0_4 : (n0 : Int) ≤ 1152921504606846976) (ho0_5 : List.length v0_2 = n0) (h0 : (v0_0 == v0_1) = false) (h1 : (decide (v0_1 < v0_0)) = false) {r : Rs} (hr : Q7 G (Q5z n0 p2 v0_0 (v0_1 - v0_0) (Q13 n0 v0_2 (p2 - v0_0) ((p2 + v0_1) - v0_0) v0_0)) r) : Q7 G (Q5z n0 p2 v0_0 v0_1 v0_2) r := by
 have e0 := beq_eq_false_iff_ne.1 h0; have e1 := of_decide_eq_false h1
 exact Qc (Qj9 n0 p2 v0_0 v0_1 v0_2) (y := (Qb3 n0 p2 v0_0 (v0_1 - v0_0) (Q13 n0 v0_2 (p2 - v0_0) ((p2 + v0_1) - v0_0) v0_0), Q78 n0 p2 v0_0 (v0_1 - v0_0) (Q13 n0 v0_2 (p2 - v0_0) ((p2 + v0_1) - v0_0) v0_0))) [hP 2 (dec (!(v0_0 == v0_1)) true (by rw [h0]; rfl)), hB 2 h1, hP 3 (w_ok (p2 - v0_0) (by omega)), hP 2 (w_ok (p2 + v0_1) (by omega)), hP 1 (w_ok ((p2 + v0_1) - v0_0) (by omega)), hQ (Fld.Q5 (Q13 n0 v0_2 (p2 - v0_0) ((p2 + v0_1) - v0_0) v0_0) 6 rfl), hP 5 (w_ok (v0_1 - v0_0) (by have f0 := (Ql n0 v0_2 (p2 - v0_0) ((p2 + v0_1) - v0_0) v0_0 ho0_5); omega))] [aV [(0, Fld.rows (Q13 n0 v0_2 (p2 - v0_0) ((p2 + v0_1) - v0_0) v0_0))] (Qcl n0 v0_2 (p2 - v0_0) ((p2 + v0_1) - v0_0) v0_0 ho0_5 (by omega))] (by kernel_rfl) hr
theorem Qc6 (n0 : Nat) (p2 : Int) : ∀ (k0 : Nat) (v0_0 : Int) (v0_1 : Int) (v0_2 : List Fld), 0 < v0_0 → 0 < v0_1 → v0_0 ≤ p2 → p2 + v0_1 ≤ n0 → (n0 : Int) ≤ 1152921504606846976 → List.length v0_2 = n0 → Int.toNat (v0_0 + v0_1) < k0 → Qaa n0 p2 (Q5z n0 p2 v0_0 v0_1 v0_2) (Q1k n0 p2 k0 v0_0 v0_1 v0_2)
 | 0, v0_0, v0_1, v0_2, _, _, _, _, _, _, hm => absurd hm (Nat.not_lt_zero _)
 | k0 + 1, v0_0, v0_1, v0_2, ho0_0, ho0_1, ho0_2, ho0_3, ho0_4, ho0_5, hm => by
  rw [Q1k]
  cases h0 : (v0_0 == v0_1) with
  | true =>
   exact Qt3 n0 p2 v0_0 v0_1 v0_2 ho0_0 ho0_1 ho0_2 ho0_3 ho0_4 ho0_5 h0
  | false =>
   have e0 := beq_eq_false_iff_ne.1 h0
   cases h1 : (decide (v0_1 < v0_0)) with
   | true =>
    have e1 := of_decide_eq_true h1
    exact Q7u n0 p2 (fun r hr => Qqz n0 p2 v0_0 v0_1 v0_2 ho0_0 ho0_1 ho0_2 ho0_3 ho0_4 ho0_5 h0 h1 hr) _ (Qc6 n0 p2 k0 (v0_0 - v0_1) v0_1 (Q13 n0 v0_2 (p2 - v0_0) p2 v0_1) (by have f0 := (Ql n0 v0_2 (p2 - v0_0) p2 v0_1 ho0_5); omega) (by have f0 := (Ql n0 v0_2 (p2 - v0_0) p2 v0_1 ho0_5); omega) (by have f0 := (Ql n0 v0_2 (p2 - v0_0) p2 v0_1 ho0_5); omega) (by have f0 := (Ql n0 v0_2 (p2 - v0_0) p2 v0_1 ho0_5); omega) (by have f0 := (Ql n0 v0_2 (p2 - v0_0) p2 v0_1 ho0_5); omega) (Ql n0 v0_2 (p2 - v0_0) p2 v0_1 ho0_5) (by have f0 := (Ql n0 v0_2 (p2 - v0_0) p2 v0_1 ho0_5); omega))
   | false =>
    have e1 := of_decide_eq_false h1
    exact Q7u n0 p2 (fun r hr => Qs4 n0 p2 v0_0 v0_1 v0_2 ho0_0 ho0_1 ho0_2 ho0_3 ho0_4 ho0_5 h0 h1 hr) _ (Qc6 n0 p2 k0 v0_0 (v0_1 - v0_0) (Q13 n0 v0_2 (p2 - v0_0) ((p2 + v0_1) - v0_0) v0_0) (by have f0 := (Ql n0 v0_2 (p2 - v0_0) ((p2 + v0_1) - v0_0) v0_0 ho0_5); omega) (by have f0 := (Ql n0 v0_2 (p2 - v0_0) ((p2 + v0_1) - v0_0) v0_0 ho0_5); omega) (by have f0 := (Ql n0 v0_2 (p2 - v0_0) ((p2 + v0_1) - v0_0) v0_0 ho0_5); omega) (by have f0 := (Ql n0 v0_2 (p2 - v0_0) ((p2 + v0_1) - v0_0) v0_0 ho0_5); omega) (by have f0 := (Ql n0 v0_2 (p2 - v0_0) ((p2 + v0_1) - v0_0) v0_0 ho0_5); omega) (Ql n0 v0_2 (p2 - v0_0) ((p2 + v0_1) - v0_0) v0_0 ho0_5) (by have f0 := (Ql n0 v0_2 (p2 - v0_0) ((p2 + v0_1) - v0_0) v0_0 ho0_5); omega))
theorem Q51 (n0 : Nat) (p2 : Int) : ∀ (k0 : Nat) (v0_0 : Int) (v0_1 : Int) (v0_2 : List Fld), List.length v0_2 = n0 → List.length (Q1k n0 p2 k0 v0_0 v0_1 v0_2).1 = n0
 | 0, v0_0, v0_1, v0_2, ho0_5 => by rw [Q1k]; exact ho0_5
 | k0 + 1, v0_0, v0_1, v0_2, ho0_5 => by
  rw [Q1k]
  cases h0 : (v0_0 == v0_1) with
  | true =>
   exact ho0_5
  | false =>
   cases h1 : (decide (v0_1 < v0_0)) with
   | true =>
    exact Q51 n0 p2 k0 (v0_0 - v0_1) v0_1 (Q13 n0 v0_2 (p2 - v0_0) p2 v0_1) (Ql n0 v0_2 (p2 - v0_0) p2 v0_1 ho0_5)
   | false =>
    exact Q51 n0 p2 k0 v0_0 (v0_1 - v0_0) (Q13 n0 v0_2 (p2 - v0_0) ((p2 + v0_1) - v0_0) v0_0) (Ql n0 v0_2 (p2 - v0_0) ((p2 + v0_1) - v0_0) v0_0 ho0_5)
theorem Qdv (n0 : Nat) (p2 : Int) : ∀ (k0 : Nat) (v0_0 : Int) (v0_1 : Int) (v0_2 : List Fld), 0 < v0_0 → 0 < v0_1 → v0_0 ≤ p2 → p2 + v0_1 ≤ n0 → (n0 : Int) ≤ 1152921504606846976 → List.length v0_2 = n0 → Int.toNat (v0_0 + v0_1) < k0 → 0 < (Q1k n0 p2 k0 v0_0 v0_1 v0_2).2 ∧ (Q1k n0 p2 k0 v0_0 v0_1 v0_2).2 ≤ p2 ∧ p2 + (Q1k n0 p2 k0 v0_0 v0_1 v0_2).2 ≤ n0
 | 0, v0_0, v0_1, v0_2, _, _, _, _, _, _, hm => absurd hm (Nat.not_lt_zero _)
 | k0 + 1, v0_0, v0_1, v0_2, ho0_0, ho0_1, ho0_2, ho0_3, ho0_4, ho0_5, hm => by
  rw [Q1k]
  cases h0 : (v0_0 == v0_1) with
  | true =>
   have e0 := eq_of_beq h0
   exact (show 0 < v0_0 ∧ v0_0 ≤ p2 ∧ p2 + v0_0 ≤ n0 from ⟨(by omega), (by omega), (by omega)⟩)
  | false =>
   have e0 := beq_eq_false_iff_ne.1 h0
   cases h1 : (decide (v0_1 < v0_0)) with
   | true =>
    have e1 := of_decide_eq_true h1
    exact Qdv n0 p2 k0 (v0_0 - v0_1) v0_1 (Q13 n0 v0_2 (p2 - v0_0) p2 v0_1) (by have f0 := (Ql n0 v0_2 (p2 - v0_0) p2 v0_1 ho0_5); omega) (by have f0 := (Ql n0 v0_2 (p2 - v0_0) p2 v0_1 ho0_5); omega) (by have f0 := (Ql n0 v0_2 (p2 - v0_0) p2 v0_1 ho0_5); omega) (by have f0 := (Ql n0 v0_2 (p2 - v0_0) p2 v0_1 ho0_5); omega) (by have f0 := (Ql n0 v0_2 (p2 - v0_0) p2 v0_1 ho0_5); omega) (Ql n0 v0_2 (p2 - v0_0) p2 v0_1 ho0_5) (by have f0 := (Ql n0 v0_2 (p2 - v0_0) p2 v0_1 ho0_5); omega)
   | false =>
    have e1 := of_decide_eq_false h1
    exact Qdv n0 p2 k0 v0_0 (v0_1 - v0_0) (Q13 n0 v0_2 (p2 - v0_0) ((p2 + v0_1) - v0_0) v0_0) (by have f0 := (Ql n0 v0_2 (p2 - v0_0) ((p2 + v0_1) - v0_0) v0_0 ho0_5); omega) (by have f0 := (Ql n0 v0_2 (p2 - v0_0) ((p2 + v0_1) - v0_0) v0_0 ho0_5); omega) (by have f0 := (Ql n0 v0_2 (p2 - v0_0) ((p2 + v0_1) - v0_0) v0_0 ho0_5); omega) (by have f0 := (Ql n0 v0_2 (p2 - v0_0) ((p2 + v0_1) - v0_0) v0_0 ho0_5); omega) (by have f0 := (Ql n0 v0_2 (p2 - v0_0) ((p2 + v0_1) - v0_0) v0_0 ho0_5); omega) (Ql n0 v0_2 (p2 - v0_0) ((p2 + v0_1) - v0_0) v0_0 ho0_5) (by have f0 := (Ql n0 v0_2 (p2 - v0_0) ((p2 + v0_1) - v0_0) v0_0 ho0_5); omega)
def Q8 (n0 : Nat) (p0 : List Fld) (p1 : Int) (p2 : Int) (p3 : Int) : List Fld :=
 (Q13 n0 (Q1k n0 p2 ((Int.toNat ((p2 - p1) + (p3 - p2))) + 1) (p2 - p1) (p3 - p2) p0).1 (p2 - (Q1k n0 p2 ((Int.toNat ((p2 - p1) + (p3 - p2))) + 1) (p2 - p1) (p3 - p2) p0).2) p2 (Q1k n0 p2 ((Int.toNat ((p2 - p1) + (p3 - p2))) + 1) (p2 - p1) (p3 - p2) p0).2)
def Qty (n0 : Nat) (p0 : List Fld) (p1 : Int) (p2 : Int) (p3 : Int) : En := .call 71 [.ms 0 6 0 n0, .int .i64 p1, .int .i64 p2, .int .i64 p3, .fn 43 [] []] [⟨6, 0, false, (Fld.rows p0).flatten⟩]
def Qjz (n0 : Nat) (p0 : List Fld) (p1 : Int) (p2 : Int) (p3 : Int) : Rs := .ret (.tup []) [⟨6, 0, false, (Fld.rows (Q8 n0 p0 p1 p2 p3)).flatten⟩]
theorem Qd (n0 : Nat) (p0 : List Fld) (p1 : Int) (p2 : Int) (p3 : Int) (hn : List.length p0 = n0) : List.length (Q8 n0 p0 p1 p2 p3) = n0 := by
 unfold Q8
 have hz0_0 : List.length (Q1k n0 p2 ((Int.toNat ((p2 - p1) + (p3 - p2))) + 1) (p2 - p1) (p3 - p2) p0).1 = n0 := Q51 n0 p2 ((Int.toNat ((p2 - p1) + (p3 - p2))) + 1) (p2 - p1) (p3 - p2) p0 hn
 obtain ⟨R1, eR1⟩ : ∃ R, (Q1k n0 p2 ((Int.toNat ((p2 - p1) + (p3 - p2))) + 1) (p2 - p1) (p3 - p2) p0) = R := ⟨_, rfl⟩
 rw [eR1] at hz0_0 ⊢
 exact (Ql n0 R1.1 (p2 - R1.2) p2 R1.2 hz0_0)
theorem Q1l (n0 : Nat) (p0 : List Fld) (p1 : Int) (p2 : Int) (p3 : Int) (hn : List.length p0 = n0) (hq0 : 0 ≤ p1 ∧ p1 < p2 ∧ p2 < p3 ∧ p3 ≤ n0 ∧ (n0 : Int) ≤ 1152921504606846976) : Q7 G (Qty n0 p0 p1 p2 p3) (Qjz n0 p0 p1 p2 p3) := by
 unfold Qjz Q8
 have hl0 := Qc6 n0 p2 ((Int.toNat ((p2 - p1) + (p3 - p2))) + 1) (p2 - p1) (p3 - p2) p0 (by omega) (by omega) (by omega) (by omega) (by omega) hn (by omega)
 have hz0_0 : List.length (Q1k n0 p2 ((Int.toNat ((p2 - p1) + (p3 - p2))) + 1) (p2 - p1) (p3 - p2) p0).1 = n0 := Q51 n0 p2 ((Int.toNat ((p2 - p1) + (p3 - p2))) + 1) (p2 - p1) (p3 - p2) p0 hn
 have hy0 : 0 < (Q1k n0 p2 ((Int.toNat ((p2 - p1) + (p3 - p2))) + 1) (p2 - p1) (p3 - p2) p0).2 ∧ (Q1k n0 p2 ((Int.toNat ((p2 - p1) + (p3 - p2))) + 1) (p2 - p1) (p3 - p2) p0).2 ≤ p2 ∧ p2 + (Q1k n0 p2 ((Int.toNat ((p2 - p1) + (p3 - p2))) + 1) (p2 - p1) (p3 - p2) p0).2 ≤ n0 := Qdv n0 p2 ((Int.toNat ((p2 - p1) + (p3 - p2))) + 1) (p2 - p1) (p3 - p2) p0 (by omega) (by omega) (by omega) (by omega) (by omega) hn (by omega)
 obtain ⟨R1, eR1⟩ : ∃ R, (Q1k n0 p2 ((Int.toNat ((p2 - p1) + (p3 - p2))) + 1) (p2 - p1) (p3 - p2) p0) = R := ⟨_, rfl⟩
 rw [eR1] at hz0_0 hy0 hl0 ⊢
 obtain ⟨z0, zo0, hl0⟩ := hl0
 exact Qa (fn := Ir.K1c) rfl (vk1 (Fld.Q5 p0 6 rfl)) [hP 2 (w_ok (p2 - p1) (by omega)), hP 3 (w_ok (p3 - p2) (by omega)), hS 0 false (Fld.Q5 R1.1 6 rfl), hP 4 (w_ok (p2 - R1.2) (by have g0 := hy0; omega)), hQ (Fld.Q5 (Q13 n0 R1.1 (p2 - R1.2) p2 R1.2) 6 rfl)] [aV [(0, Fld.rows R1.1)] hl0, aV [(0, Fld.rows (Q13 n0 R1.1 (p2 - R1.2) p2 R1.2))] (Qcl n0 R1.1 (p2 - R1.2) p2 R1.2 hz0_0 (by have g0 := hy0; omega))] (by kernel_rfl)
end Go.Proofs.Ytnhhddbbppbblaa
end

