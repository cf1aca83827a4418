/- Texts of the claim, merged by a program; what the statement does not reach is left out. -/
import Derived.Test.YtnhhddbbppbblaaBPatchMinimal3

section
/- What taking fields out and copying values compute (printed by a program). -/
namespace Go.Proofs.Ytnhhddbbppbblaa
open Go.Pv
def Q170 (p0 : Val) : Val := p0
def Qu0 (p0 : Val) : List Val → Nat → Unit
 | [], _i0 =>
  ()
 | _x0 :: r0, i0 =>
  Qu0 p0 r0 (i0 + 1)
def Qnr (p0 : Val) (i0 : Nat) : List PV :=
  [.un, .bx 0 0, .bx 1 0, .un, .un, .un, .un, .un, .un, .un, .un, .un, .ms 2 5 0 (List.length p0.list), .int .i64 ((List.length p0.list) : Int), .int .i64 (i0 : Int), .un, .un, .un, .un, .un, .un, .un, .un, .un, .un, .un, .un, .un, .un, .un, .un, .un, .un, .un, .un, .un, .un, .un, .un, .un, .un, .un, .un, .un, .un, .un, .un, .un]
def Qf8 (p0 : Val) (_i0 : Nat) : List Ob :=
  [⟨5, 0, true, [.int .i64 p0.kind, .int .i64 p0.n, .str p0.s, .ms 2 5 0 (List.length p0.list), .sl (Fld.rows p0.fields)]⟩, ⟨5, 0, true, [.int .i64 0, .int .i64 0, .str (⟨#[]⟩ : ByteArray), .ms 3 5 0 0, .ms 4 6 0 0]⟩, ⟨5, 0, true, (Val.rows p0.list).flatten⟩, ⟨5, 0, true, []⟩, ⟨6, 0, true, []⟩]
def Qbc (p0 : Val) (i0 : Nat) : En := .loop 0 Ir.Qd6 Ir.Q14q (Qnr p0 i0) (Qf8 p0 i0)
def Qi1 (p0 : Val) (z : Nat → PV) (_zo : Nat → List PV) : St :=
  ⟨[z 0, .bx 0 0, .bx 1 0, z 3, z 4, z 5, z 6, z 7, z 8, z 9, z 10, z 11, z 12, z 13, z 14, z 15, z 16, z 17, z 18, z 19, z 20, z 21, z 22, z 23, z 24, z 25, z 26, z 27, z 28, z 29, z 30, z 31, z 32, z 33, z 34, z 35, z 36, z 37, z 38, z 39, z 40, z 41, z 42, z 43, z 44, z 45, z 46, z 47], [(0, ⟨5, 0, true, [.int .i64 p0.kind, .int .i64 p0.n, .str p0.s, .ms 2 5 0 (List.length p0.list), .sl (Fld.rows p0.fields)]⟩), (1, ⟨5, 0, true, [.int .i64 0, .int .i64 0, .str (⟨#[]⟩ : ByteArray), .ms 3 5 0 0, .ms 4 6 0 0]⟩), (2, ⟨5, 0, true, (Val.rows p0.list).flatten⟩), (3, ⟨5, 0, true, []⟩), (4, ⟨6, 0, true, []⟩)], 69⟩
theorem Qtx (p0 : Val) (i0 : Nat) : VOK (Go.Pv.look (number 0 (Qf8 p0 i0))) [(2, Val.rows p0.list)] := (VOK.cons (show Seen _ _ from Q43 (ob := ⟨5, 0, true, (Val.rows p0.list).flatten⟩) (Val.Q5 p0.list 5 rfl)) VOK.nil)
def Q7b (p0 : Val) (e : En) (_q : Unit) : Prop := ∃ z zo, Q7 G e (.st (.exit 0) (Qi1 p0 z zo))
theorem Qm8 (p0 : Val) {e e' : En} (h : ∀ r, Q7 G e r → Q7 G e' r) : ∀ q, Q7b p0 e q → Q7b p0 e' q
  | _, ⟨z, zo, hz⟩ => ⟨z, zo, h _ hz⟩
def Qsj (p0 : Val) : List Fld → Nat → Unit
 | [], _i1 =>
  ()
 | _x1 :: r1, i1 =>
  Qsj p0 r1 (i1 + 1)
def Qod (p0 : Val) (i1 : Nat) : List PV :=
  [.un, .bx 0 0, .bx 1 0, .un, .un, .un, .un, .un, .un, .un, .un, .un, .un, .un, .un, .un, .un, .un, .un, .un, .un, .un, .un, .un, .un, .un, .un, .un, .un, .un, .un, .ms 2 6 0 (List.length p0.fields), .int .i64 ((List.length p0.fields) : Int), .int .i64 (i1 : Int), .un, .un, .un, .un, .un, .un, .un, .un, .un, .un, .un, .un, .un, .un]
def Qcq (p0 : Val) (_i1 : Nat) : List Ob :=
  [⟨5, 0, true, [.int .i64 p0.kind, .int .i64 p0.n, .str p0.s, .ms 3 5 0 (List.length p0.list), .ms 2 6 0 (List.length p0.fields)]⟩, ⟨5, 0, true, [.int .i64 0, .int .i64 0, .str (⟨#[]⟩ : ByteArray), .ms 4 5 0 0, .ms 5 6 0 0]⟩, ⟨6, 0, true, (Fld.rows p0.fields).flatten⟩, ⟨5, 0, true, (Val.rows p0.list).flatten⟩, ⟨5, 0, true, []⟩, ⟨6, 0, true, []⟩]
def Qbv (p0 : Val) (i1 : Nat) : En := .loop 0 Ir.Qew Ir.Q145 (Qod p0 i1) (Qcq p0 i1)
def Qh5 (p0 : Val) (z : Nat → PV) (_zo : Nat → List PV) : St :=
  ⟨[z 0, .bx 0 0, .bx 1 0, z 3, z 4, z 5, z 6, z 7, z 8, z 9, z 10, z 11, z 12, z 13, z 14, z 15, z 16, z 17, z 18, z 19, z 20, z 21, z 22, z 23, z 24, z 25, z 26, z 27, z 28, z 29, z 30, z 31, z 32, z 33, z 34, z 35, z 36, z 37, z 38, z 39, z 40, z 41, z 42, z 43, z 44, z 45, z 46, z 47], [(0, ⟨5, 0, true, [.int .i64 p0.kind, .int .i64 p0.n, .str p0.s, .ms 3 5 0 (List.length p0.list), .ms 2 6 0 (List.length p0.fields)]⟩), (1, ⟨5, 0, true, [.int .i64 0, .int .i64 0, .str (⟨#[]⟩ : ByteArray), .ms 4 5 0 0, .ms 5 6 0 0]⟩), (2, ⟨6, 0, true, (Fld.rows p0.fields).flatten⟩), (3, ⟨5, 0, true, (Val.rows p0.list).flatten⟩), (4, ⟨5, 0, true, []⟩), (5, ⟨6, 0, true, []⟩)], 70⟩
theorem Qud (p0 : Val) (i1 : Nat) : VOK (Go.Pv.look (number 0 (Qcq p0 i1))) [(2, Fld.rows p0.fields), (3, Val.rows p0.list)] := (VOK.cons (show Seen _ _ from Q43 (ob := ⟨6, 0, true, (Fld.rows p0.fields).flatten⟩) (Fld.Q5 p0.fields 6 rfl)) (VOK.cons (show Seen _ _ from Q43 (ob := ⟨5, 0, true, (Val.rows p0.list).flatten⟩) (Val.Q5 p0.list 5 rfl)) VOK.nil))
def Q75 (p0 : Val) (e : En) (_q : Unit) : Prop := ∃ z zo, Q7 G e (.st (.exit 2) (Qh5 p0 z zo))
theorem Qmc (p0 : Val) {e e' : En} (h : ∀ r, Q7 G e r → Q7 G e' r) : ∀ q, Q75 p0 e q → Q75 p0 e' q
  | _, ⟨z, zo, hz⟩ => ⟨z, zo, h _ hz⟩
theorem Q1ak (p0 : Val) : Q170 p0 = (p0) := by
  rfl
def Q13l (p0 : Val) : En := .call 45 [.agg (Val.cells p0)] []
def Qy9 (p0 : Val) : Rs := .ret (.agg (Val.cells (Q170 p0))) []
abbrev Qga (p0 : Val) : Prop := Val.Sm 1000000000 p0
def Q7x (p0 : Val) : Prop := ∀ (q : Val), SizeOf.sizeOf q < SizeOf.sizeOf p0 → Qga q → Q7 G (Q13l q) (Qy9 q)
def Qbh (p0 : Val) : Prop := (List.length p0.list ≤ 4611686018427387904) ∧ (∀ x0 ∈ p0.list, Qga x0) ∧ True
def Qb9 (p0 : Val) : Prop := (List.length p0.fields ≤ 4611686018427387904) ∧ (∀ x1 ∈ p0.fields, Qga x1.v) ∧ True
theorem Qbg (p0 : Val) (H : Qga p0) : (List.length p0.list * 80 ≤ 140737488355328) ∧ (Qbh p0) ∧ (List.length p0.fields * 96 ≤ 140737488355328) ∧ (Qb9 p0) ∧ True := by
  obtain ⟨h1, h2, h3, h4⟩ := H.all
  exact ⟨by omega, ⟨by omega, h3, trivial⟩, by omega, ⟨by omega, h4, trivial⟩, trivial⟩
def Qic (p0 : Val) (i0 : Nat) : List PV :=
  [.un, .un, .un, .un, .un, .un, .un, .un, .un, .un, .un, .un, .ms 2 5 0 (List.length p0.list), .int .i64 ((List.length p0.list) : Int), .int .i64 (i0 : Int), .bool false]
def Qdp (_p0 : Val) (_i0 : Nat) : List (Nat × List PV) :=
  []
theorem Qw1 (p0 : Val) (_H : Qbh p0) (_rec : Q7x p0) (i0 : Nat) (hc0 : (decide ((i0 : Int) < ((List.length p0.list) : Int))) = false) : Q7b p0 (Qbc p0 i0) () := by
 exact ⟨(envF (Qic p0 i0)), (zoF (Qdp p0 i0)), Qe (Qtx p0 i0) (x := ((.exit 0), Qi1 p0 (envF (Qic p0 i0)) (zoF (Qdp p0 i0)))) [hB 0 hc0] [] (by kernel_rfl)⟩
theorem Qvb (p0 : Val) (H : Qbh p0) (rec : Q7x p0) (x0 : Val) (i0 : Nat) (hx0 : p0.list[i0]? = some x0) (hi0 : i0 < List.length p0.list) (hc0 : (decide ((i0 : Int) < ((List.length p0.list) : Int))) = true) {r : Rs} (hr : Q7 G (Qbc p0 (i0 + 1)) r) : Q7 G (Qbc p0 i0) r := by
 have hB0 := H.1
 exact Q9 (Qtx p0 i0) (y := (Qnr p0 (i0 + 1), Qf8 p0 (i0 + 1))) [hB 0 hc0, hP 1 (Q1j 2 5 (List.length p0.list) (i0 : Int) i0 (by omega) (by omega) (by omega)), hP 0 (Q33 2 5 0 true ((Val.rows p0.list).flatten) (Val.rows p0.list) 5 true i0 0 (i0 * 5) (Val.cells x0) (.agg [.int .i64 x0.kind, .int .i64 x0.n, .str x0.s, .sl (Val.rows x0.list), .sl (Fld.rows x0.fields)]) rfl rfl (Val.Qf hx0) (Val.Qq p0.list) (by decide) rfl), hP 8 (Q1j 2 5 (List.length p0.list) (i0 : Int) i0 (by omega) (by omega) (by omega)), hV 0 [(2, Val.rows p0.list)] (Qd7 2 5 true ((Val.rows p0.list).flatten) (Val.rows p0.list) (Val.rows p0.list) 5 i0 0 (i0 * 5) _ (.agg [.int .i64 x0.kind, .int .i64 x0.n, .str x0.s, .sl (Val.rows x0.list), .sl (Fld.rows x0.fields)]) rfl rfl (Val.Qf hx0) (Val.Qq p0.list) (by decide) rfl rfl (Qzg (Val.Qf hx0))), hS 0 true (Val.Q5 p0.list 5 rfl), hP 0 (Qt i0 (by omega))] [aN (rec x0 (szL hx0) (H.2.1 x0 (Ql hx0)))] (by kernel_rfl) hr
theorem Qqg (p0 : Val) (H : Qbh p0) (rec : Q7x p0) : ∀ (r0 : List Val) (i0 : Nat), List.drop i0 p0.list = r0 → Q7b p0 (Qbc p0 i0) (Qu0 p0 r0 i0)
 | [], i0, hd => by
  have hc0 : (decide ((i0 : Int) < ((List.length p0.list) : Int))) = false := by have := Q1k hd; simp; omega
  show Q7b p0 _ ()
  exact Qw1 p0 H rec i0 hc0
 | x0 :: r0, i0, hd => by
  obtain ⟨hx0, hi0, hd'⟩ := Q15 hd
  have hc0 : (decide ((i0 : Int) < ((List.length p0.list) : Int))) = true := by simp; omega
  show Q7b p0 _ ()
  exact Qm8 p0 (fun r hr => Qvb p0 H rec x0 i0 hx0 hi0 hc0 hr) _ (Qqg p0 H rec r0 (i0 + 1) hd')
def Qin (p0 : Val) (i1 : Nat) : List PV :=
  [.un, .un, .un, .un, .un, .un, .un, .un, .un, .un, .un, .un, .un, .un, .un, .un, .un, .un, .un, .un, .un, .un, .un, .un, .un, .un, .un, .un, .un, .un, .un, .ms 2 6 0 (List.length p0.fields), .int .i64 ((List.length p0.fields) : Int), .int .i64 (i1 : Int), .bool false]
def Qex (_p0 : Val) (_i1 : Nat) : List (Nat × List PV) :=
  []
theorem Qus (p0 : Val) (_H : Qb9 p0) (_rec : Q7x p0) (i1 : Nat) (hc1 : (decide ((i1 : Int) < ((List.length p0.fields) : Int))) = false) : Q75 p0 (Qbv p0 i1) () := by
 exact ⟨(envF (Qin p0 i1)), (zoF (Qex p0 i1)), Qe (Qud p0 i1) (x := ((.exit 2), Qh5 p0 (envF (Qin p0 i1)) (zoF (Qex p0 i1)))) [hB 0 hc1] [] (by kernel_rfl)⟩
theorem Qug (p0 : Val) (H : Qb9 p0) (rec : Q7x p0) (x1 : Fld) (i1 : Nat) (hx1 : p0.fields[i1]? = some x1) (hi1 : i1 < List.length p0.fields) (hc1 : (decide ((i1 : Int) < ((List.length p0.fields) : Int))) = true) {r : Rs} (hr : Q7 G (Qbv p0 (i1 + 1)) r) : Q7 G (Qbv p0 i1) r := by
 have hB0 := H.1
 exact Q9 (Qud p0 i1) (y := (Qod p0 (i1 + 1), Qcq p0 (i1 + 1))) [hB 0 hc1, hP 1 (Q1j 2 6 (List.length p0.fields) (i1 : Int) i1 (by omega) (by omega) (by omega)), hP 0 (Q33 2 6 0 true ((Fld.rows p0.fields).flatten) (Fld.rows p0.fields) 6 true i1 0 (i1 * 6) (Fld.cells x1) (.agg [.str x1.name, .int .i64 x1.v.kind, .int .i64 x1.v.n, .str x1.v.s, .sl (Val.rows x1.v.list), .sl (Fld.rows x1.v.fields)]) rfl rfl (Fld.Qf hx1) (Fld.Qq p0.fields) (by decide) rfl), hP 9 (Q1j 2 6 (List.length p0.fields) (i1 : Int) i1 (by omega) (by omega) (by omega)), hV 1 [(2, Fld.rows p0.fields)] (Qd7 2 6 true ((Fld.rows p0.fields).flatten) (Fld.rows p0.fields) (Fld.rows p0.fields) 5 i1 1 (i1 * 6 + 1) _ (.agg [.int .i64 x1.v.kind, .int .i64 x1.v.n, .str x1.v.s, .sl (Val.rows x1.v.list), .sl (Fld.rows x1.v.fields)]) rfl rfl (Fld.Qf hx1) (Fld.Qq p0.fields) (by decide) rfl rfl (Qzg (Fld.Qf hx1))), hS 0 true (Fld.Q5 p0.fields 6 rfl), hP 0 (Qt i1 (by omega))] [aN (rec x1.v (szF hx1) (H.2.1 x1 (Ql hx1)))] (by kernel_rfl) hr
theorem Qn9 (p0 : Val) (H : Qb9 p0) (rec : Q7x p0) : ∀ (r1 : List Fld) (i1 : Nat), List.drop i1 p0.fields = r1 → Q75 p0 (Qbv p0 i1) (Qsj p0 r1 i1)
 | [], i1, hd => by
  have hc1 : (decide ((i1 : Int) < ((List.length p0.fields) : Int))) = false := by have := Q1k hd; simp; omega
  show Q75 p0 _ ()
  exact Qus p0 H rec i1 hc1
 | x1 :: r1, i1, hd => by
  obtain ⟨hx1, hi1, hd'⟩ := Q15 hd
  have hc1 : (decide ((i1 : Int) < ((List.length p0.fields) : Int))) = true := by simp; omega
  show Q75 p0 _ ()
  exact Qmc p0 (fun r hr => Qug p0 H rec x1 i1 hx1 hi1 hc1 hr) _ (Qn9 p0 H rec r1 (i1 + 1) hd')
theorem Q19w (p0 : Val) (H : Qga p0) (rec : Q7x p0) : Q7 G (Q13l p0) (Qy9 p0) := by
  unfold Qy9
  rw [Q1ak]
  have hl0 := Qqg p0 ((Qbg p0 H).2.1) rec p0.list 0 (by simp)
  obtain ⟨z0, zo0, hl0⟩ := hl0
  have hl1 := Qn9 p0 ((Qbg p0 H).2.2.2.1) rec p0.fields 0 (by simp)
  obtain ⟨z1, zo1, hl1⟩ := hl1
  exact Q8 (fn := Ir.K1r) rfl VOK.nil [hQ (Val.Q5 p0.list 5 rfl), hS 0 true (Val.Q5 p0.list 5 rfl), hQ (Fld.Q5 p0.fields 6 rfl), hS 0 true (Fld.Q5 p0.fields 6 rfl), hS 0 true (Val.Q5 p0.list 5 rfl), hQ (Val.Qd p0.list).symm, hQ (Fld.Qd p0.fields).symm] [aV [(0, Val.rows p0.list)] (Q5w (G := G) (f := 55) (sz := 5) (bytes := 80) rfl (Val.Qd p0.list) (Val.Q5 p0.list 5 rfl) (Qbg p0 H).1), aV [(2, Val.rows p0.list)] hl0, aV [(0, Fld.rows p0.fields)] (Q5w (G := G) (f := 41) (sz := 6) (bytes := 96) rfl (Fld.Qd p0.fields) (Fld.Q5 p0.fields 6 rfl) (Qbg p0 H).2.2.1), aV [(2, Fld.rows p0.fields), (3, Val.rows p0.list)] hl1] (by kernel_rfl)
theorem Q177 : ∀ (k : Nat) (p0 : Val), SizeOf.sizeOf p0 < k → Qga p0 → Q7 G (Q13l p0) (Qy9 p0)
  | 0, _, h, _ => absurd h (Nat.not_lt_zero _)
  | k + 1, p0, h, H => Q19w p0 H (fun q hq hH => Q177 k q (by omega) hH)
theorem Q15o (p0 : Val) (H : Qga p0) : Q7 G (Q13l p0) (Qy9 p0) := Q177 _ p0 (Nat.lt_succ_self _) H
mutual
def s_Kj (p0 : Val) : Val :=
 (Val.mk p0.kind p0.n p0.s (Q2f p0 p0.list 0 []) (Q4o p0 p0.fields 0 []))
termination_by SizeOf.sizeOf p0
decreasing_by all_goals first | exact Val.Q27 _ | exact Val.Q1f _ | exact Q2d _ _ | exact Q23 _ _ | exact Q1s _ _
def Q2f (p0 : Val) : List Val → Nat → (List Val) → List Val
 | [], _i0, v0_1 =>
  v0_1
 | x0 :: r0, i0, v0_1 =>
  Q2f p0 r0 (i0 + 1) (v0_1 ++ [(s_Kj x0)])
termination_by l => SizeOf.sizeOf l
decreasing_by all_goals first | exact Val.Q27 _ | exact Val.Q1f _ | exact Q2d _ _ | exact Q23 _ _ | exact Q1s _ _
def Q4o (p0 : Val) : List Fld → Nat → (List Fld) → List Fld
 | [], _i1, v1_1 =>
  v1_1
 | x1 :: r1, i1, v1_1 =>
  Q4o p0 r1 (i1 + 1) (v1_1 ++ [(Fld.mk x1.name (s_Kj x1.v))])
termination_by l => SizeOf.sizeOf l
decreasing_by all_goals first | exact Val.Q27 _ | exact Val.Q1f _ | exact Q2d _ _ | exact Q23 _ _ | exact Q1s _ _
end
def Qt1 (_p0 : Val) (i0 : Nat) (_v0_1 : List Val) : List PV :=
  [.un, .bx 0 0, .bx 1 0, .bx 2 0, .int .i64 (i0 : Int), .un, .un, .un, .un, .un, .un, .un, .un, .un, .un, .un, .un, .un, .un, .un, .un, .un, .un, .un, .un, .un, .un, .un, .un, .un, .un, .un, .un, .un, .un, .un, .un, .un, .un, .un, .un, .un, .un, .un, .un, .un, .un, .un, .un, .un, .un, .un, .un, .un, .un, .un, .un, .un]
def Qmf (p0 : Val) (_i0 : Nat) (v0_1 : List Val) : List Ob :=
  [⟨5, 0, true, [.int .i64 p0.kind, .int .i64 p0.n, .str p0.s, .sl (Val.rows p0.list), .sl (Fld.rows p0.fields)]⟩, ⟨5, 0, true, [.int .i64 0, .int .i64 0, .str (⟨#[]⟩ : ByteArray), .ms 3 5 0 0, .ms 4 6 0 0]⟩, ⟨5, 0, true, [.int .i64 p0.kind, .int .i64 p0.n, .str p0.s, .ms 5 5 0 (List.length v0_1), .ms 6 6 0 0]⟩, ⟨5, 0, true, []⟩, ⟨6, 0, true, []⟩, ⟨5, 0, true, (Val.rows v0_1).flatten⟩, ⟨6, 0, true, []⟩]
def Qly (p0 : Val) (i0 : Nat) (v0_1 : List Val) : En := .loop 0 Ir.Qhf Ir.Q16n (Qt1 p0 i0 v0_1) (Qmf p0 i0 v0_1)
def Qph (p0 : Val) (q0 : List Val) (z : Nat → PV) (_zo : Nat → List PV) : St :=
  ⟨[z 0, .bx 0 0, .bx 1 0, .bx 2 0, z 4, z 5, z 6, z 7, z 8, z 9, z 10, z 11, z 12, z 13, z 14, z 15, z 16, z 17, z 18, z 19, z 20, z 21, z 22, z 23, z 24, z 25, z 26, z 27, z 28, z 29, z 30, z 31, z 32, z 33, z 34, z 35, z 36, z 37, z 38, z 39, z 40, z 41, z 42, z 43, z 44, z 45, z 46, z 47, z 48, z 49, z 50, z 51, z 52, z 53, z 54, z 55, z 56, z 57], [(0, ⟨5, 0, true, [.int .i64 p0.kind, .int .i64 p0.n, .str p0.s, .sl (Val.rows p0.list), .sl (Fld.rows p0.fields)]⟩), (1, ⟨5, 0, true, [.int .i64 0, .int .i64 0, .str (⟨#[]⟩ : ByteArray), .ms 3 5 0 0, .ms 4 6 0 0]⟩), (2, ⟨5, 0, true, [.int .i64 p0.kind, .int .i64 p0.n, .str p0.s, .ms 5 5 0 (List.length q0), .ms 6 6 0 0]⟩), (3, ⟨5, 0, true, []⟩), (4, ⟨6, 0, true, []⟩), (5, ⟨5, 0, true, (Val.rows q0).flatten⟩), (6, ⟨6, 0, true, []⟩)], 327⟩
theorem Qyv (p0 : Val) (i0 : Nat) (v0_1 : List Val) : VOK (Go.Pv.look (number 0 (Qmf p0 i0 v0_1))) [(5, Val.rows v0_1)] := (VOK.cons (show Seen _ _ from Q43 (ob := ⟨5, 0, true, (Val.rows v0_1).flatten⟩) (Val.Q5 v0_1 5 rfl)) VOK.nil)
def Ql1 (p0 : Val) (e : En) (q : List Val) : Prop := ∃ z zo, Q7 G e (.st (.exit 0) (Qph p0 q z zo))
theorem Qos (p0 : Val) {e e' : En} (h : ∀ r, Q7 G e r → Q7 G e' r) : ∀ q, Ql1 p0 e q → Ql1 p0 e' q
  | _, ⟨z, zo, hz⟩ => ⟨z, zo, h _ hz⟩
def Qu9 (_p0 : Val) (i1 : Nat) (_v1_1 : List Fld) : List PV :=
  [.un, .bx 0 0, .bx 1 0, .bx 2 0, .un, .int .i64 (i1 : Int), .un, .un, .un, .un, .un, .un, .un, .un, .un, .un, .un, .un, .un, .un, .un, .un, .un, .un, .un, .un, .un, .un, .un, .un, .un, .un, .un, .un, .un, .un, .un, .un, .un, .un, .un, .un, .un, .un, .un, .un, .un, .un, .un, .un, .un, .un, .un, .un, .un, .un, .un, .un]
def Qku (p0 : Val) (_i1 : Nat) (v1_1 : List Fld) : List Ob :=
  [⟨5, 0, true, [.int .i64 p0.kind, .int .i64 p0.n, .str p0.s, .sl (Val.rows p0.list), .sl (Fld.rows p0.fields)]⟩, ⟨5, 0, true, [.int .i64 0, .int .i64 0, .str (⟨#[]⟩ : ByteArray), .ms 3 5 0 0, .ms 4 6 0 0]⟩, ⟨5, 0, true, [.int .i64 p0.kind, .int .i64 p0.n, .str p0.s, .ms 5 5 0 (List.length (Q2f p0 p0.list 0 [])), .ms 6 6 0 (List.length v1_1)]⟩, ⟨5, 0, true, []⟩, ⟨6, 0, true, []⟩, ⟨5, 0, true, (Val.rows (Q2f p0 p0.list 0 [])).flatten⟩, ⟨6, 0, true, (Fld.rows v1_1).flatten⟩]
def Ql8 (p0 : Val) (i1 : Nat) (v1_1 : List Fld) : En := .loop 0 Ir.Qhe Ir.Q188 (Qu9 p0 i1 v1_1) (Qku p0 i1 v1_1)
def Qo5 (p0 : Val) (q0 : List Fld) (z : Nat → PV) (_zo : Nat → List PV) : St :=
  ⟨[z 0, z 1, .bx 1 0, .bx 2 0, z 4, z 5, z 6, z 7, z 8, z 9, z 10, z 11, z 12, z 13, z 14, z 15, z 16, z 17, z 18, z 19, z 20, z 21, z 22, z 23, z 24, z 25, z 26, z 27, z 28, z 29, z 30, z 31, z 32, z 33, z 34, z 35, z 36, z 37, z 38, z 39, z 40, z 41, z 42, z 43, z 44, z 45, z 46, z 47, z 48, z 49, z 50, z 51, z 52, z 53, z 54, z 55, z 56, z 57], [(0, ⟨5, 0, true, [.int .i64 p0.kind, .int .i64 p0.n, .str p0.s, .sl (Val.rows p0.list), .sl (Fld.rows p0.fields)]⟩), (1, ⟨5, 0, true, [.int .i64 0, .int .i64 0, .str (⟨#[]⟩ : ByteArray), .ms 3 5 0 0, .ms 4 6 0 0]⟩), (2, ⟨5, 0, true, [.int .i64 p0.kind, .int .i64 p0.n, .str p0.s, .ms 5 5 0 (List.length (Q2f p0 p0.list 0 [])), .ms 6 6 0 (List.length q0)]⟩), (3, ⟨5, 0, true, []⟩), (4, ⟨6, 0, true, []⟩), (5, ⟨5, 0, true, (Val.rows (Q2f p0 p0.list 0 [])).flatten⟩), (6, ⟨6, 0, true, (Fld.rows q0).flatten⟩)], 327⟩
theorem Qyp (p0 : Val) (i1 : Nat) (v1_1 : List Fld) : VOK (Go.Pv.look (number 0 (Qku p0 i1 v1_1))) [(5, Val.rows (Q2f p0 p0.list 0 [])), (6, Fld.rows v1_1)] := (VOK.cons (show Seen _ _ from Q43 (ob := ⟨5, 0, true, (Val.rows (Q2f p0 p0.list 0 [])).flatten⟩) (Val.Q5 (Q2f p0 p0.list 0 []) 5 rfl)) (VOK.cons (show Seen _ _ from Q43 (ob := ⟨6, 0, true, (Fld.rows v1_1).flatten⟩) (Fld.Q5 v1_1 6 rfl)) VOK.nil))
def Qlu (p0 : Val) (e : En) (q : List Fld) : Prop := ∃ z zo, Q7 G e (.st (.exit 2) (Qo5 p0 q z zo))
theorem Qo7 (p0 : Val) {e e' : En} (h : ∀ r, Q7 G e r → Q7 G e' r) : ∀ q, Qlu p0 e q → Qlu p0 e' q
  | _, ⟨z, zo, hz⟩ => ⟨z, zo, h _ hz⟩
def c_Kj (p0 : Val) : En := .call 36 [.agg (Val.cells p0)] []
def a_Kj (p0 : Val) : Rs := .ret (.agg (Val.cells (s_Kj p0))) []
abbrev H_Kj (p0 : Val) : Prop := Val.Sm 1000000000 p0
def Qfd (p0 : Val) : Prop := ∀ (q : Val), SizeOf.sizeOf q < SizeOf.sizeOf p0 → H_Kj q → Q7 G (c_Kj q) (a_Kj q)
def Qkw (p0 : Val) : Prop := (List.length p0.list ≤ 137438953472) ∧ (∀ x0 ∈ p0.list, H_Kj x0) ∧ True
def Qkx (p0 : Val) : Prop := (List.length p0.fields ≤ 137438953472) ∧ (∀ x1 ∈ p0.fields, H_Kj x1.v) ∧ True
theorem Qzx (p0 : Val) (H : H_Kj p0) : (Qkw p0) ∧ (Qkx p0) ∧ True := by
  obtain ⟨h1, h2, h3, h4⟩ := H.all
  exact ⟨⟨by omega, h3, trivial⟩, ⟨by omega, h4, trivial⟩, trivial⟩
def Qpf (p0 : Val) (i0 : Nat) (_v0_1 : List Val) : List PV :=
  [.un, .un, .un, .un, .int .i64 (i0 : Int), .un, .un, .un, .un, .un, .un, .un, .un, .int .i64 (i0 : Int), .bx 0 3, .sl (Val.rows p0.list), .int .i64 ((List.length p0.list) : Int), .bool false]
def Qgj (_p0 : Val) (_i0 : Nat) (_v0_1 : List Val) : List (Nat × List PV) :=
  []
theorem Q12i (p0 : Val) (_H : Qkw p0) (_rec : Qfd p0) (i0 : Nat) (v0_1 : List Val) (_ho0_0 : List.length v0_1 ≤ i0) (hc0 : (decide ((i0 : Int) < ((List.length p0.list) : Int))) = false) : Ql1 p0 (Qly p0 i0 v0_1) v0_1 := by
 exact ⟨(envF (Qpf p0 i0 v0_1)), (zoF (Qgj p0 i0 v0_1)), Qe (Qyv p0 i0 v0_1) (x := ((.exit 0), Qph p0 v0_1 (envF (Qpf p0 i0 v0_1)) (zoF (Qgj p0 i0 v0_1)))) [hP 3 (Qi (Val.rows p0.list) (List.length p0.list) (Val.Qd p0.list)), hB 0 hc0] [] (by kernel_rfl)⟩
theorem Q10u (p0 : Val) (H : Qkw p0) (rec : Qfd p0) (x0 : Val) (i0 : Nat) (v0_1 : List Val) (hx0 : p0.list[i0]? = some x0) (hi0 : i0 < List.length p0.list) (ho0_0 : List.length v0_1 ≤ i0) (hc0 : (decide ((i0 : Int) < ((List.length p0.list) : Int))) = true) {r : Rs} (hr : Q7 G (Qly p0 (i0 + 1) (v0_1 ++ [(s_Kj x0)])) r) : Q7 G (Qly p0 i0 v0_1) r := by
 have hB0 := H.1
 exact Q9 (Qyv p0 i0 v0_1) (y := (Qt1 p0 (i0 + 1) (v0_1 ++ [(s_Kj x0)]), Qmf p0 (i0 + 1) (v0_1 ++ [(s_Kj x0)]))) [hP 3 (Qi (Val.rows p0.list) (List.length p0.list) (Val.Qd p0.list)), hB 0 hc0, hP 5 (Q18 5 (Val.rows p0.list) i0 _ (Val.Qf hx0) rfl), hV 3 [(903, Val.rows (v0_1 ++ [(s_Kj x0)]))] (Q130 5 839 903 5 80 0 0 true (Val.rows v0_1) (Val.rows (v0_1 ++ [(s_Kj x0)])) (Val.cells (s_Kj x0)) (List.length v0_1) (List.length (v0_1 ++ [(s_Kj x0)])) rfl (Val.Qd v0_1).symm (Val.Qd (v0_1 ++ [(s_Kj x0)])).symm (Val.Q72 v0_1 (s_Kj x0)) (Val.Qq v0_1) rfl (by omega)), hS 0 true (Val.Q5 (v0_1 ++ [(s_Kj x0)]) 5 rfl), hP 3 (Qt i0 (by omega))] [aN (rec x0 (szL hx0) (H.2.1 x0 (Ql hx0)))] (by kernel_rfl) hr
theorem Qtn (p0 : Val) (H : Qkw p0) (rec : Qfd p0) : ∀ (r0 : List Val) (i0 : Nat) (v0_1 : List Val), List.drop i0 p0.list = r0 → List.length v0_1 ≤ i0 → Ql1 p0 (Qly p0 i0 v0_1) (Q2f p0 r0 i0 v0_1)
 | [], i0, v0_1, hd, ho0_0 => by
  have hc0 : (decide ((i0 : Int) < ((List.length p0.list) : Int))) = false := by have := Q1k hd; simp; omega
  rw [Q2f]
  exact Q12i p0 H rec i0 v0_1 ho0_0 hc0
 | x0 :: r0, i0, v0_1, hd, ho0_0 => by
  obtain ⟨hx0, hi0, hd'⟩ := Q15 hd
  have hc0 : (decide ((i0 : Int) < ((List.length p0.list) : Int))) = true := by simp; omega
  rw [Q2f]
  exact Qos p0 (fun r hr => Q10u p0 H rec x0 i0 v0_1 hx0 hi0 ho0_0 hc0 hr) _ (Qtn p0 H rec r0 (i0 + 1) (v0_1 ++ [(s_Kj x0)]) hd' (by first | omega | (simp; omega)))
def Qor (p0 : Val) (i1 : Nat) (_v1_1 : List Fld) : List PV :=
  [.un, .bx 0 0, .un, .un, .un, .int .i64 (i1 : Int), .un, .un, .un, .un, .un, .un, .un, .un, .un, .un, .un, .un, .un, .un, .un, .un, .un, .un, .un, .un, .un, .un, .un, .un, .un, .int .i64 (i1 : Int), .bx 0 4, .sl (Fld.rows p0.fields), .int .i64 ((List.length p0.fields) : Int), .bool false]
def Qjt (_p0 : Val) (_i1 : Nat) (_v1_1 : List Fld) : List (Nat × List PV) :=
  []
theorem Q10o (p0 : Val) (_H : Qkx p0) (_rec : Qfd p0) (i1 : Nat) (v1_1 : List Fld) (_ho1_0 : List.length v1_1 ≤ i1) (hc1 : (decide ((i1 : Int) < ((List.length p0.fields) : Int))) = false) : Qlu p0 (Ql8 p0 i1 v1_1) v1_1 := by
 exact ⟨(envF (Qor p0 i1 v1_1)), (zoF (Qjt p0 i1 v1_1)), Qe (Qyp p0 i1 v1_1) (x := ((.exit 2), Qo5 p0 v1_1 (envF (Qor p0 i1 v1_1)) (zoF (Qjt p0 i1 v1_1)))) [hP 3 (Qi (Fld.rows p0.fields) (List.length p0.fields) (Fld.Qd p0.fields)), hB 0 hc1] [] (by kernel_rfl)⟩
theorem Q11t (p0 : Val) (H : Qkx p0) (rec : Qfd p0) (x1 : Fld) (i1 : Nat) (v1_1 : List Fld) (hx1 : p0.fields[i1]? = some x1) (hi1 : i1 < List.length p0.fields) (ho1_0 : List.length v1_1 ≤ i1) (hc1 : (decide ((i1 : Int) < ((List.length p0.fields) : Int))) = true) {r : Rs} (hr : Q7 G (Ql8 p0 (i1 + 1) (v1_1 ++ [(Fld.mk x1.name (s_Kj x1.v))])) r) : Q7 G (Ql8 p0 i1 v1_1) r := by
 have hB0 := H.1
 exact Q9 (Qyp p0 i1 v1_1) (y := (Qu9 p0 (i1 + 1) (v1_1 ++ [(Fld.mk x1.name (s_Kj x1.v))]), Qku p0 (i1 + 1) (v1_1 ++ [(Fld.mk x1.name (s_Kj x1.v))]))) [hP 3 (Qi (Fld.rows p0.fields) (List.length p0.fields) (Fld.Qd p0.fields)), hB 0 hc1, hP 5 (Q18 6 (Fld.rows p0.fields) i1 _ (Fld.Qf hx1) rfl), hP 5 (Q18 6 (Fld.rows p0.fields) i1 _ (Fld.Qf hx1) rfl), hV 5 [(1415, Fld.rows (v1_1 ++ [(Fld.mk x1.name (s_Kj x1.v))]))] (Q130 6 1351 1415 6 96 0 0 true (Fld.rows v1_1) (Fld.rows (v1_1 ++ [(Fld.mk x1.name (s_Kj x1.v))])) (Fld.cells (Fld.mk x1.name (s_Kj x1.v))) (List.length v1_1) (List.length (v1_1 ++ [(Fld.mk x1.name (s_Kj x1.v))])) rfl (Fld.Qd v1_1).symm (Fld.Qd (v1_1 ++ [(Fld.mk x1.name (s_Kj x1.v))])).symm (Fld.Q72 v1_1 (Fld.mk x1.name (s_Kj x1.v))) (Fld.Qq v1_1) rfl (by omega)), hS 0 true (Fld.Q5 (v1_1 ++ [(Fld.mk x1.name (s_Kj x1.v))]) 6 rfl), hP 3 (Qt i1 (by omega))] [aN (rec x1.v (szF hx1) (H.2.1 x1 (Ql hx1)))] (by kernel_rfl) hr
theorem Qsi (p0 : Val) (H : Qkx p0) (rec : Qfd p0) : ∀ (r1 : List Fld) (i1 : Nat) (v1_1 : List Fld), List.drop i1 p0.fields = r1 → List.length v1_1 ≤ i1 → Qlu p0 (Ql8 p0 i1 v1_1) (Q4o p0 r1 i1 v1_1)
 | [], i1, v1_1, hd, ho1_0 => by
  have hc1 : (decide ((i1 : Int) < ((List.length p0.fields) : Int))) = false := by have := Q1k hd; simp; omega
  rw [Q4o]
  exact Q10o p0 H rec i1 v1_1 ho1_0 hc1
 | x1 :: r1, i1, v1_1, hd, ho1_0 => by
  obtain ⟨hx1, hi1, hd'⟩ := Q15 hd
  have hc1 : (decide ((i1 : Int) < ((List.length p0.fields) : Int))) = true := by simp; omega
  rw [Q4o]
  exact Qo7 p0 (fun r hr => Q11t p0 H rec x1 i1 v1_1 hx1 hi1 ho1_0 hc1 hr) _ (Qsi p0 H rec r1 (i1 + 1) (v1_1 ++ [(Fld.mk x1.name (s_Kj x1.v))]) hd' (by first | omega | (simp; omega)))
theorem r_Kj (p0 : Val) (H : H_Kj p0) (rec : Qfd p0) : Q7 G (c_Kj p0) (a_Kj p0) := by
  unfold a_Kj
  rw [s_Kj]
  have hl0 := Qtn p0 ((Qzx p0 H).1) rec p0.list 0 [] (by simp) (by simp)
  obtain ⟨z0, zo0, hl0⟩ := hl0
  have hl1 := Qsi p0 ((Qzx p0 H).2.1) rec p0.fields 0 [] (by simp) (by simp)
  obtain ⟨z1, zo1, hl1⟩ := hl1
  exact Q8 (fn := Ir.Kj) rfl VOK.nil [hS 0 true (Val.Q5 (Q2f p0 p0.list 0 []) 5 rfl), hS 0 true (Val.Q5 (Q2f p0 p0.list 0 []) 5 rfl), hS 0 true (Fld.Q5 (Q4o p0 p0.fields 0 []) 6 rfl), hQ (Val.Qd (Q2f p0 p0.list 0 [])).symm, hQ (Fld.Qd (Q4o p0 p0.fields 0 [])).symm] [aV [(5, Val.rows (Q2f p0 p0.list 0 []))] hl0, aV [(5, Val.rows (Q2f p0 p0.list 0 [])), (6, Fld.rows (Q4o p0 p0.fields 0 []))] hl1] (by kernel_rfl)
theorem i_Kj : ∀ (k : Nat) (p0 : Val), SizeOf.sizeOf p0 < k → H_Kj p0 → Q7 G (c_Kj p0) (a_Kj p0)
  | 0, _, h, _ => absurd h (Nat.not_lt_zero _)
  | k + 1, p0, h, H => r_Kj p0 H (fun q hq hH => i_Kj k q (by omega) hH)
theorem t_Kj (p0 : Val) (H : H_Kj p0) : Q7 G (c_Kj p0) (a_Kj p0) := i_Kj _ p0 (Nat.lt_succ_self _) H
inductive Qsv where
  | k0
  | k1 (q0 : Val)
def Q4v (p0 : Val) (p1 : ByteArray) : List Fld → Nat → Qsv
 | [], _i0 =>
  (.k0)
 | x0 :: r0, i0 =>
  bif (sEq x0.name p1) then
   (.k1 x0.v)
  else
   Q4v p0 p1 r0 (i0 + 1)
def Qq2 (p0 : Val) (p1 : ByteArray) (i0 : Nat) : List PV :=
  [.un, .str p1, .un, .un, .bx 0 0, .un, .un, .un, .un, .un, .un, .un, .sl (Fld.rows p0.fields), .int .i64 ((List.length p0.fields) : Int), .int .i64 (i0 : Int), .un, .un, .un, .un, .un, .un, .un, .un, .un, .un, .un, .un]
def Qqe (_p0 : Val) (_p1 : ByteArray) (_i0 : Nat) : List Ob :=
  [⟨5, 0, true, [.int .i64 0, .int .i64 0, .str (⟨#[]⟩ : ByteArray), .ms 1 5 0 0, .ms 2 6 0 0]⟩, ⟨5, 0, true, []⟩, ⟨6, 0, true, []⟩]
def Q97 (p0 : Val) (p1 : ByteArray) (i0 : Nat) : En := .loop 0 Ir.Qem Ir.Q14n (Qq2 p0 p1 i0) (Qqe p0 p1 i0)
def Qix (_p0 : Val) (_p1 : ByteArray) (z : Nat → PV) (_zo : Nat → List PV) : St :=
  ⟨[z 0, z 1, z 2, z 3, .bx 0 0, z 5, z 6, z 7, z 8, z 9, z 10, z 11, z 12, z 13, z 14, z 15, z 16, z 17, z 18, z 19, z 20, z 21, z 22, z 23, z 24, z 25, z 26], [(0, ⟨5, 0, true, [.int .i64 0, .int .i64 0, .str (⟨#[]⟩ : ByteArray), .ms 1 5 0 0, .ms 2 6 0 0]⟩), (1, ⟨5, 0, true, []⟩), (2, ⟨6, 0, true, []⟩)], 67⟩
def Qjk (_p0 : Val) (_p1 : ByteArray) (q0 : Val) (z : Nat → PV) (zo : Nat → List PV) : St :=
  ⟨[z 0, z 1, z 2, z 3, .bx 0 0, .bool true, z 6, z 7, z 8, z 9, z 10, z 11, z 12, z 13, z 14, z 15, z 16, z 17, z 18, z 19, z 20, z 21, z 22, z 23, z 24, z 25, z 26], [(0, ⟨5, 0, true, [.int .i64 q0.kind, .int .i64 q0.n, .str q0.s, .sl (Val.rows q0.list), .sl (Fld.rows q0.fields)]⟩), (1, ⟨5, 0, true, zo 1⟩), (2, ⟨6, 0, true, zo 2⟩), (195, ⟨6, 0, true, zo 195⟩)], 899⟩
def Q9n (p0 : Val) (p1 : ByteArray) (e : En) : Qsv → Prop
  | .k0 => ∃ z zo, Q7 G e (.st (.exit 0) (Qix p0 p1 z zo))
  | .k1 q0 => ∃ z zo, Q7 G e (.st .ret (Qjk p0 p1 q0 z zo))
theorem Qm4 (p0 : Val) (p1 : ByteArray) {e e' : En} (h : ∀ r, Q7 G e r → Q7 G e' r) : ∀ q, Q9n p0 p1 e q → Q9n p0 p1 e' q
  | .k0, ⟨z, zo, hz⟩ => ⟨z, zo, h _ hz⟩
  | .k1 _, ⟨z, zo, hz⟩ => ⟨z, zo, h _ hz⟩
def Q8h (p0 : Val) (_p1 : ByteArray) : Prop := (List.length p0.fields ≤ 4611686018427387904) ∧ (∀ x0 ∈ p0.fields, Qga x0.v) ∧ True
def Qk3 (p0 : Val) (p1 : ByteArray) (i0 : Nat) : List PV :=
  [.un, .str p1, .un, .un, .un, .un, .un, .un, .un, .un, .un, .un, .sl (Fld.rows p0.fields), .int .i64 ((List.length p0.fields) : Int), .int .i64 (i0 : Int), .bool false]
def Qfe (_p0 : Val) (_p1 : ByteArray) (_i0 : Nat) : List (Nat × List PV) :=
  []
theorem Qvc (p0 : Val) (p1 : ByteArray) (_H : Q8h p0 p1) (i0 : Nat) (hc0 : (decide ((i0 : Int) < ((List.length p0.fields) : Int))) = false) : Q9n p0 p1 (Q97 p0 p1 i0) (.k0) := by
 exact ⟨(envF (Qk3 p0 p1 i0)), (zoF (Qfe p0 p1 i0)), Qe VOK.nil (x := ((.exit 0), Qix p0 p1 (envF (Qk3 p0 p1 i0)) (zoF (Qfe p0 p1 i0)))) [hB 0 hc0] [] (by kernel_rfl)⟩
def Qiq (p0 : Val) (p1 : ByteArray) (i0 : Nat) (x0 : Fld) : List PV :=
  [.un, .str p1, .un, .un, .un, .un, .un, .bx 195 0, .un, .un, .un, .un, .sl (Fld.rows p0.fields), .int .i64 ((List.length p0.fields) : Int), .int .i64 (i0 : Int), .bool true, .rf [.str x0.name, .int .i64 x0.v.kind, .int .i64 x0.v.n, .str x0.v.s, .sl (Val.rows x0.v.list), .sl (Fld.rows x0.v.fields)], .agg [.str x0.name, .int .i64 x0.v.kind, .int .i64 x0.v.n, .str x0.v.s, .sl (Val.rows x0.v.list), .sl (Fld.rows x0.v.fields)], .bx 195 0, .str x0.name, .str p1, .bool true, .bx 195 1, .agg [.int .i64 x0.v.kind, .int .i64 x0.v.n, .str x0.v.s, .sl (Val.rows x0.v.list), .sl (Fld.rows x0.v.fields)], .agg [.int .i64 x0.v.kind, .int .i64 x0.v.n, .str x0.v.s, .sl (Val.rows x0.v.list), .sl (Fld.rows x0.v.fields)]]
def Qeb (_p0 : Val) (_p1 : ByteArray) (_i0 : Nat) (x0 : Fld) : List (Nat × List PV) :=
  [(1, []), (2, []), (195, [.str x0.name, .int .i64 x0.v.kind, .int .i64 x0.v.n, .str x0.v.s, .sl (Val.rows x0.v.list), .sl (Fld.rows x0.v.fields)])]
theorem Qvn (p0 : Val) (p1 : ByteArray) (H : Q8h p0 p1) (x0 : Fld) (i0 : Nat) (hx0 : p0.fields[i0]? = some x0) (_hi0 : i0 < List.length p0.fields) (hc0 : (decide ((i0 : Int) < ((List.length p0.fields) : Int))) = true) (h0 : (sEq x0.name p1) = true) : Q9n p0 p1 (Q97 p0 p1 i0) (.k1 x0.v) := by
 exact ⟨(envF (Qiq p0 p1 i0 x0)), (zoF (Qeb p0 p1 i0 x0)), Qe VOK.nil (x := (.ret, Qjk p0 p1 x0.v (envF (Qiq p0 p1 i0 x0)) (zoF (Qeb p0 p1 i0 x0)))) [hB 0 hc0, hP 0 (Q18 6 (Fld.rows p0.fields) i0 _ (Fld.Qf hx0) rfl), hB 6 h0] [aN (Q15o x0.v (H.2.1 x0 (Ql hx0)))] (by kernel_rfl)⟩
theorem Qvh (p0 : Val) (p1 : ByteArray) (H : Q8h p0 p1) (x0 : Fld) (i0 : Nat) (hx0 : p0.fields[i0]? = some x0) (hi0 : i0 < List.length p0.fields) (hc0 : (decide ((i0 : Int) < ((List.length p0.fields) : Int))) = true) (h0 : (sEq x0.name p1) = false) {r : Rs} (hr : Q7 G (Q97 p0 p1 (i0 + 1)) r) : Q7 G (Q97 p0 p1 i0) r := by
 have hB0 := H.1
 exact Q9 VOK.nil (y := (Qq2 p0 p1 (i0 + 1), Qqe p0 p1 (i0 + 1))) [hB 0 hc0, hP 0 (Q18 6 (Fld.rows p0.fields) i0 _ (Fld.Qf hx0) rfl), hB 6 h0, hP 0 (Qt i0 (by omega))] [] (by kernel_rfl) hr
theorem Qqy (p0 : Val) (p1 : ByteArray) (H : Q8h p0 p1) : ∀ (r0 : List Fld) (i0 : Nat), List.drop i0 p0.fields = r0 → Q9n p0 p1 (Q97 p0 p1 i0) (Q4v p0 p1 r0 i0)
 | [], i0, hd => by
  have hc0 : (decide ((i0 : Int) < ((List.length p0.fields) : Int))) = false := by have := Q1k hd; simp; omega
  rw [Q4v]
  exact Qvc p0 p1 H i0 hc0
 | x0 :: r0, i0, hd => by
  obtain ⟨hx0, hi0, hd'⟩ := Q15 hd
  have hc0 : (decide ((i0 : Int) < ((List.length p0.fields) : Int))) = true := by simp; omega
  rw [Q4v]
  cases h0 : (sEq x0.name p1) with
  | true =>
   exact Qvn p0 p1 H x0 i0 hx0 hi0 hc0 h0
  | false =>
   exact Qm4 p0 p1 (fun r hr => Qvh p0 p1 H x0 i0 hx0 hi0 hc0 h0 hr) _ (Qqy p0 p1 H r0 (i0 + 1) hd')
def Q1d (p0 : Val) (p1 : ByteArray) : Val × Bool :=
 bif (p0.kind == 5) then
  (match (Q4v p0 p1 p0.fields 0) with
  | .k0 => ((Val.mk 0 0 (⟨#[]⟩ : ByteArray) [] []), false)
  | .k1 y1_0 => (y1_0, true))
 else
  ((Val.mk 0 0 (⟨#[]⟩ : ByteArray) [] []), false)
def Q1am (p0 : Val) (p1 : ByteArray) : En := .call 29 [.agg (Val.cells p0), .str p1] []
def Q17m (p0 : Val) (p1 : ByteArray) : Rs := .ret (.tup [.agg (Val.cells (Q1d p0 p1).1), .bool (Q1d p0 p1).2]) []
def Q102 (p0 : Val) (p1 : ByteArray) : Prop := (Q8h p0 p1) ∧ True
theorem Qrl (p0 : Val) (p1 : ByteArray) (H : Q102 p0 p1) : Q7 G (Q1am p0 p1) (Q17m p0 p1) := by
 unfold Q17m Q1d
 cases h0 : (p0.kind == 5) with
 | true =>
  have hl1 := Qqy p0 p1 (H.1) p0.fields 0 (by simp)
  cases hr1 : (Q4v p0 p1 p0.fields 0) with
  | k0 =>
   rw [hr1] at hl1
   obtain ⟨z1, zo1, hl1⟩ := hl1
   exact Q8 (fn := Ir.K1k) rfl VOK.nil [hB 5 h0, hP 2 (Qi (Fld.rows p0.fields) (List.length p0.fields) (Fld.Qd p0.fields))] [aN hl1] (by kernel_rfl)
  | k1 y1_0 =>
   rw [hr1] at hl1
   obtain ⟨z1, zo1, hl1⟩ := hl1
   exact Q8 (fn := Ir.K1k) rfl VOK.nil [hB 5 h0, hP 2 (Qi (Fld.rows p0.fields) (List.length p0.fields) (Fld.Qd p0.fields))] [aN hl1] (by kernel_rfl)
 | false =>
  exact Q8 (fn := Ir.K1k) rfl VOK.nil [hB 5 h0] [] (by kernel_rfl)
inductive Q10n where
  | k0
  | k1 (q0 : Val)
def Q6d (p0 : Val) (p1 : ByteArray) : List Fld → Nat → Q10n
 | [], _i0 =>
  (.k0)
 | x0 :: r0, i0 =>
  bif (sEq x0.name p1) then
   (.k1 (s_Kj x0.v))
  else
   Q6d p0 p1 r0 (i0 + 1)
def Qtd (_p0 : Val) (p1 : ByteArray) (i0 : Nat) : List PV :=
  [.un, .str p1, .bx 0 0, .un, .bx 1 0, .un, .int .i64 (i0 : Int), .un, .un, .un, .un, .un, .un, .un, .un, .un, .un, .un, .un, .un, .un, .un, .un, .un, .un, .un, .un, .un, .un, .un, .un, .un, .un]
def Qs7 (p0 : Val) (_p1 : ByteArray) (_i0 : Nat) : List Ob :=
  [⟨5, 0, true, [.int .i64 p0.kind, .int .i64 p0.n, .str p0.s, .sl (Val.rows p0.list), .sl (Fld.rows p0.fields)]⟩, ⟨5, 0, true, [.int .i64 0, .int .i64 0, .str (⟨#[]⟩ : ByteArray), .ms 2 5 0 0, .ms 3 6 0 0]⟩, ⟨5, 0, true, []⟩, ⟨6, 0, true, []⟩]
def Qfr (p0 : Val) (p1 : ByteArray) (i0 : Nat) : En := .loop 0 Ir.Qiy Ir.Q178 (Qtd p0 p1 i0) (Qs7 p0 p1 i0)
def Qop (p0 : Val) (_p1 : ByteArray) (z : Nat → PV) (_zo : Nat → List PV) : St :=
  ⟨[z 0, z 1, z 2, z 3, .bx 1 0, z 5, z 6, z 7, z 8, z 9, z 10, z 11, z 12, z 13, z 14, z 15, z 16, z 17, z 18, z 19, z 20, z 21, z 22, z 23, z 24, z 25, z 26, z 27, z 28, z 29, z 30, z 31, z 32], [(0, ⟨5, 0, true, [.int .i64 p0.kind, .int .i64 p0.n, .str p0.s, .sl (Val.rows p0.list), .sl (Fld.rows p0.fields)]⟩), (1, ⟨5, 0, true, [.int .i64 0, .int .i64 0, .str (⟨#[]⟩ : ByteArray), .ms 2 5 0 0, .ms 3 6 0 0]⟩), (2, ⟨5, 0, true, []⟩), (3, ⟨6, 0, true, []⟩)], 324⟩
def Qnh (_p0 : Val) (_p1 : ByteArray) (q0 : Val) (z : Nat → PV) (zo : Nat → List PV) : St :=
  ⟨[z 0, z 1, z 2, z 3, .bx 1 0, .bool true, z 6, z 7, z 8, z 9, z 10, z 11, z 12, z 13, z 14, z 15, z 16, z 17, z 18, z 19, z 20, z 21, z 22, z 23, z 24, z 25, z 26, z 27, z 28, z 29, z 30, z 31, z 32], [(0, ⟨5, 0, true, zo 0⟩), (1, ⟨5, 0, true, [.int .i64 q0.kind, .int .i64 q0.n, .str q0.s, .sl (Val.rows q0.list), .sl (Fld.rows q0.fields)]⟩), (2, ⟨5, 0, true, zo 2⟩), (3, ⟨6, 0, true, zo 3⟩)], 1412⟩
def Qf2 (p0 : Val) (p1 : ByteArray) (e : En) : Q10n → Prop
  | .k0 => ∃ z zo, Q7 G e (.st (.exit 0) (Qop p0 p1 z zo))
  | .k1 q0 => ∃ z zo, Q7 G e (.st .ret (Qnh p0 p1 q0 z zo))
theorem Qq6 (p0 : Val) (p1 : ByteArray) {e e' : En} (h : ∀ r, Q7 G e r → Q7 G e' r) : ∀ q, Qf2 p0 p1 e q → Qf2 p0 p1 e' q
  | .k0, ⟨z, zo, hz⟩ => ⟨z, zo, h _ hz⟩
  | .k1 _, ⟨z, zo, hz⟩ => ⟨z, zo, h _ hz⟩
def Qco (p0 : Val) (_p1 : ByteArray) : Prop := (List.length p0.fields ≤ 4611686018427387904) ∧ (∀ x0 ∈ p0.fields, H_Kj x0.v) ∧ True
def Qow (p0 : Val) (p1 : ByteArray) (i0 : Nat) : List PV :=
  [.un, .str p1, .bx 0 0, .un, .un, .un, .int .i64 (i0 : Int), .un, .un, .un, .int .i64 (i0 : Int), .bx 0 4, .sl (Fld.rows p0.fields), .int .i64 ((List.length p0.fields) : Int), .bool false]
def Qjj (_p0 : Val) (_p1 : ByteArray) (_i0 : Nat) : List (Nat × List PV) :=
  []
theorem Q123 (p0 : Val) (p1 : ByteArray) (_H : Qco p0 p1) (i0 : Nat) (hc0 : (decide ((i0 : Int) < ((List.length p0.fields) : Int))) = false) : Qf2 p0 p1 (Qfr p0 p1 i0) (.k0) := by
 exact ⟨(envF (Qow p0 p1 i0)), (zoF (Qjj p0 p1 i0)), Qe VOK.nil (x := ((.exit 0), Qop p0 p1 (envF (Qow p0 p1 i0)) (zoF (Qjj p0 p1 i0)))) [hP 3 (Qi (Fld.rows p0.fields) (List.length p0.fields) (Fld.Qd p0.fields)), hB 0 hc0] [] (by kernel_rfl)⟩
def Qnp (p0 : Val) (p1 : ByteArray) (i0 : Nat) (x0 : Fld) : List PV :=
  [.un, .str p1, .bx 0 0, .un, .un, .un, .int .i64 (i0 : Int), .un, .un, .un, .int .i64 (i0 : Int), .bx 0 4, .sl (Fld.rows p0.fields), .int .i64 ((List.length p0.fields) : Int), .bool true, .un, .un, .bx 0 4, .sl (Fld.rows p0.fields), .int .i64 (i0 : Int), .rf [.str x0.name, .int .i64 x0.v.kind, .int .i64 x0.v.n, .str x0.v.s, .sl (Val.rows x0.v.list), .sl (Fld.rows x0.v.fields)], .rf [.str x0.name, .int .i64 x0.v.kind, .int .i64 x0.v.n, .str x0.v.s, .sl (Val.rows x0.v.list), .sl (Fld.rows x0.v.fields)], .str x0.name, .str p1, .bool true, .bx 0 4, .sl (Fld.rows p0.fields), .int .i64 (i0 : Int), .rf [.str x0.name, .int .i64 x0.v.kind, .int .i64 x0.v.n, .str x0.v.s, .sl (Val.rows x0.v.list), .sl (Fld.rows x0.v.fields)], .rf [.int .i64 x0.v.kind, .int .i64 x0.v.n, .str x0.v.s, .sl (Val.rows x0.v.list), .sl (Fld.rows x0.v.fields)], .agg [.int .i64 x0.v.kind, .int .i64 x0.v.n, .str x0.v.s, .sl (Val.rows x0.v.list), .sl (Fld.rows x0.v.fields)], .agg [.int .i64 (s_Kj x0.v).kind, .int .i64 (s_Kj x0.v).n, .str (s_Kj x0.v).s, .sl (Val.rows (s_Kj x0.v).list), .sl (Fld.rows (s_Kj x0.v).fields)]]
def Qju (p0 : Val) (_p1 : ByteArray) (_i0 : Nat) (_x0 : Fld) : List (Nat × List PV) :=
  [(0, [.int .i64 p0.kind, .int .i64 p0.n, .str p0.s, .sl (Val.rows p0.list), .sl (Fld.rows p0.fields)]), (2, []), (3, [])]
theorem Q129 (p0 : Val) (p1 : ByteArray) (H : Qco p0 p1) (x0 : Fld) (i0 : Nat) (hx0 : p0.fields[i0]? = some x0) (_hi0 : i0 < List.length p0.fields) (hc0 : (decide ((i0 : Int) < ((List.length p0.fields) : Int))) = true) (h0 : (sEq x0.name p1) = true) : Qf2 p0 p1 (Qfr p0 p1 i0) (.k1 (s_Kj x0.v)) := by
 exact ⟨(envF (Qnp p0 p1 i0 x0)), (zoF (Qju p0 p1 i0 x0)), Qe VOK.nil (x := (.ret, Qnh p0 p1 (s_Kj x0.v) (envF (Qnp p0 p1 i0 x0)) (zoF (Qju p0 p1 i0 x0)))) [hP 3 (Qi (Fld.rows p0.fields) (List.length p0.fields) (Fld.Qd p0.fields)), hB 0 hc0, hP 3 (Q18 6 (Fld.rows p0.fields) i0 _ (Fld.Qf hx0) rfl), hB 3 h0, hP 3 (Q18 6 (Fld.rows p0.fields) i0 _ (Fld.Qf hx0) rfl)] [aN (t_Kj x0.v (H.2.1 x0 (Ql hx0)))] (by kernel_rfl)⟩
theorem Qzt (p0 : Val) (p1 : ByteArray) (H : Qco p0 p1) (x0 : Fld) (i0 : Nat) (hx0 : p0.fields[i0]? = some x0) (hi0 : i0 < List.length p0.fields) (hc0 : (decide ((i0 : Int) < ((List.length p0.fields) : Int))) = true) (h0 : (sEq x0.name p1) = false) {r : Rs} (hr : Q7 G (Qfr p0 p1 (i0 + 1)) r) : Q7 G (Qfr p0 p1 i0) r := by
 have hB0 := H.1
 exact Q9 VOK.nil (y := (Qtd p0 p1 (i0 + 1), Qs7 p0 p1 (i0 + 1))) [hP 3 (Qi (Fld.rows p0.fields) (List.length p0.fields) (Fld.Qd p0.fields)), hB 0 hc0, hP 3 (Q18 6 (Fld.rows p0.fields) i0 _ (Fld.Qf hx0) rfl), hB 3 h0, hP 1 (Qt i0 (by omega))] [] (by kernel_rfl) hr
theorem Qsd (p0 : Val) (p1 : ByteArray) (H : Qco p0 p1) : ∀ (r0 : List Fld) (i0 : Nat), List.drop i0 p0.fields = r0 → Qf2 p0 p1 (Qfr p0 p1 i0) (Q6d p0 p1 r0 i0)
 | [], i0, hd => by
  have hc0 : (decide ((i0 : Int) < ((List.length p0.fields) : Int))) = false := by have := Q1k hd; simp; omega
  rw [Q6d]
  exact Q123 p0 p1 H i0 hc0
 | x0 :: r0, i0, hd => by
  obtain ⟨hx0, hi0, hd'⟩ := Q15 hd
  have hc0 : (decide ((i0 : Int) < ((List.length p0.fields) : Int))) = true := by simp; omega
  rw [Q6d]
  cases h0 : (sEq x0.name p1) with
  | true =>
   exact Q129 p0 p1 H x0 i0 hx0 hi0 hc0 h0
  | false =>
   exact Qq6 p0 p1 (fun r hr => Qzt p0 p1 H x0 i0 hx0 hi0 hc0 h0 hr) _ (Qsd p0 p1 H r0 (i0 + 1) hd')
def s_Kl (p0 : Val) (p1 : ByteArray) : Val × Bool :=
 bif (p0.kind == 5) then
  (match (Q6d p0 p1 p0.fields 0) with
  | .k0 => ((Val.mk 0 0 (⟨#[]⟩ : ByteArray) [] []), false)
  | .k1 y1_0 => (y1_0, true))
 else
  ((Val.mk 0 0 (⟨#[]⟩ : ByteArray) [] []), false)
def c_Kl (p0 : Val) (p1 : ByteArray) : En := .call 21 [.agg (Val.cells p0), .str p1] []
def a_Kl (p0 : Val) (p1 : ByteArray) : Rs := .ret (.tup [.agg (Val.cells (s_Kl p0 p1).1), .bool (s_Kl p0 p1).2]) []
def H_Kl (p0 : Val) (p1 : ByteArray) : Prop := (Qco p0 p1) ∧ True
theorem t_Kl (p0 : Val) (p1 : ByteArray) (H : H_Kl p0 p1) : Q7 G (c_Kl p0 p1) (a_Kl p0 p1) := by
 unfold a_Kl s_Kl
 cases h0 : (p0.kind == 5) with
 | true =>
  have hl1 := Qsd p0 p1 (H.1) p0.fields 0 (by simp)
  cases hr1 : (Q6d p0 p1 p0.fields 0) with
  | k0 =>
   rw [hr1] at hl1
   obtain ⟨z1, zo1, hl1⟩ := hl1
   exact Q8 (fn := Ir.Kl) rfl VOK.nil [hB 5 h0] [aN hl1] (by kernel_rfl)
  | k1 y1_0 =>
   rw [hr1] at hl1
   obtain ⟨z1, zo1, hl1⟩ := hl1
   exact Q8 (fn := Ir.Kl) rfl VOK.nil [hB 5 h0] [aN hl1] (by kernel_rfl)
 | false =>
  exact Q8 (fn := Ir.Kl) rfl VOK.nil [hB 5 h0] [] (by kernel_rfl)
def Q3t (p0 : Fld) (o0 : ByteArray) : Bool :=
 (sEq p0.name o0)
def Q19l (p0 : Fld) (o0 : ByteArray) : En := .call 57 [.agg (Fld.cells p0), .bx 0 0] [⟨1, 0, false, [.str o0]⟩]
def Qyq (_p0 : Fld) (o0 : ByteArray) (q0 : Bool) : Rs := .ret (.bool q0) [⟨1, 0, false, [.str o0]⟩]
def Q16c (p0 : Fld) (o0 : ByteArray) : Rs := Qyq p0 o0 (Q3t p0 o0)
theorem Q135 (p0 : Fld) (o0 : ByteArray) : Q7 G (Q19l p0 o0) (Q16c p0 o0) := by
 unfold Q16c Q3t
 exact Q8 (fn := Ir.K1t) rfl (h := [⟨1, 0, false, [.str o0]⟩]) (vw := []) VOK.nil [] [] (by kernel_rfl)
inductive Qtv where
  | k0
  | k1 (q0 : Int)
def Q2q (p0 : List Fld) (o0 : ByteArray) : List Fld → Nat → Qtv
 | [], _i0 =>
  (.k0)
 | x0 :: r0, i0 =>
  bif (Q3t x0 o0) then
   (.k1 (i0 : Int))
  else
   Q2q p0 o0 r0 (i0 + 1)
def Qnb (p0 : List Fld) (_o0 : ByteArray) (i0 : Nat) : List PV :=
  [.sl (Fld.rows p0), .fn 57 [] [.bx 0 0], .un, .un, .un, .un, .un, .int .i64 ((List.length p0) : Int), .int .i64 (i0 : Int), .un, .un, .un, .un, .un, .un, .un, .un, .un, .un]
def Qn6 (_p0 : List Fld) (o0 : ByteArray) (_i0 : Nat) : List Ob :=
  [⟨1, 0, false, [.str o0]⟩]
def Q8c (p0 : List Fld) (o0 : ByteArray) (i0 : Nat) : En := .loop 1 Ir.Qe2 Ir.Q14h (Qnb p0 o0 i0) (Qn6 p0 o0 i0)
def Qgd (_p0 : List Fld) (o0 : ByteArray) (z : Nat → PV) (_zo : Nat → List PV) : St :=
  ⟨[z 0, z 1, z 2, z 3, z 4, z 5, z 6, z 7, z 8, z 9, z 10, z 11, z 12, z 13, z 14, z 15, z 16, z 17, z 18], [(0, ⟨1, 0, false, [.str o0]⟩)], 65⟩
def Qjw (_p0 : List Fld) (o0 : ByteArray) (q0 : Int) (z : Nat → PV) (_zo : Nat → List PV) : St :=
  ⟨[z 0, z 1, z 2, z 3, .int .i64 q0, z 5, z 6, z 7, z 8, z 9, z 10, z 11, z 12, z 13, z 14, z 15, z 16, z 17, z 18], [(0, ⟨1, 0, false, [.str o0]⟩)], 705⟩
def Q8m (p0 : List Fld) (o0 : ByteArray) (e : En) : Qtv → Prop
  | .k0 => ∃ z zo, Q7 G e (.st (.exit 0) (Qgd p0 o0 z zo))
  | .k1 q0 => ∃ z zo, Q7 G e (.st .ret (Qjw p0 o0 q0 z zo))
theorem Qlc (p0 : List Fld) (o0 : ByteArray) {e e' : En} (h : ∀ r, Q7 G e r → Q7 G e' r) : ∀ q, Q8m p0 o0 e q → Q8m p0 o0 e' q
  | .k0, ⟨z, zo, hz⟩ => ⟨z, zo, h _ hz⟩
  | .k1 _, ⟨z, zo, hz⟩ => ⟨z, zo, h _ hz⟩
def Q8u (p0 : List Fld) (_o0 : ByteArray) : Prop := (List.length p0 ≤ 4611686018427387904) ∧ True
def Qgy (p0 : List Fld) (_o0 : ByteArray) (i0 : Nat) : List PV :=
  [.sl (Fld.rows p0), .fn 57 [] [.bx 0 0], .un, .un, .un, .un, .un, .int .i64 ((List.length p0) : Int), .int .i64 (i0 : Int), .bool false]
def Qcn (_p0 : List Fld) (_o0 : ByteArray) (_i0 : Nat) : List (Nat × List PV) :=
  []
theorem Qvo (p0 : List Fld) (o0 : ByteArray) (_H : Q8u p0 o0) (i0 : Nat) (hc0 : (decide ((i0 : Int) < ((List.length p0) : Int))) = false) : Q8m p0 o0 (Q8c p0 o0 i0) (.k0) := by
 exact ⟨(envF (Qgy p0 o0 i0)), (zoF (Qcn p0 o0 i0)), Qe VOK.nil (x := ((.exit 0), Qgd p0 o0 (envF (Qgy p0 o0 i0)) (zoF (Qcn p0 o0 i0)))) [hB 0 hc0] [] (by kernel_rfl)⟩
def Qjc (p0 : List Fld) (_o0 : ByteArray) (i0 : Nat) (x0 : Fld) : List PV :=
  [.sl (Fld.rows p0), .fn 57 [] [.bx 0 0], .un, .un, .un, .int .i64 (i0 : Int), .un, .int .i64 ((List.length p0) : Int), .int .i64 (i0 : Int), .bool true, .int .i64 (i0 : Int), .fn 57 [] [.bx 0 0], .sl (Fld.rows p0), .int .i64 (i0 : Int), .rf [.str x0.name, .int .i64 x0.v.kind, .int .i64 x0.v.n, .str x0.v.s, .sl (Val.rows x0.v.list), .sl (Fld.rows x0.v.fields)], .agg [.str x0.name, .int .i64 x0.v.kind, .int .i64 x0.v.n, .str x0.v.s, .sl (Val.rows x0.v.list), .sl (Fld.rows x0.v.fields)], .bool true, .int .i64 (i0 : Int)]
def Qfu (_p0 : List Fld) (_o0 : ByteArray) (_i0 : Nat) (_x0 : Fld) : List (Nat × List PV) :=
  []
theorem Qv1 (p0 : List Fld) (o0 : ByteArray) (_H : Q8u p0 o0) (x0 : Fld) (i0 : Nat) (hx0 : p0[i0]? = some x0) (_hi0 : i0 < List.length p0) (hc0 : (decide ((i0 : Int) < ((List.length p0) : Int))) = true) (h0 : (Q3t x0 o0) = true) : Q8m p0 o0 (Q8c p0 o0 i0) (.k1 (i0 : Int)) := by
 exact ⟨(envF (Qjc p0 o0 i0 x0)), (zoF (Qfu p0 o0 i0 x0)), Qe VOK.nil (x := (.ret, Qjw p0 o0 (i0 : Int) (envF (Qjc p0 o0 i0 x0)) (zoF (Qfu p0 o0 i0 x0)))) [hB 0 hc0, hP 5 (Q18 6 (Fld.rows p0) i0 _ (Fld.Qf hx0) rfl)] [aN (toldOf (Q135 x0 o0) (congrArg (fun b => Qyq x0 o0 b) h0))] (by kernel_rfl)⟩
theorem Qvz (p0 : List Fld) (o0 : ByteArray) (H : Q8u p0 o0) (x0 : Fld) (i0 : Nat) (hx0 : p0[i0]? = some x0) (hi0 : i0 < List.length p0) (hc0 : (decide ((i0 : Int) < ((List.length p0) : Int))) = true) (h0 : (Q3t x0 o0) = false) {r : Rs} (hr : Q7 G (Q8c p0 o0 (i0 + 1)) r) : Q7 G (Q8c p0 o0 i0) r := by
 have hB0 := H.1
 exact Q9 VOK.nil (y := (Qnb p0 o0 (i0 + 1), Qn6 p0 o0 (i0 + 1))) [hB 0 hc0, hP 5 (Q18 6 (Fld.rows p0) i0 _ (Fld.Qf hx0) rfl), hP 2 (Qt i0 (by omega))] [aN (toldOf (Q135 x0 o0) (congrArg (fun b => Qyq x0 o0 b) h0))] (by kernel_rfl) hr
theorem Qqf (p0 : List Fld) (o0 : ByteArray) (H : Q8u p0 o0) : ∀ (r0 : List Fld) (i0 : Nat), List.drop i0 p0 = r0 → Q8m p0 o0 (Q8c p0 o0 i0) (Q2q p0 o0 r0 i0)
 | [], i0, hd => by
  have hc0 : (decide ((i0 : Int) < ((List.length p0) : Int))) = false := by have := Q1k hd; simp; omega
  rw [Q2q]
  exact Qvo p0 o0 H i0 hc0
 | x0 :: r0, i0, hd => by
  obtain ⟨hx0, hi0, hd'⟩ := Q15 hd
  have hc0 : (decide ((i0 : Int) < ((List.length p0) : Int))) = true := by simp; omega
  rw [Q2q]
  cases h0 : (Q3t x0 o0) with
  | true =>
   exact Qv1 p0 o0 H x0 i0 hx0 hi0 hc0 h0
  | false =>
   exact Qlc p0 o0 (fun r hr => Qvz p0 o0 H x0 i0 hx0 hi0 hc0 h0 hr) _ (Qqf p0 o0 H r0 (i0 + 1) hd')
def Qx (p0 : List Fld) (o0 : ByteArray) : Int :=
 (match (Q2q p0 o0 p0 0) with
 | .k0 => (-1)
 | .k1 y0_0 => y0_0)
def Q19s (p0 : List Fld) (o0 : ByteArray) : En := .call 69 [.sl (Fld.rows p0), .fn 57 [] [.bx 0 0]] [⟨1, 0, false, [.str o0]⟩]
def Q1a2 (_p0 : List Fld) (o0 : ByteArray) (q0 : Int) : Rs := .ret (.int .i64 q0) [⟨1, 0, false, [.str o0]⟩]
def Q17o (p0 : List Fld) (o0 : ByteArray) : Rs := Q1a2 p0 o0 (Qx p0 o0)
def Q17p (p0 : List Fld) (o0 : ByteArray) : Prop := (Q8u p0 o0) ∧ True
theorem Q16t (p0 : List Fld) (o0 : ByteArray) (H : Q17p p0 o0) : Q7 G (Q19s p0 o0) (Q17o p0 o0) := by
 unfold Q17o Qx
 have hl0 := Qqf p0 o0 (H.1) p0 0 (by simp)
 cases hr0 : (Q2q p0 o0 p0 0) with
 | k0 =>
  rw [hr0] at hl0
  obtain ⟨z0, zo0, hl0⟩ := hl0
  exact Q8 (fn := Ir.K19) rfl (h := [⟨1, 0, false, [.str o0]⟩]) (vw := []) VOK.nil [hP 2 (Qi (Fld.rows p0) (List.length p0) (Fld.Qd p0))] [aN hl0] (by kernel_rfl)
 | k1 y0_0 =>
  rw [hr0] at hl0
  obtain ⟨z0, zo0, hl0⟩ := hl0
  exact Q8 (fn := Ir.K19) rfl (h := [⟨1, 0, false, [.str o0]⟩]) (vw := []) VOK.nil [hP 2 (Qi (Fld.rows p0) (List.length p0) (Fld.Qd p0))] [aN hl0] (by kernel_rfl)
theorem Qag (p0 : List Fld) (o0 : ByteArray) : ∀ (l : List Fld) (i : Nat), match Q2q p0 o0 l i with | .k0 => True | .k1 q => (i : Int) ≤ q ∧ q < (i : Int) + (l.length : Int)
  | [], _ => trivial
  | x :: l, i => by
    rw [Q2q]
    have ih := Qag p0 o0 l (i + 1)
    cases Q3t x o0 with
    | true =>
      show (i : Int) ≤ (i : Int) ∧ (i : Int) < _
      simp only [List.length_cons]
      omega
    | false =>
      rw [cond_false]
      cases e : Q2q p0 o0 l (i + 1) with
      | k0 => trivial
      | k1 q =>
        rw [e] at ih
        simp only at ih ⊢
        simp only [List.length_cons]
        omega
theorem Qj (p0 : List Fld) (o0 : ByteArray) : -1 ≤ Qx p0 o0 ∧ Qx p0 o0 < (List.length p0 : Int) := by
  have h := Qag p0 o0 p0 0
  unfold Qx
  cases e : Q2q p0 o0 p0 0 with
  | k0 => exact ⟨Int.le_refl _, by simp only; omega⟩
  | k1 q =>
    rw [e] at h
    simp only at h ⊢
    omega
def Q17 (n0 : Nat) (o1 : ByteArray) : Nat → Int → Int → (List Fld) → (List Fld) × Int
 | 0, v0_0, _v0_1, v0_2 => (v0_2, v0_0)
 | k0 + 1, v0_0, v0_1, v0_2 =>
  bif (decide (v0_1 < (n0 : Int))) then
   bif (Q3t (List.getD v0_2 (Int.toNat v0_1) zF) o1) then
    Q17 n0 o1 k0 v0_0 (v0_1 + 1) v0_2
   else
    Q17 n0 o1 k0 (v0_0 + 1) (v0_1 + 1) (List.set v0_2 (Int.toNat v0_0) (List.getD v0_2 (Int.toNat v0_1) zF))
  else
   (v0_2, v0_0)
def Qf1 (n0 : Nat) (_o1 : ByteArray) (v0_0 : Int) (v0_1 : Int) (_v0_2 : List Fld) : List PV :=
  [.ms 0 6 0 n0, .fn 57 [] [.bx 1 0], .un, .un, .un, .int .i64 v0_0, .int .i64 v0_1, .un, .un, .un, .un, .un, .un, .un, .un, .un, .un, .un, .un, .un, .un, .un, .un, .un, .un, .un, .un, .un, .un, .un, .un, .un, .un, .un, .un, .un, .un, .un, .un, .un, .un, .un]
def Q90 (_n0 : Nat) (o1 : ByteArray) (_v0_0 : Int) (_v0_1 : Int) (v0_2 : List Fld) : List Ob :=
  [⟨6, 0, false, (Fld.rows v0_2).flatten⟩, ⟨1, 0, false, [.str o1]⟩]
def Q6w (n0 : Nat) (o1 : ByteArray) (v0_0 : Int) (v0_1 : Int) (v0_2 : List Fld) : En := .loop 2 Ir.Qd5 Ir.Q14e (Qf1 n0 o1 v0_0 v0_1 v0_2) (Q90 n0 o1 v0_0 v0_1 v0_2)
def Qib (n0 : Nat) (o1 : ByteArray) (q0 : List Fld) (q1 : Int) (z : Nat → PV) (_zo : Nat → List PV) : St :=
  ⟨[.ms 0 6 0 n0, z 1, z 2, z 3, z 4, .int .i64 q1, z 6, z 7, z 8, z 9, z 10, z 11, z 12, z 13, z 14, z 15, z 16, z 17, z 18, z 19, z 20, z 21, z 22, z 23, z 24, z 25, z 26, z 27, z 28, z 29, z 30, z 31, z 32, z 33, z 34, z 35, z 36, z 37, z 38, z 39, z 40, z 41], [(0, ⟨6, 0, false, (Fld.rows q0).flatten⟩), (1, ⟨1, 0, false, [.str o1]⟩)], 258⟩
theorem Qlh (n0 : Nat) (o1 : ByteArray) (v0_0 : Int) (v0_1 : Int) (v0_2 : List Fld) : VOK (Go.Pv.look (number 0 (Q90 n0 o1 v0_0 v0_1 v0_2))) [(0, Fld.rows v0_2)] := (VOK.cons (show Seen _ _ from Q43 (ob := ⟨6, 0, false, (Fld.rows v0_2).flatten⟩) (Fld.Q5 v0_2 6 rfl)) VOK.nil)
def Qbk (n0 : Nat) (o1 : ByteArray) (e : En) (q : (List Fld) × Int) : Prop := ∃ z zo, Q7 G e (.st (.exit 0) (Qib n0 o1 q.1 q.2 z zo))
theorem Q9l (n0 : Nat) (o1 : ByteArray) {e e' : En} (h : ∀ r, Q7 G e r → Q7 G e' r) : ∀ q, Qbk n0 o1 e q → Qbk n0 o1 e' q
  | _, ⟨z, zo, hz⟩ => ⟨z, zo, h _ hz⟩
theorem Qxb (n0 : Nat) (o1 : ByteArray) (v0_0 : Int) (v0_1 : Int) (v0_2 : List Fld) (ho0_0 : 0 ≤ v0_0) (ho0_1 : v0_0 < v0_1) (_ho0_2 : v0_1 ≤ (n0 : Int)) (ho0_3 : (n0 : Int) ≤ 1152921504606846976) (ho0_4 : List.length v0_2 = n0) (h0 : (decide (v0_1 < (n0 : Int))) = true) (h1 : (Q3t (List.getD v0_2 (Int.toNat v0_1) zF) o1) = true) {r : Rs} (hr : Q7 G (Q6w n0 o1 v0_0 (v0_1 + 1) v0_2) r) : Q7 G (Q6w n0 o1 v0_0 v0_1 v0_2) r := by
 have e0 := of_decide_eq_true h0
 exact Q9 (Qlh n0 o1 v0_0 v0_1 v0_2) (y := (Qf1 n0 o1 v0_0 (v0_1 + 1) v0_2, Q90 n0 o1 v0_0 (v0_1 + 1) v0_2)) [hB 3 h0, hP 2 (Q1j 0 6 n0 v0_1 (Int.toNat v0_1) rfl (by omega) (by omega)), hP 0 (Q33 0 6 0 false ((Fld.rows v0_2).flatten) (Fld.rows v0_2) 6 true (Int.toNat v0_1) 0 ((Int.toNat v0_1) * 6) (Fld.cells (List.getD v0_2 (Int.toNat v0_1) zF)) (.agg [.str (List.getD v0_2 (Int.toNat v0_1) zF).name, .int .i64 (List.getD v0_2 (Int.toNat v0_1) zF).v.kind, .int .i64 (List.getD v0_2 (Int.toNat v0_1) zF).v.n, .str (List.getD v0_2 (Int.toNat v0_1) zF).v.s, .sl (Val.rows (List.getD v0_2 (Int.toNat v0_1) zF).v.list), .sl (Fld.rows (List.getD v0_2 (Int.toNat v0_1) zF).v.fields)]) rfl rfl (Fld.Qf (Qu v0_2 (Int.toNat v0_1) zF (by omega))) (Fld.Qq v0_2) (by decide) rfl), hP 7 (w_ok (v0_1 + 1) (by omega))] [aN (toldOf (Q135 (List.getD v0_2 (Int.toNat v0_1) zF) o1) (congrArg (fun b => Qyq (List.getD v0_2 (Int.toNat v0_1) zF) o1 b) h1))] (by kernel_rfl) hr
theorem Qv4 (n0 : Nat) (o1 : ByteArray) (v0_0 : Int) (v0_1 : Int) (v0_2 : List Fld) (ho0_0 : 0 ≤ v0_0) (ho0_1 : v0_0 < v0_1) (_ho0_2 : v0_1 ≤ (n0 : Int)) (ho0_3 : (n0 : Int) ≤ 1152921504606846976) (ho0_4 : List.length v0_2 = n0) (h0 : (decide (v0_1 < (n0 : Int))) = true) (h1 : (Q3t (List.getD v0_2 (Int.toNat v0_1) zF) o1) = false) {r : Rs} (hr : Q7 G (Q6w n0 o1 (v0_0 + 1) (v0_1 + 1) (List.set v0_2 (Int.toNat v0_0) (List.getD v0_2 (Int.toNat v0_1) zF))) r) : Q7 G (Q6w n0 o1 v0_0 v0_1 v0_2) r := by
 have e0 := of_decide_eq_true h0
 exact Q9 (Qlh n0 o1 v0_0 v0_1 v0_2) (y := (Qf1 n0 o1 (v0_0 + 1) (v0_1 + 1) (List.set v0_2 (Int.toNat v0_0) (List.getD v0_2 (Int.toNat v0_1) zF)), Q90 n0 o1 (v0_0 + 1) (v0_1 + 1) (List.set v0_2 (Int.toNat v0_0) (List.getD v0_2 (Int.toNat v0_1) zF)))) [hB 3 h0, hP 2 (Q1j 0 6 n0 v0_1 (Int.toNat v0_1) rfl (by omega) (by omega)), hP 0 (Q33 0 6 0 false ((Fld.rows v0_2).flatten) (Fld.rows v0_2) 6 true (Int.toNat v0_1) 0 ((Int.toNat v0_1) * 6) (Fld.cells (List.getD v0_2 (Int.toNat v0_1) zF)) (.agg [.str (List.getD v0_2 (Int.toNat v0_1) zF).name, .int .i64 (List.getD v0_2 (Int.toNat v0_1) zF).v.kind, .int .i64 (List.getD v0_2 (Int.toNat v0_1) zF).v.n, .str (List.getD v0_2 (Int.toNat v0_1) zF).v.s, .sl (Val.rows (List.getD v0_2 (Int.toNat v0_1) zF).v.list), .sl (Fld.rows (List.getD v0_2 (Int.toNat v0_1) zF).v.fields)]) rfl rfl (Fld.Qf (Qu v0_2 (Int.toNat v0_1) zF (by omega))) (Fld.Qq v0_2) (by decide) rfl), hP 9 (Q1j 0 6 n0 v0_0 (Int.toNat v0_0) rfl (by omega) (by omega)), hV 0 [(0, Fld.rows (List.set v0_2 (Int.toNat v0_0) (List.getD v0_2 (Int.toNat v0_1) zF)))] (Qd7 0 6 false ((Fld.rows v0_2).flatten) (Fld.rows v0_2) (Fld.rows (List.set v0_2 (Int.toNat v0_0) (List.getD v0_2 (Int.toNat v0_1) zF))) 6 (Int.toNat v0_0) 0 ((Int.toNat v0_0) * 6) _ (.agg [.str (List.getD v0_2 (Int.toNat v0_1) zF).name, .int .i64 (List.getD v0_2 (Int.toNat v0_1) zF).v.kind, .int .i64 (List.getD v0_2 (Int.toNat v0_1) zF).v.n, .str (List.getD v0_2 (Int.toNat v0_1) zF).v.s, .sl (Val.rows (List.getD v0_2 (Int.toNat v0_1) zF).v.list), .sl (Fld.rows (List.getD v0_2 (Int.toNat v0_1) zF).v.fields)]) rfl rfl (Fld.Qf (Qu v0_2 (Int.toNat v0_0) zF (by omega))) (Fld.Qq v0_2) (by decide) rfl rfl (Fld.Q4j v0_2 (Int.toNat v0_0) (List.getD v0_2 (Int.toNat v0_1) zF))), hS 0 false (Fld.Q5 (List.set v0_2 (Int.toNat v0_0) (List.getD v0_2 (Int.toNat v0_1) zF)) 6 rfl), hP 1 (w_ok (v0_0 + 1) (by have f0 := (Qp ho0_4 (Int.toNat v0_0) (List.getD v0_2 (Int.toNat v0_1) zF)); omega)), hP 2 (w_ok (v0_1 + 1) (by have f0 := (Qp ho0_4 (Int.toNat v0_0) (List.getD v0_2 (Int.toNat v0_1) zF)); omega))] [aN (toldOf (Q135 (List.getD v0_2 (Int.toNat v0_1) zF) o1) (congrArg (fun b => Qyq (List.getD v0_2 (Int.toNat v0_1) zF) o1 b) h1))] (by kernel_rfl) hr
def Qi0 (n0 : Nat) (_o1 : ByteArray) (_v0_0 : Int) (v0_1 : Int) (_v0_2 : List Fld) : List PV :=
  [.un, .fn 57 [] [.bx 1 0], .un, .un, .un, .un, .int .i64 v0_1, .un, .un, .un, .un, .un, .un, .un, .un, .un, .int .i64 v0_1, .ms 0 6 0 n0, .int .i64 (n0 : Int), .bool false]
def Qef (_n0 : Nat) (_o1 : ByteArray) (_v0_0 : Int) (_v0_1 : Int) (_v0_2 : List Fld) : List (Nat × List PV) :=
  []
theorem Qv7 (n0 : Nat) (o1 : ByteArray) (v0_0 : Int) (v0_1 : Int) (v0_2 : List Fld) (_ho0_0 : 0 ≤ v0_0) (_ho0_1 : v0_0 < v0_1) (_ho0_2 : v0_1 ≤ (n0 : Int)) (_ho0_3 : (n0 : Int) ≤ 1152921504606846976) (_ho0_4 : List.length v0_2 = n0) (h0 : (decide (v0_1 < (n0 : Int))) = false) : Qbk n0 o1 (Q6w n0 o1 v0_0 v0_1 v0_2) (v0_2, v0_0) := by
 exact ⟨(envF (Qi0 n0 o1 v0_0 v0_1 v0_2)), (zoF (Qef n0 o1 v0_0 v0_1 v0_2)), Qe (Qlh n0 o1 v0_0 v0_1 v0_2) (x := ((.exit 0), Qib n0 o1 v0_2 v0_0 (envF (Qi0 n0 o1 v0_0 v0_1 v0_2)) (zoF (Qef n0 o1 v0_0 v0_1 v0_2)))) [hB 3 h0] [] (by kernel_rfl)⟩
theorem Qd0 (n0 : Nat) (o1 : ByteArray) : ∀ (k0 : Nat) (v0_0 : Int) (v0_1 : Int) (v0_2 : List Fld), 0 ≤ v0_0 → v0_0 < v0_1 → v0_1 ≤ (n0 : Int) → (n0 : Int) ≤ 1152921504606846976 → List.length v0_2 = n0 → Int.toNat ((n0 : Int) - v0_1) < k0 → Qbk n0 o1 (Q6w n0 o1 v0_0 v0_1 v0_2) (Q17 n0 o1 k0 v0_0 v0_1 v0_2)
 | 0, v0_0, v0_1, v0_2, _, _, _, _, _, hm => absurd hm (Nat.not_lt_zero _)
 | k0 + 1, v0_0, v0_1, v0_2, ho0_0, ho0_1, ho0_2, ho0_3, ho0_4, hm => by
  rw [Q17]
  cases h0 : (decide (v0_1 < (n0 : Int))) with
  | true =>
   have e0 := of_decide_eq_true h0
   cases h1 : (Q3t (List.getD v0_2 (Int.toNat v0_1) zF) o1) with
   | true =>
    exact Q9l n0 o1 (fun r hr => Qxb n0 o1 v0_0 v0_1 v0_2 ho0_0 ho0_1 ho0_2 ho0_3 ho0_4 h0 h1 hr) _ (Qd0 n0 o1 k0 v0_0 (v0_1 + 1) v0_2 (by omega) (by omega) (by omega) (by omega) ho0_4 (by omega))
   | false =>
    exact Q9l n0 o1 (fun r hr => Qv4 n0 o1 v0_0 v0_1 v0_2 ho0_0 ho0_1 ho0_2 ho0_3 ho0_4 h0 h1 hr) _ (Qd0 n0 o1 k0 (v0_0 + 1) (v0_1 + 1) (List.set v0_2 (Int.toNat v0_0) (List.getD v0_2 (Int.toNat v0_1) zF)) (by have f0 := (Qp ho0_4 (Int.toNat v0_0) (List.getD v0_2 (Int.toNat v0_1) zF)); omega) (by have f0 := (Qp ho0_4 (Int.toNat v0_0) (List.getD v0_2 (Int.toNat v0_1) zF)); omega) (by have f0 := (Qp ho0_4 (Int.toNat v0_0) (List.getD v0_2 (Int.toNat v0_1) zF)); omega) (by have f0 := (Qp ho0_4 (Int.toNat v0_0) (List.getD v0_2 (Int.toNat v0_1) zF)); omega) (Qp ho0_4 (Int.toNat v0_0) (List.getD v0_2 (Int.toNat v0_1) zF)) (by have f0 := (Qp ho0_4 (Int.toNat v0_0) (List.getD v0_2 (Int.toNat v0_1) zF)); omega))
  | false =>
   exact Qv7 n0 o1 v0_0 v0_1 v0_2 ho0_0 ho0_1 ho0_2 ho0_3 ho0_4 h0
theorem Q3u (n0 : Nat) (o1 : ByteArray) : ∀ (k0 : Nat) (v0_0 : Int) (v0_1 : Int) (v0_2 : List Fld), List.length v0_2 = n0 → List.length (Q17 n0 o1 k0 v0_0 v0_1 v0_2).1 = n0
 | 0, v0_0, v0_1, v0_2, ho0_4 => by rw [Q17]; exact ho0_4
 | k0 + 1, v0_0, v0_1, v0_2, ho0_4 => by
  rw [Q17]
  cases h0 : (decide (v0_1 < (n0 : Int))) with
  | true =>
   cases h1 : (Q3t (List.getD v0_2 (Int.toNat v0_1) zF) o1) with
   | true =>
    exact Q3u n0 o1 k0 v0_0 (v0_1 + 1) v0_2 ho0_4
   | false =>
    exact Q3u n0 o1 k0 (v0_0 + 1) (v0_1 + 1) (List.set v0_2 (Int.toNat v0_0) (List.getD v0_2 (Int.toNat v0_1) zF)) (Qp ho0_4 (Int.toNat v0_0) (List.getD v0_2 (Int.toNat v0_1) zF))
  | false =>
   exact ho0_4
theorem Q42 (n0 : Nat) (o1 : ByteArray) : ∀ (k0 : Nat) (v0_0 : Int) (v0_1 : Int) (v0_2 : List Fld), 0 ≤ v0_0 → v0_0 < v0_1 → v0_1 ≤ (n0 : Int) → (n0 : Int) ≤ 1152921504606846976 → List.length v0_2 = n0 → Int.toNat ((n0 : Int) - v0_1) < k0 → 0 ≤ (Q17 n0 o1 k0 v0_0 v0_1 v0_2).2 ∧ (Q17 n0 o1 k0 v0_0 v0_1 v0_2).2 < (n0 : Int)
 | 0, v0_0, v0_1, v0_2, _, _, _, _, _, hm => absurd hm (Nat.not_lt_zero _)
 | k0 + 1, v0_0, v0_1, v0_2, ho0_0, ho0_1, ho0_2, ho0_3, ho0_4, hm => by
  rw [Q17]
  cases h0 : (decide (v0_1 < (n0 : Int))) with
  | true =>
   have e0 := of_decide_eq_true h0
   cases h1 : (Q3t (List.getD v0_2 (Int.toNat v0_1) zF) o1) with
   | true =>
    exact Q42 n0 o1 k0 v0_0 (v0_1 + 1) v0_2 (by omega) (by omega) (by omega) (by omega) ho0_4 (by omega)
   | false =>
    exact Q42 n0 o1 k0 (v0_0 + 1) (v0_1 + 1) (List.set v0_2 (Int.toNat v0_0) (List.getD v0_2 (Int.toNat v0_1) zF)) (by have f0 := (Qp ho0_4 (Int.toNat v0_0) (List.getD v0_2 (Int.toNat v0_1) zF)); omega) (by have f0 := (Qp ho0_4 (Int.toNat v0_0) (List.getD v0_2 (Int.toNat v0_1) zF)); omega) (by have f0 := (Qp ho0_4 (Int.toNat v0_0) (List.getD v0_2 (Int.toNat v0_1) zF)); omega) (by have f0 := (Qp ho0_4 (Int.toNat v0_0) (List.getD v0_2 (Int.toNat v0_1) zF)); omega) (Qp ho0_4 (Int.toNat v0_0) (List.getD v0_2 (Int.toNat v0_1) zF)) (by have f0 := (Qp ho0_4 (Int.toNat v0_0) (List.getD v0_2 (Int.toNat v0_1) zF)); omega)
  | false =>
   have e0 := of_decide_eq_false h0
   exact (show 0 ≤ v0_0 ∧ v0_0 < (n0 : Int) from ⟨(by omega), (by omega)⟩)
def Qkj (n0 : Nat) (o0 : List Fld) (o1 : ByteArray) : Nat × (List Fld) :=
 bif ((Qx o0 o1) == (-1)) then
  (n0, o0)
 else
  ((Int.toNat (Q17 n0 o1 ((Int.toNat ((n0 : Int) - ((Qx o0 o1) + 1))) + 1) (Qx o0 o1) ((Qx o0 o1) + 1) o0).2), (List.take (Int.toNat (Q17 n0 o1 ((Int.toNat ((n0 : Int) - ((Qx o0 o1) + 1))) + 1) (Qx o0 o1) ((Qx o0 o1) + 1) o0).2) (Q17 n0 o1 ((Int.toNat ((n0 : Int) - ((Qx o0 o1) + 1))) + 1) (Qx o0 o1) ((Qx o0 o1) + 1) o0).1))
def Q193 (n0 : Nat) (o0 : List Fld) (o1 : ByteArray) : En := .call 56 [.ms 0 6 0 n0, .fn 57 [] [.bx 1 0]] [⟨6, 0, false, (Fld.rows o0).flatten⟩, ⟨1, 0, false, [.str o1]⟩]
def Q1a1 (_n0 : Nat) (_o0 : List Fld) (o1 : ByteArray) (q0 : Nat) (q1 : List Fld) : Rs := .ret (.ms 0 6 0 q0) [⟨6, 0, false, (Fld.rows q1).flatten⟩, ⟨1, 0, false, [.str o1]⟩]
def Q186 (n0 : Nat) (o0 : List Fld) (o1 : ByteArray) : Rs := Q1a1 n0 o0 o1 (Qkj n0 o0 o1).1 (Qkj n0 o0 o1).2
def Q17s (_n0 : Nat) (o0 : List Fld) (o1 : ByteArray) : Prop := (Q17p o0 o1) ∧ True
theorem Q196 (n0 : Nat) (o0 : List Fld) (o1 : ByteArray) (hn0 : List.length o0 = n0) (hq0 : (n0 : Int) ≤ 1152921504606846976) (H : Q17s n0 o0 o1) : Q7 G (Q193 n0 o0 o1) (Q186 n0 o0 o1) := by
 unfold Q186 Qkj
 cases h0 : ((Qx o0 o1) == (-1)) with
 | true =>
  exact Q8 (fn := Ir.K18) rfl (h := [⟨6, 0, false, (Fld.rows o0).flatten⟩, ⟨1, 0, false, [.str o1]⟩]) (vw := [(0, Fld.rows o0)]) (VOK.cons (show Seen _ _ from Q43 (ob := ⟨6, 0, false, (Fld.rows o0).flatten⟩) (Fld.Q5 o0 6 rfl)) VOK.nil) [hQ ((Fld.Qd o0).trans hn0).symm, hB 6 h0] [aN (Q16t o0 o1 H.1)] (by kernel_rfl)
 | false =>
  have e0 := beq_eq_false_iff_ne.1 h0
  have hl1 := Qd0 n0 o1 ((Int.toNat ((n0 : Int) - ((Qx o0 o1) + 1))) + 1) (Qx o0 o1) ((Qx o0 o1) + 1) o0 (by have g0 := (Qj o0 o1); omega) (by have g0 := (Qj o0 o1); omega) (by have g0 := (Qj o0 o1); omega) (by have g0 := (Qj o0 o1); omega) hn0 (by omega)
  obtain ⟨z1, zo1, hl1⟩ := hl1
  exact Q8 (fn := Ir.K18) rfl (h := [⟨6, 0, false, (Fld.rows o0).flatten⟩, ⟨1, 0, false, [.str o1]⟩]) (vw := [(0, Fld.rows o0)]) (VOK.cons (show Seen _ _ from Q43 (ob := ⟨6, 0, false, (Fld.rows o0).flatten⟩) (Fld.Q5 o0 6 rfl)) VOK.nil) [hQ ((Fld.Qd o0).trans hn0).symm, hB 6 h0, hP 1 (w_ok ((Qx o0 o1) + 1) (by have g0 := (Qj o0 o1); omega)), hS 0 false (Fld.Q5 (Q17 n0 o1 ((Int.toNat ((n0 : Int) - ((Qx o0 o1) + 1))) + 1) (Qx o0 o1) ((Qx o0 o1) + 1) o0).1 6 rfl), hP 3 (Q13o 0 6 n0 (Q17 n0 o1 ((Int.toNat ((n0 : Int) - ((Qx o0 o1) + 1))) + 1) (Qx o0 o1) ((Qx o0 o1) + 1) o0).2 (by have f0 := (Q3u n0 o1 ((Int.toNat ((n0 : Int) - ((Qx o0 o1) + 1))) + 1) (Qx o0 o1) ((Qx o0 o1) + 1) o0 hn0); have g0 := (Qj o0 o1); have g1 := Q42 n0 o1 ((Int.toNat ((n0 : Int) - ((Qx o0 o1) + 1))) + 1) (Qx o0 o1) ((Qx o0 o1) + 1) o0 (by have g0 := (Qj o0 o1); omega) (by have g0 := (Qj o0 o1); omega) (by have g0 := (Qj o0 o1); omega) (by have g0 := (Qj o0 o1); omega) hn0 (by omega); omega) (by have f0 := (Q3u n0 o1 ((Int.toNat ((n0 : Int) - ((Qx o0 o1) + 1))) + 1) (Qx o0 o1) ((Qx o0 o1) + 1) o0 hn0); have g0 := (Qj o0 o1); have g1 := Q42 n0 o1 ((Int.toNat ((n0 : Int) - ((Qx o0 o1) + 1))) + 1) (Qx o0 o1) ((Qx o0 o1) + 1) o0 (by have g0 := (Qj o0 o1); omega) (by have g0 := (Qj o0 o1); omega) (by have g0 := (Qj o0 o1); omega) (by have g0 := (Qj o0 o1); omega) hn0 (by omega); omega)), hV 0 [(0, Fld.rows (List.take (Int.toNat (Q17 n0 o1 ((Int.toNat ((n0 : Int) - ((Qx o0 o1) + 1))) + 1) (Qx o0 o1) ((Qx o0 o1) + 1) o0).2) (Q17 n0 o1 ((Int.toNat ((n0 : Int) - ((Qx o0 o1) + 1))) + 1) (Qx o0 o1) ((Qx o0 o1) + 1) o0).1))] (Q16o 0 6 false (Fld.rows (Q17 n0 o1 ((Int.toNat ((n0 : Int) - ((Qx o0 o1) + 1))) + 1) (Qx o0 o1) ((Qx o0 o1) + 1) o0).1) (Fld.rows (List.take (Int.toNat (Q17 n0 o1 ((Int.toNat ((n0 : Int) - ((Qx o0 o1) + 1))) + 1) (Qx o0 o1) ((Qx o0 o1) + 1) o0).2) (Q17 n0 o1 ((Int.toNat ((n0 : Int) - ((Qx o0 o1) + 1))) + 1) (Qx o0 o1) ((Qx o0 o1) + 1) o0).1)) (Int.toNat (Q17 n0 o1 ((Int.toNat ((n0 : Int) - ((Qx o0 o1) + 1))) + 1) (Qx o0 o1) ((Qx o0 o1) + 1) o0).2) (n0 - (Int.toNat (Q17 n0 o1 ((Int.toNat ((n0 : Int) - ((Qx o0 o1) + 1))) + 1) (Qx o0 o1) ((Qx o0 o1) + 1) o0).2)) [.str (⟨#[]⟩ : ByteArray), .int .i64 0, .int .i64 0, .str (⟨#[]⟩ : ByteArray), .ns 5, .ns 6] (Fld.Qq (Q17 n0 o1 ((Int.toNat ((n0 : Int) - ((Qx o0 o1) + 1))) + 1) (Qx o0 o1) ((Qx o0 o1) + 1) o0).1) (by rw [Fld.Qd]; exact (by have f0 := (Q3u n0 o1 ((Int.toNat ((n0 : Int) - ((Qx o0 o1) + 1))) + 1) (Qx o0 o1) ((Qx o0 o1) + 1) o0 hn0); have g0 := (Qj o0 o1); have g1 := Q42 n0 o1 ((Int.toNat ((n0 : Int) - ((Qx o0 o1) + 1))) + 1) (Qx o0 o1) ((Qx o0 o1) + 1) o0 (by have g0 := (Qj o0 o1); omega) (by have g0 := (Qj o0 o1); omega) (by have g0 := (Qj o0 o1); omega) (by have g0 := (Qj o0 o1); omega) hn0 (by omega); omega)) (by have f0 := (Q3u n0 o1 ((Int.toNat ((n0 : Int) - ((Qx o0 o1) + 1))) + 1) (Qx o0 o1) ((Qx o0 o1) + 1) o0 hn0); have g0 := (Qj o0 o1); have g1 := Q42 n0 o1 ((Int.toNat ((n0 : Int) - ((Qx o0 o1) + 1))) + 1) (Qx o0 o1) ((Qx o0 o1) + 1) o0 (by have g0 := (Qj o0 o1); omega) (by have g0 := (Qj o0 o1); omega) (by have g0 := (Qj o0 o1); omega) (by have g0 := (Qj o0 o1); omega) hn0 (by omega); omega) (by rw [Fld.Ql5])), hS 0 false (Fld.Q5 (List.take (Int.toNat (Q17 n0 o1 ((Int.toNat ((n0 : Int) - ((Qx o0 o1) + 1))) + 1) (Qx o0 o1) ((Qx o0 o1) + 1) o0).2) (Q17 n0 o1 ((Int.toNat ((n0 : Int) - ((Qx o0 o1) + 1))) + 1) (Qx o0 o1) ((Qx o0 o1) + 1) o0).1) 6 rfl), hP 2 (Q13c 0 6 n0 (Q17 n0 o1 ((Int.toNat ((n0 : Int) - ((Qx o0 o1) + 1))) + 1) (Qx o0 o1) ((Qx o0 o1) + 1) o0).2 (by have g0 := (Qj o0 o1); have g1 := Q42 n0 o1 ((Int.toNat ((n0 : Int) - ((Qx o0 o1) + 1))) + 1) (Qx o0 o1) ((Qx o0 o1) + 1) o0 (by have g0 := (Qj o0 o1); omega) (by have g0 := (Qj o0 o1); omega) (by have g0 := (Qj o0 o1); omega) (by have g0 := (Qj o0 o1); omega) hn0 (by omega); omega) (by have g0 := (Qj o0 o1); have g1 := Q42 n0 o1 ((Int.toNat ((n0 : Int) - ((Qx o0 o1) + 1))) + 1) (Qx o0 o1) ((Qx o0 o1) + 1) o0 (by have g0 := (Qj o0 o1); omega) (by have g0 := (Qj o0 o1); omega) (by have g0 := (Qj o0 o1); omega) (by have g0 := (Qj o0 o1); omega) hn0 (by omega); omega))] [aN (Q16t o0 o1 H.1), aV [(0, Fld.rows (Q17 n0 o1 ((Int.toNat ((n0 : Int) - ((Qx o0 o1) + 1))) + 1) (Qx o0 o1) ((Qx o0 o1) + 1) o0).1)] hl1] (by kernel_rfl)
def Q3c (p0 : Val) (p1 : ByteArray) : Nat × (List Fld) :=
 bif (p0.kind == 5) then
  ((Qkj (List.length p0.fields) p0.fields p1).1, (Qkj (List.length p0.fields) p0.fields p1).2)
 else
  (0, [])
def Q19k (p0 : Val) (p1 : ByteArray) : En := .call 46 [.agg (Val.cells p0), .str p1] []
def Q1ag (_p0 : Val) (_p1 : ByteArray) (q0 : Nat) (q1 : List Fld) : Rs := .ret (.ms 0 6 0 q0) [⟨6, 0, true, (Fld.rows q1).flatten⟩]
def Q18d (p0 : Val) (p1 : ByteArray) : Rs := Q1ag p0 p1 (Q3c p0 p1).1 (Q3c p0 p1).2
def Q166 (p0 : Val) (p1 : ByteArray) : Prop := (List.length p0.fields * 96 ≤ 140737488355328) ∧ ((p0.kind == 5) = true → ((List.length p0.fields) : Int) ≤ 1152921504606846976) ∧ (Q17s (List.length p0.fields) p0.fields p1) ∧ True
theorem Q19e (p0 : Val) (p1 : ByteArray) (H : Q166 p0 p1) : Q7 G (Q19k p0 p1) (Q18d p0 p1) := by
 unfold Q18d Q3c
 cases h0 : (p0.kind == 5) with
 | true =>
  exact Q8 (fn := Ir.K1s) rfl VOK.nil [hP 5 (dec (!(p0.kind == 5)) false (by rw [h0]; rfl)), hQ (Fld.Q5 p0.fields 6 rfl), hQ (Fld.Q5 (Qkj (List.length p0.fields) p0.fields p1).2 6 rfl)] [aV [(0, Fld.rows p0.fields)] (Q5w (G := G) (f := 41) (sz := 6) (bytes := 96) rfl (Fld.Qd p0.fields) (Fld.Q5 p0.fields 6 rfl) H.1), aV [(0, Fld.rows (Qkj (List.length p0.fields) p0.fields p1).2)] (Q196 (List.length p0.fields) p0.fields p1 rfl (H.2.1 h0) H.2.2.1)] (by kernel_rfl)
 | false =>
  exact Q8 (fn := Ir.K1s) rfl VOK.nil [hP 5 (dec (!(p0.kind == 5)) true (by rw [h0]; rfl))] [] (by kernel_rfl)
def Qwa (p0 : List Val) : Val :=
 (Val.mk 4 0 (⟨#[]⟩ : ByteArray) p0 [])
def Q17f (p0 : List Val) : En := .call 40 [.sl (Val.rows p0)] []
def Q18y (p0 : List Val) : Rs := .ret (.agg (Val.cells (Qwa p0))) []
def Q15v (p0 : List Val) : Prop := (Qga (Val.mk 4 0 (⟨#[]⟩ : ByteArray) p0 [])) ∧ True
theorem Q197 (p0 : List Val) (H : Q15v p0) : Q7 G (Q17f p0) (Q18y p0) := by
 unfold Q18y Qwa
 exact Q8 (fn := Ir.K1l) rfl VOK.nil [] [aN (Q15o (Val.mk 4 0 (⟨#[]⟩ : ByteArray) p0 []) H.1)] (by kernel_rfl)
end Go.Proofs.Ytnhhddbbppbblaa
end

section
/- What building a map computes (printed by a program). -/
namespace Go.Proofs.Ytnhhddbbppbblaa
open Go.Pv
def Q28 (p0 : Fld) (p1 : Fld) : Int :=
 (Qb1 p0.name p1.name)
def Q19i (p0 : Fld) (p1 : Fld) : En := .call 43 [.agg (Fld.cells p0), .agg (Fld.cells p1)] []
def Q16k (p0 : Fld) (p1 : Fld) : Rs := .ret (.int .i64 (Q28 p0 p1)) []
theorem Qnn (p0 : Fld) (p1 : Fld) : Q7 G (Q19i p0 p1) (Q16k p0 p1) := by
 unfold Q16k Q28
 exact Q8 (fn := Ir.K1n) rfl VOK.nil [] [aN (Q164 p0.name p1.name)] (by kernel_rfl)
def Q2c (n0 : Nat) (p1 : Int) (p2 : Int) (v0_0 : Int) : Nat → (List Fld) → Int → List Fld
 | 0, v1_0, _v1_1 => v1_0
 | k1 + 1, v1_0, v1_1 =>
  bif (decide (p1 < v1_1)) then
   bif (decide ((Q28 (List.getD v1_0 (Int.toNat v1_1) zF) (List.getD v1_0 (Int.toNat (v1_1 - 1)) zF)) < 0)) then
    Q2c n0 p1 p2 v0_0 k1 (List.set (List.set v1_0 (Int.toNat v1_1) (List.getD v1_0 (Int.toNat (v1_1 - 1)) zF)) (Int.toNat (v1_1 - 1)) (List.getD v1_0 (Int.toNat v1_1) zF)) (v1_1 - 1)
   else
    v1_0
  else
   v1_0
def Qq5 (n0 : Nat) (p1 : Int) (p2 : Int) (v0_0 : Int) (_v1_0 : List Fld) (v1_1 : Int) : List PV :=
  [.ms 0 6 0 n0, .int .i64 p1, .int .i64 p2, .fn 43 [] [], .un, .un, .un, .un, .int .i64 v0_0, .int .i64 v1_1, .un, .un, .un, .un, .un, .un, .un, .un, .un, .un, .un, .un, .un, .un, .un, .un, .un, .un, .un, .un, .un, .un, .un, .un, .un, .un, .un, .un, .un, .un, .un, .un, .un, .un, .un, .un, .un, .un, .un, .un, .un, .un, .un]
def Qck (_n0 : Nat) (_p1 : Int) (_p2 : Int) (_v0_0 : Int) (v1_0 : List Fld) (_v1_1 : Int) : List Ob :=
  [⟨6, 0, false, (Fld.rows v1_0).flatten⟩]
def Q70 (n0 : Nat) (p1 : Int) (p2 : Int) (v0_0 : Int) (v1_0 : List Fld) (v1_1 : Int) : En := .loop 1 Ir.Qfs Ir.Q14v (Qq5 n0 p1 p2 v0_0 v1_0 v1_1) (Qck n0 p1 p2 v0_0 v1_0 v1_1)
def Q7d (n0 : Nat) (p1 : Int) (p2 : Int) (v0_0 : Int) (q0 : List Fld) (z : Nat → PV) (_zo : Nat → List PV) : St :=
  ⟨[.ms 0 6 0 n0, .int .i64 p1, .int .i64 p2, .fn 43 [] [], z 4, z 5, z 6, z 7, .int .i64 v0_0, z 9, z 10, z 11, z 12, z 13, z 14, z 15, z 16, z 17, z 18, z 19, z 20, z 21, z 22, z 23, z 24, z 25, z 26, z 27, z 28, z 29, z 30, z 31, z 32, z 33, z 34, z 35, z 36, z 37, z 38, z 39, z 40, z 41, z 42, z 43, z 44, z 45, z 46, z 47, z 48, z 49, z 50, z 51, z 52], [(0, ⟨6, 0, false, (Fld.rows q0).flatten⟩)], 1089⟩
theorem Qlf (n0 : Nat) (p1 : Int) (p2 : Int) (v0_0 : Int) (v1_0 : List Fld) (v1_1 : Int) : VOK (Go.Pv.look (number 0 (Qck n0 p1 p2 v0_0 v1_0 v1_1))) [(0, Fld.rows v1_0)] := (VOK.cons (show Seen _ _ from Q43 (ob := ⟨6, 0, false, (Fld.rows v1_0).flatten⟩) (Fld.Q5 v1_0 6 rfl)) VOK.nil)
def Q8q (n0 : Nat) (p1 : Int) (p2 : Int) (v0_0 : Int) (e : En) (q : List Fld) : Prop := ∃ z zo, Q7 G e (.st (.exit 2) (Q7d n0 p1 p2 v0_0 q z zo))
theorem Qmg (n0 : Nat) (p1 : Int) (p2 : Int) (v0_0 : Int) {e e' : En} (h : ∀ r, Q7 G e r → Q7 G e' r) : ∀ q, Q8q n0 p1 p2 v0_0 e q → Q8q n0 p1 p2 v0_0 e' q
  | _, ⟨z, zo, hz⟩ => ⟨z, zo, h _ hz⟩
theorem Qv9 (n0 : Nat) (p1 : Int) (p2 : Int) (v0_0 : Int) (v1_0 : List Fld) (v1_1 : Int) (ho1_0 : 0 ≤ p1) (_ho1_1 : p1 ≤ v1_1) (ho1_2 : v1_1 < n0) (ho1_3 : (n0 : Int) ≤ 1152921504606846976) (ho1_4 : List.length v1_0 = n0) (h0 : (decide (p1 < v1_1)) = true) (h1 : (decide ((Q28 (List.getD v1_0 (Int.toNat v1_1) zF) (List.getD v1_0 (Int.toNat (v1_1 - 1)) zF)) < 0)) = true) {r : Rs} (hr : Q7 G (Q70 n0 p1 p2 v0_0 (List.set (List.set v1_0 (Int.toNat v1_1) (List.getD v1_0 (Int.toNat (v1_1 - 1)) zF)) (Int.toNat (v1_1 - 1)) (List.getD v1_0 (Int.toNat v1_1) zF)) (v1_1 - 1)) r) : Q7 G (Q70 n0 p1 p2 v0_0 v1_0 v1_1) r := by
 have e0 := of_decide_eq_true h0; have e1 := of_decide_eq_true h1
 exact Q9 (Qlf n0 p1 p2 v0_0 v1_0 v1_1) (y := (Qq5 n0 p1 p2 v0_0 (List.set (List.set v1_0 (Int.toNat v1_1) (List.getD v1_0 (Int.toNat (v1_1 - 1)) zF)) (Int.toNat (v1_1 - 1)) (List.getD v1_0 (Int.toNat v1_1) zF)) (v1_1 - 1), Qck n0 p1 p2 v0_0 (List.set (List.set v1_0 (Int.toNat v1_1) (List.getD v1_0 (Int.toNat (v1_1 - 1)) zF)) (Int.toNat (v1_1 - 1)) (List.getD v1_0 (Int.toNat v1_1) zF)) (v1_1 - 1))) [hB 2 h0, hP 4 (Q1j 0 6 n0 v1_1 (Int.toNat v1_1) rfl (by omega) (by omega)), hP 0 (Q33 0 6 0 false ((Fld.rows v1_0).flatten) (Fld.rows v1_0) 6 true (Int.toNat v1_1) 0 ((Int.toNat v1_1) * 6) (Fld.cells (List.getD v1_0 (Int.toNat v1_1) zF)) (.agg [.str (List.getD v1_0 (Int.toNat v1_1) zF).name, .int .i64 (List.getD v1_0 (Int.toNat v1_1) zF).v.kind, .int .i64 (List.getD v1_0 (Int.toNat v1_1) zF).v.n, .str (List.getD v1_0 (Int.toNat v1_1) zF).v.s, .sl (Val.rows (List.getD v1_0 (Int.toNat v1_1) zF).v.list), .sl (Fld.rows (List.getD v1_0 (Int.toNat v1_1) zF).v.fields)]) rfl rfl (Fld.Qf (Qu v1_0 (Int.toNat v1_1) zF (by omega))) (Fld.Qq v1_0) (by decide) rfl), hP 2 (w_ok (v1_1 - 1) (by omega)), hP 0 (Q1j 0 6 n0 (v1_1 - 1) (Int.toNat (v1_1 - 1)) rfl (by omega) (by omega)), hP 0 (Q33 0 6 0 false ((Fld.rows v1_0).flatten) (Fld.rows v1_0) 6 true (Int.toNat (v1_1 - 1)) 0 ((Int.toNat (v1_1 - 1)) * 6) (Fld.cells (List.getD v1_0 (Int.toNat (v1_1 - 1)) zF)) (.agg [.str (List.getD v1_0 (Int.toNat (v1_1 - 1)) zF).name, .int .i64 (List.getD v1_0 (Int.toNat (v1_1 - 1)) zF).v.kind, .int .i64 (List.getD v1_0 (Int.toNat (v1_1 - 1)) zF).v.n, .str (List.getD v1_0 (Int.toNat (v1_1 - 1)) zF).v.s, .sl (Val.rows (List.getD v1_0 (Int.toNat (v1_1 - 1)) zF).v.list), .sl (Fld.rows (List.getD v1_0 (Int.toNat (v1_1 - 1)) zF).v.fields)]) rfl rfl (Fld.Qf (Qu v1_0 (Int.toNat (v1_1 - 1)) zF (by omega))) (Fld.Qq v1_0) (by decide) rfl), hB 1 h1, hP 5 (w_ok (v1_1 - 1) (by omega)), hP 2 (w_ok (v1_1 - 1) (by omega)), hP 0 (Q1j 0 6 n0 (v1_1 - 1) (Int.toNat (v1_1 - 1)) rfl (by omega) (by omega)), hP 0 (Q33 0 6 0 false ((Fld.rows v1_0).flatten) (Fld.rows v1_0) 6 true (Int.toNat (v1_1 - 1)) 0 ((Int.toNat (v1_1 - 1)) * 6) (Fld.cells (List.getD v1_0 (Int.toNat (v1_1 - 1)) zF)) (.agg [.str (List.getD v1_0 (Int.toNat (v1_1 - 1)) zF).name, .int .i64 (List.getD v1_0 (Int.toNat (v1_1 - 1)) zF).v.kind, .int .i64 (List.getD v1_0 (Int.toNat (v1_1 - 1)) zF).v.n, .str (List.getD v1_0 (Int.toNat (v1_1 - 1)) zF).v.s, .sl (Val.rows (List.getD v1_0 (Int.toNat (v1_1 - 1)) zF).v.list), .sl (Fld.rows (List.getD v1_0 (Int.toNat (v1_1 - 1)) zF).v.fields)]) rfl rfl (Fld.Qf (Qu v1_0 (Int.toNat (v1_1 - 1)) zF (by omega))) (Fld.Qq v1_0) (by decide) rfl), hP 2 (Q1j 0 6 n0 v1_1 (Int.toNat v1_1) rfl (by omega) (by omega)), hP 0 (Q33 0 6 0 false ((Fld.rows v1_0).flatten) (Fld.rows v1_0) 6 true (Int.toNat v1_1) 0 ((Int.toNat v1_1) * 6) (Fld.cells (List.getD v1_0 (Int.toNat v1_1) zF)) (.agg [.str (List.getD v1_0 (Int.toNat v1_1) zF).name, .int .i64 (List.getD v1_0 (Int.toNat v1_1) zF).v.kind, .int .i64 (List.getD v1_0 (Int.toNat v1_1) zF).v.n, .str (List.getD v1_0 (Int.toNat v1_1) zF).v.s, .sl (Val.rows (List.getD v1_0 (Int.toNat v1_1) zF).v.list), .sl (Fld.rows (List.getD v1_0 (Int.toNat v1_1) zF).v.fields)]) rfl rfl (Fld.Qf (Qu v1_0 (Int.toNat v1_1) zF (by omega))) (Fld.Qq v1_0) (by decide) rfl), hP 0 (Q1j 0 6 n0 v1_1 (Int.toNat v1_1) rfl (by omega) (by omega)), hV 0 [(0, Fld.rows (List.set v1_0 (Int.toNat v1_1) (List.getD v1_0 (Int.toNat (v1_1 - 1)) zF)))] (Qd7 0 6 false ((Fld.rows v1_0).flatten) (Fld.rows v1_0) (Fld.rows (List.set v1_0 (Int.toNat v1_1) (List.getD v1_0 (Int.toNat (v1_1 - 1)) zF))) 6 (Int.toNat v1_1) 0 ((Int.toNat v1_1) * 6) _ (.agg [.str (List.getD v1_0 (Int.toNat (v1_1 - 1)) zF).name, .int .i64 (List.getD v1_0 (Int.toNat (v1_1 - 1)) zF).v.kind, .int .i64 (List.getD v1_0 (Int.toNat (v1_1 - 1)) zF).v.n, .str (List.getD v1_0 (Int.toNat (v1_1 - 1)) zF).v.s, .sl (Val.rows (List.getD v1_0 (Int.toNat (v1_1 - 1)) zF).v.list), .sl (Fld.rows (List.getD v1_0 (Int.toNat (v1_1 - 1)) zF).v.fields)]) rfl rfl (Fld.Qf (Qu v1_0 (Int.toNat v1_1) zF (by omega))) (Fld.Qq v1_0) (by decide) rfl rfl (Fld.Q4j v1_0 (Int.toNat v1_1) (List.getD v1_0 (Int.toNat (v1_1 - 1)) zF))), hS 0 false (Fld.Q5 (List.set v1_0 (Int.toNat v1_1) (List.getD v1_0 (Int.toNat (v1_1 - 1)) zF)) 6 rfl), hP 0 (Q1j 0 6 n0 (v1_1 - 1) (Int.toNat (v1_1 - 1)) rfl (by have f0 := (Qp ho1_4 (Int.toNat v1_1) (List.getD v1_0 (Int.toNat (v1_1 - 1)) zF)); omega) (by have f0 := (Qp ho1_4 (Int.toNat v1_1) (List.getD v1_0 (Int.toNat (v1_1 - 1)) zF)); omega)), hV 0 [(0, Fld.rows (List.set (List.set v1_0 (Int.toNat v1_1) (List.getD v1_0 (Int.toNat (v1_1 - 1)) zF)) (Int.toNat (v1_1 - 1)) (List.getD v1_0 (Int.toNat v1_1) zF)))] (Qd7 0 6 false ((Fld.rows (List.set v1_0 (Int.toNat v1_1) (List.getD v1_0 (Int.toNat (v1_1 - 1)) zF))).flatten) (Fld.rows (List.set v1_0 (Int.toNat v1_1) (List.getD v1_0 (Int.toNat (v1_1 - 1)) zF))) (Fld.rows (List.set (List.set v1_0 (Int.toNat v1_1) (List.getD v1_0 (Int.toNat (v1_1 - 1)) zF)) (Int.toNat (v1_1 - 1)) (List.getD v1_0 (Int.toNat v1_1) zF))) 6 (Int.toNat (v1_1 - 1)) 0 ((Int.toNat (v1_1 - 1)) * 6) _ (.agg [.str (List.getD v1_0 (Int.toNat v1_1) zF).name, .int .i64 (List.getD v1_0 (Int.toNat v1_1) zF).v.kind, .int .i64 (List.getD v1_0 (Int.toNat v1_1) zF).v.n, .str (List.getD v1_0 (Int.toNat v1_1) zF).v.s, .sl (Val.rows (List.getD v1_0 (Int.toNat v1_1) zF).v.list), .sl (Fld.rows (List.getD v1_0 (Int.toNat v1_1) zF).v.fields)]) rfl rfl (Fld.Qf (Qu (List.set v1_0 (Int.toNat v1_1) (List.getD v1_0 (Int.toNat (v1_1 - 1)) zF)) (Int.toNat (v1_1 - 1)) zF (by have f0 := (Qp ho1_4 (Int.toNat v1_1) (List.getD v1_0 (Int.toNat (v1_1 - 1)) zF)); try simp only [List.length_set]; omega))) (Fld.Qq (List.set v1_0 (Int.toNat v1_1) (List.getD v1_0 (Int.toNat (v1_1 - 1)) zF))) (by decide) rfl rfl (Fld.Q4j (List.set v1_0 (Int.toNat v1_1) (List.getD v1_0 (Int.toNat (v1_1 - 1)) zF)) (Int.toNat (v1_1 - 1)) (List.getD v1_0 (Int.toNat v1_1) zF))), hS 0 false (Fld.Q5 (List.set (List.set v1_0 (Int.toNat v1_1) (List.getD v1_0 (Int.toNat (v1_1 - 1)) zF)) (Int.toNat (v1_1 - 1)) (List.getD v1_0 (Int.toNat v1_1) zF)) 6 rfl), hP 1 (w_ok (v1_1 - 1) (by have f0 := (Qp (Qp ho1_4 (Int.toNat v1_1) (List.getD v1_0 (Int.toNat (v1_1 - 1)) zF)) (Int.toNat (v1_1 - 1)) (List.getD v1_0 (Int.toNat v1_1) zF)); omega))] [aN (Qnn (List.getD v1_0 (Int.toNat v1_1) zF) (List.getD v1_0 (Int.toNat (v1_1 - 1)) zF))] (by kernel_rfl) hr
def Qh3 (n0 : Nat) (p1 : Int) (_p2 : Int) (_v0_0 : Int) (v1_0 : List Fld) (v1_1 : Int) : List PV :=
  [.un, .un, .un, .un, .un, .un, .un, .un, .un, .int .i64 v1_1, .un, .un, .un, .un, .un, .un, .un, .un, .int .i64 v1_1, .int .i64 p1, .bool true, .bool true, .fn 43 [] [], .ms 0 6 0 n0, .int .i64 v1_1, .bx 0 ((Int.toNat v1_1) * 6), .agg [.str (List.getD v1_0 (Int.toNat v1_1) zF).name, .int .i64 (List.getD v1_0 (Int.toNat v1_1) zF).v.kind, .int .i64 (List.getD v1_0 (Int.toNat v1_1) zF).v.n, .str (List.getD v1_0 (Int.toNat v1_1) zF).v.s, .sl (Val.rows (List.getD v1_0 (Int.toNat v1_1) zF).v.list), .sl (Fld.rows (List.getD v1_0 (Int.toNat v1_1) zF).v.fields)], .ms 0 6 0 n0, .int .i64 v1_1, .int .i64 (v1_1 - 1), .bx 0 ((Int.toNat (v1_1 - 1)) * 6), .agg [.str (List.getD v1_0 (Int.toNat (v1_1 - 1)) zF).name, .int .i64 (List.getD v1_0 (Int.toNat (v1_1 - 1)) zF).v.kind, .int .i64 (List.getD v1_0 (Int.toNat (v1_1 - 1)) zF).v.n, .str (List.getD v1_0 (Int.toNat (v1_1 - 1)) zF).v.s, .sl (Val.rows (List.getD v1_0 (Int.toNat (v1_1 - 1)) zF).v.list), .sl (Fld.rows (List.getD v1_0 (Int.toNat (v1_1 - 1)) zF).v.fields)], .int .i64 (Q28 (List.getD v1_0 (Int.toNat v1_1) zF) (List.getD v1_0 (Int.toNat (v1_1 - 1)) zF)), .bool false, .bool false]
def Qf0 (_n0 : Nat) (_p1 : Int) (_p2 : Int) (_v0_0 : Int) (_v1_0 : List Fld) (_v1_1 : Int) : List (Nat × List PV) :=
  []
theorem Qvx (n0 : Nat) (p1 : Int) (p2 : Int) (v0_0 : Int) (v1_0 : List Fld) (v1_1 : Int) (ho1_0 : 0 ≤ p1) (_ho1_1 : p1 ≤ v1_1) (ho1_2 : v1_1 < n0) (ho1_3 : (n0 : Int) ≤ 1152921504606846976) (ho1_4 : List.length v1_0 = n0) (h0 : (decide (p1 < v1_1)) = true) (h1 : (decide ((Q28 (List.getD v1_0 (Int.toNat v1_1) zF) (List.getD v1_0 (Int.toNat (v1_1 - 1)) zF)) < 0)) = false) : Q8q n0 p1 p2 v0_0 (Q70 n0 p1 p2 v0_0 v1_0 v1_1) v1_0 := by
 have e0 := of_decide_eq_true h0; have e1 := of_decide_eq_false h1
 exact ⟨(envF (Qh3 n0 p1 p2 v0_0 v1_0 v1_1)), (zoF (Qf0 n0 p1 p2 v0_0 v1_0 v1_1)), Qe (Qlf n0 p1 p2 v0_0 v1_0 v1_1) (x := ((.exit 2), Q7d n0 p1 p2 v0_0 v1_0 (envF (Qh3 n0 p1 p2 v0_0 v1_0 v1_1)) (zoF (Qf0 n0 p1 p2 v0_0 v1_0 v1_1)))) [hB 2 h0, hP 4 (Q1j 0 6 n0 v1_1 (Int.toNat v1_1) rfl (by omega) (by omega)), hP 0 (Q33 0 6 0 false ((Fld.rows v1_0).flatten) (Fld.rows v1_0) 6 true (Int.toNat v1_1) 0 ((Int.toNat v1_1) * 6) (Fld.cells (List.getD v1_0 (Int.toNat v1_1) zF)) (.agg [.str (List.getD v1_0 (Int.toNat v1_1) zF).name, .int .i64 (List.getD v1_0 (Int.toNat v1_1) zF).v.kind, .int .i64 (List.getD v1_0 (Int.toNat v1_1) zF).v.n, .str (List.getD v1_0 (Int.toNat v1_1) zF).v.s, .sl (Val.rows (List.getD v1_0 (Int.toNat v1_1) zF).v.list), .sl (Fld.rows (List.getD v1_0 (Int.toNat v1_1) zF).v.fields)]) rfl rfl (Fld.Qf (Qu v1_0 (Int.toNat v1_1) zF (by omega))) (Fld.Qq v1_0) (by decide) rfl), hP 2 (w_ok (v1_1 - 1) (by omega)), hP 0 (Q1j 0 6 n0 (v1_1 - 1) (Int.toNat (v1_1 - 1)) rfl (by omega) (by omega)), hP 0 (Q33 0 6 0 false ((Fld.rows v1_0).flatten) (Fld.rows v1_0) 6 true (Int.toNat (v1_1 - 1)) 0 ((Int.toNat (v1_1 - 1)) * 6) (Fld.cells (List.getD v1_0 (Int.toNat (v1_1 - 1)) zF)) (.agg [.str (List.getD v1_0 (Int.toNat (v1_1 - 1)) zF).name, .int .i64 (List.getD v1_0 (Int.toNat (v1_1 - 1)) zF).v.kind, .int .i64 (List.getD v1_0 (Int.toNat (v1_1 - 1)) zF).v.n, .str (List.getD v1_0 (Int.toNat (v1_1 - 1)) zF).v.s, .sl (Val.rows (List.getD v1_0 (Int.toNat (v1_1 - 1)) zF).v.list), .sl (Fld.rows (List.getD v1_0 (Int.toNat (v1_1 - 1)) zF).v.fields)]) rfl rfl (Fld.Qf (Qu v1_0 (Int.toNat (v1_1 - 1)) zF (by omega))) (Fld.Qq v1_0) (by decide) rfl), hB 1 h1] [aN (Qnn (List.getD v1_0 (Int.toNat v1_1) zF) (List.getD v1_0 (Int.toNat (v1_1 - 1)) zF))] (by kernel_rfl)⟩
def Qh0 (_n0 : Nat) (p1 : Int) (_p2 : Int) (_v0_0 : Int) (_v1_0 : List Fld) (v1_1 : Int) : List PV :=
  [.un, .un, .un, .un, .un, .un, .un, .un, .un, .int .i64 v1_1, .un, .un, .un, .un, .un, .un, .un, .un, .int .i64 v1_1, .int .i64 p1, .bool false, .bool false, .tup [], .tup [], .tup [], .tup [], .tup [], .tup [], .tup [], .tup [], .tup [], .tup [], .tup [], .tup [], .bool false]
def Qfb (_n0 : Nat) (_p1 : Int) (_p2 : Int) (_v0_0 : Int) (_v1_0 : List Fld) (_v1_1 : Int) : List (Nat × List PV) :=
  []
theorem Qv5 (n0 : Nat) (p1 : Int) (p2 : Int) (v0_0 : Int) (v1_0 : List Fld) (v1_1 : Int) (_ho1_0 : 0 ≤ p1) (_ho1_1 : p1 ≤ v1_1) (_ho1_2 : v1_1 < n0) (_ho1_3 : (n0 : Int) ≤ 1152921504606846976) (_ho1_4 : List.length v1_0 = n0) (h0 : (decide (p1 < v1_1)) = false) : Q8q n0 p1 p2 v0_0 (Q70 n0 p1 p2 v0_0 v1_0 v1_1) v1_0 := by
 exact ⟨(envF (Qh0 n0 p1 p2 v0_0 v1_0 v1_1)), (zoF (Qfb n0 p1 p2 v0_0 v1_0 v1_1)), Qe (Qlf n0 p1 p2 v0_0 v1_0 v1_1) (x := ((.exit 2), Q7d n0 p1 p2 v0_0 v1_0 (envF (Qh0 n0 p1 p2 v0_0 v1_0 v1_1)) (zoF (Qfb n0 p1 p2 v0_0 v1_0 v1_1)))) [hB 2 h0] [] (by kernel_rfl)⟩
theorem Qqc (n0 : Nat) (p1 : Int) (p2 : Int) (v0_0 : Int) : ∀ (k1 : Nat) (v1_0 : List Fld) (v1_1 : Int), 0 ≤ p1 → p1 ≤ v1_1 → v1_1 < n0 → (n0 : Int) ≤ 1152921504606846976 → List.length v1_0 = n0 → Int.toNat v1_1 < k1 → Q8q n0 p1 p2 v0_0 (Q70 n0 p1 p2 v0_0 v1_0 v1_1) (Q2c n0 p1 p2 v0_0 k1 v1_0 v1_1)
 | 0, v1_0, v1_1, _, _, _, _, _, hm => absurd hm (Nat.not_lt_zero _)
 | k1 + 1, v1_0, v1_1, ho1_0, ho1_1, ho1_2, ho1_3, ho1_4, hm => by
  rw [Q2c]
  cases h0 : (decide (p1 < v1_1)) with
  | true =>
   have e0 := of_decide_eq_true h0
   cases h1 : (decide ((Q28 (List.getD v1_0 (Int.toNat v1_1) zF) (List.getD v1_0 (Int.toNat (v1_1 - 1)) zF)) < 0)) with
   | true =>
    have e1 := of_decide_eq_true h1
    exact Qmg n0 p1 p2 v0_0 (fun r hr => Qv9 n0 p1 p2 v0_0 v1_0 v1_1 ho1_0 ho1_1 ho1_2 ho1_3 ho1_4 h0 h1 hr) _ (Qqc n0 p1 p2 v0_0 k1 (List.set (List.set v1_0 (Int.toNat v1_1) (List.getD v1_0 (Int.toNat (v1_1 - 1)) zF)) (Int.toNat (v1_1 - 1)) (List.getD v1_0 (Int.toNat v1_1) zF)) (v1_1 - 1) (by have f0 := (Qp (Qp ho1_4 (Int.toNat v1_1) (List.getD v1_0 (Int.toNat (v1_1 - 1)) zF)) (Int.toNat (v1_1 - 1)) (List.getD v1_0 (Int.toNat v1_1) zF)); omega) (by have f0 := (Qp (Qp ho1_4 (Int.toNat v1_1) (List.getD v1_0 (Int.toNat (v1_1 - 1)) zF)) (Int.toNat (v1_1 - 1)) (List.getD v1_0 (Int.toNat v1_1) zF)); omega) (by have f0 := (Qp (Qp ho1_4 (Int.toNat v1_1) (List.getD v1_0 (Int.toNat (v1_1 - 1)) zF)) (Int.toNat (v1_1 - 1)) (List.getD v1_0 (Int.toNat v1_1) zF)); omega) (by have f0 := (Qp (Qp ho1_4 (Int.toNat v1_1) (List.getD v1_0 (Int.toNat (v1_1 - 1)) zF)) (Int.toNat (v1_1 - 1)) (List.getD v1_0 (Int.toNat v1_1) zF)); omega) (Qp (Qp ho1_4 (Int.toNat v1_1) (List.getD v1_0 (Int.toNat (v1_1 - 1)) zF)) (Int.toNat (v1_1 - 1)) (List.getD v1_0 (Int.toNat v1_1) zF)) (by have f0 := (Qp (Qp ho1_4 (Int.toNat v1_1) (List.getD v1_0 (Int.toNat (v1_1 - 1)) zF)) (Int.toNat (v1_1 - 1)) (List.getD v1_0 (Int.toNat v1_1) zF)); omega))
   | false =>
    exact Qvx n0 p1 p2 v0_0 v1_0 v1_1 ho1_0 ho1_1 ho1_2 ho1_3 ho1_4 h0 h1
  | false =>
   exact Qv5 n0 p1 p2 v0_0 v1_0 v1_1 ho1_0 ho1_1 ho1_2 ho1_3 ho1_4 h0
theorem Q2m (n0 : Nat) (p1 : Int) (p2 : Int) (v0_0 : Int) : ∀ (k1 : Nat) (v1_0 : List Fld) (v1_1 : Int), List.length v1_0 = n0 → List.length (Q2c n0 p1 p2 v0_0 k1 v1_0 v1_1) = n0
 | 0, v1_0, v1_1, ho1_4 => by rw [Q2c]; exact ho1_4
 | k1 + 1, v1_0, v1_1, ho1_4 => by
  rw [Q2c]
  cases h0 : (decide (p1 < v1_1)) with
  | true =>
   cases h1 : (decide ((Q28 (List.getD v1_0 (Int.toNat v1_1) zF) (List.getD v1_0 (Int.toNat (v1_1 - 1)) zF)) < 0)) with
   | true =>
    exact Q2m n0 p1 p2 v0_0 k1 (List.set (List.set v1_0 (Int.toNat v1_1) (List.getD v1_0 (Int.toNat (v1_1 - 1)) zF)) (Int.toNat (v1_1 - 1)) (List.getD v1_0 (Int.toNat v1_1) zF)) (v1_1 - 1) (Qp (Qp ho1_4 (Int.toNat v1_1) (List.getD v1_0 (Int.toNat (v1_1 - 1)) zF)) (Int.toNat (v1_1 - 1)) (List.getD v1_0 (Int.toNat v1_1) zF))
   | false =>
    exact ho1_4
  | false =>
   exact ho1_4
def Q2w (n0 : Nat) (p1 : Int) (p2 : Int) : Nat → Int → (List Fld) → List Fld
 | 0, _v0_0, v0_1 => v0_1
 | k0 + 1, v0_0, v0_1 =>
  bif (decide (v0_0 < p2)) then
   Q2w n0 p1 p2 k0 (v0_0 + 1) (Q2c n0 p1 p2 v0_0 ((Int.toNat v0_0) + 1) v0_1 v0_0)
  else
   v0_1
def Qo9 (n0 : Nat) (p1 : Int) (p2 : Int) (v0_0 : Int) (_v0_1 : List Fld) : List PV :=
  [.ms 0 6 0 n0, .int .i64 p1, .int .i64 p2, .fn 43 [] [], .un, .un, .un, .un, .int .i64 v0_0, .un, .un, .un, .un, .un, .un, .un, .un, .un, .un, .un, .un, .un, .un, .un, .un, .un, .un, .un, .un, .un, .un, .un, .un, .un, .un, .un, .un, .un, .un, .un, .un, .un, .un, .un, .un, .un, .un, .un, .un, .un, .un, .un, .un]
def Qf6 (_n0 : Nat) (_p1 : Int) (_p2 : Int) (_v0_0 : Int) (v0_1 : List Fld) : List Ob :=
  [⟨6, 0, false, (Fld.rows v0_1).flatten⟩]
def Qbt (n0 : Nat) (p1 : Int) (p2 : Int) (v0_0 : Int) (v0_1 : List Fld) : En := .loop 1 Ir.Qev Ir.Q149 (Qo9 n0 p1 p2 v0_0 v0_1) (Qf6 n0 p1 p2 v0_0 v0_1)
def Qiv (_n0 : Nat) (_p1 : Int) (_p2 : Int) (q0 : List Fld) (z : Nat → PV) (_zo : Nat → List PV) : St :=
  ⟨[z 0, z 1, z 2, z 3, z 4, z 5, z 6, z 7, z 8, z 9, z 10, z 11, z 12, z 13, z 14, z 15, z 16, z 17, z 18, z 19, z 20, z 21, z 22, z 23, z 24, z 25, z 26, z 27, z 28, z 29, z 30, z 31, z 32, z 33, z 34, z 35, z 36, z 37, z 38, z 39, z 40, z 41, z 42, z 43, z 44, z 45, z 46, z 47, z 48, z 49, z 50, z 51, z 52], [(0, ⟨6, 0, false, (Fld.rows q0).flatten⟩)], 193⟩
theorem Qt2 (n0 : Nat) (p1 : Int) (p2 : Int) (v0_0 : Int) (v0_1 : List Fld) : VOK (Go.Pv.look (number 0 (Qf6 n0 p1 p2 v0_0 v0_1))) [(0, Fld.rows v0_1)] := (VOK.cons (show Seen _ _ from Q43 (ob := ⟨6, 0, false, (Fld.rows v0_1).flatten⟩) (Fld.Q5 v0_1 6 rfl)) VOK.nil)
def Qbo (n0 : Nat) (p1 : Int) (p2 : Int) (e : En) (q : List Fld) : Prop := ∃ z zo, Q7 G e (.st (.exit 0) (Qiv n0 p1 p2 q z zo))
theorem Qkm (n0 : Nat) (p1 : Int) (p2 : Int) {e e' : En} (h : ∀ r, Q7 G e r → Q7 G e' r) : ∀ q, Qbo n0 p1 p2 e q → Qbo n0 p1 p2 e' q
  | _, ⟨z, zo, hz⟩ => ⟨z, zo, h _ hz⟩
theorem Quq (n0 : Nat) (p1 : Int) (p2 : Int) (v0_0 : Int) (v0_1 : List Fld) (ho0_0 : 0 ≤ p1) (ho0_1 : p1 < v0_0) (ho0_2 : p2 ≤ n0) (ho0_3 : (n0 : Int) ≤ 1152921504606846976) (ho0_4 : List.length v0_1 = n0) (h0 : (decide (v0_0 < p2)) = true) (z1 : Nat → PV) (zo1 : Nat → List PV) (hl1 : Q7 G (Q70 n0 p1 p2 v0_0 v0_1 v0_0) (.st (.exit 2) (Q7d n0 p1 p2 v0_0 (Q2c n0 p1 p2 v0_0 ((Int.toNat v0_0) + 1) v0_1 v0_0) z1 zo1))) {r : Rs} (hr : Q7 G (Qbt n0 p1 p2 (v0_0 + 1) (Q2c n0 p1 p2 v0_0 ((Int.toNat v0_0) + 1) v0_1 v0_0)) r) : Q7 G (Qbt n0 p1 p2 v0_0 v0_1) r := by
 have e0 := of_decide_eq_true h0
 exact Q9 (Qt2 n0 p1 p2 v0_0 v0_1) (y := (Qo9 n0 p1 p2 (v0_0 + 1) (Q2c n0 p1 p2 v0_0 ((Int.toNat v0_0) + 1) v0_1 v0_0), Qf6 n0 p1 p2 (v0_0 + 1) (Q2c n0 p1 p2 v0_0 ((Int.toNat v0_0) + 1) v0_1 v0_0))) [hB 2 h0, hS 0 false (Fld.Q5 (Q2c n0 p1 p2 v0_0 ((Int.toNat v0_0) + 1) v0_1 v0_0) 6 rfl), hP 3 (w_ok (v0_0 + 1) (by have f0 := (Q2m n0 p1 p2 v0_0 ((Int.toNat v0_0) + 1) v0_1 v0_0 ho0_4); omega))] [aV [(0, Fld.rows (Q2c n0 p1 p2 v0_0 ((Int.toNat v0_0) + 1) v0_1 v0_0))] hl1] (by kernel_rfl) hr
def Qjd (n0 : Nat) (p1 : Int) (p2 : Int) (v0_0 : Int) (_v0_1 : List Fld) : List PV :=
  [.ms 0 6 0 n0, .int .i64 p1, .int .i64 p2, .fn 43 [] [], .un, .un, .un, .un, .int .i64 v0_0, .un, .un, .un, .int .i64 v0_0, .int .i64 p2, .bool false]
def Qd1 (_n0 : Nat) (_p1 : Int) (_p2 : Int) (_v0_0 : Int) (_v0_1 : List Fld) : List (Nat × List PV) :=
  []
theorem Qvf (n0 : Nat) (p1 : Int) (p2 : Int) (v0_0 : Int) (v0_1 : List Fld) (_ho0_0 : 0 ≤ p1) (_ho0_1 : p1 < v0_0) (_ho0_2 : p2 ≤ n0) (_ho0_3 : (n0 : Int) ≤ 1152921504606846976) (_ho0_4 : List.length v0_1 = n0) (h0 : (decide (v0_0 < p2)) = false) : Qbo n0 p1 p2 (Qbt n0 p1 p2 v0_0 v0_1) v0_1 := by
 exact ⟨(envF (Qjd n0 p1 p2 v0_0 v0_1)), (zoF (Qd1 n0 p1 p2 v0_0 v0_1)), Qe (Qt2 n0 p1 p2 v0_0 v0_1) (x := ((.exit 0), Qiv n0 p1 p2 v0_1 (envF (Qjd n0 p1 p2 v0_0 v0_1)) (zoF (Qd1 n0 p1 p2 v0_0 v0_1)))) [hB 2 h0] [] (by kernel_rfl)⟩
theorem Qqb (n0 : Nat) (p1 : Int) (p2 : Int) : ∀ (k0 : Nat) (v0_0 : Int) (v0_1 : List Fld), 0 ≤ p1 → p1 < v0_0 → p2 ≤ n0 → (n0 : Int) ≤ 1152921504606846976 → List.length v0_1 = n0 → Int.toNat (p2 - v0_0) < k0 → Qbo n0 p1 p2 (Qbt n0 p1 p2 v0_0 v0_1) (Q2w n0 p1 p2 k0 v0_0 v0_1)
 | 0, v0_0, v0_1, _, _, _, _, _, hm => absurd hm (Nat.not_lt_zero _)
 | k0 + 1, v0_0, v0_1, ho0_0, ho0_1, ho0_2, ho0_3, ho0_4, hm => by
  rw [Q2w]
  cases h0 : (decide (v0_0 < p2)) with
  | true =>
   have e0 := of_decide_eq_true h0
   have hl1 := Qqc n0 p1 p2 v0_0 ((Int.toNat v0_0) + 1) v0_1 v0_0 (by omega) (by omega) (by omega) (by omega) ho0_4 (by omega)
   obtain ⟨z1, zo1, hl1⟩ := hl1
   exact Qkm n0 p1 p2 (fun r hr => Quq n0 p1 p2 v0_0 v0_1 ho0_0 ho0_1 ho0_2 ho0_3 ho0_4 h0 z1 zo1 hl1 hr) _ (Qqb n0 p1 p2 k0 (v0_0 + 1) (Q2c n0 p1 p2 v0_0 ((Int.toNat v0_0) + 1) v0_1 v0_0) (by have f0 := (Q2m n0 p1 p2 v0_0 ((Int.toNat v0_0) + 1) v0_1 v0_0 ho0_4); omega) (by have f0 := (Q2m n0 p1 p2 v0_0 ((Int.toNat v0_0) + 1) v0_1 v0_0 ho0_4); omega) (by have f0 := (Q2m n0 p1 p2 v0_0 ((Int.toNat v0_0) + 1) v0_1 v0_0 ho0_4); omega) (by have f0 := (Q2m n0 p1 p2 v0_0 ((Int.toNat v0_0) + 1) v0_1 v0_0 ho0_4); omega) (Q2m n0 p1 p2 v0_0 ((Int.toNat v0_0) + 1) v0_1 v0_0 ho0_4) (by have f0 := (Q2m n0 p1 p2 v0_0 ((Int.toNat v0_0) + 1) v0_1 v0_0 ho0_4); omega))
  | false =>
   exact Qvf n0 p1 p2 v0_0 v0_1 ho0_0 ho0_1 ho0_2 ho0_3 ho0_4 h0
theorem Q7s (n0 : Nat) (p1 : Int) (p2 : Int) : ∀ (k0 : Nat) (v0_0 : Int) (v0_1 : List Fld), List.length v0_1 = n0 → List.length (Q2w n0 p1 p2 k0 v0_0 v0_1) = n0
 | 0, v0_0, v0_1, ho0_4 => by rw [Q2w]; exact ho0_4
 | k0 + 1, v0_0, v0_1, ho0_4 => by
  rw [Q2w]
  cases h0 : (decide (v0_0 < p2)) with
  | true =>
   exact Q7s n0 p1 p2 k0 (v0_0 + 1) (Q2c n0 p1 p2 v0_0 ((Int.toNat v0_0) + 1) v0_1 v0_0) (Q2m n0 p1 p2 v0_0 ((Int.toNat v0_0) + 1) v0_1 v0_0 ho0_4)
  | false =>
   exact ho0_4
def Q19 (n0 : Nat) (p0 : List Fld) (p1 : Int) (p2 : Int) : List Fld :=
 (Q2w n0 p1 p2 ((Int.toNat (p2 - (p1 + 1))) + 1) (p1 + 1) p0)
def Qyn (n0 : Nat) (p0 : List Fld) (p1 : Int) (p2 : Int) : En := .call 66 [.ms 0 6 0 n0, .int .i64 p1, .int .i64 p2, .fn 43 [] []] [⟨6, 0, false, (Fld.rows p0).flatten⟩]
def Qno (n0 : Nat) (p0 : List Fld) (p1 : Int) (p2 : Int) : Rs := .ret (.tup []) [⟨6, 0, false, (Fld.rows (Q19 n0 p0 p1 p2)).flatten⟩]
theorem Qv (n0 : Nat) (p0 : List Fld) (p1 : Int) (p2 : Int) (hn : List.length p0 = n0) : List.length (Q19 n0 p0 p1 p2) = n0 := by
 unfold Q19
 have hz0_0 : List.length (Q2w n0 p1 p2 ((Int.toNat (p2 - (p1 + 1))) + 1) (p1 + 1) p0) = n0 := Q7s n0 p1 p2 ((Int.toNat (p2 - (p1 + 1))) + 1) (p1 + 1) p0 hn
 obtain ⟨R0, eR0⟩ : ∃ R, (Q2w n0 p1 p2 ((Int.toNat (p2 - (p1 + 1))) + 1) (p1 + 1) p0) = R := ⟨_, rfl⟩
 rw [eR0] at hz0_0 ⊢
 exact hz0_0
theorem Qpa (n0 : Nat) (p0 : List Fld) (p1 : Int) (p2 : Int) (hn : List.length p0 = n0) (hq0 : 0 ≤ p1 ∧ p1 ≤ p2 ∧ p2 ≤ n0 ∧ (n0 : Int) ≤ 1152921504606846976) : Q7 G (Qyn n0 p0 p1 p2) (Qno n0 p0 p1 p2) := by
 unfold Qno Q19
 have hl0 := Qqb n0 p1 p2 ((Int.toNat (p2 - (p1 + 1))) + 1) (p1 + 1) p0 (by omega) (by omega) (by omega) (by omega) hn (by omega)
 have hz0_0 : List.length (Q2w n0 p1 p2 ((Int.toNat (p2 - (p1 + 1))) + 1) (p1 + 1) p0) = n0 := Q7s n0 p1 p2 ((Int.toNat (p2 - (p1 + 1))) + 1) (p1 + 1) p0 hn
 obtain ⟨R0, eR0⟩ : ∃ R, (Q2w n0 p1 p2 ((Int.toNat (p2 - (p1 + 1))) + 1) (p1 + 1) p0) = R := ⟨_, rfl⟩
 rw [eR0] at hz0_0 hl0 ⊢
 obtain ⟨z0, zo0, hl0⟩ := hl0
 exact Q8 (fn := Ir.K1b) rfl (vk1 (Fld.Q5 p0 6 rfl)) [hP 1 (w_ok (p1 + 1) (by omega)), hS 0 false (Fld.Q5 R0 6 rfl)] [aV [(0, Fld.rows R0)] hl0] (by kernel_rfl)
def Q2y (n0 : Nat) (p1 : Int) (p2 : Int) (p3 : Int) : Nat → (List Fld) → Int → List Fld
 | 0, v0_0, _v0_1 => v0_0
 | k0 + 1, v0_0, v0_1 =>
  bif (decide (v0_1 < p3)) then
   Q2y n0 p1 p2 p3 k0 (List.set (List.set v0_0 (Int.toNat (p1 + v0_1)) (List.getD v0_0 (Int.toNat (p2 + v0_1)) zF)) (Int.toNat (p2 + v0_1)) (List.getD v0_0 (Int.toNat (p1 + v0_1)) zF)) (v0_1 + 1)
  else
   v0_0
def Qqa (n0 : Nat) (p1 : Int) (p2 : Int) (p3 : Int) (_v0_0 : List Fld) (v0_1 : Int) : List PV :=
  [.ms 0 6 0 n0, .int .i64 p1, .int .i64 p2, .int .i64 p3, .un, .un, .un, .un, .un, .un, .int .i64 v0_1, .un, .un, .un, .un, .un, .un, .un, .un, .un, .un, .un, .un, .un, .un, .un, .un, .un, .un, .un, .un, .un, .un, .un, .un, .un, .un, .un]
def Qcu (_n0 : Nat) (_p1 : Int) (_p2 : Int) (_p3 : Int) (v0_0 : List Fld) (_v0_1 : Int) : List Ob :=
  [⟨6, 0, false, (Fld.rows v0_0).flatten⟩]
def Qb5 (n0 : Nat) (p1 : Int) (p2 : Int) (p3 : Int) (v0_0 : List Fld) (v0_1 : Int) : En := .loop 1 Ir.Qdx Ir.Q147 (Qqa n0 p1 p2 p3 v0_0 v0_1) (Qcu n0 p1 p2 p3 v0_0 v0_1)
def Qgs (_n0 : Nat) (_p1 : Int) (_p2 : Int) (_p3 : Int) (q0 : List Fld) (z : Nat → PV) (_zo : Nat → List PV) : St :=
  ⟨[z 0, z 1, z 2, z 3, z 4, z 5, z 6, z 7, z 8, z 9, z 10, z 11, z 12, z 13, z 14, z 15, z 16, z 17, z 18, z 19, z 20, z 21, z 22, z 23, z 24, z 25, z 26, z 27, z 28, z 29, z 30, z 31, z 32, z 33, z 34, z 35, z 36, z 37], [(0, ⟨6, 0, false, (Fld.rows q0).flatten⟩)], 193⟩
theorem Qsy (n0 : Nat) (p1 : Int) (p2 : Int) (p3 : Int) (v0_0 : List Fld) (v0_1 : Int) : VOK (Go.Pv.look (number 0 (Qcu n0 p1 p2 p3 v0_0 v0_1))) [(0, Fld.rows v0_0)] := (VOK.cons (show Seen _ _ from Q43 (ob := ⟨6, 0, false, (Fld.rows v0_0).flatten⟩) (Fld.Q5 v0_0 6 rfl)) VOK.nil)
def Qbf (n0 : Nat) (p1 : Int) (p2 : Int) (p3 : Int) (e : En) (q : List Fld) : Prop := ∃ z zo, Q7 G e (.st (.exit 0) (Qgs n0 p1 p2 p3 q z zo))
theorem Qkn (n0 : Nat) (p1 : Int) (p2 : Int) (p3 : Int) {e e' : En} (h : ∀ r, Q7 G e r → Q7 G e' r) : ∀ q, Qbf n0 p1 p2 p3 e q → Qbf n0 p1 p2 p3 e' q
  | _, ⟨z, zo, hz⟩ => ⟨z, zo, h _ hz⟩
theorem Qxs (n0 : Nat) (p1 : Int) (p2 : Int) (p3 : Int) (v0_0 : List Fld) (v0_1 : Int) (ho0_0 : 0 ≤ v0_1) (ho0_1 : 0 ≤ p1) (ho0_2 : 0 ≤ p2) (ho0_3 : p1 + p3 ≤ n0) (ho0_4 : p2 + p3 ≤ n0) (ho0_5 : (n0 : Int) ≤ 1152921504606846976) (ho0_6 : List.length v0_0 = n0) (h0 : (decide (v0_1 < p3)) = true) {r : Rs} (hr : Q7 G (Qb5 n0 p1 p2 p3 (List.set (List.set v0_0 (Int.toNat (p1 + v0_1)) (List.getD v0_0 (Int.toNat (p2 + v0_1)) zF)) (Int.toNat (p2 + v0_1)) (List.getD v0_0 (Int.toNat (p1 + v0_1)) zF)) (v0_1 + 1)) r) : Q7 G (Qb5 n0 p1 p2 p3 v0_0 v0_1) r := by
 have e0 := of_decide_eq_true h0
 exact Q9 (Qsy n0 p1 p2 p3 v0_0 v0_1) (y := (Qqa n0 p1 p2 p3 (List.set (List.set v0_0 (Int.toNat (p1 + v0_1)) (List.getD v0_0 (Int.toNat (p2 + v0_1)) zF)) (Int.toNat (p2 + v0_1)) (List.getD v0_0 (Int.toNat (p1 + v0_1)) zF)) (v0_1 + 1), Qcu n0 p1 p2 p3 (List.set (List.set v0_0 (Int.toNat (p1 + v0_1)) (List.getD v0_0 (Int.toNat (p2 + v0_1)) zF)) (Int.toNat (p2 + v0_1)) (List.getD v0_0 (Int.toNat (p1 + v0_1)) zF)) (v0_1 + 1))) [hB 2 h0, hP 3 (w_ok (p1 + v0_1) (by omega)), hP 3 (w_ok (p2 + v0_1) (by omega)), hP 3 (w_ok (p2 + v0_1) (by omega)), hP 0 (Q1j 0 6 n0 (p2 + v0_1) (Int.toNat (p2 + v0_1)) rfl (by omega) (by omega)), hP 0 (Q33 0 6 0 false ((Fld.rows v0_0).flatten) (Fld.rows v0_0) 6 true (Int.toNat (p2 + v0_1)) 0 ((Int.toNat (p2 + v0_1)) * 6) (Fld.cells (List.getD v0_0 (Int.toNat (p2 + v0_1)) zF)) (.agg [.str (List.getD v0_0 (Int.toNat (p2 + v0_1)) zF).name, .int .i64 (List.getD v0_0 (Int.toNat (p2 + v0_1)) zF).v.kind, .int .i64 (List.getD v0_0 (Int.toNat (p2 + v0_1)) zF).v.n, .str (List.getD v0_0 (Int.toNat (p2 + v0_1)) zF).v.s, .sl (Val.rows (List.getD v0_0 (Int.toNat (p2 + v0_1)) zF).v.list), .sl (Fld.rows (List.getD v0_0 (Int.toNat (p2 + v0_1)) zF).v.fields)]) rfl rfl (Fld.Qf (Qu v0_0 (Int.toNat (p2 + v0_1)) zF (by omega))) (Fld.Qq v0_0) (by decide) rfl), hP 3 (w_ok (p1 + v0_1) (by omega)), hP 0 (Q1j 0 6 n0 (p1 + v0_1) (Int.toNat (p1 + v0_1)) rfl (by omega) (by omega)), hP 0 (Q33 0 6 0 false ((Fld.rows v0_0).flatten) (Fld.rows v0_0) 6 true (Int.toNat (p1 + v0_1)) 0 ((Int.toNat (p1 + v0_1)) * 6) (Fld.cells (List.getD v0_0 (Int.toNat (p1 + v0_1)) zF)) (.agg [.str (List.getD v0_0 (Int.toNat (p1 + v0_1)) zF).name, .int .i64 (List.getD v0_0 (Int.toNat (p1 + v0_1)) zF).v.kind, .int .i64 (List.getD v0_0 (Int.toNat (p1 + v0_1)) zF).v.n, .str (List.getD v0_0 (Int.toNat (p1 + v0_1)) zF).v.s, .sl (Val.rows (List.getD v0_0 (Int.toNat (p1 + v0_1)) zF).v.list), .sl (Fld.rows (List.getD v0_0 (Int.toNat (p1 + v0_1)) zF).v.fields)]) rfl rfl (Fld.Qf (Qu v0_0 (Int.toNat (p1 + v0_1)) zF (by omega))) (Fld.Qq v0_0) (by decide) rfl), hP 0 (Q1j 0 6 n0 (p1 + v0_1) (Int.toNat (p1 + v0_1)) rfl (by omega) (by omega)), hV 0 [(0, Fld.rows (List.set v0_0 (Int.toNat (p1 + v0_1)) (List.getD v0_0 (Int.toNat (p2 + v0_1)) zF)))] (Qd7 0 6 false ((Fld.rows v0_0).flatten) (Fld.rows v0_0) (Fld.rows (List.set v0_0 (Int.toNat (p1 + v0_1)) (List.getD v0_0 (Int.toNat (p2 + v0_1)) zF))) 6 (Int.toNat (p1 + v0_1)) 0 ((Int.toNat (p1 + v0_1)) * 6) _ (.agg [.str (List.getD v0_0 (Int.toNat (p2 + v0_1)) zF).name, .int .i64 (List.getD v0_0 (Int.toNat (p2 + v0_1)) zF).v.kind, .int .i64 (List.getD v0_0 (Int.toNat (p2 + v0_1)) zF).v.n, .str (List.getD v0_0 (Int.toNat (p2 + v0_1)) zF).v.s, .sl (Val.rows (List.getD v0_0 (Int.toNat (p2 + v0_1)) zF).v.list), .sl (Fld.rows (List.getD v0_0 (Int.toNat (p2 + v0_1)) zF).v.fields)]) rfl rfl (Fld.Qf (Qu v0_0 (Int.toNat (p1 + v0_1)) zF (by omega))) (Fld.Qq v0_0) (by decide) rfl rfl (Fld.Q4j v0_0 (Int.toNat (p1 + v0_1)) (List.getD v0_0 (Int.toNat (p2 + v0_1)) zF))), hS 0 false (Fld.Q5 (List.set v0_0 (Int.toNat (p1 + v0_1)) (List.getD v0_0 (Int.toNat (p2 + v0_1)) zF)) 6 rfl), hP 0 (Q1j 0 6 n0 (p2 + v0_1) (Int.toNat (p2 + v0_1)) rfl (by have f0 := (Qp ho0_6 (Int.toNat (p1 + v0_1)) (List.getD v0_0 (Int.toNat (p2 + v0_1)) zF)); omega) (by have f0 := (Qp ho0_6 (Int.toNat (p1 + v0_1)) (List.getD v0_0 (Int.toNat (p2 + v0_1)) zF)); omega)), hV 0 [(0, Fld.rows (List.set (List.set v0_0 (Int.toNat (p1 + v0_1)) (List.getD v0_0 (Int.toNat (p2 + v0_1)) zF)) (Int.toNat (p2 + v0_1)) (List.getD v0_0 (Int.toNat (p1 + v0_1)) zF)))] (Qd7 0 6 false ((Fld.rows (List.set v0_0 (Int.toNat (p1 + v0_1)) (List.getD v0_0 (Int.toNat (p2 + v0_1)) zF))).flatten) (Fld.rows (List.set v0_0 (Int.toNat (p1 + v0_1)) (List.getD v0_0 (Int.toNat (p2 + v0_1)) zF))) (Fld.rows (List.set (List.set v0_0 (Int.toNat (p1 + v0_1)) (List.getD v0_0 (Int.toNat (p2 + v0_1)) zF)) (Int.toNat (p2 + v0_1)) (List.getD v0_0 (Int.toNat (p1 + v0_1)) zF))) 6 (Int.toNat (p2 + v0_1)) 0 ((Int.toNat (p2 + v0_1)) * 6) _ (.agg [.str (List.getD v0_0 (Int.toNat (p1 + v0_1)) zF).name, .int .i64 (List.getD v0_0 (Int.toNat (p1 + v0_1)) zF).v.kind, .int .i64 (List.getD v0_0 (Int.toNat (p1 + v0_1)) zF).v.n, .str (List.getD v0_0 (Int.toNat (p1 + v0_1)) zF).v.s, .sl (Val.rows (List.getD v0_0 (Int.toNat (p1 + v0_1)) zF).v.list), .sl (Fld.rows (List.getD v0_0 (Int.toNat (p1 + v0_1)) zF).v.fields)]) rfl rfl (Fld.Qf (Qu (List.set v0_0 (Int.toNat (p1 + v0_1)) (List.getD v0_0 (Int.toNat (p2 + v0_1)) zF)) (Int.toNat (p2 + v0_1)) zF (by have f0 := (Qp ho0_6 (Int.toNat (p1 + v0_1)) (List.getD v0_0 (Int.toNat (p2 + v0_1)) zF)); try simp only [List.length_set]; omega))) (Fld.Qq (List.set v0_0 (Int.toNat (p1 + v0_1)) (List.getD v0_0 (Int.toNat (p2 + v0_1)) zF))) (by decide) rfl rfl (Fld.Q4j (List.set v0_0 (Int.toNat (p1 + v0_1)) (List.getD v0_0 (Int.toNat (p2 + v0_1)) zF)) (Int.toNat (p2 + v0_1)) (List.getD v0_0 (Int.toNat (p1 + v0_1)) zF))), hS 0 false (Fld.Q5 (List.set (List.set v0_0 (Int.toNat (p1 + v0_1)) (List.getD v0_0 (Int.toNat (p2 + v0_1)) zF)) (Int.toNat (p2 + v0_1)) (List.getD v0_0 (Int.toNat (p1 + v0_1)) zF)) 6 rfl), hP 1 (w_ok (v0_1 + 1) (by have f0 := (Qp (Qp ho0_6 (Int.toNat (p1 + v0_1)) (List.getD v0_0 (Int.toNat (p2 + v0_1)) zF)) (Int.toNat (p2 + v0_1)) (List.getD v0_0 (Int.toNat (p1 + v0_1)) zF)); omega))] [] (by kernel_rfl) hr
def Qjm (n0 : Nat) (p1 : Int) (p2 : Int) (p3 : Int) (_v0_0 : List Fld) (v0_1 : Int) : List PV :=
  [.ms 0 6 0 n0, .int .i64 p1, .int .i64 p2, .int .i64 p3, .un, .un, .un, .un, .un, .un, .int .i64 v0_1, .int .i64 v0_1, .int .i64 p3, .bool false]
def Qdz (_n0 : Nat) (_p1 : Int) (_p2 : Int) (_p3 : Int) (_v0_0 : List Fld) (_v0_1 : Int) : List (Nat × List PV) :=
  []
theorem Qx7 (n0 : Nat) (p1 : Int) (p2 : Int) (p3 : Int) (v0_0 : List Fld) (v0_1 : Int) (_ho0_0 : 0 ≤ v0_1) (_ho0_1 : 0 ≤ p1) (_ho0_2 : 0 ≤ p2) (_ho0_3 : p1 + p3 ≤ n0) (_ho0_4 : p2 + p3 ≤ n0) (_ho0_5 : (n0 : Int) ≤ 1152921504606846976) (_ho0_6 : List.length v0_0 = n0) (h0 : (decide (v0_1 < p3)) = false) : Qbf n0 p1 p2 p3 (Qb5 n0 p1 p2 p3 v0_0 v0_1) v0_0 := by
 exact ⟨(envF (Qjm n0 p1 p2 p3 v0_0 v0_1)), (zoF (Qdz n0 p1 p2 p3 v0_0 v0_1)), Qe (Qsy n0 p1 p2 p3 v0_0 v0_1) (x := ((.exit 0), Qgs n0 p1 p2 p3 v0_0 (envF (Qjm n0 p1 p2 p3 v0_0 v0_1)) (zoF (Qdz n0 p1 p2 p3 v0_0 v0_1)))) [hB 2 h0] [] (by kernel_rfl)⟩
theorem Qnz (n0 : Nat) (p1 : Int) (p2 : Int) (p3 : Int) : ∀ (k0 : Nat) (v0_0 : List Fld) (v0_1 : Int), 0 ≤ v0_1 → 0 ≤ p1 → 0 ≤ p2 → p1 + p3 ≤ n0 → p2 + p3 ≤ n0 → (n0 : Int) ≤ 1152921504606846976 → List.length v0_0 = n0 → Int.toNat (p3 - v0_1) < k0 → Qbf n0 p1 p2 p3 (Qb5 n0 p1 p2 p3 v0_0 v0_1) (Q2y n0 p1 p2 p3 k0 v0_0 v0_1)
 | 0, v0_0, v0_1, _, _, _, _, _, _, _, hm => absurd hm (Nat.not_lt_zero _)
 | k0 + 1, v0_0, v0_1, ho0_0, ho0_1, ho0_2, ho0_3, ho0_4, ho0_5, ho0_6, hm => by
  rw [Q2y]
  cases h0 : (decide (v0_1 < p3)) with
  | true =>
   have e0 := of_decide_eq_true h0
   exact Qkn n0 p1 p2 p3 (fun r hr => Qxs n0 p1 p2 p3 v0_0 v0_1 ho0_0 ho0_1 ho0_2 ho0_3 ho0_4 ho0_5 ho0_6 h0 hr) _ (Qnz n0 p1 p2 p3 k0 (List.set (List.set v0_0 (Int.toNat (p1 + v0_1)) (List.getD v0_0 (Int.toNat (p2 + v0_1)) zF)) (Int.toNat (p2 + v0_1)) (List.getD v0_0 (Int.toNat (p1 + v0_1)) zF)) (v0_1 + 1) (by have f0 := (Qp (Qp ho0_6 (Int.toNat (p1 + v0_1)) (List.getD v0_0 (Int.toNat (p2 + v0_1)) zF)) (Int.toNat (p2 + v0_1)) (List.getD v0_0 (Int.toNat (p1 + v0_1)) zF)); omega) (by have f0 := (Qp (Qp ho0_6 (Int.toNat (p1 + v0_1)) (List.getD v0_0 (Int.toNat (p2 + v0_1)) zF)) (Int.toNat (p2 + v0_1)) (List.getD v0_0 (Int.toNat (p1 + v0_1)) zF)); omega) (by have f0 := (Qp (Qp ho0_6 (Int.toNat (p1 + v0_1)) (List.getD v0_0 (Int.toNat (p2 + v0_1)) zF)) (Int.toNat (p2 + v0_1)) (List.getD v0_0 (Int.toNat (p1 + v0_1)) zF)); omega) (by have f0 := (Qp (Qp ho0_6 (Int.toNat (p1 + v0_1)) (List.getD v0_0 (Int.toNat (p2 + v0_1)) zF)) (Int.toNat (p2 + v0_1)) (List.getD v0_0 (Int.toNat (p1 + v0_1)) zF)); omega) (by have f0 := (Qp (Qp ho0_6 (Int.toNat (p1 + v0_1)) (List.getD v0_0 (Int.toNat (p2 + v0_1)) zF)) (Int.toNat (p2 + v0_1)) (List.getD v0_0 (Int.toNat (p1 + v0_1)) zF)); omega) (by have f0 := (Qp (Qp ho0_6 (Int.toNat (p1 + v0_1)) (List.getD v0_0 (Int.toNat (p2 + v0_1)) zF)) (Int.toNat (p2 + v0_1)) (List.getD v0_0 (Int.toNat (p1 + v0_1)) zF)); omega) (Qp (Qp ho0_6 (Int.toNat (p1 + v0_1)) (List.getD v0_0 (Int.toNat (p2 + v0_1)) zF)) (Int.toNat (p2 + v0_1)) (List.getD v0_0 (Int.toNat (p1 + v0_1)) zF)) (by have f0 := (Qp (Qp ho0_6 (Int.toNat (p1 + v0_1)) (List.getD v0_0 (Int.toNat (p2 + v0_1)) zF)) (Int.toNat (p2 + v0_1)) (List.getD v0_0 (Int.toNat (p1 + v0_1)) zF)); omega))
  | false =>
   exact Qx7 n0 p1 p2 p3 v0_0 v0_1 ho0_0 ho0_1 ho0_2 ho0_3 ho0_4 ho0_5 ho0_6 h0
theorem Q7t (n0 : Nat) (p1 : Int) (p2 : Int) (p3 : Int) : ∀ (k0 : Nat) (v0_0 : List Fld) (v0_1 : Int), List.length v0_0 = n0 → List.length (Q2y n0 p1 p2 p3 k0 v0_0 v0_1) = n0
 | 0, v0_0, v0_1, ho0_6 => by rw [Q2y]; exact ho0_6
 | k0 + 1, v0_0, v0_1, ho0_6 => by
  rw [Q2y]
  cases h0 : (decide (v0_1 < p3)) with
  | true =>
   exact Q7t n0 p1 p2 p3 k0 (List.set (List.set v0_0 (Int.toNat (p1 + v0_1)) (List.getD v0_0 (Int.toNat (p2 + v0_1)) zF)) (Int.toNat (p2 + v0_1)) (List.getD v0_0 (Int.toNat (p1 + v0_1)) zF)) (v0_1 + 1) (Qp (Qp ho0_6 (Int.toNat (p1 + v0_1)) (List.getD v0_0 (Int.toNat (p2 + v0_1)) zF)) (Int.toNat (p2 + v0_1)) (List.getD v0_0 (Int.toNat (p1 + v0_1)) zF))
  | false =>
   exact ho0_6
def Q14 (n0 : Nat) (p0 : List Fld) (p1 : Int) (p2 : Int) (p3 : Int) : List Fld :=
 (Q2y n0 p1 p2 p3 ((Int.toNat (p3 - 0)) + 1) p0 0)
def Qzk (n0 : Nat) (p0 : List Fld) (p1 : Int) (p2 : Int) (p3 : Int) : En := .call 72 [.ms 0 6 0 n0, .int .i64 p1, .int .i64 p2, .int .i64 p3, .fn 43 [] []] [⟨6, 0, false, (Fld.rows p0).flatten⟩]
def Qqz (n0 : Nat) (p0 : List Fld) (p1 : Int) (p2 : Int) (p3 : Int) : Rs := .ret (.tup []) [⟨6, 0, false, (Fld.rows (Q14 n0 p0 p1 p2 p3)).flatten⟩]
theorem Qm (n0 : Nat) (p0 : List Fld) (p1 : Int) (p2 : Int) (p3 : Int) (hn : List.length p0 = n0) : List.length (Q14 n0 p0 p1 p2 p3) = n0 := by
 unfold Q14
 have hz0_0 : List.length (Q2y n0 p1 p2 p3 ((Int.toNat (p3 - 0)) + 1) p0 0) = n0 := Q7t n0 p1 p2 p3 ((Int.toNat (p3 - 0)) + 1) p0 0 hn
 obtain ⟨R0, eR0⟩ : ∃ R, (Q2y n0 p1 p2 p3 ((Int.toNat (p3 - 0)) + 1) p0 0) = R := ⟨_, rfl⟩
 rw [eR0] at hz0_0 ⊢
 exact hz0_0
theorem Qdd (n0 : Nat) (p0 : List Fld) (p1 : Int) (p2 : Int) (p3 : Int) (hn : List.length p0 = n0) (hq0 : 0 ≤ p1 ∧ 0 ≤ p2 ∧ 0 ≤ p3 ∧ p1 + p3 ≤ n0 ∧ p2 + p3 ≤ n0 ∧ (n0 : Int) ≤ 1152921504606846976) : Q7 G (Qzk n0 p0 p1 p2 p3) (Qqz n0 p0 p1 p2 p3) := by
 unfold Qqz Q14
 have hl0 := Qnz n0 p1 p2 p3 ((Int.toNat (p3 - 0)) + 1) p0 0 (by omega) (by omega) (by omega) (by omega) (by omega) (by omega) hn (by omega)
 have hz0_0 : List.length (Q2y n0 p1 p2 p3 ((Int.toNat (p3 - 0)) + 1) p0 0) = n0 := Q7t n0 p1 p2 p3 ((Int.toNat (p3 - 0)) + 1) p0 0 hn
 obtain ⟨R0, eR0⟩ : ∃ R, (Q2y n0 p1 p2 p3 ((Int.toNat (p3 - 0)) + 1) p0 0) = R := ⟨_, rfl⟩
 rw [eR0] at hz0_0 hl0 ⊢
 obtain ⟨z0, zo0, hl0⟩ := hl0
 exact Q8 (fn := Ir.K1e) rfl (vk1 (Fld.Q5 p0 6 rfl)) [hS 0 false (Fld.Q5 R0 6 rfl)] [aV [(0, Fld.rows R0)] hl0] (by kernel_rfl)
def Q1o (n0 : Nat) (p2 : Int) : Nat → Int → Int → (List Fld) → (List Fld) × Int
 | 0, v0_0, _v0_1, v0_2 => (v0_2, v0_0)
 | k0 + 1, v0_0, v0_1, v0_2 =>
  bif (v0_0 == v0_1) then
   (v0_2, v0_0)
  else
   bif (decide (v0_1 < v0_0)) then
    Q1o n0 p2 k0 (v0_0 - v0_1) v0_1 (Q14 n0 v0_2 (p2 - v0_0) p2 v0_1)
   else
    Q1o n0 p2 k0 v0_0 (v0_1 - v0_0) (Q14 n0 v0_2 (p2 - v0_0) ((p2 + v0_1) - v0_0) v0_0)
def Qdv (n0 : Nat) (p2 : Int) (v0_0 : Int) (v0_1 : Int) (_v0_2 : List Fld) : List PV :=
  [.ms 0 6 0 n0, .un, .int .i64 p2, .un, .fn 43 [] [], .un, .un, .un, .un, .un, .int .i64 v0_0, .int .i64 v0_1, .un, .un, .un, .un, .un, .un, .un, .un, .un, .un, .un, .un, .un, .un, .un, .un, .un, .un, .un, .un, .un, .un, .un, .un, .un, .un, .un, .un, .un, .un, .un, .un, .un, .un, .un, .un, .un, .un, .un, .un, .un, .un, .un, .un, .un, .un]
def Q8w (_n0 : Nat) (_p2 : Int) (_v0_0 : Int) (_v0_1 : Int) (v0_2 : List Fld) : List Ob :=
  [⟨6, 0, false, (Fld.rows v0_2).flatten⟩]
def Q71 (n0 : Nat) (p2 : Int) (v0_0 : Int) (v0_1 : Int) (v0_2 : List Fld) : En := .loop 1 Ir.Qd3 Ir.Q14c (Qdv n0 p2 v0_0 v0_1 v0_2) (Q8w n0 p2 v0_0 v0_1 v0_2)
def Qgx (n0 : Nat) (p2 : Int) (q0 : List Fld) (q1 : Int) (z : Nat → PV) (_zo : Nat → List PV) : St :=
  ⟨[.ms 0 6 0 n0, z 1, .int .i64 p2, z 3, .fn 43 [] [], z 5, z 6, z 7, z 8, z 9, .int .i64 q1, z 11, z 12, z 13, z 14, z 15, z 16, z 17, z 18, z 19, z 20, z 21, z 22, z 23, z 24, z 25, z 26, z 27, z 28, z 29, z 30, z 31, z 32, z 33, z 34, z 35, z 36, z 37, z 38, z 39, z 40, z 41, z 42, z 43, z 44, z 45, z 46, z 47, z 48, z 49, z 50, z 51, z 52, z 53, z 54, z 55, z 56, z 57], [(0, ⟨6, 0, false, (Fld.rows q0).flatten⟩)], 193⟩
theorem Ql2 (n0 : Nat) (p2 : Int) (v0_0 : Int) (v0_1 : Int) (v0_2 : List Fld) : VOK (Go.Pv.look (number 0 (Q8w n0 p2 v0_0 v0_1 v0_2))) [(0, Fld.rows v0_2)] := (VOK.cons (show Seen _ _ from Q43 (ob := ⟨6, 0, false, (Fld.rows v0_2).flatten⟩) (Fld.Q5 v0_2 6 rfl)) VOK.nil)
def Qbs (n0 : Nat) (p2 : Int) (e : En) (q : (List Fld) × Int) : Prop := ∃ z zo, Q7 G e (.st (.exit 0) (Qgx n0 p2 q.1 q.2 z zo))
theorem Q8r (n0 : Nat) (p2 : Int) {e e' : En} (h : ∀ r, Q7 G e r → Q7 G e' r) : ∀ q, Qbs n0 p2 e q → Qbs n0 p2 e' q
  | _, ⟨z, zo, hz⟩ => ⟨z, zo, h _ hz⟩
def Qjr (_n0 : Nat) (_p2 : Int) (v0_0 : Int) (v0_1 : Int) (_v0_2 : List Fld) : List PV :=
  [.un, .un, .un, .un, .un, .un, .un, .un, .un, .un, .un, .int .i64 v0_1, .un, .un, .un, .un, .un, .un, .int .i64 v0_0, .int .i64 v0_1, .bool false]
def Qc7 (_n0 : Nat) (_p2 : Int) (_v0_0 : Int) (_v0_1 : Int) (_v0_2 : List Fld) : List (Nat × List PV) :=
  []
theorem Qxf (n0 : Nat) (p2 : Int) (v0_0 : Int) (v0_1 : Int) (v0_2 : List Fld) (_ho0_0 : 0 < v0_0) (_ho0_1 : 0 < v0_1) (_ho0_2 : v0_0 ≤ p2) (_ho0_3 : p2 + v0_1 ≤ n0) (_ho0_4 : (n0 : Int) ≤ 1152921504606846976) (_ho0_5 : List.length v0_2 = n0) (h0 : (v0_0 == v0_1) = true) : Qbs n0 p2 (Q71 n0 p2 v0_0 v0_1 v0_2) (v0_2, v0_0) := by
 exact ⟨(envF (Qjr n0 p2 v0_0 v0_1 v0_2)), (zoF (Qc7 n0 p2 v0_0 v0_1 v0_2)), Qe (Ql2 n0 p2 v0_0 v0_1 v0_2) (x := ((.exit 0), Qgx n0 p2 v0_2 v0_0 (envF (Qjr n0 p2 v0_0 v0_1 v0_2)) (zoF (Qc7 n0 p2 v0_0 v0_1 v0_2)))) [hP 2 (dec (!(v0_0 == v0_1)) false (by rw [h0]; rfl))] [] (by kernel_rfl)⟩
theorem Qwy (n0 : Nat) (p2 : Int) (v0_0 : Int) (v0_1 : Int) (v0_2 : List Fld) (ho0_0 : 0 < v0_0) (ho0_1 : 0 < v0_1) (ho0_2 : v0_0 ≤ p2) (ho0_3 : p2 + v0_1 ≤ n0) (ho0_4 : (n0 : Int) ≤ 1152921504606846976) (ho0_5 : List.length v0_2 = n0) (h0 : (v0_0 == v0_1) = false) (h1 : (decide (v0_1 < v0_0)) = true) {r : Rs} (hr : Q7 G (Q71 n0 p2 (v0_0 - v0_1) v0_1 (Q14 n0 v0_2 (p2 - v0_0) p2 v0_1)) r) : Q7 G (Q71 n0 p2 v0_0 v0_1 v0_2) r := by
 have e0 := beq_eq_false_iff_ne.1 h0; have e1 := of_decide_eq_true h1
 exact Q9 (Ql2 n0 p2 v0_0 v0_1 v0_2) (y := (Qdv n0 p2 (v0_0 - v0_1) v0_1 (Q14 n0 v0_2 (p2 - v0_0) p2 v0_1), Q8w n0 p2 (v0_0 - v0_1) v0_1 (Q14 n0 v0_2 (p2 - v0_0) p2 v0_1))) [hP 2 (dec (!(v0_0 == v0_1)) true (by rw [h0]; rfl)), hB 2 h1, hP 3 (w_ok (p2 - v0_0) (by omega)), hQ (Fld.Q5 (Q14 n0 v0_2 (p2 - v0_0) p2 v0_1) 6 rfl), hP 6 (w_ok (v0_0 - v0_1) (by have f0 := (Qm n0 v0_2 (p2 - v0_0) p2 v0_1 ho0_5); omega))] [aV [(0, Fld.rows (Q14 n0 v0_2 (p2 - v0_0) p2 v0_1))] (Qdd n0 v0_2 (p2 - v0_0) p2 v0_1 ho0_5 (by omega))] (by kernel_rfl) hr
theorem Qup (n0 : Nat) (p2 : Int) (v0_0 : Int) (v0_1 : Int) (v0_2 : List Fld) (ho0_0 : 0 < v0_0) (ho0_1 : 0 < v0_1) (ho0_2 : v0_0 ≤ p2) (ho0_3 : p2 + v0_1 ≤ n0) (ho0_4 : (n0 : Int) ≤ 1152921504606846976) (ho0_5 : List.length v0_2 = n0) (h0 : (v0_0 == v0_1) = false) (h1 : (decide (v0_1 < v0_0)) = false) {r : Rs} (hr : Q7 G (Q71 n0 p2 v0_0 (v0_1 - v0_0) (Q14 n0 v0_2 (p2 - v0_0) ((p2 + v0_1) - v0_0) v0_0)) r) : Q7 G (Q71 n0 p2 v0_0 v0_1 v0_2) r := by
 have e0 := beq_eq_false_iff_ne.1 h0; have e1 := of_decide_eq_false h1
 exact Q9 (Ql2 n0 p2 v0_0 v0_1 v0_2) (y := (Qdv n0 p2 v0_0 (v0_1 - v0_0) (Q14 n0 v0_2 (p2 - v0_0) ((p2 + v0_1) - v0_0) v0_0), Q8w n0 p2 v0_0 (v0_1 - v0_0) (Q14 n0 v0_2 (p2 - v0_0) ((p2 + v0_1) - v0_0) v0_0))) [hP 2 (dec (!(v0_0 == v0_1)) true (by rw [h0]; rfl)), hB 2 h1, hP 3 (w_ok (p2 - v0_0) (by omega)), hP 2 (w_ok (p2 + v0_1) (by omega)), hP 1 (w_ok ((p2 + v0_1) - v0_0) (by omega)), hQ (Fld.Q5 (Q14 n0 v0_2 (p2 - v0_0) ((p2 + v0_1) - v0_0) v0_0) 6 rfl), hP 5 (w_ok (v0_1 - v0_0) (by have f0 := (Qm n0 v0_2 (p2 - v0_0) ((p2 + v0_1) - v0_0) v0_0 ho0_5); omega))] [aV [(0, Fld.rows (Q14 n0 v0_2 (p2 - v0_0) ((p2 + v0_1) - v0_0) v0_0))] (Qdd n0 v0_2 (p2 - v0_0) ((p2 + v0_1) - v0_0) v0_0 ho0_5 (by omega))] (by kernel_rfl) hr
theorem Qfk (n0 : Nat) (p2 : Int) : ∀ (k0 : Nat) (v0_0 : Int) (v0_1 : Int) (v0_2 : List Fld), 0 < v0_0 → 0 < v0_1 → v0_0 ≤ p2 → p2 + v0_1 ≤ n0 → (n0 : Int) ≤ 1152921504606846976 → List.length v0_2 = n0 → Int.toNat (v0_0 + v0_1) < k0 → Qbs n0 p2 (Q71 n0 p2 v0_0 v0_1 v0_2) (Q1o n0 p2 k0 v0_0 v0_1 v0_2)
 | 0, v0_0, v0_1, v0_2, _, _, _, _, _, _, hm => absurd hm (Nat.not_lt_zero _)
 | k0 + 1, v0_0, v0_1, v0_2, ho0_0, ho0_1, ho0_2, ho0_3, ho0_4, ho0_5, hm => by
  rw [Q1o]
  cases h0 : (v0_0 == v0_1) with
  | true =>
   exact Qxf n0 p2 v0_0 v0_1 v0_2 ho0_0 ho0_1 ho0_2 ho0_3 ho0_4 ho0_5 h0
  | false =>
   have e0 := beq_eq_false_iff_ne.1 h0
   cases h1 : (decide (v0_1 < v0_0)) with
   | true =>
    have e1 := of_decide_eq_true h1
    exact Q8r n0 p2 (fun r hr => Qwy n0 p2 v0_0 v0_1 v0_2 ho0_0 ho0_1 ho0_2 ho0_3 ho0_4 ho0_5 h0 h1 hr) _ (Qfk n0 p2 k0 (v0_0 - v0_1) v0_1 (Q14 n0 v0_2 (p2 - v0_0) p2 v0_1) (by have f0 := (Qm n0 v0_2 (p2 - v0_0) p2 v0_1 ho0_5); omega) (by have f0 := (Qm n0 v0_2 (p2 - v0_0) p2 v0_1 ho0_5); omega) (by have f0 := (Qm n0 v0_2 (p2 - v0_0) p2 v0_1 ho0_5); omega) (by have f0 := (Qm n0 v0_2 (p2 - v0_0) p2 v0_1 ho0_5); omega) (by have f0 := (Qm n0 v0_2 (p2 - v0_0) p2 v0_1 ho0_5); omega) (Qm n0 v0_2 (p2 - v0_0) p2 v0_1 ho0_5) (by have f0 := (Qm n0 v0_2 (p2 - v0_0) p2 v0_1 ho0_5); omega))
   | false =>
    have e1 := of_decide_eq_false h1
    exact Q8r n0 p2 (fun r hr => Qup n0 p2 v0_0 v0_1 v0_2 ho0_0 ho0_1 ho0_2 ho0_3 ho0_4 ho0_5 h0 h1 hr) _ (Qfk n0 p2 k0 v0_0 (v0_1 - v0_0) (Q14 n0 v0_2 (p2 - v0_0) ((p2 + v0_1) - v0_0) v0_0) (by have f0 := (Qm n0 v0_2 (p2 - v0_0) ((p2 + v0_1) - v0_0) v0_0 ho0_5); omega) (by have f0 := (Qm n0 v0_2 (p2 - v0_0) ((p2 + v0_1) - v0_0) v0_0 ho0_5); omega) (by have f0 := (Qm n0 v0_2 (p2 - v0_0) ((p2 + v0_1) - v0_0) v0_0 ho0_5); omega) (by have f0 := (Qm n0 v0_2 (p2 - v0_0) ((p2 + v0_1) - v0_0) v0_0 ho0_5); omega) (by have f0 := (Qm n0 v0_2 (p2 - v0_0) ((p2 + v0_1) - v0_0) v0_0 ho0_5); omega) (Qm n0 v0_2 (p2 - v0_0) ((p2 + v0_1) - v0_0) v0_0 ho0_5) (by have f0 := (Qm n0 v0_2 (p2 - v0_0) ((p2 + v0_1) - v0_0) v0_0 ho0_5); omega))
theorem Q5l (n0 : Nat) (p2 : Int) : ∀ (k0 : Nat) (v0_0 : Int) (v0_1 : Int) (v0_2 : List Fld), List.length v0_2 = n0 → List.length (Q1o n0 p2 k0 v0_0 v0_1 v0_2).1 = n0
 | 0, v0_0, v0_1, v0_2, ho0_5 => by rw [Q1o]; exact ho0_5
 | k0 + 1, v0_0, v0_1, v0_2, ho0_5 => by
  rw [Q1o]
  cases h0 : (v0_0 == v0_1) with
  | true =>
   exact ho0_5
  | false =>
   cases h1 : (decide (v0_1 < v0_0)) with
   | true =>
    exact Q5l n0 p2 k0 (v0_0 - v0_1) v0_1 (Q14 n0 v0_2 (p2 - v0_0) p2 v0_1) (Qm n0 v0_2 (p2 - v0_0) p2 v0_1 ho0_5)
   | false =>
    exact Q5l n0 p2 k0 v0_0 (v0_1 - v0_0) (Q14 n0 v0_2 (p2 - v0_0) ((p2 + v0_1) - v0_0) v0_0) (Qm n0 v0_2 (p2 - v0_0) ((p2 + v0_1) - v0_0) v0_0 ho0_5)
theorem Qft (n0 : Nat) (p2 : Int) : ∀ (k0 : Nat) (v0_0 : Int) (v0_1 : Int) (v0_2 : List Fld), 0 < v0_0 → 0 < v0_1 → v0_0 ≤ p2 → p2 + v0_1 ≤ n0 → (n0 : Int) ≤ 1152921504606846976 → List.length v0_2 = n0 → Int.toNat (v0_0 + v0_1) < k0 → 0 < (Q1o n0 p2 k0 v0_0 v0_1 v0_2).2 ∧ (Q1o n0 p2 k0 v0_0 v0_1 v0_2).2 ≤ p2 ∧ p2 + (Q1o n0 p2 k0 v0_0 v0_1 v0_2).2 ≤ n0
 | 0, v0_0, v0_1, v0_2, _, _, _, _, _, _, hm => absurd hm (Nat.not_lt_zero _)
 | k0 + 1, v0_0, v0_1, v0_2, ho0_0, ho0_1, ho0_2, ho0_3, ho0_4, ho0_5, hm => by
  rw [Q1o]
  cases h0 : (v0_0 == v0_1) with
  | true =>
   have e0 := eq_of_beq h0
   exact (show 0 < v0_0 ∧ v0_0 ≤ p2 ∧ p2 + v0_0 ≤ n0 from ⟨(by omega), (by omega), (by omega)⟩)
  | false =>
   have e0 := beq_eq_false_iff_ne.1 h0
   cases h1 : (decide (v0_1 < v0_0)) with
   | true =>
    have e1 := of_decide_eq_true h1
    exact Qft n0 p2 k0 (v0_0 - v0_1) v0_1 (Q14 n0 v0_2 (p2 - v0_0) p2 v0_1) (by have f0 := (Qm n0 v0_2 (p2 - v0_0) p2 v0_1 ho0_5); omega) (by have f0 := (Qm n0 v0_2 (p2 - v0_0) p2 v0_1 ho0_5); omega) (by have f0 := (Qm n0 v0_2 (p2 - v0_0) p2 v0_1 ho0_5); omega) (by have f0 := (Qm n0 v0_2 (p2 - v0_0) p2 v0_1 ho0_5); omega) (by have f0 := (Qm n0 v0_2 (p2 - v0_0) p2 v0_1 ho0_5); omega) (Qm n0 v0_2 (p2 - v0_0) p2 v0_1 ho0_5) (by have f0 := (Qm n0 v0_2 (p2 - v0_0) p2 v0_1 ho0_5); omega)
   | false =>
    have e1 := of_decide_eq_false h1
    exact Qft n0 p2 k0 v0_0 (v0_1 - v0_0) (Q14 n0 v0_2 (p2 - v0_0) ((p2 + v0_1) - v0_0) v0_0) (by have f0 := (Qm n0 v0_2 (p2 - v0_0) ((p2 + v0_1) - v0_0) v0_0 ho0_5); omega) (by have f0 := (Qm n0 v0_2 (p2 - v0_0) ((p2 + v0_1) - v0_0) v0_0 ho0_5); omega) (by have f0 := (Qm n0 v0_2 (p2 - v0_0) ((p2 + v0_1) - v0_0) v0_0 ho0_5); omega) (by have f0 := (Qm n0 v0_2 (p2 - v0_0) ((p2 + v0_1) - v0_0) v0_0 ho0_5); omega) (by have f0 := (Qm n0 v0_2 (p2 - v0_0) ((p2 + v0_1) - v0_0) v0_0 ho0_5); omega) (Qm n0 v0_2 (p2 - v0_0) ((p2 + v0_1) - v0_0) v0_0 ho0_5) (by have f0 := (Qm n0 v0_2 (p2 - v0_0) ((p2 + v0_1) - v0_0) v0_0 ho0_5); omega)
def Qa (n0 : Nat) (p0 : List Fld) (p1 : Int) (p2 : Int) (p3 : Int) : List Fld :=
 (Q14 n0 (Q1o n0 p2 ((Int.toNat ((p2 - p1) + (p3 - p2))) + 1) (p2 - p1) (p3 - p2) p0).1 (p2 - (Q1o n0 p2 ((Int.toNat ((p2 - p1) + (p3 - p2))) + 1) (p2 - p1) (p3 - p2) p0).2) p2 (Q1o n0 p2 ((Int.toNat ((p2 - p1) + (p3 - p2))) + 1) (p2 - p1) (p3 - p2) p0).2)
def Q104 (n0 : Nat) (p0 : List Fld) (p1 : Int) (p2 : Int) (p3 : Int) : En := .call 71 [.ms 0 6 0 n0, .int .i64 p1, .int .i64 p2, .int .i64 p3, .fn 43 [] []] [⟨6, 0, false, (Fld.rows p0).flatten⟩]
def Qo1 (n0 : Nat) (p0 : List Fld) (p1 : Int) (p2 : Int) (p3 : Int) : Rs := .ret (.tup []) [⟨6, 0, false, (Fld.rows (Qa n0 p0 p1 p2 p3)).flatten⟩]
theorem Qg (n0 : Nat) (p0 : List Fld) (p1 : Int) (p2 : Int) (p3 : Int) (hn : List.length p0 = n0) : List.length (Qa n0 p0 p1 p2 p3) = n0 := by
 unfold Qa
 have hz0_0 : List.length (Q1o n0 p2 ((Int.toNat ((p2 - p1) + (p3 - p2))) + 1) (p2 - p1) (p3 - p2) p0).1 = n0 := Q5l n0 p2 ((Int.toNat ((p2 - p1) + (p3 - p2))) + 1) (p2 - p1) (p3 - p2) p0 hn
 obtain ⟨R1, eR1⟩ : ∃ R, (Q1o n0 p2 ((Int.toNat ((p2 - p1) + (p3 - p2))) + 1) (p2 - p1) (p3 - p2) p0) = R := ⟨_, rfl⟩
 rw [eR1] at hz0_0 ⊢
 exact (Qm n0 R1.1 (p2 - R1.2) p2 R1.2 hz0_0)
theorem Q1p (n0 : Nat) (p0 : List Fld) (p1 : Int) (p2 : Int) (p3 : Int) (hn : List.length p0 = n0) (hq0 : 0 ≤ p1 ∧ p1 < p2 ∧ p2 < p3 ∧ p3 ≤ n0 ∧ (n0 : Int) ≤ 1152921504606846976) : Q7 G (Q104 n0 p0 p1 p2 p3) (Qo1 n0 p0 p1 p2 p3) := by
 unfold Qo1 Qa
 have hl0 := Qfk n0 p2 ((Int.toNat ((p2 - p1) + (p3 - p2))) + 1) (p2 - p1) (p3 - p2) p0 (by omega) (by omega) (by omega) (by omega) (by omega) hn (by omega)
 have hz0_0 : List.length (Q1o n0 p2 ((Int.toNat ((p2 - p1) + (p3 - p2))) + 1) (p2 - p1) (p3 - p2) p0).1 = n0 := Q5l n0 p2 ((Int.toNat ((p2 - p1) + (p3 - p2))) + 1) (p2 - p1) (p3 - p2) p0 hn
 have hy0 : 0 < (Q1o n0 p2 ((Int.toNat ((p2 - p1) + (p3 - p2))) + 1) (p2 - p1) (p3 - p2) p0).2 ∧ (Q1o n0 p2 ((Int.toNat ((p2 - p1) + (p3 - p2))) + 1) (p2 - p1) (p3 - p2) p0).2 ≤ p2 ∧ p2 + (Q1o n0 p2 ((Int.toNat ((p2 - p1) + (p3 - p2))) + 1) (p2 - p1) (p3 - p2) p0).2 ≤ n0 := Qft n0 p2 ((Int.toNat ((p2 - p1) + (p3 - p2))) + 1) (p2 - p1) (p3 - p2) p0 (by omega) (by omega) (by omega) (by omega) (by omega) hn (by omega)
 obtain ⟨R1, eR1⟩ : ∃ R, (Q1o n0 p2 ((Int.toNat ((p2 - p1) + (p3 - p2))) + 1) (p2 - p1) (p3 - p2) p0) = R := ⟨_, rfl⟩
 rw [eR1] at hz0_0 hy0 hl0 ⊢
 obtain ⟨z0, zo0, hl0⟩ := hl0
 exact Q8 (fn := Ir.K1c) rfl (vk1 (Fld.Q5 p0 6 rfl)) [hP 2 (w_ok (p2 - p1) (by omega)), hP 3 (w_ok (p3 - p2) (by omega)), hS 0 false (Fld.Q5 R1.1 6 rfl), hP 4 (w_ok (p2 - R1.2) (by have g0 := hy0; omega)), hQ (Fld.Q5 (Q14 n0 R1.1 (p2 - R1.2) p2 R1.2) 6 rfl)] [aV [(0, Fld.rows R1.1)] hl0, aV [(0, Fld.rows (Q14 n0 R1.1 (p2 - R1.2) p2 R1.2))] (Qdd n0 R1.1 (p2 - R1.2) p2 R1.2 hz0_0 (by have g0 := hy0; omega))] (by kernel_rfl)
end Go.Proofs.Ytnhhddbbppbblaa
end

