/- Texts of the claim, merged by a program; what the statement does not reach is left out. -/
import Derived.Test.YtnhhddbbppbblaaBPatchMerges3

section
/- What taking fields out and copying values compute (printed by a program). -/
namespace Go.Proofs.Ytnhhddbbppbblaa
open Go.Pv
def Q13k (p0 : Val) : Val := p0
def Qsj (p0 : Val) : List Val → Nat → Unit
 | [], _i0 =>
  ()
 | _x0 :: r0, i0 =>
  Qsj p0 r0 (i0 + 1)
def Qmg (p0 : Val) (i0 : Nat) : List PV :=
  [.un, .bx 0 0, .bx 1 0, .un, .un, .un, .un, .un, .un, .un, .un, .un, .ms 2 5 0 (List.length p0.list), .int .i64 ((List.length p0.list) : Int), .int .i64 (i0 : Int), .un, .un, .un, .un, .un, .un, .un, .un, .un, .un, .un, .un, .un, .un, .un, .un, .un, .un, .un, .un, .un, .un, .un, .un, .un, .un, .un, .un, .un, .un, .un, .un, .un]
def Qdb (p0 : Val) (_i0 : Nat) : List Ob :=
  [⟨5, 0, true, [.int .i64 p0.kind, .int .i64 p0.n, .str p0.s, .ms 2 5 0 (List.length p0.list), .sl (Fld.rows p0.fields)]⟩, ⟨5, 0, true, [.int .i64 0, .int .i64 0, .str (⟨#[]⟩ : ByteArray), .ms 3 5 0 0, .ms 4 6 0 0]⟩, ⟨5, 0, true, (Val.rows p0.list).flatten⟩, ⟨5, 0, true, []⟩, ⟨6, 0, true, []⟩]
def Qbg (p0 : Val) (i0 : Nat) : En := .loop 0 Ir.Qcz Ir.Q12g (Qmg p0 i0) (Qdb p0 i0)
def Qgz (p0 : Val) (z : Nat → PV) (_zo : Nat → List PV) : St :=
  ⟨[z 0, .bx 0 0, .bx 1 0, z 3, z 4, z 5, z 6, z 7, z 8, z 9, z 10, z 11, z 12, z 13, z 14, z 15, z 16, z 17, z 18, z 19, z 20, z 21, z 22, z 23, z 24, z 25, z 26, z 27, z 28, z 29, z 30, z 31, z 32, z 33, z 34, z 35, z 36, z 37, z 38, z 39, z 40, z 41, z 42, z 43, z 44, z 45, z 46, z 47], [(0, ⟨5, 0, true, [.int .i64 p0.kind, .int .i64 p0.n, .str p0.s, .ms 2 5 0 (List.length p0.list), .sl (Fld.rows p0.fields)]⟩), (1, ⟨5, 0, true, [.int .i64 0, .int .i64 0, .str (⟨#[]⟩ : ByteArray), .ms 3 5 0 0, .ms 4 6 0 0]⟩), (2, ⟨5, 0, true, (Val.rows p0.list).flatten⟩), (3, ⟨5, 0, true, []⟩), (4, ⟨6, 0, true, []⟩)], 69⟩
theorem Qqx (p0 : Val) (i0 : Nat) : VOK (Go.Pv.look (number 0 (Qdb p0 i0))) [(2, Val.rows p0.list)] := (VOK.cons (show Seen _ _ from Q3j (ob := ⟨5, 0, true, (Val.rows p0.list).flatten⟩) (Val.Q5 p0.list 5 rfl)) VOK.nil)
def Q6t (p0 : Val) (e : En) (_q : Unit) : Prop := ∃ z zo, Q7 G e (.st (.exit 0) (Qgz p0 z zo))
theorem Qkp (p0 : Val) {e e' : En} (h : ∀ r, Q7 G e r → Q7 G e' r) : ∀ q, Q6t p0 e q → Q6t p0 e' q
  | _, ⟨z, zo, hz⟩ => ⟨z, zo, h _ hz⟩
def Qqm (p0 : Val) : List Fld → Nat → Unit
 | [], _i1 =>
  ()
 | _x1 :: r1, i1 =>
  Qqm p0 r1 (i1 + 1)
def Qoo (p0 : Val) (i1 : Nat) : List PV :=
  [.un, .bx 0 0, .bx 1 0, .un, .un, .un, .un, .un, .un, .un, .un, .un, .un, .un, .un, .un, .un, .un, .un, .un, .un, .un, .un, .un, .un, .un, .un, .un, .un, .un, .un, .ms 2 6 0 (List.length p0.fields), .int .i64 ((List.length p0.fields) : Int), .int .i64 (i1 : Int), .un, .un, .un, .un, .un, .un, .un, .un, .un, .un, .un, .un, .un, .un]
def Qbt (p0 : Val) (_i1 : Nat) : List Ob :=
  [⟨5, 0, true, [.int .i64 p0.kind, .int .i64 p0.n, .str p0.s, .ms 3 5 0 (List.length p0.list), .ms 2 6 0 (List.length p0.fields)]⟩, ⟨5, 0, true, [.int .i64 0, .int .i64 0, .str (⟨#[]⟩ : ByteArray), .ms 4 5 0 0, .ms 5 6 0 0]⟩, ⟨6, 0, true, (Fld.rows p0.fields).flatten⟩, ⟨5, 0, true, (Val.rows p0.list).flatten⟩, ⟨5, 0, true, []⟩, ⟨6, 0, true, []⟩]
def Qb7 (p0 : Val) (i1 : Nat) : En := .loop 0 Ir.Qcc Ir.Q12c (Qoo p0 i1) (Qbt p0 i1)
def Qie (p0 : Val) (z : Nat → PV) (_zo : Nat → List PV) : St :=
  ⟨[z 0, .bx 0 0, .bx 1 0, z 3, z 4, z 5, z 6, z 7, z 8, z 9, z 10, z 11, z 12, z 13, z 14, z 15, z 16, z 17, z 18, z 19, z 20, z 21, z 22, z 23, z 24, z 25, z 26, z 27, z 28, z 29, z 30, z 31, z 32, z 33, z 34, z 35, z 36, z 37, z 38, z 39, z 40, z 41, z 42, z 43, z 44, z 45, z 46, z 47], [(0, ⟨5, 0, true, [.int .i64 p0.kind, .int .i64 p0.n, .str p0.s, .ms 3 5 0 (List.length p0.list), .ms 2 6 0 (List.length p0.fields)]⟩), (1, ⟨5, 0, true, [.int .i64 0, .int .i64 0, .str (⟨#[]⟩ : ByteArray), .ms 4 5 0 0, .ms 5 6 0 0]⟩), (2, ⟨6, 0, true, (Fld.rows p0.fields).flatten⟩), (3, ⟨5, 0, true, (Val.rows p0.list).flatten⟩), (4, ⟨5, 0, true, []⟩), (5, ⟨6, 0, true, []⟩)], 70⟩
theorem Qsr (p0 : Val) (i1 : Nat) : VOK (Go.Pv.look (number 0 (Qbt p0 i1))) [(2, Fld.rows p0.fields), (3, Val.rows p0.list)] := (VOK.cons (show Seen _ _ from Q3j (ob := ⟨6, 0, true, (Fld.rows p0.fields).flatten⟩) (Fld.Q5 p0.fields 6 rfl)) (VOK.cons (show Seen _ _ from Q3j (ob := ⟨5, 0, true, (Val.rows p0.list).flatten⟩) (Val.Q5 p0.list 5 rfl)) VOK.nil))
def Q6w (p0 : Val) (e : En) (_q : Unit) : Prop := ∃ z zo, Q7 G e (.st (.exit 2) (Qie p0 z zo))
theorem Qjk (p0 : Val) {e e' : En} (h : ∀ r, Q7 G e r → Q7 G e' r) : ∀ q, Q6w p0 e q → Q6w p0 e' q
  | _, ⟨z, zo, hz⟩ => ⟨z, zo, h _ hz⟩
theorem Q17b (p0 : Val) : Q13k p0 = (p0) := by
  rfl
def Q10c (p0 : Val) : En := .call 45 [.agg (Val.cells p0)] []
def Qyu (p0 : Val) : Rs := .ret (.agg (Val.cells (Q13k p0))) []
abbrev Qch (p0 : Val) : Prop := Val.Sm 1000000000 p0
def Q7f (p0 : Val) : Prop := ∀ (q : Val), SizeOf.sizeOf q < SizeOf.sizeOf p0 → Qch q → Q7 G (Q10c q) (Qyu q)
def Qaq (p0 : Val) : Prop := (List.length p0.list ≤ 4611686018427387904) ∧ (∀ x0 ∈ p0.list, Qch x0) ∧ True
def Qbh (p0 : Val) : Prop := (List.length p0.fields ≤ 4611686018427387904) ∧ (∀ x1 ∈ p0.fields, Qch x1.v) ∧ True
theorem Qbe (p0 : Val) (H : Qch p0) : (List.length p0.list * 80 ≤ 140737488355328) ∧ (Qaq p0) ∧ (List.length p0.fields * 96 ≤ 140737488355328) ∧ (Qbh p0) ∧ True := by
  obtain ⟨h1, h2, h3, h4⟩ := H.all
  exact ⟨by omega, ⟨by omega, h3, trivial⟩, by omega, ⟨by omega, h4, trivial⟩, trivial⟩
def Qi6 (p0 : Val) (i0 : Nat) : List PV :=
  [.un, .un, .un, .un, .un, .un, .un, .un, .un, .un, .un, .un, .ms 2 5 0 (List.length p0.list), .int .i64 ((List.length p0.list) : Int), .int .i64 (i0 : Int), .bool false]
def Qbz (_p0 : Val) (_i0 : Nat) : List (Nat × List PV) :=
  []
theorem Qsu (p0 : Val) (_H : Qaq p0) (_rec : Q7f p0) (i0 : Nat) (hc0 : (decide ((i0 : Int) < ((List.length p0.list) : Int))) = false) : Q6t p0 (Qbg p0 i0) () := by
 exact ⟨(envF (Qi6 p0 i0)), (zoF (Qbz p0 i0)), Qe (Qqx p0 i0) (x := ((.exit 0), Qgz p0 (envF (Qi6 p0 i0)) (zoF (Qbz p0 i0)))) [hB 0 hc0] [] (by kernel_rfl)⟩
theorem Quf (p0 : Val) (H : Qaq p0) (rec : Q7f p0) (x0 : Val) (i0 : Nat) (hx0 : p0.list[i0]? = some x0) (hi0 : i0 < List.length p0.list) (hc0 : (decide ((i0 : Int) < ((List.length p0.list) : Int))) = true) {r : Rs} (hr : Q7 G (Qbg p0 (i0 + 1)) r) : Q7 G (Qbg p0 i0) r := by
 have hB0 := H.1
 exact Qa (Qqx p0 i0) (y := (Qmg p0 (i0 + 1), Qdb p0 (i0 + 1))) [hB 0 hc0, hP 1 (Q1i 2 5 (List.length p0.list) (i0 : Int) i0 (by omega) (by omega) (by omega)), hP 0 (Q2y 2 5 0 true ((Val.rows p0.list).flatten) (Val.rows p0.list) 5 true i0 0 (i0 * 5) (Val.cells x0) (.agg [.int .i64 x0.kind, .int .i64 x0.n, .str x0.s, .sl (Val.rows x0.list), .sl (Fld.rows x0.fields)]) rfl rfl (Val.Qf hx0) (Val.Ql p0.list) (by decide) rfl), hP 8 (Q1i 2 5 (List.length p0.list) (i0 : Int) i0 (by omega) (by omega) (by omega)), hV 0 [(2, Val.rows p0.list)] (Qdz 2 5 true ((Val.rows p0.list).flatten) (Val.rows p0.list) (Val.rows p0.list) 5 i0 0 (i0 * 5) _ (.agg [.int .i64 x0.kind, .int .i64 x0.n, .str x0.s, .sl (Val.rows x0.list), .sl (Fld.rows x0.fields)]) rfl rfl (Val.Qf hx0) (Val.Ql p0.list) (by decide) rfl rfl (Qxt (Val.Qf hx0))), hS 0 true (Val.Q5 p0.list 5 rfl), hP 0 (Qs i0 (by omega))] [aN (rec x0 (szL hx0) (H.2.1 x0 (Q1f hx0)))] (by kernel_rfl) hr
theorem Qmk (p0 : Val) (H : Qaq p0) (rec : Q7f p0) : ∀ (r0 : List Val) (i0 : Nat), List.drop i0 p0.list = r0 → Q6t p0 (Qbg p0 i0) (Qsj p0 r0 i0)
 | [], i0, hd => by
  have hc0 : (decide ((i0 : Int) < ((List.length p0.list) : Int))) = false := by have := Q1m hd; simp; omega
  show Q6t p0 _ ()
  exact Qsu p0 H rec i0 hc0
 | x0 :: r0, i0, hd => by
  obtain ⟨hx0, hi0, hd'⟩ := Q18 hd
  have hc0 : (decide ((i0 : Int) < ((List.length p0.list) : Int))) = true := by simp; omega
  show Q6t p0 _ ()
  exact Qkp p0 (fun r hr => Quf p0 H rec x0 i0 hx0 hi0 hc0 hr) _ (Qmk p0 H rec r0 (i0 + 1) hd')
def Qhe (p0 : Val) (i1 : Nat) : List PV :=
  [.un, .un, .un, .un, .un, .un, .un, .un, .un, .un, .un, .un, .un, .un, .un, .un, .un, .un, .un, .un, .un, .un, .un, .un, .un, .un, .un, .un, .un, .un, .un, .ms 2 6 0 (List.length p0.fields), .int .i64 ((List.length p0.fields) : Int), .int .i64 (i1 : Int), .bool false]
def Qbv (_p0 : Val) (_i1 : Nat) : List (Nat × List PV) :=
  []
theorem Qvt (p0 : Val) (_H : Qbh p0) (_rec : Q7f p0) (i1 : Nat) (hc1 : (decide ((i1 : Int) < ((List.length p0.fields) : Int))) = false) : Q6w p0 (Qb7 p0 i1) () := by
 exact ⟨(envF (Qhe p0 i1)), (zoF (Qbv p0 i1)), Qe (Qsr p0 i1) (x := ((.exit 2), Qie p0 (envF (Qhe p0 i1)) (zoF (Qbv p0 i1)))) [hB 0 hc1] [] (by kernel_rfl)⟩
theorem Qvz (p0 : Val) (H : Qbh p0) (rec : Q7f p0) (x1 : Fld) (i1 : Nat) (hx1 : p0.fields[i1]? = some x1) (hi1 : i1 < List.length p0.fields) (hc1 : (decide ((i1 : Int) < ((List.length p0.fields) : Int))) = true) {r : Rs} (hr : Q7 G (Qb7 p0 (i1 + 1)) r) : Q7 G (Qb7 p0 i1) r := by
 have hB0 := H.1
 exact Qa (Qsr p0 i1) (y := (Qoo p0 (i1 + 1), Qbt p0 (i1 + 1))) [hB 0 hc1, hP 1 (Q1i 2 6 (List.length p0.fields) (i1 : Int) i1 (by omega) (by omega) (by omega)), hP 0 (Q2y 2 6 0 true ((Fld.rows p0.fields).flatten) (Fld.rows p0.fields) 6 true i1 0 (i1 * 6) (Fld.cells x1) (.agg [.str x1.name, .int .i64 x1.v.kind, .int .i64 x1.v.n, .str x1.v.s, .sl (Val.rows x1.v.list), .sl (Fld.rows x1.v.fields)]) rfl rfl (Fld.Qf hx1) (Fld.Ql p0.fields) (by decide) rfl), hP 9 (Q1i 2 6 (List.length p0.fields) (i1 : Int) i1 (by omega) (by omega) (by omega)), hV 1 [(2, Fld.rows p0.fields)] (Qdz 2 6 true ((Fld.rows p0.fields).flatten) (Fld.rows p0.fields) (Fld.rows p0.fields) 5 i1 1 (i1 * 6 + 1) _ (.agg [.int .i64 x1.v.kind, .int .i64 x1.v.n, .str x1.v.s, .sl (Val.rows x1.v.list), .sl (Fld.rows x1.v.fields)]) rfl rfl (Fld.Qf hx1) (Fld.Ql p0.fields) (by decide) rfl rfl (Qxt (Fld.Qf hx1))), hS 0 true (Fld.Q5 p0.fields 6 rfl), hP 0 (Qs i1 (by omega))] [aN (rec x1.v (szF hx1) (H.2.1 x1 (Q1f hx1)))] (by kernel_rfl) hr
theorem Qp1 (p0 : Val) (H : Qbh p0) (rec : Q7f p0) : ∀ (r1 : List Fld) (i1 : Nat), List.drop i1 p0.fields = r1 → Q6w p0 (Qb7 p0 i1) (Qqm p0 r1 i1)
 | [], i1, hd => by
  have hc1 : (decide ((i1 : Int) < ((List.length p0.fields) : Int))) = false := by have := Q1m hd; simp; omega
  show Q6w p0 _ ()
  exact Qvt p0 H rec i1 hc1
 | x1 :: r1, i1, hd => by
  obtain ⟨hx1, hi1, hd'⟩ := Q18 hd
  have hc1 : (decide ((i1 : Int) < ((List.length p0.fields) : Int))) = true := by simp; omega
  show Q6w p0 _ ()
  exact Qjk p0 (fun r hr => Qvz p0 H rec x1 i1 hx1 hi1 hc1 hr) _ (Qp1 p0 H rec r1 (i1 + 1) hd')
theorem Q16w (p0 : Val) (H : Qch p0) (rec : Q7f p0) : Q7 G (Q10c p0) (Qyu p0) := by
  unfold Qyu
  rw [Q17b]
  have hl0 := Qmk p0 ((Qbe p0 H).2.1) rec p0.list 0 (by simp)
  obtain ⟨z0, zo0, hl0⟩ := hl0
  have hl1 := Qp1 p0 ((Qbe p0 H).2.2.2.1) rec p0.fields 0 (by simp)
  obtain ⟨z1, zo1, hl1⟩ := hl1
  exact Q9 (fn := Ir.K1r) rfl VOK.nil [hQ (Val.Q5 p0.list 5 rfl), hS 0 true (Val.Q5 p0.list 5 rfl), hQ (Fld.Q5 p0.fields 6 rfl), hS 0 true (Fld.Q5 p0.fields 6 rfl), hS 0 true (Val.Q5 p0.list 5 rfl), hQ (Val.Qd p0.list).symm, hQ (Fld.Qd p0.fields).symm] [aV [(0, Val.rows p0.list)] (Q5c (G := G) (f := 55) (sz := 5) (bytes := 80) rfl (Val.Qd p0.list) (Val.Q5 p0.list 5 rfl) (Qbe p0 H).1), aV [(2, Val.rows p0.list)] hl0, aV [(0, Fld.rows p0.fields)] (Q5c (G := G) (f := 41) (sz := 6) (bytes := 96) rfl (Fld.Qd p0.fields) (Fld.Q5 p0.fields 6 rfl) (Qbe p0 H).2.2.1), aV [(2, Fld.rows p0.fields), (3, Val.rows p0.list)] hl1] (by kernel_rfl)
theorem Q144 : ∀ (k : Nat) (p0 : Val), SizeOf.sizeOf p0 < k → Qch p0 → Q7 G (Q10c p0) (Qyu p0)
  | 0, _, h, _ => absurd h (Nat.not_lt_zero _)
  | k + 1, p0, h, H => Q16w p0 H (fun q hq hH => Q144 k q (by omega) hH)
theorem Q11q (p0 : Val) (H : Qch p0) : Q7 G (Q10c p0) (Qyu p0) := Q144 _ p0 (Nat.lt_succ_self _) H
mutual
def s_Kj (p0 : Val) : Val :=
 (Val.mk p0.kind p0.n p0.s (Q2e p0 p0.list 0 []) (Q4d p0 p0.fields 0 []))
termination_by SizeOf.sizeOf p0
decreasing_by all_goals first | exact Val.Q25 _ | exact Val.Q1g _ | exact Q2c _ _ | exact Q24 _ _ | exact Q1r _ _
def Q2e (p0 : Val) : List Val → Nat → (List Val) → List Val
 | [], _i0, v0_1 =>
  v0_1
 | x0 :: r0, i0, v0_1 =>
  Q2e p0 r0 (i0 + 1) (v0_1 ++ [(s_Kj x0)])
termination_by l => SizeOf.sizeOf l
decreasing_by all_goals first | exact Val.Q25 _ | exact Val.Q1g _ | exact Q2c _ _ | exact Q24 _ _ | exact Q1r _ _
def Q4d (p0 : Val) : List Fld → Nat → (List Fld) → List Fld
 | [], _i1, v1_1 =>
  v1_1
 | x1 :: r1, i1, v1_1 =>
  Q4d p0 r1 (i1 + 1) (v1_1 ++ [(Fld.mk x1.name (s_Kj x1.v))])
termination_by l => SizeOf.sizeOf l
decreasing_by all_goals first | exact Val.Q25 _ | exact Val.Q1g _ | exact Q2c _ _ | exact Q24 _ _ | exact Q1r _ _
end
def Qr5 (_p0 : Val) (i0 : Nat) (_v0_1 : List Val) : List PV :=
  [.un, .bx 0 0, .bx 1 0, .bx 2 0, .int .i64 (i0 : Int), .un, .un, .un, .un, .un, .un, .un, .un, .un, .un, .un, .un, .un, .un, .un, .un, .un, .un, .un, .un, .un, .un, .un, .un, .un, .un, .un, .un, .un, .un, .un, .un, .un, .un, .un, .un, .un, .un, .un, .un, .un, .un, .un, .un, .un, .un, .un, .un, .un, .un, .un, .un, .un]
def Ql6 (p0 : Val) (_i0 : Nat) (v0_1 : List Val) : List Ob :=
  [⟨5, 0, true, [.int .i64 p0.kind, .int .i64 p0.n, .str p0.s, .sl (Val.rows p0.list), .sl (Fld.rows p0.fields)]⟩, ⟨5, 0, true, [.int .i64 0, .int .i64 0, .str (⟨#[]⟩ : ByteArray), .ms 3 5 0 0, .ms 4 6 0 0]⟩, ⟨5, 0, true, [.int .i64 p0.kind, .int .i64 p0.n, .str p0.s, .ms 5 5 0 (List.length v0_1), .ms 6 6 0 0]⟩, ⟨5, 0, true, []⟩, ⟨6, 0, true, []⟩, ⟨5, 0, true, (Val.rows v0_1).flatten⟩, ⟨6, 0, true, []⟩]
def Ql9 (p0 : Val) (i0 : Nat) (v0_1 : List Val) : En := .loop 0 Ir.Qi4 Ir.Q13q (Qr5 p0 i0 v0_1) (Ql6 p0 i0 v0_1)
def Qmd (p0 : Val) (q0 : List Val) (z : Nat → PV) (_zo : Nat → List PV) : St :=
  ⟨[z 0, .bx 0 0, .bx 1 0, .bx 2 0, z 4, z 5, z 6, z 7, z 8, z 9, z 10, z 11, z 12, z 13, z 14, z 15, z 16, z 17, z 18, z 19, z 20, z 21, z 22, z 23, z 24, z 25, z 26, z 27, z 28, z 29, z 30, z 31, z 32, z 33, z 34, z 35, z 36, z 37, z 38, z 39, z 40, z 41, z 42, z 43, z 44, z 45, z 46, z 47, z 48, z 49, z 50, z 51, z 52, z 53, z 54, z 55, z 56, z 57], [(0, ⟨5, 0, true, [.int .i64 p0.kind, .int .i64 p0.n, .str p0.s, .sl (Val.rows p0.list), .sl (Fld.rows p0.fields)]⟩), (1, ⟨5, 0, true, [.int .i64 0, .int .i64 0, .str (⟨#[]⟩ : ByteArray), .ms 3 5 0 0, .ms 4 6 0 0]⟩), (2, ⟨5, 0, true, [.int .i64 p0.kind, .int .i64 p0.n, .str p0.s, .ms 5 5 0 (List.length q0), .ms 6 6 0 0]⟩), (3, ⟨5, 0, true, []⟩), (4, ⟨6, 0, true, []⟩), (5, ⟨5, 0, true, (Val.rows q0).flatten⟩), (6, ⟨6, 0, true, []⟩)], 327⟩
theorem Qwb (p0 : Val) (i0 : Nat) (v0_1 : List Val) : VOK (Go.Pv.look (number 0 (Ql6 p0 i0 v0_1))) [(5, Val.rows v0_1)] := (VOK.cons (show Seen _ _ from Q3j (ob := ⟨5, 0, true, (Val.rows v0_1).flatten⟩) (Val.Q5 v0_1 5 rfl)) VOK.nil)
def Qki (p0 : Val) (e : En) (q : List Val) : Prop := ∃ z zo, Q7 G e (.st (.exit 0) (Qmd p0 q z zo))
theorem Qom (p0 : Val) {e e' : En} (h : ∀ r, Q7 G e r → Q7 G e' r) : ∀ q, Qki p0 e q → Qki p0 e' q
  | _, ⟨z, zo, hz⟩ => ⟨z, zo, h _ hz⟩
def Qqo (_p0 : Val) (i1 : Nat) (_v1_1 : List Fld) : List PV :=
  [.un, .bx 0 0, .bx 1 0, .bx 2 0, .un, .int .i64 (i1 : Int), .un, .un, .un, .un, .un, .un, .un, .un, .un, .un, .un, .un, .un, .un, .un, .un, .un, .un, .un, .un, .un, .un, .un, .un, .un, .un, .un, .un, .un, .un, .un, .un, .un, .un, .un, .un, .un, .un, .un, .un, .un, .un, .un, .un, .un, .un, .un, .un, .un, .un, .un, .un]
def Qjb (p0 : Val) (_i1 : Nat) (v1_1 : List Fld) : List Ob :=
  [⟨5, 0, true, [.int .i64 p0.kind, .int .i64 p0.n, .str p0.s, .sl (Val.rows p0.list), .sl (Fld.rows p0.fields)]⟩, ⟨5, 0, true, [.int .i64 0, .int .i64 0, .str (⟨#[]⟩ : ByteArray), .ms 3 5 0 0, .ms 4 6 0 0]⟩, ⟨5, 0, true, [.int .i64 p0.kind, .int .i64 p0.n, .str p0.s, .ms 5 5 0 (List.length (Q2e p0 p0.list 0 [])), .ms 6 6 0 (List.length v1_1)]⟩, ⟨5, 0, true, []⟩, ⟨6, 0, true, []⟩, ⟨5, 0, true, (Val.rows (Q2e p0 p0.list 0 [])).flatten⟩, ⟨6, 0, true, (Fld.rows v1_1).flatten⟩]
def Qks (p0 : Val) (i1 : Nat) (v1_1 : List Fld) : En := .loop 0 Ir.Qix Ir.Q15k (Qqo p0 i1 v1_1) (Qjb p0 i1 v1_1)
def Qm8 (p0 : Val) (q0 : List Fld) (z : Nat → PV) (_zo : Nat → List PV) : St :=
  ⟨[z 0, z 1, .bx 1 0, .bx 2 0, z 4, z 5, z 6, z 7, z 8, z 9, z 10, z 11, z 12, z 13, z 14, z 15, z 16, z 17, z 18, z 19, z 20, z 21, z 22, z 23, z 24, z 25, z 26, z 27, z 28, z 29, z 30, z 31, z 32, z 33, z 34, z 35, z 36, z 37, z 38, z 39, z 40, z 41, z 42, z 43, z 44, z 45, z 46, z 47, z 48, z 49, z 50, z 51, z 52, z 53, z 54, z 55, z 56, z 57], [(0, ⟨5, 0, true, [.int .i64 p0.kind, .int .i64 p0.n, .str p0.s, .sl (Val.rows p0.list), .sl (Fld.rows p0.fields)]⟩), (1, ⟨5, 0, true, [.int .i64 0, .int .i64 0, .str (⟨#[]⟩ : ByteArray), .ms 3 5 0 0, .ms 4 6 0 0]⟩), (2, ⟨5, 0, true, [.int .i64 p0.kind, .int .i64 p0.n, .str p0.s, .ms 5 5 0 (List.length (Q2e p0 p0.list 0 [])), .ms 6 6 0 (List.length q0)]⟩), (3, ⟨5, 0, true, []⟩), (4, ⟨6, 0, true, []⟩), (5, ⟨5, 0, true, (Val.rows (Q2e p0 p0.list 0 [])).flatten⟩), (6, ⟨6, 0, true, (Fld.rows q0).flatten⟩)], 327⟩
theorem Qyi (p0 : Val) (i1 : Nat) (v1_1 : List Fld) : VOK (Go.Pv.look (number 0 (Qjb p0 i1 v1_1))) [(5, Val.rows (Q2e p0 p0.list 0 [])), (6, Fld.rows v1_1)] := (VOK.cons (show Seen _ _ from Q3j (ob := ⟨5, 0, true, (Val.rows (Q2e p0 p0.list 0 [])).flatten⟩) (Val.Q5 (Q2e p0 p0.list 0 []) 5 rfl)) (VOK.cons (show Seen _ _ from Q3j (ob := ⟨6, 0, true, (Fld.rows v1_1).flatten⟩) (Fld.Q5 v1_1 6 rfl)) VOK.nil))
def Qkt (p0 : Val) (e : En) (q : List Fld) : Prop := ∃ z zo, Q7 G e (.st (.exit 2) (Qm8 p0 q z zo))
theorem Qpa (p0 : Val) {e e' : En} (h : ∀ r, Q7 G e r → Q7 G e' r) : ∀ q, Qkt p0 e q → Qkt p0 e' q
  | _, ⟨z, zo, hz⟩ => ⟨z, zo, h _ hz⟩
def c_Kj (p0 : Val) : En := .call 36 [.agg (Val.cells p0)] []
def a_Kj (p0 : Val) : Rs := .ret (.agg (Val.cells (s_Kj p0))) []
abbrev H_Kj (p0 : Val) : Prop := Val.Sm 1000000000 p0
def Qew (p0 : Val) : Prop := ∀ (q : Val), SizeOf.sizeOf q < SizeOf.sizeOf p0 → H_Kj q → Q7 G (c_Kj q) (a_Kj q)
def Qkz (p0 : Val) : Prop := (List.length p0.list ≤ 137438953472) ∧ (∀ x0 ∈ p0.list, H_Kj x0) ∧ True
def Qjq (p0 : Val) : Prop := (List.length p0.fields ≤ 137438953472) ∧ (∀ x1 ∈ p0.fields, H_Kj x1.v) ∧ True
theorem Qye (p0 : Val) (H : H_Kj p0) : (Qkz p0) ∧ (Qjq p0) ∧ True := by
  obtain ⟨h1, h2, h3, h4⟩ := H.all
  exact ⟨⟨by omega, h3, trivial⟩, ⟨by omega, h4, trivial⟩, trivial⟩
def Qmc (p0 : Val) (i0 : Nat) (_v0_1 : List Val) : List PV :=
  [.un, .un, .un, .un, .int .i64 (i0 : Int), .un, .un, .un, .un, .un, .un, .un, .un, .int .i64 (i0 : Int), .bx 0 3, .sl (Val.rows p0.list), .int .i64 ((List.length p0.list) : Int), .bool false]
def Qin (_p0 : Val) (_i0 : Nat) (_v0_1 : List Val) : List (Nat × List PV) :=
  []
theorem Qxu (p0 : Val) (_H : Qkz p0) (_rec : Qew p0) (i0 : Nat) (v0_1 : List Val) (_ho0_0 : List.length v0_1 ≤ i0) (hc0 : (decide ((i0 : Int) < ((List.length p0.list) : Int))) = false) : Qki p0 (Ql9 p0 i0 v0_1) v0_1 := by
 exact ⟨(envF (Qmc p0 i0 v0_1)), (zoF (Qin p0 i0 v0_1)), Qe (Qwb p0 i0 v0_1) (x := ((.exit 0), Qmd p0 v0_1 (envF (Qmc p0 i0 v0_1)) (zoF (Qin p0 i0 v0_1)))) [hP 3 (Qj (Val.rows p0.list) (List.length p0.list) (Val.Qd p0.list)), hB 0 hc0] [] (by kernel_rfl)⟩
theorem Qy5 (p0 : Val) (H : Qkz p0) (rec : Qew p0) (x0 : Val) (i0 : Nat) (v0_1 : List Val) (hx0 : p0.list[i0]? = some x0) (hi0 : i0 < List.length p0.list) (ho0_0 : List.length v0_1 ≤ i0) (hc0 : (decide ((i0 : Int) < ((List.length p0.list) : Int))) = true) {r : Rs} (hr : Q7 G (Ql9 p0 (i0 + 1) (v0_1 ++ [(s_Kj x0)])) r) : Q7 G (Ql9 p0 i0 v0_1) r := by
 have hB0 := H.1
 exact Qa (Qwb p0 i0 v0_1) (y := (Qr5 p0 (i0 + 1) (v0_1 ++ [(s_Kj x0)]), Ql6 p0 (i0 + 1) (v0_1 ++ [(s_Kj x0)]))) [hP 3 (Qj (Val.rows p0.list) (List.length p0.list) (Val.Qd p0.list)), hB 0 hc0, hP 5 (Q1h 5 (Val.rows p0.list) i0 _ (Val.Qf hx0) rfl), hV 3 [(903, Val.rows (v0_1 ++ [(s_Kj x0)]))] (Qbr 5 839 903 5 80 0 0 true (Val.rows v0_1) (Val.rows (v0_1 ++ [(s_Kj x0)])) (Val.cells (s_Kj x0)) (List.length v0_1) (List.length (v0_1 ++ [(s_Kj x0)])) rfl (Val.Qd v0_1).symm (Val.Qd (v0_1 ++ [(s_Kj x0)])).symm (Val.Q2l v0_1 (s_Kj x0)) (Val.Ql v0_1) rfl (by omega)), hS 0 true (Val.Q5 (v0_1 ++ [(s_Kj x0)]) 5 rfl), hP 3 (Qs i0 (by omega))] [aN (rec x0 (szL hx0) (H.2.1 x0 (Q1f hx0)))] (by kernel_rfl) hr
theorem Qqp (p0 : Val) (H : Qkz p0) (rec : Qew p0) : ∀ (r0 : List Val) (i0 : Nat) (v0_1 : List Val), List.drop i0 p0.list = r0 → List.length v0_1 ≤ i0 → Qki p0 (Ql9 p0 i0 v0_1) (Q2e p0 r0 i0 v0_1)
 | [], i0, v0_1, hd, ho0_0 => by
  have hc0 : (decide ((i0 : Int) < ((List.length p0.list) : Int))) = false := by have := Q1m hd; simp; omega
  rw [Q2e]
  exact Qxu p0 H rec i0 v0_1 ho0_0 hc0
 | x0 :: r0, i0, v0_1, hd, ho0_0 => by
  obtain ⟨hx0, hi0, hd'⟩ := Q18 hd
  have hc0 : (decide ((i0 : Int) < ((List.length p0.list) : Int))) = true := by simp; omega
  rw [Q2e]
  exact Qom p0 (fun r hr => Qy5 p0 H rec x0 i0 v0_1 hx0 hi0 ho0_0 hc0 hr) _ (Qqp p0 H rec r0 (i0 + 1) (v0_1 ++ [(s_Kj x0)]) hd' (by first | omega | (simp; omega)))
def Qmt (p0 : Val) (i1 : Nat) (_v1_1 : List Fld) : List PV :=
  [.un, .bx 0 0, .un, .un, .un, .int .i64 (i1 : Int), .un, .un, .un, .un, .un, .un, .un, .un, .un, .un, .un, .un, .un, .un, .un, .un, .un, .un, .un, .un, .un, .un, .un, .un, .un, .int .i64 (i1 : Int), .bx 0 4, .sl (Fld.rows p0.fields), .int .i64 ((List.length p0.fields) : Int), .bool false]
def Qga (_p0 : Val) (_i1 : Nat) (_v1_1 : List Fld) : List (Nat × List PV) :=
  []
theorem Qxv (p0 : Val) (_H : Qjq p0) (_rec : Qew p0) (i1 : Nat) (v1_1 : List Fld) (_ho1_0 : List.length v1_1 ≤ i1) (hc1 : (decide ((i1 : Int) < ((List.length p0.fields) : Int))) = false) : Qkt p0 (Qks p0 i1 v1_1) v1_1 := by
 exact ⟨(envF (Qmt p0 i1 v1_1)), (zoF (Qga p0 i1 v1_1)), Qe (Qyi p0 i1 v1_1) (x := ((.exit 2), Qm8 p0 v1_1 (envF (Qmt p0 i1 v1_1)) (zoF (Qga p0 i1 v1_1)))) [hP 3 (Qj (Fld.rows p0.fields) (List.length p0.fields) (Fld.Qd p0.fields)), hB 0 hc1] [] (by kernel_rfl)⟩
theorem Qzn (p0 : Val) (H : Qjq p0) (rec : Qew p0) (x1 : Fld) (i1 : Nat) (v1_1 : List Fld) (hx1 : p0.fields[i1]? = some x1) (hi1 : i1 < List.length p0.fields) (ho1_0 : List.length v1_1 ≤ i1) (hc1 : (decide ((i1 : Int) < ((List.length p0.fields) : Int))) = true) {r : Rs} (hr : Q7 G (Qks p0 (i1 + 1) (v1_1 ++ [(Fld.mk x1.name (s_Kj x1.v))])) r) : Q7 G (Qks p0 i1 v1_1) r := by
 have hB0 := H.1
 exact Qa (Qyi p0 i1 v1_1) (y := (Qqo p0 (i1 + 1) (v1_1 ++ [(Fld.mk x1.name (s_Kj x1.v))]), Qjb p0 (i1 + 1) (v1_1 ++ [(Fld.mk x1.name (s_Kj x1.v))]))) [hP 3 (Qj (Fld.rows p0.fields) (List.length p0.fields) (Fld.Qd p0.fields)), hB 0 hc1, hP 5 (Q1h 6 (Fld.rows p0.fields) i1 _ (Fld.Qf hx1) rfl), hP 5 (Q1h 6 (Fld.rows p0.fields) i1 _ (Fld.Qf hx1) rfl), hV 5 [(1415, Fld.rows (v1_1 ++ [(Fld.mk x1.name (s_Kj x1.v))]))] (Qbr 6 1351 1415 6 96 0 0 true (Fld.rows v1_1) (Fld.rows (v1_1 ++ [(Fld.mk x1.name (s_Kj x1.v))])) (Fld.cells (Fld.mk x1.name (s_Kj x1.v))) (List.length v1_1) (List.length (v1_1 ++ [(Fld.mk x1.name (s_Kj x1.v))])) rfl (Fld.Qd v1_1).symm (Fld.Qd (v1_1 ++ [(Fld.mk x1.name (s_Kj x1.v))])).symm (Fld.Q2l v1_1 (Fld.mk x1.name (s_Kj x1.v))) (Fld.Ql v1_1) rfl (by omega)), hS 0 true (Fld.Q5 (v1_1 ++ [(Fld.mk x1.name (s_Kj x1.v))]) 6 rfl), hP 3 (Qs i1 (by omega))] [aN (rec x1.v (szF hx1) (H.2.1 x1 (Q1f hx1)))] (by kernel_rfl) hr
theorem Qrs (p0 : Val) (H : Qjq p0) (rec : Qew p0) : ∀ (r1 : List Fld) (i1 : Nat) (v1_1 : List Fld), List.drop i1 p0.fields = r1 → List.length v1_1 ≤ i1 → Qkt p0 (Qks p0 i1 v1_1) (Q4d p0 r1 i1 v1_1)
 | [], i1, v1_1, hd, ho1_0 => by
  have hc1 : (decide ((i1 : Int) < ((List.length p0.fields) : Int))) = false := by have := Q1m hd; simp; omega
  rw [Q4d]
  exact Qxv p0 H rec i1 v1_1 ho1_0 hc1
 | x1 :: r1, i1, v1_1, hd, ho1_0 => by
  obtain ⟨hx1, hi1, hd'⟩ := Q18 hd
  have hc1 : (decide ((i1 : Int) < ((List.length p0.fields) : Int))) = true := by simp; omega
  rw [Q4d]
  exact Qpa p0 (fun r hr => Qzn p0 H rec x1 i1 v1_1 hx1 hi1 ho1_0 hc1 hr) _ (Qrs p0 H rec r1 (i1 + 1) (v1_1 ++ [(Fld.mk x1.name (s_Kj x1.v))]) hd' (by first | omega | (simp; omega)))
theorem r_Kj (p0 : Val) (H : H_Kj p0) (rec : Qew p0) : Q7 G (c_Kj p0) (a_Kj p0) := by
  unfold a_Kj
  rw [s_Kj]
  have hl0 := Qqp p0 ((Qye p0 H).1) rec p0.list 0 [] (by simp) (by simp)
  obtain ⟨z0, zo0, hl0⟩ := hl0
  have hl1 := Qrs p0 ((Qye p0 H).2.1) rec p0.fields 0 [] (by simp) (by simp)
  obtain ⟨z1, zo1, hl1⟩ := hl1
  exact Q9 (fn := Ir.Kj) rfl VOK.nil [hS 0 true (Val.Q5 (Q2e p0 p0.list 0 []) 5 rfl), hS 0 true (Val.Q5 (Q2e p0 p0.list 0 []) 5 rfl), hS 0 true (Fld.Q5 (Q4d p0 p0.fields 0 []) 6 rfl), hQ (Val.Qd (Q2e p0 p0.list 0 [])).symm, hQ (Fld.Qd (Q4d p0 p0.fields 0 [])).symm] [aV [(5, Val.rows (Q2e p0 p0.list 0 []))] hl0, aV [(5, Val.rows (Q2e p0 p0.list 0 [])), (6, Fld.rows (Q4d p0 p0.fields 0 []))] hl1] (by kernel_rfl)
theorem i_Kj : ∀ (k : Nat) (p0 : Val), SizeOf.sizeOf p0 < k → H_Kj p0 → Q7 G (c_Kj p0) (a_Kj p0)
  | 0, _, h, _ => absurd h (Nat.not_lt_zero _)
  | k + 1, p0, h, H => r_Kj p0 H (fun q hq hH => i_Kj k q (by omega) hH)
theorem t_Kj (p0 : Val) (H : H_Kj p0) : Q7 G (c_Kj p0) (a_Kj p0) := i_Kj _ p0 (Nat.lt_succ_self _) H
inductive Qr0 where
  | k0
  | k1 (q0 : Val)
def Q4l (p0 : Val) (p1 : ByteArray) : List Fld → Nat → Qr0
 | [], _i0 =>
  (.k0)
 | x0 :: r0, i0 =>
  bif (sEq x0.name p1) then
   (.k1 x0.v)
  else
   Q4l p0 p1 r0 (i0 + 1)
def Qnw (p0 : Val) (p1 : ByteArray) (i0 : Nat) : List PV :=
  [.un, .str p1, .un, .un, .bx 0 0, .un, .un, .un, .un, .un, .un, .un, .sl (Fld.rows p0.fields), .int .i64 ((List.length p0.fields) : Int), .int .i64 (i0 : Int), .un, .un, .un, .un, .un, .un, .un, .un, .un, .un, .un, .un]
def Qlt (_p0 : Val) (_p1 : ByteArray) (_i0 : Nat) : List Ob :=
  [⟨5, 0, true, [.int .i64 0, .int .i64 0, .str (⟨#[]⟩ : ByteArray), .ms 1 5 0 0, .ms 2 6 0 0]⟩, ⟨5, 0, true, []⟩, ⟨6, 0, true, []⟩]
def Q8d (p0 : Val) (p1 : ByteArray) (i0 : Nat) : En := .loop 0 Ir.Qe9 Ir.Q128 (Qnw p0 p1 i0) (Qlt p0 p1 i0)
def Qgc (_p0 : Val) (_p1 : ByteArray) (z : Nat → PV) (_zo : Nat → List PV) : St :=
  ⟨[z 0, z 1, z 2, z 3, .bx 0 0, z 5, z 6, z 7, z 8, z 9, z 10, z 11, z 12, z 13, z 14, z 15, z 16, z 17, z 18, z 19, z 20, z 21, z 22, z 23, z 24, z 25, z 26], [(0, ⟨5, 0, true, [.int .i64 0, .int .i64 0, .str (⟨#[]⟩ : ByteArray), .ms 1 5 0 0, .ms 2 6 0 0]⟩), (1, ⟨5, 0, true, []⟩), (2, ⟨6, 0, true, []⟩)], 67⟩
def Qfw (_p0 : Val) (_p1 : ByteArray) (q0 : Val) (z : Nat → PV) (zo : Nat → List PV) : St :=
  ⟨[z 0, z 1, z 2, z 3, .bx 0 0, .bool true, z 6, z 7, z 8, z 9, z 10, z 11, z 12, z 13, z 14, z 15, z 16, z 17, z 18, z 19, z 20, z 21, z 22, z 23, z 24, z 25, z 26], [(0, ⟨5, 0, true, [.int .i64 q0.kind, .int .i64 q0.n, .str q0.s, .sl (Val.rows q0.list), .sl (Fld.rows q0.fields)]⟩), (1, ⟨5, 0, true, zo 1⟩), (2, ⟨6, 0, true, zo 2⟩), (195, ⟨6, 0, true, zo 195⟩)], 899⟩
def Q8x (p0 : Val) (p1 : ByteArray) (e : En) : Qr0 → Prop
  | .k0 => ∃ z zo, Q7 G e (.st (.exit 0) (Qgc p0 p1 z zo))
  | .k1 q0 => ∃ z zo, Q7 G e (.st .ret (Qfw p0 p1 q0 z zo))
theorem Ql7 (p0 : Val) (p1 : ByteArray) {e e' : En} (h : ∀ r, Q7 G e r → Q7 G e' r) : ∀ q, Q8x p0 p1 e q → Q8x p0 p1 e' q
  | .k0, ⟨z, zo, hz⟩ => ⟨z, zo, h _ hz⟩
  | .k1 _, ⟨z, zo, hz⟩ => ⟨z, zo, h _ hz⟩
def Q7u (p0 : Val) (_p1 : ByteArray) : Prop := (List.length p0.fields ≤ 4611686018427387904) ∧ (∀ x0 ∈ p0.fields, Qch x0.v) ∧ True
def Qhk (p0 : Val) (p1 : ByteArray) (i0 : Nat) : List PV :=
  [.un, .str p1, .un, .un, .un, .un, .un, .un, .un, .un, .un, .un, .sl (Fld.rows p0.fields), .int .i64 ((List.length p0.fields) : Int), .int .i64 (i0 : Int), .bool false]
def Qdq (_p0 : Val) (_p1 : ByteArray) (_i0 : Nat) : List (Nat × List PV) :=
  []
theorem Qu1 (p0 : Val) (p1 : ByteArray) (_H : Q7u p0 p1) (i0 : Nat) (hc0 : (decide ((i0 : Int) < ((List.length p0.fields) : Int))) = false) : Q8x p0 p1 (Q8d p0 p1 i0) (.k0) := by
 exact ⟨(envF (Qhk p0 p1 i0)), (zoF (Qdq p0 p1 i0)), Qe VOK.nil (x := ((.exit 0), Qgc p0 p1 (envF (Qhk p0 p1 i0)) (zoF (Qdq p0 p1 i0)))) [hB 0 hc0] [] (by kernel_rfl)⟩
def Qim (p0 : Val) (p1 : ByteArray) (i0 : Nat) (x0 : Fld) : List PV :=
  [.un, .str p1, .un, .un, .un, .un, .un, .bx 195 0, .un, .un, .un, .un, .sl (Fld.rows p0.fields), .int .i64 ((List.length p0.fields) : Int), .int .i64 (i0 : Int), .bool true, .rf [.str x0.name, .int .i64 x0.v.kind, .int .i64 x0.v.n, .str x0.v.s, .sl (Val.rows x0.v.list), .sl (Fld.rows x0.v.fields)], .agg [.str x0.name, .int .i64 x0.v.kind, .int .i64 x0.v.n, .str x0.v.s, .sl (Val.rows x0.v.list), .sl (Fld.rows x0.v.fields)], .bx 195 0, .str x0.name, .str p1, .bool true, .bx 195 1, .agg [.int .i64 x0.v.kind, .int .i64 x0.v.n, .str x0.v.s, .sl (Val.rows x0.v.list), .sl (Fld.rows x0.v.fields)], .agg [.int .i64 x0.v.kind, .int .i64 x0.v.n, .str x0.v.s, .sl (Val.rows x0.v.list), .sl (Fld.rows x0.v.fields)]]
def Qey (_p0 : Val) (_p1 : ByteArray) (_i0 : Nat) (x0 : Fld) : List (Nat × List PV) :=
  [(1, []), (2, []), (195, [.str x0.name, .int .i64 x0.v.kind, .int .i64 x0.v.n, .str x0.v.s, .sl (Val.rows x0.v.list), .sl (Fld.rows x0.v.fields)])]
theorem Qve (p0 : Val) (p1 : ByteArray) (H : Q7u p0 p1) (x0 : Fld) (i0 : Nat) (hx0 : p0.fields[i0]? = some x0) (_hi0 : i0 < List.length p0.fields) (hc0 : (decide ((i0 : Int) < ((List.length p0.fields) : Int))) = true) (h0 : (sEq x0.name p1) = true) : Q8x p0 p1 (Q8d p0 p1 i0) (.k1 x0.v) := by
 exact ⟨(envF (Qim p0 p1 i0 x0)), (zoF (Qey p0 p1 i0 x0)), Qe VOK.nil (x := (.ret, Qfw p0 p1 x0.v (envF (Qim p0 p1 i0 x0)) (zoF (Qey p0 p1 i0 x0)))) [hB 0 hc0, hP 0 (Q1h 6 (Fld.rows p0.fields) i0 _ (Fld.Qf hx0) rfl), hB 6 h0] [aN (Q11q x0.v (H.2.1 x0 (Q1f hx0)))] (by kernel_rfl)⟩
theorem Quw (p0 : Val) (p1 : ByteArray) (H : Q7u p0 p1) (x0 : Fld) (i0 : Nat) (hx0 : p0.fields[i0]? = some x0) (hi0 : i0 < List.length p0.fields) (hc0 : (decide ((i0 : Int) < ((List.length p0.fields) : Int))) = true) (h0 : (sEq x0.name p1) = false) {r : Rs} (hr : Q7 G (Q8d p0 p1 (i0 + 1)) r) : Q7 G (Q8d p0 p1 i0) r := by
 have hB0 := H.1
 exact Qa VOK.nil (y := (Qnw p0 p1 (i0 + 1), Qlt p0 p1 (i0 + 1))) [hB 0 hc0, hP 0 (Q1h 6 (Fld.rows p0.fields) i0 _ (Fld.Qf hx0) rfl), hB 6 h0, hP 0 (Qs i0 (by omega))] [] (by kernel_rfl) hr
theorem Qny (p0 : Val) (p1 : ByteArray) (H : Q7u p0 p1) : ∀ (r0 : List Fld) (i0 : Nat), List.drop i0 p0.fields = r0 → Q8x p0 p1 (Q8d p0 p1 i0) (Q4l p0 p1 r0 i0)
 | [], i0, hd => by
  have hc0 : (decide ((i0 : Int) < ((List.length p0.fields) : Int))) = false := by have := Q1m hd; simp; omega
  rw [Q4l]
  exact Qu1 p0 p1 H i0 hc0
 | x0 :: r0, i0, hd => by
  obtain ⟨hx0, hi0, hd'⟩ := Q18 hd
  have hc0 : (decide ((i0 : Int) < ((List.length p0.fields) : Int))) = true := by simp; omega
  rw [Q4l]
  cases h0 : (sEq x0.name p1) with
  | true =>
   exact Qve p0 p1 H x0 i0 hx0 hi0 hc0 h0
  | false =>
   exact Ql7 p0 p1 (fun r hr => Quw p0 p1 H x0 i0 hx0 hi0 hc0 h0 hr) _ (Qny p0 p1 H r0 (i0 + 1) hd')
def Q62 (p0 : Val) (p1 : ByteArray) : Val × Bool :=
 bif (p0.kind == 5) then
  (match (Q4l p0 p1 p0.fields 0) with
  | .k0 => ((Val.mk 0 0 (⟨#[]⟩ : ByteArray) [] []), false)
  | .k1 y1_0 => (y1_0, true))
 else
  ((Val.mk 0 0 (⟨#[]⟩ : ByteArray) [] []), false)
def Q16i (p0 : Val) (p1 : ByteArray) : En := .call 29 [.agg (Val.cells p0), .str p1] []
def Q14e (p0 : Val) (p1 : ByteArray) : Rs := .ret (.tup [.agg (Val.cells (Q62 p0 p1).1), .bool (Q62 p0 p1).2]) []
def Q11d (p0 : Val) (p1 : ByteArray) : Prop := (Q7u p0 p1) ∧ True
theorem Q168 (p0 : Val) (p1 : ByteArray) (H : Q11d p0 p1) : Q7 G (Q16i p0 p1) (Q14e p0 p1) := by
 unfold Q14e Q62
 cases h0 : (p0.kind == 5) with
 | true =>
  have hl1 := Qny p0 p1 (H.1) p0.fields 0 (by simp)
  cases hr1 : (Q4l p0 p1 p0.fields 0) with
  | k0 =>
   rw [hr1] at hl1
   obtain ⟨z1, zo1, hl1⟩ := hl1
   exact Q9 (fn := Ir.K1k) rfl VOK.nil [hB 5 h0, hP 2 (Qj (Fld.rows p0.fields) (List.length p0.fields) (Fld.Qd p0.fields))] [aN hl1] (by kernel_rfl)
  | k1 y1_0 =>
   rw [hr1] at hl1
   obtain ⟨z1, zo1, hl1⟩ := hl1
   exact Q9 (fn := Ir.K1k) rfl VOK.nil [hB 5 h0, hP 2 (Qj (Fld.rows p0.fields) (List.length p0.fields) (Fld.Qd p0.fields))] [aN hl1] (by kernel_rfl)
 | false =>
  exact Q9 (fn := Ir.K1k) rfl VOK.nil [hB 5 h0] [] (by kernel_rfl)
inductive Q109 where
  | k0
  | k1 (q0 : Val)
def Q64 (p0 : Val) (p1 : ByteArray) : List Fld → Nat → Q109
 | [], _i0 =>
  (.k0)
 | x0 :: r0, i0 =>
  bif (sEq x0.name p1) then
   (.k1 (s_Kj x0.v))
  else
   Q64 p0 p1 r0 (i0 + 1)
def Qsl (_p0 : Val) (p1 : ByteArray) (i0 : Nat) : List PV :=
  [.un, .str p1, .bx 0 0, .un, .bx 1 0, .un, .int .i64 (i0 : Int), .un, .un, .un, .un, .un, .un, .un, .un, .un, .un, .un, .un, .un, .un, .un, .un, .un, .un, .un, .un, .un, .un, .un, .un, .un, .un]
def Qqk (p0 : Val) (_p1 : ByteArray) (_i0 : Nat) : List Ob :=
  [⟨5, 0, true, [.int .i64 p0.kind, .int .i64 p0.n, .str p0.s, .sl (Val.rows p0.list), .sl (Fld.rows p0.fields)]⟩, ⟨5, 0, true, [.int .i64 0, .int .i64 0, .str (⟨#[]⟩ : ByteArray), .ms 2 5 0 0, .ms 3 6 0 0]⟩, ⟨5, 0, true, []⟩, ⟨6, 0, true, []⟩]
def Qcv (p0 : Val) (p1 : ByteArray) (i0 : Nat) : En := .loop 0 Ir.Qh5 Ir.Q14m (Qsl p0 p1 i0) (Qqk p0 p1 i0)
def Qlj (p0 : Val) (_p1 : ByteArray) (z : Nat → PV) (_zo : Nat → List PV) : St :=
  ⟨[z 0, z 1, z 2, z 3, .bx 1 0, z 5, z 6, z 7, z 8, z 9, z 10, z 11, z 12, z 13, z 14, z 15, z 16, z 17, z 18, z 19, z 20, z 21, z 22, z 23, z 24, z 25, z 26, z 27, z 28, z 29, z 30, z 31, z 32], [(0, ⟨5, 0, true, [.int .i64 p0.kind, .int .i64 p0.n, .str p0.s, .sl (Val.rows p0.list), .sl (Fld.rows p0.fields)]⟩), (1, ⟨5, 0, true, [.int .i64 0, .int .i64 0, .str (⟨#[]⟩ : ByteArray), .ms 2 5 0 0, .ms 3 6 0 0]⟩), (2, ⟨5, 0, true, []⟩), (3, ⟨6, 0, true, []⟩)], 324⟩
def Qna (_p0 : Val) (_p1 : ByteArray) (q0 : Val) (z : Nat → PV) (zo : Nat → List PV) : St :=
  ⟨[z 0, z 1, z 2, z 3, .bx 1 0, .bool true, z 6, z 7, z 8, z 9, z 10, z 11, z 12, z 13, z 14, z 15, z 16, z 17, z 18, z 19, z 20, z 21, z 22, z 23, z 24, z 25, z 26, z 27, z 28, z 29, z 30, z 31, z 32], [(0, ⟨5, 0, true, zo 0⟩), (1, ⟨5, 0, true, [.int .i64 q0.kind, .int .i64 q0.n, .str q0.s, .sl (Val.rows q0.list), .sl (Fld.rows q0.fields)]⟩), (2, ⟨5, 0, true, zo 2⟩), (3, ⟨6, 0, true, zo 3⟩)], 1412⟩
def Qc8 (p0 : Val) (p1 : ByteArray) (e : En) : Q109 → Prop
  | .k0 => ∃ z zo, Q7 G e (.st (.exit 0) (Qlj p0 p1 z zo))
  | .k1 q0 => ∃ z zo, Q7 G e (.st .ret (Qna p0 p1 q0 z zo))
theorem Qnn (p0 : Val) (p1 : ByteArray) {e e' : En} (h : ∀ r, Q7 G e r → Q7 G e' r) : ∀ q, Qc8 p0 p1 e q → Qc8 p0 p1 e' q
  | .k0, ⟨z, zo, hz⟩ => ⟨z, zo, h _ hz⟩
  | .k1 _, ⟨z, zo, hz⟩ => ⟨z, zo, h _ hz⟩
def Qer (p0 : Val) (_p1 : ByteArray) : Prop := (List.length p0.fields ≤ 4611686018427387904) ∧ (∀ x0 ∈ p0.fields, H_Kj x0.v) ∧ True
def Qop (p0 : Val) (p1 : ByteArray) (i0 : Nat) : List PV :=
  [.un, .str p1, .bx 0 0, .un, .un, .un, .int .i64 (i0 : Int), .un, .un, .un, .int .i64 (i0 : Int), .bx 0 4, .sl (Fld.rows p0.fields), .int .i64 ((List.length p0.fields) : Int), .bool false]
def Qi1 (_p0 : Val) (_p1 : ByteArray) (_i0 : Nat) : List (Nat × List PV) :=
  []
theorem Qze (p0 : Val) (p1 : ByteArray) (_H : Qer p0 p1) (i0 : Nat) (hc0 : (decide ((i0 : Int) < ((List.length p0.fields) : Int))) = false) : Qc8 p0 p1 (Qcv p0 p1 i0) (.k0) := by
 exact ⟨(envF (Qop p0 p1 i0)), (zoF (Qi1 p0 p1 i0)), Qe VOK.nil (x := ((.exit 0), Qlj p0 p1 (envF (Qop p0 p1 i0)) (zoF (Qi1 p0 p1 i0)))) [hP 3 (Qj (Fld.rows p0.fields) (List.length p0.fields) (Fld.Qd p0.fields)), hB 0 hc0] [] (by kernel_rfl)⟩
def Qov (p0 : Val) (p1 : ByteArray) (i0 : Nat) (x0 : Fld) : List PV :=
  [.un, .str p1, .bx 0 0, .un, .un, .un, .int .i64 (i0 : Int), .un, .un, .un, .int .i64 (i0 : Int), .bx 0 4, .sl (Fld.rows p0.fields), .int .i64 ((List.length p0.fields) : Int), .bool true, .un, .un, .bx 0 4, .sl (Fld.rows p0.fields), .int .i64 (i0 : Int), .rf [.str x0.name, .int .i64 x0.v.kind, .int .i64 x0.v.n, .str x0.v.s, .sl (Val.rows x0.v.list), .sl (Fld.rows x0.v.fields)], .rf [.str x0.name, .int .i64 x0.v.kind, .int .i64 x0.v.n, .str x0.v.s, .sl (Val.rows x0.v.list), .sl (Fld.rows x0.v.fields)], .str x0.name, .str p1, .bool true, .bx 0 4, .sl (Fld.rows p0.fields), .int .i64 (i0 : Int), .rf [.str x0.name, .int .i64 x0.v.kind, .int .i64 x0.v.n, .str x0.v.s, .sl (Val.rows x0.v.list), .sl (Fld.rows x0.v.fields)], .rf [.int .i64 x0.v.kind, .int .i64 x0.v.n, .str x0.v.s, .sl (Val.rows x0.v.list), .sl (Fld.rows x0.v.fields)], .agg [.int .i64 x0.v.kind, .int .i64 x0.v.n, .str x0.v.s, .sl (Val.rows x0.v.list), .sl (Fld.rows x0.v.fields)], .agg [.int .i64 (s_Kj x0.v).kind, .int .i64 (s_Kj x0.v).n, .str (s_Kj x0.v).s, .sl (Val.rows (s_Kj x0.v).list), .sl (Fld.rows (s_Kj x0.v).fields)]]
def Qiq (p0 : Val) (_p1 : ByteArray) (_i0 : Nat) (_x0 : Fld) : List (Nat × List PV) :=
  [(0, [.int .i64 p0.kind, .int .i64 p0.n, .str p0.s, .sl (Val.rows p0.list), .sl (Fld.rows p0.fields)]), (2, []), (3, [])]
theorem Qym (p0 : Val) (p1 : ByteArray) (H : Qer p0 p1) (x0 : Fld) (i0 : Nat) (hx0 : p0.fields[i0]? = some x0) (_hi0 : i0 < List.length p0.fields) (hc0 : (decide ((i0 : Int) < ((List.length p0.fields) : Int))) = true) (h0 : (sEq x0.name p1) = true) : Qc8 p0 p1 (Qcv p0 p1 i0) (.k1 (s_Kj x0.v)) := by
 exact ⟨(envF (Qov p0 p1 i0 x0)), (zoF (Qiq p0 p1 i0 x0)), Qe VOK.nil (x := (.ret, Qna p0 p1 (s_Kj x0.v) (envF (Qov p0 p1 i0 x0)) (zoF (Qiq p0 p1 i0 x0)))) [hP 3 (Qj (Fld.rows p0.fields) (List.length p0.fields) (Fld.Qd p0.fields)), hB 0 hc0, hP 3 (Q1h 6 (Fld.rows p0.fields) i0 _ (Fld.Qf hx0) rfl), hB 3 h0, hP 3 (Q1h 6 (Fld.rows p0.fields) i0 _ (Fld.Qf hx0) rfl)] [aN (t_Kj x0.v (H.2.1 x0 (Q1f hx0)))] (by kernel_rfl)⟩
theorem Qwi (p0 : Val) (p1 : ByteArray) (H : Qer p0 p1) (x0 : Fld) (i0 : Nat) (hx0 : p0.fields[i0]? = some x0) (hi0 : i0 < List.length p0.fields) (hc0 : (decide ((i0 : Int) < ((List.length p0.fields) : Int))) = true) (h0 : (sEq x0.name p1) = false) {r : Rs} (hr : Q7 G (Qcv p0 p1 (i0 + 1)) r) : Q7 G (Qcv p0 p1 i0) r := by
 have hB0 := H.1
 exact Qa VOK.nil (y := (Qsl p0 p1 (i0 + 1), Qqk p0 p1 (i0 + 1))) [hP 3 (Qj (Fld.rows p0.fields) (List.length p0.fields) (Fld.Qd p0.fields)), hB 0 hc0, hP 3 (Q1h 6 (Fld.rows p0.fields) i0 _ (Fld.Qf hx0) rfl), hB 3 h0, hP 1 (Qs i0 (by omega))] [] (by kernel_rfl) hr
theorem Qql (p0 : Val) (p1 : ByteArray) (H : Qer p0 p1) : ∀ (r0 : List Fld) (i0 : Nat), List.drop i0 p0.fields = r0 → Qc8 p0 p1 (Qcv p0 p1 i0) (Q64 p0 p1 r0 i0)
 | [], i0, hd => by
  have hc0 : (decide ((i0 : Int) < ((List.length p0.fields) : Int))) = false := by have := Q1m hd; simp; omega
  rw [Q64]
  exact Qze p0 p1 H i0 hc0
 | x0 :: r0, i0, hd => by
  obtain ⟨hx0, hi0, hd'⟩ := Q18 hd
  have hc0 : (decide ((i0 : Int) < ((List.length p0.fields) : Int))) = true := by simp; omega
  rw [Q64]
  cases h0 : (sEq x0.name p1) with
  | true =>
   exact Qym p0 p1 H x0 i0 hx0 hi0 hc0 h0
  | false =>
   exact Qnn p0 p1 (fun r hr => Qwi p0 p1 H x0 i0 hx0 hi0 hc0 h0 hr) _ (Qql p0 p1 H r0 (i0 + 1) hd')
def s_Kl (p0 : Val) (p1 : ByteArray) : Val × Bool :=
 bif (p0.kind == 5) then
  (match (Q64 p0 p1 p0.fields 0) with
  | .k0 => ((Val.mk 0 0 (⟨#[]⟩ : ByteArray) [] []), false)
  | .k1 y1_0 => (y1_0, true))
 else
  ((Val.mk 0 0 (⟨#[]⟩ : ByteArray) [] []), false)
def c_Kl (p0 : Val) (p1 : ByteArray) : En := .call 21 [.agg (Val.cells p0), .str p1] []
def a_Kl (p0 : Val) (p1 : ByteArray) : Rs := .ret (.tup [.agg (Val.cells (s_Kl p0 p1).1), .bool (s_Kl p0 p1).2]) []
def H_Kl (p0 : Val) (p1 : ByteArray) : Prop := (Qer p0 p1) ∧ True
theorem t_Kl (p0 : Val) (p1 : ByteArray) (H : H_Kl p0 p1) : Q7 G (c_Kl p0 p1) (a_Kl p0 p1) := by
 unfold a_Kl s_Kl
 cases h0 : (p0.kind == 5) with
 | true =>
  have hl1 := Qql p0 p1 (H.1) p0.fields 0 (by simp)
  cases hr1 : (Q64 p0 p1 p0.fields 0) with
  | k0 =>
   rw [hr1] at hl1
   obtain ⟨z1, zo1, hl1⟩ := hl1
   exact Q9 (fn := Ir.Kl) rfl VOK.nil [hB 5 h0] [aN hl1] (by kernel_rfl)
  | k1 y1_0 =>
   rw [hr1] at hl1
   obtain ⟨z1, zo1, hl1⟩ := hl1
   exact Q9 (fn := Ir.Kl) rfl VOK.nil [hB 5 h0] [aN hl1] (by kernel_rfl)
 | false =>
  exact Q9 (fn := Ir.Kl) rfl VOK.nil [hB 5 h0] [] (by kernel_rfl)
def Q3o (p0 : Fld) (o0 : ByteArray) : Bool :=
 (sEq p0.name o0)
def Q170 (p0 : Fld) (o0 : ByteArray) : En := .call 57 [.agg (Fld.cells p0), .bx 0 0] [⟨1, 0, false, [.str o0]⟩]
def Qwn (_p0 : Fld) (o0 : ByteArray) (q0 : Bool) : Rs := .ret (.bool q0) [⟨1, 0, false, [.str o0]⟩]
def Q14k (p0 : Fld) (o0 : ByteArray) : Rs := Qwn p0 o0 (Q3o p0 o0)
theorem Q10g (p0 : Fld) (o0 : ByteArray) : Q7 G (Q170 p0 o0) (Q14k p0 o0) := by
 unfold Q14k Q3o
 exact Q9 (fn := Ir.K1t) rfl (h := [⟨1, 0, false, [.str o0]⟩]) (vw := []) VOK.nil [] [] (by kernel_rfl)
inductive Qrm where
  | k0
  | k1 (q0 : Int)
def Q2o (p0 : List Fld) (o0 : ByteArray) : List Fld → Nat → Qrm
 | [], _i0 =>
  (.k0)
 | x0 :: r0, i0 =>
  bif (Q3o x0 o0) then
   (.k1 (i0 : Int))
  else
   Q2o p0 o0 r0 (i0 + 1)
def Qol (p0 : List Fld) (_o0 : ByteArray) (i0 : Nat) : List PV :=
  [.sl (Fld.rows p0), .fn 57 [] [.bx 0 0], .un, .un, .un, .un, .un, .int .i64 ((List.length p0) : Int), .int .i64 (i0 : Int), .un, .un, .un, .un, .un, .un, .un, .un, .un, .un]
def Qn8 (_p0 : List Fld) (o0 : ByteArray) (_i0 : Nat) : List Ob :=
  [⟨1, 0, false, [.str o0]⟩]
def Q92 (p0 : List Fld) (o0 : ByteArray) (i0 : Nat) : En := .loop 1 Ir.Qcq Ir.Q121 (Qol p0 o0 i0) (Qn8 p0 o0 i0)
def Qh1 (_p0 : List Fld) (o0 : ByteArray) (z : Nat → PV) (_zo : Nat → List PV) : St :=
  ⟨[z 0, z 1, z 2, z 3, z 4, z 5, z 6, z 7, z 8, z 9, z 10, z 11, z 12, z 13, z 14, z 15, z 16, z 17, z 18], [(0, ⟨1, 0, false, [.str o0]⟩)], 65⟩
def Qg2 (_p0 : List Fld) (o0 : ByteArray) (q0 : Int) (z : Nat → PV) (_zo : Nat → List PV) : St :=
  ⟨[z 0, z 1, z 2, z 3, .int .i64 q0, z 5, z 6, z 7, z 8, z 9, z 10, z 11, z 12, z 13, z 14, z 15, z 16, z 17, z 18], [(0, ⟨1, 0, false, [.str o0]⟩)], 705⟩
def Q82 (p0 : List Fld) (o0 : ByteArray) (e : En) : Qrm → Prop
  | .k0 => ∃ z zo, Q7 G e (.st (.exit 0) (Qh1 p0 o0 z zo))
  | .k1 q0 => ∃ z zo, Q7 G e (.st .ret (Qg2 p0 o0 q0 z zo))
theorem Qjc (p0 : List Fld) (o0 : ByteArray) {e e' : En} (h : ∀ r, Q7 G e r → Q7 G e' r) : ∀ q, Q82 p0 o0 e q → Q82 p0 o0 e' q
  | .k0, ⟨z, zo, hz⟩ => ⟨z, zo, h _ hz⟩
  | .k1 _, ⟨z, zo, hz⟩ => ⟨z, zo, h _ hz⟩
def Q8q (p0 : List Fld) (_o0 : ByteArray) : Prop := (List.length p0 ≤ 4611686018427387904) ∧ True
def Qgy (p0 : List Fld) (_o0 : ByteArray) (i0 : Nat) : List PV :=
  [.sl (Fld.rows p0), .fn 57 [] [.bx 0 0], .un, .un, .un, .un, .un, .int .i64 ((List.length p0) : Int), .int .i64 (i0 : Int), .bool false]
def Qet (_p0 : List Fld) (_o0 : ByteArray) (_i0 : Nat) : List (Nat × List PV) :=
  []
theorem Quy (p0 : List Fld) (o0 : ByteArray) (_H : Q8q p0 o0) (i0 : Nat) (hc0 : (decide ((i0 : Int) < ((List.length p0) : Int))) = false) : Q82 p0 o0 (Q92 p0 o0 i0) (.k0) := by
 exact ⟨(envF (Qgy p0 o0 i0)), (zoF (Qet p0 o0 i0)), Qe VOK.nil (x := ((.exit 0), Qh1 p0 o0 (envF (Qgy p0 o0 i0)) (zoF (Qet p0 o0 i0)))) [hB 0 hc0] [] (by kernel_rfl)⟩
def Qj7 (p0 : List Fld) (_o0 : ByteArray) (i0 : Nat) (x0 : Fld) : List PV :=
  [.sl (Fld.rows p0), .fn 57 [] [.bx 0 0], .un, .un, .un, .int .i64 (i0 : Int), .un, .int .i64 ((List.length p0) : Int), .int .i64 (i0 : Int), .bool true, .int .i64 (i0 : Int), .fn 57 [] [.bx 0 0], .sl (Fld.rows p0), .int .i64 (i0 : Int), .rf [.str x0.name, .int .i64 x0.v.kind, .int .i64 x0.v.n, .str x0.v.s, .sl (Val.rows x0.v.list), .sl (Fld.rows x0.v.fields)], .agg [.str x0.name, .int .i64 x0.v.kind, .int .i64 x0.v.n, .str x0.v.s, .sl (Val.rows x0.v.list), .sl (Fld.rows x0.v.fields)], .bool true, .int .i64 (i0 : Int)]
def Qd0 (_p0 : List Fld) (_o0 : ByteArray) (_i0 : Nat) (_x0 : Fld) : List (Nat × List PV) :=
  []
theorem Qt7 (p0 : List Fld) (o0 : ByteArray) (_H : Q8q p0 o0) (x0 : Fld) (i0 : Nat) (hx0 : p0[i0]? = some x0) (_hi0 : i0 < List.length p0) (hc0 : (decide ((i0 : Int) < ((List.length p0) : Int))) = true) (h0 : (Q3o x0 o0) = true) : Q82 p0 o0 (Q92 p0 o0 i0) (.k1 (i0 : Int)) := by
 exact ⟨(envF (Qj7 p0 o0 i0 x0)), (zoF (Qd0 p0 o0 i0 x0)), Qe VOK.nil (x := (.ret, Qg2 p0 o0 (i0 : Int) (envF (Qj7 p0 o0 i0 x0)) (zoF (Qd0 p0 o0 i0 x0)))) [hB 0 hc0, hP 5 (Q1h 6 (Fld.rows p0) i0 _ (Fld.Qf hx0) rfl)] [aN (toldOf (Q10g x0 o0) (congrArg (fun b => Qwn x0 o0 b) h0))] (by kernel_rfl)⟩
theorem Qus (p0 : List Fld) (o0 : ByteArray) (H : Q8q p0 o0) (x0 : Fld) (i0 : Nat) (hx0 : p0[i0]? = some x0) (hi0 : i0 < List.length p0) (hc0 : (decide ((i0 : Int) < ((List.length p0) : Int))) = true) (h0 : (Q3o x0 o0) = false) {r : Rs} (hr : Q7 G (Q92 p0 o0 (i0 + 1)) r) : Q7 G (Q92 p0 o0 i0) r := by
 have hB0 := H.1
 exact Qa VOK.nil (y := (Qol p0 o0 (i0 + 1), Qn8 p0 o0 (i0 + 1))) [hB 0 hc0, hP 5 (Q1h 6 (Fld.rows p0) i0 _ (Fld.Qf hx0) rfl), hP 2 (Qs i0 (by omega))] [aN (toldOf (Q10g x0 o0) (congrArg (fun b => Qwn x0 o0 b) h0))] (by kernel_rfl) hr
theorem Qo2 (p0 : List Fld) (o0 : ByteArray) (H : Q8q p0 o0) : ∀ (r0 : List Fld) (i0 : Nat), List.drop i0 p0 = r0 → Q82 p0 o0 (Q92 p0 o0 i0) (Q2o p0 o0 r0 i0)
 | [], i0, hd => by
  have hc0 : (decide ((i0 : Int) < ((List.length p0) : Int))) = false := by have := Q1m hd; simp; omega
  rw [Q2o]
  exact Quy p0 o0 H i0 hc0
 | x0 :: r0, i0, hd => by
  obtain ⟨hx0, hi0, hd'⟩ := Q18 hd
  have hc0 : (decide ((i0 : Int) < ((List.length p0) : Int))) = true := by simp; omega
  rw [Q2o]
  cases h0 : (Q3o x0 o0) with
  | true =>
   exact Qt7 p0 o0 H x0 i0 hx0 hi0 hc0 h0
  | false =>
   exact Qjc p0 o0 (fun r hr => Qus p0 o0 H x0 i0 hx0 hi0 hc0 h0 hr) _ (Qo2 p0 o0 H r0 (i0 + 1) hd')
def Qw (p0 : List Fld) (o0 : ByteArray) : Int :=
 (match (Q2o p0 o0 p0 0) with
 | .k0 => (-1)
 | .k1 y0_0 => y0_0)
def Q171 (p0 : List Fld) (o0 : ByteArray) : En := .call 69 [.sl (Fld.rows p0), .fn 57 [] [.bx 0 0]] [⟨1, 0, false, [.str o0]⟩]
def Q166 (_p0 : List Fld) (o0 : ByteArray) (q0 : Int) : Rs := .ret (.int .i64 q0) [⟨1, 0, false, [.str o0]⟩]
def Q15z (p0 : List Fld) (o0 : ByteArray) : Rs := Q166 p0 o0 (Qw p0 o0)
def Q13y (p0 : List Fld) (o0 : ByteArray) : Prop := (Q8q p0 o0) ∧ True
theorem Q14q (p0 : List Fld) (o0 : ByteArray) (H : Q13y p0 o0) : Q7 G (Q171 p0 o0) (Q15z p0 o0) := by
 unfold Q15z Qw
 have hl0 := Qo2 p0 o0 (H.1) p0 0 (by simp)
 cases hr0 : (Q2o p0 o0 p0 0) with
 | k0 =>
  rw [hr0] at hl0
  obtain ⟨z0, zo0, hl0⟩ := hl0
  exact Q9 (fn := Ir.K19) rfl (h := [⟨1, 0, false, [.str o0]⟩]) (vw := []) VOK.nil [hP 2 (Qj (Fld.rows p0) (List.length p0) (Fld.Qd p0))] [aN hl0] (by kernel_rfl)
 | k1 y0_0 =>
  rw [hr0] at hl0
  obtain ⟨z0, zo0, hl0⟩ := hl0
  exact Q9 (fn := Ir.K19) rfl (h := [⟨1, 0, false, [.str o0]⟩]) (vw := []) VOK.nil [hP 2 (Qj (Fld.rows p0) (List.length p0) (Fld.Qd p0))] [aN hl0] (by kernel_rfl)
theorem Qab (p0 : List Fld) (o0 : ByteArray) : ∀ (l : List Fld) (i : Nat), match Q2o p0 o0 l i with | .k0 => True | .k1 q => (i : Int) ≤ q ∧ q < (i : Int) + (l.length : Int)
  | [], _ => trivial
  | x :: l, i => by
    rw [Q2o]
    have ih := Qab p0 o0 l (i + 1)
    cases Q3o x o0 with
    | true =>
      show (i : Int) ≤ (i : Int) ∧ (i : Int) < _
      simp only [List.length_cons]
      omega
    | false =>
      rw [cond_false]
      cases e : Q2o p0 o0 l (i + 1) with
      | k0 => trivial
      | k1 q =>
        rw [e] at ih
        simp only at ih ⊢
        simp only [List.length_cons]
        omega
theorem Qi (p0 : List Fld) (o0 : ByteArray) : -1 ≤ Qw p0 o0 ∧ Qw p0 o0 < (List.length p0 : Int) := by
  have h := Qab p0 o0 p0 0
  unfold Qw
  cases e : Q2o p0 o0 p0 0 with
  | k0 => exact ⟨Int.le_refl _, by simp only; omega⟩
  | k1 q =>
    rw [e] at h
    simp only at h ⊢
    omega
def Q16 (n0 : Nat) (o1 : ByteArray) : Nat → Int → Int → (List Fld) → (List Fld) × Int
 | 0, v0_0, _v0_1, v0_2 => (v0_2, v0_0)
 | k0 + 1, v0_0, v0_1, v0_2 =>
  bif (decide (v0_1 < (n0 : Int))) then
   bif (Q3o (List.getD v0_2 (Int.toNat v0_1) zF) o1) then
    Q16 n0 o1 k0 v0_0 (v0_1 + 1) v0_2
   else
    Q16 n0 o1 k0 (v0_0 + 1) (v0_1 + 1) (List.set v0_2 (Int.toNat v0_0) (List.getD v0_2 (Int.toNat v0_1) zF))
  else
   (v0_2, v0_0)
def Qeb (n0 : Nat) (_o1 : ByteArray) (v0_0 : Int) (v0_1 : Int) (_v0_2 : List Fld) : List PV :=
  [.ms 0 6 0 n0, .fn 57 [] [.bx 1 0], .un, .un, .un, .int .i64 v0_0, .int .i64 v0_1, .un, .un, .un, .un, .un, .un, .un, .un, .un, .un, .un, .un, .un, .un, .un, .un, .un, .un, .un, .un, .un, .un, .un, .un, .un, .un, .un, .un, .un, .un, .un, .un, .un, .un, .un]
def Q90 (_n0 : Nat) (o1 : ByteArray) (_v0_0 : Int) (_v0_1 : Int) (v0_2 : List Fld) : List Ob :=
  [⟨6, 0, false, (Fld.rows v0_2).flatten⟩, ⟨1, 0, false, [.str o1]⟩]
def Q6g (n0 : Nat) (o1 : ByteArray) (v0_0 : Int) (v0_1 : Int) (v0_2 : List Fld) : En := .loop 2 Ir.Qf7 Ir.Q11s (Qeb n0 o1 v0_0 v0_1 v0_2) (Q90 n0 o1 v0_0 v0_1 v0_2)
def Qhh (n0 : Nat) (o1 : ByteArray) (q0 : List Fld) (q1 : Int) (z : Nat → PV) (_zo : Nat → List PV) : St :=
  ⟨[.ms 0 6 0 n0, z 1, z 2, z 3, z 4, .int .i64 q1, z 6, z 7, z 8, z 9, z 10, z 11, z 12, z 13, z 14, z 15, z 16, z 17, z 18, z 19, z 20, z 21, z 22, z 23, z 24, z 25, z 26, z 27, z 28, z 29, z 30, z 31, z 32, z 33, z 34, z 35, z 36, z 37, z 38, z 39, z 40, z 41], [(0, ⟨6, 0, false, (Fld.rows q0).flatten⟩), (1, ⟨1, 0, false, [.str o1]⟩)], 258⟩
theorem Qlc (n0 : Nat) (o1 : ByteArray) (v0_0 : Int) (v0_1 : Int) (v0_2 : List Fld) : VOK (Go.Pv.look (number 0 (Q90 n0 o1 v0_0 v0_1 v0_2))) [(0, Fld.rows v0_2)] := (VOK.cons (show Seen _ _ from Q3j (ob := ⟨6, 0, false, (Fld.rows v0_2).flatten⟩) (Fld.Q5 v0_2 6 rfl)) VOK.nil)
def Qba (n0 : Nat) (o1 : ByteArray) (e : En) (q : (List Fld) × Int) : Prop := ∃ z zo, Q7 G e (.st (.exit 0) (Qhh n0 o1 q.1 q.2 z zo))
theorem Q8w (n0 : Nat) (o1 : ByteArray) {e e' : En} (h : ∀ r, Q7 G e r → Q7 G e' r) : ∀ q, Qba n0 o1 e q → Qba n0 o1 e' q
  | _, ⟨z, zo, hz⟩ => ⟨z, zo, h _ hz⟩
theorem Qts (n0 : Nat) (o1 : ByteArray) (v0_0 : Int) (v0_1 : Int) (v0_2 : List Fld) (ho0_0 : 0 ≤ v0_0) (ho0_1 : v0_0 < v0_1) (_ho0_2 : v0_1 ≤ (n0 : Int)) (ho0_3 : (n0 : Int) ≤ 1152921504606846976) (ho0_4 : List.length v0_2 = n0) (h0 : (decide (v0_1 < (n0 : Int))) = true) (h1 : (Q3o (List.getD v0_2 (Int.toNat v0_1) zF) o1) = true) {r : Rs} (hr : Q7 G (Q6g n0 o1 v0_0 (v0_1 + 1) v0_2) r) : Q7 G (Q6g n0 o1 v0_0 v0_1 v0_2) r := by
 have e0 := of_decide_eq_true h0
 exact Qa (Qlc n0 o1 v0_0 v0_1 v0_2) (y := (Qeb n0 o1 v0_0 (v0_1 + 1) v0_2, Q90 n0 o1 v0_0 (v0_1 + 1) v0_2)) [hB 3 h0, hP 2 (Q1i 0 6 n0 v0_1 (Int.toNat v0_1) rfl (by omega) (by omega)), hP 0 (Q2y 0 6 0 false ((Fld.rows v0_2).flatten) (Fld.rows v0_2) 6 true (Int.toNat v0_1) 0 ((Int.toNat v0_1) * 6) (Fld.cells (List.getD v0_2 (Int.toNat v0_1) zF)) (.agg [.str (List.getD v0_2 (Int.toNat v0_1) zF).name, .int .i64 (List.getD v0_2 (Int.toNat v0_1) zF).v.kind, .int .i64 (List.getD v0_2 (Int.toNat v0_1) zF).v.n, .str (List.getD v0_2 (Int.toNat v0_1) zF).v.s, .sl (Val.rows (List.getD v0_2 (Int.toNat v0_1) zF).v.list), .sl (Fld.rows (List.getD v0_2 (Int.toNat v0_1) zF).v.fields)]) rfl rfl (Fld.Qf (Qu v0_2 (Int.toNat v0_1) zF (by omega))) (Fld.Ql v0_2) (by decide) rfl), hP 7 (w_ok (v0_1 + 1) (by omega))] [aN (toldOf (Q10g (List.getD v0_2 (Int.toNat v0_1) zF) o1) (congrArg (fun b => Qwn (List.getD v0_2 (Int.toNat v0_1) zF) o1 b) h1))] (by kernel_rfl) hr
theorem Qvi (n0 : Nat) (o1 : ByteArray) (v0_0 : Int) (v0_1 : Int) (v0_2 : List Fld) (ho0_0 : 0 ≤ v0_0) (ho0_1 : v0_0 < v0_1) (_ho0_2 : v0_1 ≤ (n0 : Int)) (ho0_3 : (n0 : Int) ≤ 1152921504606846976) (ho0_4 : List.length v0_2 = n0) (h0 : (decide (v0_1 < (n0 : Int))) = true) (h1 : (Q3o (List.getD v0_2 (Int.toNat v0_1) zF) o1) = false) {r : Rs} (hr : Q7 G (Q6g n0 o1 (v0_0 + 1) (v0_1 + 1) (List.set v0_2 (Int.toNat v0_0) (List.getD v0_2 (Int.toNat v0_1) zF))) r) : Q7 G (Q6g n0 o1 v0_0 v0_1 v0_2) r := by
 have e0 := of_decide_eq_true h0
 exact Qa (Qlc n0 o1 v0_0 v0_1 v0_2) (y := (Qeb n0 o1 (v0_0 + 1) (v0_1 + 1) (List.set v0_2 (Int.toNat v0_0) (List.getD v0_2 (Int.toNat v0_1) zF)), Q90 n0 o1 (v0_0 + 1) (v0_1 + 1) (List.set v0_2 (Int.toNat v0_0) (List.getD v0_2 (Int.toNat v0_1) zF)))) [hB 3 h0, hP 2 (Q1i 0 6 n0 v0_1 (Int.toNat v0_1) rfl (by omega) (by omega)), hP 0 (Q2y 0 6 0 false ((Fld.rows v0_2).flatten) (Fld.rows v0_2) 6 true (Int.toNat v0_1) 0 ((Int.toNat v0_1) * 6) (Fld.cells (List.getD v0_2 (Int.toNat v0_1) zF)) (.agg [.str (List.getD v0_2 (Int.toNat v0_1) zF).name, .int .i64 (List.getD v0_2 (Int.toNat v0_1) zF).v.kind, .int .i64 (List.getD v0_2 (Int.toNat v0_1) zF).v.n, .str (List.getD v0_2 (Int.toNat v0_1) zF).v.s, .sl (Val.rows (List.getD v0_2 (Int.toNat v0_1) zF).v.list), .sl (Fld.rows (List.getD v0_2 (Int.toNat v0_1) zF).v.fields)]) rfl rfl (Fld.Qf (Qu v0_2 (Int.toNat v0_1) zF (by omega))) (Fld.Ql v0_2) (by decide) rfl), hP 9 (Q1i 0 6 n0 v0_0 (Int.toNat v0_0) rfl (by omega) (by omega)), hV 0 [(0, Fld.rows (List.set v0_2 (Int.toNat v0_0) (List.getD v0_2 (Int.toNat v0_1) zF)))] (Qdz 0 6 false ((Fld.rows v0_2).flatten) (Fld.rows v0_2) (Fld.rows (List.set v0_2 (Int.toNat v0_0) (List.getD v0_2 (Int.toNat v0_1) zF))) 6 (Int.toNat v0_0) 0 ((Int.toNat v0_0) * 6) _ (.agg [.str (List.getD v0_2 (Int.toNat v0_1) zF).name, .int .i64 (List.getD v0_2 (Int.toNat v0_1) zF).v.kind, .int .i64 (List.getD v0_2 (Int.toNat v0_1) zF).v.n, .str (List.getD v0_2 (Int.toNat v0_1) zF).v.s, .sl (Val.rows (List.getD v0_2 (Int.toNat v0_1) zF).v.list), .sl (Fld.rows (List.getD v0_2 (Int.toNat v0_1) zF).v.fields)]) rfl rfl (Fld.Qf (Qu v0_2 (Int.toNat v0_0) zF (by omega))) (Fld.Ql v0_2) (by decide) rfl rfl (Fld.Q49 v0_2 (Int.toNat v0_0) (List.getD v0_2 (Int.toNat v0_1) zF))), hS 0 false (Fld.Q5 (List.set v0_2 (Int.toNat v0_0) (List.getD v0_2 (Int.toNat v0_1) zF)) 6 rfl), hP 1 (w_ok (v0_0 + 1) (by have f0 := (Qp ho0_4 (Int.toNat v0_0) (List.getD v0_2 (Int.toNat v0_1) zF)); omega)), hP 2 (w_ok (v0_1 + 1) (by have f0 := (Qp ho0_4 (Int.toNat v0_0) (List.getD v0_2 (Int.toNat v0_1) zF)); omega))] [aN (toldOf (Q10g (List.getD v0_2 (Int.toNat v0_1) zF) o1) (congrArg (fun b => Qwn (List.getD v0_2 (Int.toNat v0_1) zF) o1 b) h1))] (by kernel_rfl) hr
def Qhm (n0 : Nat) (_o1 : ByteArray) (_v0_0 : Int) (v0_1 : Int) (_v0_2 : List Fld) : List PV :=
  [.un, .fn 57 [] [.bx 1 0], .un, .un, .un, .un, .int .i64 v0_1, .un, .un, .un, .un, .un, .un, .un, .un, .un, .int .i64 v0_1, .ms 0 6 0 n0, .int .i64 (n0 : Int), .bool false]
def Qf0 (_n0 : Nat) (_o1 : ByteArray) (_v0_0 : Int) (_v0_1 : Int) (_v0_2 : List Fld) : List (Nat × List PV) :=
  []
theorem Quq (n0 : Nat) (o1 : ByteArray) (v0_0 : Int) (v0_1 : Int) (v0_2 : List Fld) (_ho0_0 : 0 ≤ v0_0) (_ho0_1 : v0_0 < v0_1) (_ho0_2 : v0_1 ≤ (n0 : Int)) (_ho0_3 : (n0 : Int) ≤ 1152921504606846976) (_ho0_4 : List.length v0_2 = n0) (h0 : (decide (v0_1 < (n0 : Int))) = false) : Qba n0 o1 (Q6g n0 o1 v0_0 v0_1 v0_2) (v0_2, v0_0) := by
 exact ⟨(envF (Qhm n0 o1 v0_0 v0_1 v0_2)), (zoF (Qf0 n0 o1 v0_0 v0_1 v0_2)), Qe (Qlc n0 o1 v0_0 v0_1 v0_2) (x := ((.exit 0), Qhh n0 o1 v0_2 v0_0 (envF (Qhm n0 o1 v0_0 v0_1 v0_2)) (zoF (Qf0 n0 o1 v0_0 v0_1 v0_2)))) [hB 3 h0] [] (by kernel_rfl)⟩
theorem Qc2 (n0 : Nat) (o1 : ByteArray) : ∀ (k0 : Nat) (v0_0 : Int) (v0_1 : Int) (v0_2 : List Fld), 0 ≤ v0_0 → v0_0 < v0_1 → v0_1 ≤ (n0 : Int) → (n0 : Int) ≤ 1152921504606846976 → List.length v0_2 = n0 → Int.toNat ((n0 : Int) - v0_1) < k0 → Qba n0 o1 (Q6g n0 o1 v0_0 v0_1 v0_2) (Q16 n0 o1 k0 v0_0 v0_1 v0_2)
 | 0, v0_0, v0_1, v0_2, _, _, _, _, _, hm => absurd hm (Nat.not_lt_zero _)
 | k0 + 1, v0_0, v0_1, v0_2, ho0_0, ho0_1, ho0_2, ho0_3, ho0_4, hm => by
  rw [Q16]
  cases h0 : (decide (v0_1 < (n0 : Int))) with
  | true =>
   have e0 := of_decide_eq_true h0
   cases h1 : (Q3o (List.getD v0_2 (Int.toNat v0_1) zF) o1) with
   | true =>
    exact Q8w n0 o1 (fun r hr => Qts n0 o1 v0_0 v0_1 v0_2 ho0_0 ho0_1 ho0_2 ho0_3 ho0_4 h0 h1 hr) _ (Qc2 n0 o1 k0 v0_0 (v0_1 + 1) v0_2 (by omega) (by omega) (by omega) (by omega) ho0_4 (by omega))
   | false =>
    exact Q8w n0 o1 (fun r hr => Qvi n0 o1 v0_0 v0_1 v0_2 ho0_0 ho0_1 ho0_2 ho0_3 ho0_4 h0 h1 hr) _ (Qc2 n0 o1 k0 (v0_0 + 1) (v0_1 + 1) (List.set v0_2 (Int.toNat v0_0) (List.getD v0_2 (Int.toNat v0_1) zF)) (by have f0 := (Qp ho0_4 (Int.toNat v0_0) (List.getD v0_2 (Int.toNat v0_1) zF)); omega) (by have f0 := (Qp ho0_4 (Int.toNat v0_0) (List.getD v0_2 (Int.toNat v0_1) zF)); omega) (by have f0 := (Qp ho0_4 (Int.toNat v0_0) (List.getD v0_2 (Int.toNat v0_1) zF)); omega) (by have f0 := (Qp ho0_4 (Int.toNat v0_0) (List.getD v0_2 (Int.toNat v0_1) zF)); omega) (Qp ho0_4 (Int.toNat v0_0) (List.getD v0_2 (Int.toNat v0_1) zF)) (by have f0 := (Qp ho0_4 (Int.toNat v0_0) (List.getD v0_2 (Int.toNat v0_1) zF)); omega))
  | false =>
   exact Quq n0 o1 v0_0 v0_1 v0_2 ho0_0 ho0_1 ho0_2 ho0_3 ho0_4 h0
theorem Q3m (n0 : Nat) (o1 : ByteArray) : ∀ (k0 : Nat) (v0_0 : Int) (v0_1 : Int) (v0_2 : List Fld), List.length v0_2 = n0 → List.length (Q16 n0 o1 k0 v0_0 v0_1 v0_2).1 = n0
 | 0, v0_0, v0_1, v0_2, ho0_4 => by rw [Q16]; exact ho0_4
 | k0 + 1, v0_0, v0_1, v0_2, ho0_4 => by
  rw [Q16]
  cases h0 : (decide (v0_1 < (n0 : Int))) with
  | true =>
   cases h1 : (Q3o (List.getD v0_2 (Int.toNat v0_1) zF) o1) with
   | true =>
    exact Q3m n0 o1 k0 v0_0 (v0_1 + 1) v0_2 ho0_4
   | false =>
    exact Q3m n0 o1 k0 (v0_0 + 1) (v0_1 + 1) (List.set v0_2 (Int.toNat v0_0) (List.getD v0_2 (Int.toNat v0_1) zF)) (Qp ho0_4 (Int.toNat v0_0) (List.getD v0_2 (Int.toNat v0_1) zF))
  | false =>
   exact ho0_4
theorem Q3t (n0 : Nat) (o1 : ByteArray) : ∀ (k0 : Nat) (v0_0 : Int) (v0_1 : Int) (v0_2 : List Fld), 0 ≤ v0_0 → v0_0 < v0_1 → v0_1 ≤ (n0 : Int) → (n0 : Int) ≤ 1152921504606846976 → List.length v0_2 = n0 → Int.toNat ((n0 : Int) - v0_1) < k0 → 0 ≤ (Q16 n0 o1 k0 v0_0 v0_1 v0_2).2 ∧ (Q16 n0 o1 k0 v0_0 v0_1 v0_2).2 < (n0 : Int)
 | 0, v0_0, v0_1, v0_2, _, _, _, _, _, hm => absurd hm (Nat.not_lt_zero _)
 | k0 + 1, v0_0, v0_1, v0_2, ho0_0, ho0_1, ho0_2, ho0_3, ho0_4, hm => by
  rw [Q16]
  cases h0 : (decide (v0_1 < (n0 : Int))) with
  | true =>
   have e0 := of_decide_eq_true h0
   cases h1 : (Q3o (List.getD v0_2 (Int.toNat v0_1) zF) o1) with
   | true =>
    exact Q3t n0 o1 k0 v0_0 (v0_1 + 1) v0_2 (by omega) (by omega) (by omega) (by omega) ho0_4 (by omega)
   | false =>
    exact Q3t n0 o1 k0 (v0_0 + 1) (v0_1 + 1) (List.set v0_2 (Int.toNat v0_0) (List.getD v0_2 (Int.toNat v0_1) zF)) (by have f0 := (Qp ho0_4 (Int.toNat v0_0) (List.getD v0_2 (Int.toNat v0_1) zF)); omega) (by have f0 := (Qp ho0_4 (Int.toNat v0_0) (List.getD v0_2 (Int.toNat v0_1) zF)); omega) (by have f0 := (Qp ho0_4 (Int.toNat v0_0) (List.getD v0_2 (Int.toNat v0_1) zF)); omega) (by have f0 := (Qp ho0_4 (Int.toNat v0_0) (List.getD v0_2 (Int.toNat v0_1) zF)); omega) (Qp ho0_4 (Int.toNat v0_0) (List.getD v0_2 (Int.toNat v0_1) zF)) (by have f0 := (Qp ho0_4 (Int.toNat v0_0) (List.getD v0_2 (Int.toNat v0_1) zF)); omega)
  | false =>
   have e0 := of_decide_eq_false h0
   exact (show 0 ≤ v0_0 ∧ v0_0 < (n0 : Int) from ⟨(by omega), (by omega)⟩)
def Qj8 (n0 : Nat) (o0 : List Fld) (o1 : ByteArray) : Nat × (List Fld) :=
 bif ((Qw o0 o1) == (-1)) then
  (n0, o0)
 else
  ((Int.toNat (Q16 n0 o1 ((Int.toNat ((n0 : Int) - ((Qw o0 o1) + 1))) + 1) (Qw o0 o1) ((Qw o0 o1) + 1) o0).2), (List.take (Int.toNat (Q16 n0 o1 ((Int.toNat ((n0 : Int) - ((Qw o0 o1) + 1))) + 1) (Qw o0 o1) ((Qw o0 o1) + 1) o0).2) (Q16 n0 o1 ((Int.toNat ((n0 : Int) - ((Qw o0 o1) + 1))) + 1) (Qw o0 o1) ((Qw o0 o1) + 1) o0).1))
def Q16e (n0 : Nat) (o0 : List Fld) (o1 : ByteArray) : En := .call 56 [.ms 0 6 0 n0, .fn 57 [] [.bx 1 0]] [⟨6, 0, false, (Fld.rows o0).flatten⟩, ⟨1, 0, false, [.str o1]⟩]
def Q16x (_n0 : Nat) (_o0 : List Fld) (o1 : ByteArray) (q0 : Nat) (q1 : List Fld) : Rs := .ret (.ms 0 6 0 q0) [⟨6, 0, false, (Fld.rows q1).flatten⟩, ⟨1, 0, false, [.str o1]⟩]
def Q14a (n0 : Nat) (o0 : List Fld) (o1 : ByteArray) : Rs := Q16x n0 o0 o1 (Qj8 n0 o0 o1).1 (Qj8 n0 o0 o1).2
def Q150 (_n0 : Nat) (o0 : List Fld) (o1 : ByteArray) : Prop := (Q13y o0 o1) ∧ True
theorem Q179 (n0 : Nat) (o0 : List Fld) (o1 : ByteArray) (hn0 : List.length o0 = n0) (hq0 : (n0 : Int) ≤ 1152921504606846976) (H : Q150 n0 o0 o1) : Q7 G (Q16e n0 o0 o1) (Q14a n0 o0 o1) := by
 unfold Q14a Qj8
 cases h0 : ((Qw o0 o1) == (-1)) with
 | true =>
  exact Q9 (fn := Ir.K18) rfl (h := [⟨6, 0, false, (Fld.rows o0).flatten⟩, ⟨1, 0, false, [.str o1]⟩]) (vw := [(0, Fld.rows o0)]) (VOK.cons (show Seen _ _ from Q3j (ob := ⟨6, 0, false, (Fld.rows o0).flatten⟩) (Fld.Q5 o0 6 rfl)) VOK.nil) [hQ ((Fld.Qd o0).trans hn0).symm, hB 6 h0] [aN (Q14q o0 o1 H.1)] (by kernel_rfl)
 | false =>
  have e0 := beq_eq_false_iff_ne.1 h0
  have hl1 := Qc2 n0 o1 ((Int.toNat ((n0 : Int) - ((Qw o0 o1) + 1))) + 1) (Qw o0 o1) ((Qw o0 o1) + 1) o0 (by have g0 := (Qi o0 o1); omega) (by have g0 := (Qi o0 o1); omega) (by have g0 := (Qi o0 o1); omega) (by have g0 := (Qi o0 o1); omega) hn0 (by omega)
  obtain ⟨z1, zo1, hl1⟩ := hl1
  exact Q9 (fn := Ir.K18) rfl (h := [⟨6, 0, false, (Fld.rows o0).flatten⟩, ⟨1, 0, false, [.str o1]⟩]) (vw := [(0, Fld.rows o0)]) (VOK.cons (show Seen _ _ from Q3j (ob := ⟨6, 0, false, (Fld.rows o0).flatten⟩) (Fld.Q5 o0 6 rfl)) VOK.nil) [hQ ((Fld.Qd o0).trans hn0).symm, hB 6 h0, hP 1 (w_ok ((Qw o0 o1) + 1) (by have g0 := (Qi o0 o1); omega)), hS 0 false (Fld.Q5 (Q16 n0 o1 ((Int.toNat ((n0 : Int) - ((Qw o0 o1) + 1))) + 1) (Qw o0 o1) ((Qw o0 o1) + 1) o0).1 6 rfl), hP 3 (Q10f 0 6 n0 (Q16 n0 o1 ((Int.toNat ((n0 : Int) - ((Qw o0 o1) + 1))) + 1) (Qw o0 o1) ((Qw o0 o1) + 1) o0).2 (by have f0 := (Q3m n0 o1 ((Int.toNat ((n0 : Int) - ((Qw o0 o1) + 1))) + 1) (Qw o0 o1) ((Qw o0 o1) + 1) o0 hn0); have g0 := (Qi o0 o1); have g1 := Q3t n0 o1 ((Int.toNat ((n0 : Int) - ((Qw o0 o1) + 1))) + 1) (Qw o0 o1) ((Qw o0 o1) + 1) o0 (by have g0 := (Qi o0 o1); omega) (by have g0 := (Qi o0 o1); omega) (by have g0 := (Qi o0 o1); omega) (by have g0 := (Qi o0 o1); omega) hn0 (by omega); omega) (by have f0 := (Q3m n0 o1 ((Int.toNat ((n0 : Int) - ((Qw o0 o1) + 1))) + 1) (Qw o0 o1) ((Qw o0 o1) + 1) o0 hn0); have g0 := (Qi o0 o1); have g1 := Q3t n0 o1 ((Int.toNat ((n0 : Int) - ((Qw o0 o1) + 1))) + 1) (Qw o0 o1) ((Qw o0 o1) + 1) o0 (by have g0 := (Qi o0 o1); omega) (by have g0 := (Qi o0 o1); omega) (by have g0 := (Qi o0 o1); omega) (by have g0 := (Qi o0 o1); omega) hn0 (by omega); omega)), hV 0 [(0, Fld.rows (List.take (Int.toNat (Q16 n0 o1 ((Int.toNat ((n0 : Int) - ((Qw o0 o1) + 1))) + 1) (Qw o0 o1) ((Qw o0 o1) + 1) o0).2) (Q16 n0 o1 ((Int.toNat ((n0 : Int) - ((Qw o0 o1) + 1))) + 1) (Qw o0 o1) ((Qw o0 o1) + 1) o0).1))] (Q13s 0 6 false (Fld.rows (Q16 n0 o1 ((Int.toNat ((n0 : Int) - ((Qw o0 o1) + 1))) + 1) (Qw o0 o1) ((Qw o0 o1) + 1) o0).1) (Fld.rows (List.take (Int.toNat (Q16 n0 o1 ((Int.toNat ((n0 : Int) - ((Qw o0 o1) + 1))) + 1) (Qw o0 o1) ((Qw o0 o1) + 1) o0).2) (Q16 n0 o1 ((Int.toNat ((n0 : Int) - ((Qw o0 o1) + 1))) + 1) (Qw o0 o1) ((Qw o0 o1) + 1) o0).1)) (Int.toNat (Q16 n0 o1 ((Int.toNat ((n0 : Int) - ((Qw o0 o1) + 1))) + 1) (Qw o0 o1) ((Qw o0 o1) + 1) o0).2) (n0 - (Int.toNat (Q16 n0 o1 ((Int.toNat ((n0 : Int) - ((Qw o0 o1) + 1))) + 1) (Qw o0 o1) ((Qw o0 o1) + 1) o0).2)) [.str (⟨#[]⟩ : ByteArray), .int .i64 0, .int .i64 0, .str (⟨#[]⟩ : ByteArray), .ns 5, .ns 6] (Fld.Ql (Q16 n0 o1 ((Int.toNat ((n0 : Int) - ((Qw o0 o1) + 1))) + 1) (Qw o0 o1) ((Qw o0 o1) + 1) o0).1) (by rw [Fld.Qd]; exact (by have f0 := (Q3m n0 o1 ((Int.toNat ((n0 : Int) - ((Qw o0 o1) + 1))) + 1) (Qw o0 o1) ((Qw o0 o1) + 1) o0 hn0); have g0 := (Qi o0 o1); have g1 := Q3t n0 o1 ((Int.toNat ((n0 : Int) - ((Qw o0 o1) + 1))) + 1) (Qw o0 o1) ((Qw o0 o1) + 1) o0 (by have g0 := (Qi o0 o1); omega) (by have g0 := (Qi o0 o1); omega) (by have g0 := (Qi o0 o1); omega) (by have g0 := (Qi o0 o1); omega) hn0 (by omega); omega)) (by have f0 := (Q3m n0 o1 ((Int.toNat ((n0 : Int) - ((Qw o0 o1) + 1))) + 1) (Qw o0 o1) ((Qw o0 o1) + 1) o0 hn0); have g0 := (Qi o0 o1); have g1 := Q3t n0 o1 ((Int.toNat ((n0 : Int) - ((Qw o0 o1) + 1))) + 1) (Qw o0 o1) ((Qw o0 o1) + 1) o0 (by have g0 := (Qi o0 o1); omega) (by have g0 := (Qi o0 o1); omega) (by have g0 := (Qi o0 o1); omega) (by have g0 := (Qi o0 o1); omega) hn0 (by omega); omega) (by rw [Fld.Qam])), hS 0 false (Fld.Q5 (List.take (Int.toNat (Q16 n0 o1 ((Int.toNat ((n0 : Int) - ((Qw o0 o1) + 1))) + 1) (Qw o0 o1) ((Qw o0 o1) + 1) o0).2) (Q16 n0 o1 ((Int.toNat ((n0 : Int) - ((Qw o0 o1) + 1))) + 1) (Qw o0 o1) ((Qw o0 o1) + 1) o0).1) 6 rfl), hP 2 (Q10u 0 6 n0 (Q16 n0 o1 ((Int.toNat ((n0 : Int) - ((Qw o0 o1) + 1))) + 1) (Qw o0 o1) ((Qw o0 o1) + 1) o0).2 (by have g0 := (Qi o0 o1); have g1 := Q3t n0 o1 ((Int.toNat ((n0 : Int) - ((Qw o0 o1) + 1))) + 1) (Qw o0 o1) ((Qw o0 o1) + 1) o0 (by have g0 := (Qi o0 o1); omega) (by have g0 := (Qi o0 o1); omega) (by have g0 := (Qi o0 o1); omega) (by have g0 := (Qi o0 o1); omega) hn0 (by omega); omega) (by have g0 := (Qi o0 o1); have g1 := Q3t n0 o1 ((Int.toNat ((n0 : Int) - ((Qw o0 o1) + 1))) + 1) (Qw o0 o1) ((Qw o0 o1) + 1) o0 (by have g0 := (Qi o0 o1); omega) (by have g0 := (Qi o0 o1); omega) (by have g0 := (Qi o0 o1); omega) (by have g0 := (Qi o0 o1); omega) hn0 (by omega); omega))] [aN (Q14q o0 o1 H.1), aV [(0, Fld.rows (Q16 n0 o1 ((Int.toNat ((n0 : Int) - ((Qw o0 o1) + 1))) + 1) (Qw o0 o1) ((Qw o0 o1) + 1) o0).1)] hl1] (by kernel_rfl)
def Q2g (p0 : Val) (p1 : ByteArray) : Nat × (List Fld) :=
 bif (p0.kind == 5) then
  ((Qj8 (List.length p0.fields) p0.fields p1).1, (Qj8 (List.length p0.fields) p0.fields p1).2)
 else
  (0, [])
def Q178 (p0 : Val) (p1 : ByteArray) : En := .call 46 [.agg (Val.cells p0), .str p1] []
def Q167 (_p0 : Val) (_p1 : ByteArray) (q0 : Nat) (q1 : List Fld) : Rs := .ret (.ms 0 6 0 q0) [⟨6, 0, true, (Fld.rows q1).flatten⟩]
def Q141 (p0 : Val) (p1 : ByteArray) : Rs := Q167 p0 p1 (Q2g p0 p1).1 (Q2g p0 p1).2
def Q11g (p0 : Val) (p1 : ByteArray) : Prop := (List.length p0.fields * 96 ≤ 140737488355328) ∧ ((p0.kind == 5) = true → ((List.length p0.fields) : Int) ≤ 1152921504606846976) ∧ (Q150 (List.length p0.fields) p0.fields p1) ∧ True
theorem Q14h (p0 : Val) (p1 : ByteArray) (H : Q11g p0 p1) : Q7 G (Q178 p0 p1) (Q141 p0 p1) := by
 unfold Q141 Q2g
 cases h0 : (p0.kind == 5) with
 | true =>
  exact Q9 (fn := Ir.K1s) rfl VOK.nil [hP 5 (dec (!(p0.kind == 5)) false (by rw [h0]; rfl)), hQ (Fld.Q5 p0.fields 6 rfl), hQ (Fld.Q5 (Qj8 (List.length p0.fields) p0.fields p1).2 6 rfl)] [aV [(0, Fld.rows p0.fields)] (Q5c (G := G) (f := 41) (sz := 6) (bytes := 96) rfl (Fld.Qd p0.fields) (Fld.Q5 p0.fields 6 rfl) H.1), aV [(0, Fld.rows (Qj8 (List.length p0.fields) p0.fields p1).2)] (Q179 (List.length p0.fields) p0.fields p1 rfl (H.2.1 h0) H.2.2.1)] (by kernel_rfl)
 | false =>
  exact Q9 (fn := Ir.K1s) rfl VOK.nil [hP 5 (dec (!(p0.kind == 5)) true (by rw [h0]; rfl))] [] (by kernel_rfl)
def Q3h (p0 : Val) (p1 : ByteArray) : List Fld → Nat → (List Fld) → List Fld
 | [], _i0, v0_1 =>
  v0_1
 | x0 :: r0, i0, v0_1 =>
  bif (p0.kind == 5) then
   bif (sEq x0.name p1) then
    Q3h p0 p1 r0 (i0 + 1) v0_1
   else
    Q3h p0 p1 r0 (i0 + 1) (v0_1 ++ [x0])
  else
   v0_1
def Qk6 (_p0 : Val) (p1 : ByteArray) (i0 : Nat) (v0_1 : List Fld) : List PV :=
  [.un, .str p1, .bx 0 0, .un, .un, .ms 1 6 0 (List.length v0_1), .int .i64 (i0 : Int), .un, .un, .un, .un, .un, .un, .un, .un, .un, .un, .un, .un, .un, .un, .un, .un, .un, .un, .un, .un, .un, .un, .un, .un, .un, .un, .un, .un, .un]
def Qbc (p0 : Val) (_p1 : ByteArray) (_i0 : Nat) (v0_1 : List Fld) : List Ob :=
  [⟨5, 0, true, [.int .i64 p0.kind, .int .i64 p0.n, .str p0.s, .sl (Val.rows p0.list), .sl (Fld.rows p0.fields)]⟩, ⟨6, 0, true, (Fld.rows v0_1).flatten⟩]
def Q76 (p0 : Val) (p1 : ByteArray) (i0 : Nat) (v0_1 : List Fld) : En := .loop 0 Ir.Qic Ir.Q145 (Qk6 p0 p1 i0 v0_1) (Qbc p0 p1 i0 v0_1)
def Qbw (p0 : Val) (_p1 : ByteArray) (q0 : List Fld) (z : Nat → PV) (_zo : Nat → List PV) : St :=
  ⟨[z 0, z 1, z 2, z 3, z 4, .ms 1 6 0 (List.length q0), z 6, z 7, z 8, z 9, z 10, z 11, z 12, z 13, z 14, z 15, z 16, z 17, z 18, z 19, z 20, z 21, z 22, z 23, z 24, z 25, z 26, z 27, z 28, z 29, z 30, z 31, z 32, z 33, z 34, z 35], [(0, ⟨5, 0, true, [.int .i64 p0.kind, .int .i64 p0.n, .str p0.s, .sl (Val.rows p0.list), .sl (Fld.rows p0.fields)]⟩), (1, ⟨6, 0, true, (Fld.rows q0).flatten⟩)], 642⟩
theorem Ql2 (p0 : Val) (p1 : ByteArray) (i0 : Nat) (v0_1 : List Fld) : VOK (Go.Pv.look (number 0 (Qbc p0 p1 i0 v0_1))) [(1, Fld.rows v0_1)] := (VOK.cons (show Seen _ _ from Q3j (ob := ⟨6, 0, true, (Fld.rows v0_1).flatten⟩) (Fld.Q5 v0_1 6 rfl)) VOK.nil)
def Qdv (p0 : Val) (p1 : ByteArray) (e : En) (q : List Fld) : Prop := ∃ z zo, Q7 G e (.st (.exit 0) (Qbw p0 p1 q z zo))
theorem Qa6 (p0 : Val) (p1 : ByteArray) {e e' : En} (h : ∀ r, Q7 G e r → Q7 G e' r) : ∀ q, Qdv p0 p1 e q → Qdv p0 p1 e' q
  | _, ⟨z, zo, hz⟩ => ⟨z, zo, h _ hz⟩
def Q9l (p0 : Val) (_p1 : ByteArray) : Prop := (List.length p0.fields ≤ 137438953472) ∧ True
def Qn7 (p0 : Val) (p1 : ByteArray) (i0 : Nat) (_v0_1 : List Fld) : List PV :=
  [.un, .str p1, .bx 0 0, .un, .un, .un, .int .i64 (i0 : Int), .int .i64 (i0 : Int), .bx 0 4, .sl (Fld.rows p0.fields), .int .i64 ((List.length p0.fields) : Int), .bool false, .bool false, .tup [], .tup [], .tup [], .bool false]
def Qir (_p0 : Val) (_p1 : ByteArray) (_i0 : Nat) (_v0_1 : List Fld) : List (Nat × List PV) :=
  []
theorem Qxb (p0 : Val) (p1 : ByteArray) (_H : Q9l p0 p1) (i0 : Nat) (v0_1 : List Fld) (_ho0_0 : List.length v0_1 ≤ i0) (hc0 : (decide ((i0 : Int) < ((List.length p0.fields) : Int))) = false) : Qdv p0 p1 (Q76 p0 p1 i0 v0_1) v0_1 := by
 exact ⟨(envF (Qn7 p0 p1 i0 v0_1)), (zoF (Qir p0 p1 i0 v0_1)), Qe (Ql2 p0 p1 i0 v0_1) (x := ((.exit 0), Qbw p0 p1 v0_1 (envF (Qn7 p0 p1 i0 v0_1)) (zoF (Qir p0 p1 i0 v0_1)))) [hP 3 (Qj (Fld.rows p0.fields) (List.length p0.fields) (Fld.Qd p0.fields)), hB 0 hc0] [] (by kernel_rfl)⟩
theorem Qzb (p0 : Val) (p1 : ByteArray) (H : Q9l p0 p1) (x0 : Fld) (i0 : Nat) (v0_1 : List Fld) (hx0 : p0.fields[i0]? = some x0) (hi0 : i0 < List.length p0.fields) (_ho0_0 : List.length v0_1 ≤ i0) (hc0 : (decide ((i0 : Int) < ((List.length p0.fields) : Int))) = true) (h0 : (p0.kind == 5) = true) (h1 : (sEq x0.name p1) = true) {r : Rs} (hr : Q7 G (Q76 p0 p1 (i0 + 1) v0_1) r) : Q7 G (Q76 p0 p1 i0 v0_1) r := by
 have hB0 := H.1; have e0 := eq_of_beq h0
 exact Qa (Ql2 p0 p1 i0 v0_1) (y := (Qk6 p0 p1 (i0 + 1) v0_1, Qbc p0 p1 (i0 + 1) v0_1)) [hP 3 (Qj (Fld.rows p0.fields) (List.length p0.fields) (Fld.Qd p0.fields)), hB 0 hc0, hB 3 h0, hP 4 (Q1h 6 (Fld.rows p0.fields) i0 _ (Fld.Qf hx0) rfl), hP 3 (dec (!(sEq x0.name p1)) false (by rw [h1]; rfl)), hP 1 (Qs i0 (by omega))] [] (by kernel_rfl) hr
theorem Qx5 (p0 : Val) (p1 : ByteArray) (H : Q9l p0 p1) (x0 : Fld) (i0 : Nat) (v0_1 : List Fld) (hx0 : p0.fields[i0]? = some x0) (hi0 : i0 < List.length p0.fields) (ho0_0 : List.length v0_1 ≤ i0) (hc0 : (decide ((i0 : Int) < ((List.length p0.fields) : Int))) = true) (h0 : (p0.kind == 5) = true) (h1 : (sEq x0.name p1) = false) {r : Rs} (hr : Q7 G (Q76 p0 p1 (i0 + 1) (v0_1 ++ [x0])) r) : Q7 G (Q76 p0 p1 i0 v0_1) r := by
 have hB0 := H.1; have e0 := eq_of_beq h0
 exact Qa (Ql2 p0 p1 i0 v0_1) (y := (Qk6 p0 p1 (i0 + 1) (v0_1 ++ [x0]), Qbc p0 p1 (i0 + 1) (v0_1 ++ [x0]))) [hP 3 (Qj (Fld.rows p0.fields) (List.length p0.fields) (Fld.Qd p0.fields)), hB 0 hc0, hB 3 h0, hP 4 (Q1h 6 (Fld.rows p0.fields) i0 _ (Fld.Qf hx0) rfl), hP 3 (dec (!(sEq x0.name p1)) true (by rw [h1]; rfl)), hP 4 (Q1h 6 (Fld.rows p0.fields) i0 _ (Fld.Qf hx0) rfl), hV 2 [(1602, Fld.rows (v0_1 ++ [x0]))] (Qbr 1 1538 1602 6 96 0 0 true (Fld.rows v0_1) (Fld.rows (v0_1 ++ [x0])) (Fld.cells x0) (List.length v0_1) (List.length (v0_1 ++ [x0])) rfl (Fld.Qd v0_1).symm (Fld.Qd (v0_1 ++ [x0])).symm (Fld.Q2l v0_1 x0) (Fld.Ql v0_1) rfl (by omega)), hS 0 true (Fld.Q5 (v0_1 ++ [x0]) 6 rfl), hP 2 (Qs i0 (by omega))] [] (by kernel_rfl) hr
def Qob (p0 : Val) (p1 : ByteArray) (i0 : Nat) (_v0_1 : List Fld) (_x0 : Fld) : List PV :=
  [.un, .str p1, .bx 0 0, .un, .un, .un, .int .i64 (i0 : Int), .int .i64 (i0 : Int), .bx 0 4, .sl (Fld.rows p0.fields), .int .i64 ((List.length p0.fields) : Int), .bool true, .bool true, .bx 0 0, .int .i64 p0.kind, .bool false, .bool false]
def Qhd (_p0 : Val) (_p1 : ByteArray) (_i0 : Nat) (_v0_1 : List Fld) (_x0 : Fld) : List (Nat × List PV) :=
  []
theorem Q107 (p0 : Val) (p1 : ByteArray) (_H : Q9l p0 p1) (x0 : Fld) (i0 : Nat) (v0_1 : List Fld) (_hx0 : p0.fields[i0]? = some x0) (_hi0 : i0 < List.length p0.fields) (_ho0_0 : List.length v0_1 ≤ i0) (hc0 : (decide ((i0 : Int) < ((List.length p0.fields) : Int))) = true) (h0 : (p0.kind == 5) = false) : Qdv p0 p1 (Q76 p0 p1 i0 v0_1) v0_1 := by
 exact ⟨(envF (Qob p0 p1 i0 v0_1 x0)), (zoF (Qhd p0 p1 i0 v0_1 x0)), Qe (Ql2 p0 p1 i0 v0_1) (x := ((.exit 0), Qbw p0 p1 v0_1 (envF (Qob p0 p1 i0 v0_1 x0)) (zoF (Qhd p0 p1 i0 v0_1 x0)))) [hP 3 (Qj (Fld.rows p0.fields) (List.length p0.fields) (Fld.Qd p0.fields)), hB 0 hc0, hB 3 h0] [] (by kernel_rfl)⟩
theorem Qk1 (p0 : Val) (p1 : ByteArray) (H : Q9l p0 p1) : ∀ (r0 : List Fld) (i0 : Nat) (v0_1 : List Fld), List.drop i0 p0.fields = r0 → List.length v0_1 ≤ i0 → Qdv p0 p1 (Q76 p0 p1 i0 v0_1) (Q3h p0 p1 r0 i0 v0_1)
 | [], i0, v0_1, hd, ho0_0 => by
  have hc0 : (decide ((i0 : Int) < ((List.length p0.fields) : Int))) = false := by have := Q1m hd; simp; omega
  rw [Q3h]
  exact Qxb p0 p1 H i0 v0_1 ho0_0 hc0
 | x0 :: r0, i0, v0_1, hd, ho0_0 => by
  obtain ⟨hx0, hi0, hd'⟩ := Q18 hd
  have hc0 : (decide ((i0 : Int) < ((List.length p0.fields) : Int))) = true := by simp; omega
  rw [Q3h]
  cases h0 : (p0.kind == 5) with
  | true =>
   have e0 := eq_of_beq h0
   cases h1 : (sEq x0.name p1) with
   | true =>
    exact Qa6 p0 p1 (fun r hr => Qzb p0 p1 H x0 i0 v0_1 hx0 hi0 ho0_0 hc0 h0 h1 hr) _ (Qk1 p0 p1 H r0 (i0 + 1) v0_1 hd' (by first | omega | (simp; omega)))
   | false =>
    exact Qa6 p0 p1 (fun r hr => Qx5 p0 p1 H x0 i0 v0_1 hx0 hi0 ho0_0 hc0 h0 h1 hr) _ (Qk1 p0 p1 H r0 (i0 + 1) (v0_1 ++ [x0]) hd' (by first | omega | (simp; omega)))
  | false =>
   exact Q107 p0 p1 H x0 i0 v0_1 hx0 hi0 ho0_0 hc0 h0
def s_Ku (p0 : Val) (p1 : ByteArray) : Nat × (List Fld) :=
 ((List.length (Q3h p0 p1 p0.fields 0 [])), (Q3h p0 p1 p0.fields 0 []))
def c_Ku (p0 : Val) (p1 : ByteArray) : En := .call 48 [.agg (Val.cells p0), .str p1] []
def r_Ku (_p0 : Val) (_p1 : ByteArray) (q0 : Nat) (q1 : List Fld) : Rs := .ret (.ms 0 6 0 q0) [⟨6, 0, true, (Fld.rows q1).flatten⟩]
def a_Ku (p0 : Val) (p1 : ByteArray) : Rs := r_Ku p0 p1 (s_Ku p0 p1).1 (s_Ku p0 p1).2
def H_Ku (p0 : Val) (p1 : ByteArray) : Prop := (Q9l p0 p1) ∧ True
theorem t_Ku (p0 : Val) (p1 : ByteArray) (H : H_Ku p0 p1) : Q7 G (c_Ku p0 p1) (a_Ku p0 p1) := by
 unfold a_Ku s_Ku
 have hl0 := Qk1 p0 p1 (H.1) p0.fields 0 [] (by simp) (by simp)
 obtain ⟨z0, zo0, hl0⟩ := hl0
 exact Q9 (fn := Ir.Ku) rfl VOK.nil [hS 0 true (Fld.Q5 (Q3h p0 p1 p0.fields 0 []) 6 rfl)] [aV [(1, Fld.rows (Q3h p0 p1 p0.fields 0 []))] hl0] (by kernel_rfl)
def Qz (p0 : List Fld) (p1 : Fld) : List Fld → Nat → (List Fld) → Bool → (List Fld) × Bool
 | [], _i0, v0_1, v0_2 =>
  (v0_1, v0_2)
 | x0 :: r0, i0, v0_1, v0_2 =>
  bif (v0_2 == true) then
   bif (sEq x0.name p1.name) then
    Qz p0 p1 r0 (i0 + 1) v0_1 v0_2
   else
    Qz p0 p1 r0 (i0 + 1) (v0_1 ++ [x0]) v0_2
  else
   bif ((sLt p1.name x0.name) || (sEq p1.name x0.name)) then
    bif (sEq x0.name p1.name) then
     Qz p0 p1 r0 (i0 + 1) (v0_1 ++ [p1]) true
    else
     Qz p0 p1 r0 (i0 + 1) ((v0_1 ++ [p1]) ++ [x0]) true
   else
    bif (sEq x0.name p1.name) then
     Qz p0 p1 r0 (i0 + 1) v0_1 v0_2
    else
     Qz p0 p1 r0 (i0 + 1) (v0_1 ++ [x0]) v0_2
def Q5b (p0 : List Fld) (_p1 : Fld) (i0 : Nat) (v0_1 : List Fld) (v0_2 : Bool) : List PV :=
  [.sl (Fld.rows p0), .un, .un, .bx 0 0, .un, .ms 1 6 0 (List.length v0_1), .bool v0_2, .int .i64 (i0 : Int), .un, .un, .un, .un, .un, .un, .un, .un, .un, .un, .un, .un, .un, .un, .un, .un, .un, .un, .un, .un, .un, .un, .un, .un, .un, .un, .un, .un, .un, .un, .un, .un, .un, .un, .un, .un, .un, .un, .un, .un, .un, .un, .un, .un]
def Q4i (_p0 : List Fld) (p1 : Fld) (_i0 : Nat) (v0_1 : List Fld) (_v0_2 : Bool) : List Ob :=
  [⟨6, 0, true, [.str p1.name, .int .i64 p1.v.kind, .int .i64 p1.v.n, .str p1.v.s, .sl (Val.rows p1.v.list), .sl (Fld.rows p1.v.fields)]⟩, ⟨6, 0, true, (Fld.rows v0_1).flatten⟩]
def Q3e (p0 : List Fld) (p1 : Fld) (i0 : Nat) (v0_1 : List Fld) (v0_2 : Bool) : En := .loop 0 Ir.Qfs Ir.Q14x (Q5b p0 p1 i0 v0_1 v0_2) (Q4i p0 p1 i0 v0_1 v0_2)
def Qlk (_p0 : List Fld) (p1 : Fld) (q0 : List Fld) (q1 : Bool) (z : Nat → PV) (_zo : Nat → List PV) : St :=
  ⟨[z 0, z 1, z 2, .bx 0 0, z 4, .ms 1 6 0 (List.length q0), .bool q1, z 7, z 8, z 9, z 10, z 11, z 12, z 13, z 14, z 15, z 16, z 17, z 18, z 19, z 20, z 21, z 22, z 23, z 24, z 25, z 26, z 27, z 28, z 29, z 30, z 31, z 32, z 33, z 34, z 35, z 36, z 37, z 38, z 39, z 40, z 41, z 42, z 43, z 44, z 45, z 46, z 47, z 48, z 49, z 50, z 51], [(0, ⟨6, 0, true, [.str p1.name, .int .i64 p1.v.kind, .int .i64 p1.v.n, .str p1.v.s, .sl (Val.rows p1.v.list), .sl (Fld.rows p1.v.fields)]⟩), (1, ⟨6, 0, true, (Fld.rows q0).flatten⟩)], 258⟩
theorem Q7h (p0 : List Fld) (p1 : Fld) (i0 : Nat) (v0_1 : List Fld) (v0_2 : Bool) : VOK (Go.Pv.look (number 0 (Q4i p0 p1 i0 v0_1 v0_2))) [(1, Fld.rows v0_1)] := (VOK.cons (show Seen _ _ from Q3j (ob := ⟨6, 0, true, (Fld.rows v0_1).flatten⟩) (Fld.Q5 v0_1 6 rfl)) VOK.nil)
def Qk4 (p0 : List Fld) (p1 : Fld) (e : En) (q : (List Fld) × Bool) : Prop := ∃ z zo, Q7 G e (.st (.exit 0) (Qlk p0 p1 q.1 q.2 z zo))
theorem Q37 (p0 : List Fld) (p1 : Fld) {e e' : En} (h : ∀ r, Q7 G e r → Q7 G e' r) : ∀ q, Qk4 p0 p1 e q → Qk4 p0 p1 e' q
  | _, ⟨z, zo, hz⟩ => ⟨z, zo, h _ hz⟩
def Q57 (p0 : List Fld) (_p1 : Fld) : Prop := (List.length p0 ≤ 137438953472) ∧ True
def Qoz (p0 : List Fld) (_p1 : Fld) (i0 : Nat) (_v0_1 : List Fld) (_v0_2 : Bool) : List PV :=
  [.sl (Fld.rows p0), .un, .un, .un, .un, .un, .un, .int .i64 (i0 : Int), .int .i64 (i0 : Int), .sl (Fld.rows p0), .int .i64 ((List.length p0) : Int), .bool false]
def Qhs (_p0 : List Fld) (_p1 : Fld) (_i0 : Nat) (_v0_1 : List Fld) (_v0_2 : Bool) : List (Nat × List PV) :=
  []
theorem Qyp (p0 : List Fld) (p1 : Fld) (_H : Q57 p0 p1) (i0 : Nat) (v0_1 : List Fld) (v0_2 : Bool) (_ho0_0 : List.length v0_1 ≤ 2 * i0) (hc0 : (decide ((i0 : Int) < ((List.length p0) : Int))) = false) : Qk4 p0 p1 (Q3e p0 p1 i0 v0_1 v0_2) (v0_1, v0_2) := by
 exact ⟨(envF (Qoz p0 p1 i0 v0_1 v0_2)), (zoF (Qhs p0 p1 i0 v0_1 v0_2)), Qe (Q7h p0 p1 i0 v0_1 v0_2) (x := ((.exit 0), Qlk p0 p1 v0_1 v0_2 (envF (Qoz p0 p1 i0 v0_1 v0_2)) (zoF (Qhs p0 p1 i0 v0_1 v0_2)))) [hP 2 (Qj (Fld.rows p0) (List.length p0) (Fld.Qd p0)), hB 0 hc0] [] (by kernel_rfl)⟩
theorem Qx4 (p0 : List Fld) (p1 : Fld) (H : Q57 p0 p1) (x0 : Fld) (i0 : Nat) (v0_1 : List Fld) (v0_2 : Bool) (hx0 : p0[i0]? = some x0) (hi0 : i0 < List.length p0) (_ho0_0 : List.length v0_1 ≤ 2 * i0) (hc0 : (decide ((i0 : Int) < ((List.length p0) : Int))) = true) (h0 : (v0_2 == true) = true) (h1 : (sEq x0.name p1.name) = true) {r : Rs} (hr : Q7 G (Q3e p0 p1 (i0 + 1) v0_1 v0_2) r) : Q7 G (Q3e p0 p1 i0 v0_1 v0_2) r := by
 have hB0 := H.1
 exact Qa (Q7h p0 p1 i0 v0_1 v0_2) (y := (Q5b p0 p1 (i0 + 1) v0_1 v0_2, Q4i p0 p1 (i0 + 1) v0_1 v0_2)) [hP 2 (Qj (Fld.rows p0) (List.length p0) (Fld.Qd p0)), hB 0 hc0, hB 0 (beqT h0), hP 13 (Q1h 6 (Fld.rows p0) i0 _ (Fld.Qf hx0) rfl), hP 4 (dec (!(sEq x0.name p1.name)) false (by rw [h1]; rfl)), hP 1 (Qs i0 (by omega))] [] (by kernel_rfl) hr
theorem Qwj (p0 : List Fld) (p1 : Fld) (H : Q57 p0 p1) (x0 : Fld) (i0 : Nat) (v0_1 : List Fld) (v0_2 : Bool) (hx0 : p0[i0]? = some x0) (hi0 : i0 < List.length p0) (ho0_0 : List.length v0_1 ≤ 2 * i0) (hc0 : (decide ((i0 : Int) < ((List.length p0) : Int))) = true) (h0 : (v0_2 == true) = true) (h1 : (sEq x0.name p1.name) = false) {r : Rs} (hr : Q7 G (Q3e p0 p1 (i0 + 1) (v0_1 ++ [x0]) v0_2) r) : Q7 G (Q3e p0 p1 i0 v0_1 v0_2) r := by
 have hB0 := H.1
 exact Qa (Q7h p0 p1 i0 v0_1 v0_2) (y := (Q5b p0 p1 (i0 + 1) (v0_1 ++ [x0]) v0_2, Q4i p0 p1 (i0 + 1) (v0_1 ++ [x0]) v0_2)) [hP 2 (Qj (Fld.rows p0) (List.length p0) (Fld.Qd p0)), hB 0 hc0, hB 0 (beqT h0), hP 13 (Q1h 6 (Fld.rows p0) i0 _ (Fld.Qf hx0) rfl), hP 4 (dec (!(sEq x0.name p1.name)) true (by rw [h1]; rfl)), hP 3 (Q1h 6 (Fld.rows p0) i0 _ (Fld.Qf hx0) rfl), hV 2 [(1922, Fld.rows (v0_1 ++ [x0]))] (Qbr 1 1858 1922 6 96 0 0 true (Fld.rows v0_1) (Fld.rows (v0_1 ++ [x0])) (Fld.cells x0) (List.length v0_1) (List.length (v0_1 ++ [x0])) rfl (Fld.Qd v0_1).symm (Fld.Qd (v0_1 ++ [x0])).symm (Fld.Q2l v0_1 x0) (Fld.Ql v0_1) rfl (by omega)), hS 0 true (Fld.Q5 (v0_1 ++ [x0]) 6 rfl), hP 2 (Qs i0 (by omega))] [] (by kernel_rfl) hr
theorem Qzv (p0 : List Fld) (p1 : Fld) (H : Q57 p0 p1) (x0 : Fld) (i0 : Nat) (v0_1 : List Fld) (v0_2 : Bool) (hx0 : p0[i0]? = some x0) (hi0 : i0 < List.length p0) (ho0_0 : List.length v0_1 ≤ 2 * i0) (hc0 : (decide ((i0 : Int) < ((List.length p0) : Int))) = true) (h0 : (v0_2 == true) = false) (h1 : ((sLt p1.name x0.name) || (sEq p1.name x0.name)) = true) (h2 : (sEq x0.name p1.name) = true) {r : Rs} (hr : Q7 G (Q3e p0 p1 (i0 + 1) (v0_1 ++ [p1]) true) r) : Q7 G (Q3e p0 p1 i0 v0_1 v0_2) r := by
 have hB0 := H.1
 exact Qa (Q7h p0 p1 i0 v0_1 v0_2) (y := (Q5b p0 p1 (i0 + 1) (v0_1 ++ [p1]) true, Q4i p0 p1 (i0 + 1) (v0_1 ++ [p1]) true)) [hP 2 (Qj (Fld.rows p0) (List.length p0) (Fld.Qd p0)), hB 0 hc0, hB 0 (beqT h0), hP 6 (Q1h 6 (Fld.rows p0) i0 _ (Fld.Qf hx0) rfl), hB 2 h1, hV 4 [(1218, Fld.rows (v0_1 ++ [p1]))] (Qbr 1 1154 1218 6 96 0 0 true (Fld.rows v0_1) (Fld.rows (v0_1 ++ [p1])) (Fld.cells p1) (List.length v0_1) (List.length (v0_1 ++ [p1])) rfl (Fld.Qd v0_1).symm (Fld.Qd (v0_1 ++ [p1])).symm (Fld.Q2l v0_1 p1) (Fld.Ql v0_1) rfl (by omega)), hS 0 true (Fld.Q5 (v0_1 ++ [p1]) 6 rfl), hP 4 (Q1h 6 (Fld.rows p0) i0 _ (Fld.Qf hx0) rfl), hP 4 (dec (!(sEq x0.name p1.name)) false (by rw [h2]; rfl)), hP 1 (Qs i0 (by omega))] [] (by kernel_rfl) hr
theorem Qxc (p0 : List Fld) (p1 : Fld) (H : Q57 p0 p1) (x0 : Fld) (i0 : Nat) (v0_1 : List Fld) (v0_2 : Bool) (hx0 : p0[i0]? = some x0) (hi0 : i0 < List.length p0) (ho0_0 : List.length v0_1 ≤ 2 * i0) (hc0 : (decide ((i0 : Int) < ((List.length p0) : Int))) = true) (h0 : (v0_2 == true) = false) (h1 : ((sLt p1.name x0.name) || (sEq p1.name x0.name)) = true) (h2 : (sEq x0.name p1.name) = false) {r : Rs} (hr : Q7 G (Q3e p0 p1 (i0 + 1) ((v0_1 ++ [p1]) ++ [x0]) true) r) : Q7 G (Q3e p0 p1 i0 v0_1 v0_2) r := by
 have hB0 := H.1
 exact Qa (Q7h p0 p1 i0 v0_1 v0_2) (y := (Q5b p0 p1 (i0 + 1) ((v0_1 ++ [p1]) ++ [x0]) true, Q4i p0 p1 (i0 + 1) ((v0_1 ++ [p1]) ++ [x0]) true)) [hP 2 (Qj (Fld.rows p0) (List.length p0) (Fld.Qd p0)), hB 0 hc0, hB 0 (beqT h0), hP 6 (Q1h 6 (Fld.rows p0) i0 _ (Fld.Qf hx0) rfl), hB 2 h1, hV 4 [(1218, Fld.rows (v0_1 ++ [p1]))] (Qbr 1 1154 1218 6 96 0 0 true (Fld.rows v0_1) (Fld.rows (v0_1 ++ [p1])) (Fld.cells p1) (List.length v0_1) (List.length (v0_1 ++ [p1])) rfl (Fld.Qd v0_1).symm (Fld.Qd (v0_1 ++ [p1])).symm (Fld.Q2l v0_1 p1) (Fld.Ql v0_1) rfl (by omega)), hS 0 true (Fld.Q5 (v0_1 ++ [p1]) 6 rfl), hP 4 (Q1h 6 (Fld.rows p0) i0 _ (Fld.Qf hx0) rfl), hP 4 (dec (!(sEq x0.name p1.name)) true (by rw [h2]; rfl)), hP 3 (Q1h 6 (Fld.rows p0) i0 _ (Fld.Qf hx0) rfl), hV 2 [(2306, Fld.rows ((v0_1 ++ [p1]) ++ [x0]))] (Qbr 1218 2242 2306 6 96 0 0 true (Fld.rows (v0_1 ++ [p1])) (Fld.rows ((v0_1 ++ [p1]) ++ [x0])) (Fld.cells x0) (List.length (v0_1 ++ [p1])) (List.length ((v0_1 ++ [p1]) ++ [x0])) rfl (Fld.Qd (v0_1 ++ [p1])).symm (Fld.Qd ((v0_1 ++ [p1]) ++ [x0])).symm (Fld.Q2l (v0_1 ++ [p1]) x0) (Fld.Ql (v0_1 ++ [p1])) rfl (by try simp only [List.length_append, List.length_cons, List.length_nil]; omega)), hS 0 true (Fld.Q5 ((v0_1 ++ [p1]) ++ [x0]) 6 rfl), hP 2 (Qs i0 (by omega))] [] (by kernel_rfl) hr
theorem Qw3 (p0 : List Fld) (p1 : Fld) (H : Q57 p0 p1) (x0 : Fld) (i0 : Nat) (v0_1 : List Fld) (v0_2 : Bool) (hx0 : p0[i0]? = some x0) (hi0 : i0 < List.length p0) (_ho0_0 : List.length v0_1 ≤ 2 * i0) (hc0 : (decide ((i0 : Int) < ((List.length p0) : Int))) = true) (h0 : (v0_2 == true) = false) (h1 : ((sLt p1.name x0.name) || (sEq p1.name x0.name)) = false) (h2 : (sEq x0.name p1.name) = true) {r : Rs} (hr : Q7 G (Q3e p0 p1 (i0 + 1) v0_1 v0_2) r) : Q7 G (Q3e p0 p1 i0 v0_1 v0_2) r := by
 have hB0 := H.1
 exact Qa (Q7h p0 p1 i0 v0_1 v0_2) (y := (Q5b p0 p1 (i0 + 1) v0_1 v0_2, Q4i p0 p1 (i0 + 1) v0_1 v0_2)) [hP 2 (Qj (Fld.rows p0) (List.length p0) (Fld.Qd p0)), hB 0 hc0, hB 0 (beqT h0), hP 6 (Q1h 6 (Fld.rows p0) i0 _ (Fld.Qf hx0) rfl), hB 2 h1, hP 3 (Q1h 6 (Fld.rows p0) i0 _ (Fld.Qf hx0) rfl), hP 4 (dec (!(sEq x0.name p1.name)) false (by rw [h2]; rfl)), hP 1 (Qs i0 (by omega))] [] (by kernel_rfl) hr
theorem Qzd (p0 : List Fld) (p1 : Fld) (H : Q57 p0 p1) (x0 : Fld) (i0 : Nat) (v0_1 : List Fld) (v0_2 : Bool) (hx0 : p0[i0]? = some x0) (hi0 : i0 < List.length p0) (ho0_0 : List.length v0_1 ≤ 2 * i0) (hc0 : (decide ((i0 : Int) < ((List.length p0) : Int))) = true) (h0 : (v0_2 == true) = false) (h1 : ((sLt p1.name x0.name) || (sEq p1.name x0.name)) = false) (h2 : (sEq x0.name p1.name) = false) {r : Rs} (hr : Q7 G (Q3e p0 p1 (i0 + 1) (v0_1 ++ [x0]) v0_2) r) : Q7 G (Q3e p0 p1 i0 v0_1 v0_2) r := by
 have hB0 := H.1
 exact Qa (Q7h p0 p1 i0 v0_1 v0_2) (y := (Q5b p0 p1 (i0 + 1) (v0_1 ++ [x0]) v0_2, Q4i p0 p1 (i0 + 1) (v0_1 ++ [x0]) v0_2)) [hP 2 (Qj (Fld.rows p0) (List.length p0) (Fld.Qd p0)), hB 0 hc0, hB 0 (beqT h0), hP 6 (Q1h 6 (Fld.rows p0) i0 _ (Fld.Qf hx0) rfl), hB 2 h1, hP 3 (Q1h 6 (Fld.rows p0) i0 _ (Fld.Qf hx0) rfl), hP 4 (dec (!(sEq x0.name p1.name)) true (by rw [h2]; rfl)), hP 3 (Q1h 6 (Fld.rows p0) i0 _ (Fld.Qf hx0) rfl), hV 2 [(1922, Fld.rows (v0_1 ++ [x0]))] (Qbr 1 1858 1922 6 96 0 0 true (Fld.rows v0_1) (Fld.rows (v0_1 ++ [x0])) (Fld.cells x0) (List.length v0_1) (List.length (v0_1 ++ [x0])) rfl (Fld.Qd v0_1).symm (Fld.Qd (v0_1 ++ [x0])).symm (Fld.Q2l v0_1 x0) (Fld.Ql v0_1) rfl (by omega)), hS 0 true (Fld.Q5 (v0_1 ++ [x0]) 6 rfl), hP 2 (Qs i0 (by omega))] [] (by kernel_rfl) hr
theorem Q5i (p0 : List Fld) (p1 : Fld) (H : Q57 p0 p1) : ∀ (r0 : List Fld) (i0 : Nat) (v0_1 : List Fld) (v0_2 : Bool), List.drop i0 p0 = r0 → List.length v0_1 ≤ 2 * i0 → Qk4 p0 p1 (Q3e p0 p1 i0 v0_1 v0_2) (Qz p0 p1 r0 i0 v0_1 v0_2)
 | [], i0, v0_1, v0_2, hd, ho0_0 => by
  have hc0 : (decide ((i0 : Int) < ((List.length p0) : Int))) = false := by have := Q1m hd; simp; omega
  rw [Qz]
  exact Qyp p0 p1 H i0 v0_1 v0_2 ho0_0 hc0
 | x0 :: r0, i0, v0_1, v0_2, hd, ho0_0 => by
  obtain ⟨hx0, hi0, hd'⟩ := Q18 hd
  have hc0 : (decide ((i0 : Int) < ((List.length p0) : Int))) = true := by simp; omega
  rw [Qz]
  cases h0 : (v0_2 == true) with
  | true =>
   cases h1 : (sEq x0.name p1.name) with
   | true =>
    exact Q37 p0 p1 (fun r hr => Qx4 p0 p1 H x0 i0 v0_1 v0_2 hx0 hi0 ho0_0 hc0 h0 h1 hr) _ (Q5i p0 p1 H r0 (i0 + 1) v0_1 v0_2 hd' (by first | omega | (simp; omega)))
   | false =>
    exact Q37 p0 p1 (fun r hr => Qwj p0 p1 H x0 i0 v0_1 v0_2 hx0 hi0 ho0_0 hc0 h0 h1 hr) _ (Q5i p0 p1 H r0 (i0 + 1) (v0_1 ++ [x0]) v0_2 hd' (by first | omega | (simp; omega)))
  | false =>
   cases h1 : ((sLt p1.name x0.name) || (sEq p1.name x0.name)) with
   | true =>
    cases h2 : (sEq x0.name p1.name) with
    | true =>
     exact Q37 p0 p1 (fun r hr => Qzv p0 p1 H x0 i0 v0_1 v0_2 hx0 hi0 ho0_0 hc0 h0 h1 h2 hr) _ (Q5i p0 p1 H r0 (i0 + 1) (v0_1 ++ [p1]) true hd' (by first | omega | (simp; omega)))
    | false =>
     exact Q37 p0 p1 (fun r hr => Qxc p0 p1 H x0 i0 v0_1 v0_2 hx0 hi0 ho0_0 hc0 h0 h1 h2 hr) _ (Q5i p0 p1 H r0 (i0 + 1) ((v0_1 ++ [p1]) ++ [x0]) true hd' (by first | omega | (simp; omega)))
   | false =>
    cases h2 : (sEq x0.name p1.name) with
    | true =>
     exact Q37 p0 p1 (fun r hr => Qw3 p0 p1 H x0 i0 v0_1 v0_2 hx0 hi0 ho0_0 hc0 h0 h1 h2 hr) _ (Q5i p0 p1 H r0 (i0 + 1) v0_1 v0_2 hd' (by first | omega | (simp; omega)))
    | false =>
     exact Q37 p0 p1 (fun r hr => Qzd p0 p1 H x0 i0 v0_1 v0_2 hx0 hi0 ho0_0 hc0 h0 h1 h2 hr) _ (Q5i p0 p1 H r0 (i0 + 1) (v0_1 ++ [x0]) v0_2 hd' (by first | omega | (simp; omega)))
def s_Kv (p0 : List Fld) (p1 : Fld) : List Fld :=
 bif (Qz p0 p1 p0 0 [] false).2 then
  (Qz p0 p1 p0 0 [] false).1
 else
  ((Qz p0 p1 p0 0 [] false).1 ++ [p1])
def c_Kv (p0 : List Fld) (p1 : Fld) : En := .call 58 [.sl (Fld.rows p0), .agg (Fld.cells p1)] []
def a_Kv (p0 : List Fld) (p1 : Fld) : Rs := .ret (.sl (Fld.rows (s_Kv p0 p1))) []
def H_Kv (p0 : List Fld) (p1 : Fld) : Prop := (Q57 p0 p1) ∧ ((Qz p0 p1 p0 0 [] false).2 = false → ((List.length (Qz p0 p1 p0 0 [] false).1) + 1) * 96 ≤ 140737488355328) ∧ True
theorem t_Kv (p0 : List Fld) (p1 : Fld) (H : H_Kv p0 p1) : Q7 G (c_Kv p0 p1) (a_Kv p0 p1) := by
 unfold a_Kv s_Kv
 have hl0 := Q5i p0 p1 (H.1) p0 0 [] false (by simp) (by simp)
 obtain ⟨z0, zo0, hl0⟩ := hl0
 cases h0 : (Qz p0 p1 p0 0 [] false).2 with
 | true =>
  exact Q9 (fn := Ir.Kv) rfl VOK.nil [hS 0 true (Fld.Q5 (Qz p0 p1 p0 0 [] false).1 6 rfl), hB 5 h0, hQ (Fld.Qd (Qz p0 p1 p0 0 [] false).1).symm] [aV [(1, Fld.rows (Qz p0 p1 p0 0 [] false).1)] hl0] (by kernel_rfl)
 | false =>
  exact Q9 (fn := Ir.Kv) rfl VOK.nil [hS 0 true (Fld.Q5 (Qz p0 p1 p0 0 [] false).1 6 rfl), hB 5 h0, hV 4 [(578, Fld.rows ((Qz p0 p1 p0 0 [] false).1 ++ [p1]))] (Qbr 1 514 578 6 96 0 0 true (Fld.rows (Qz p0 p1 p0 0 [] false).1) (Fld.rows ((Qz p0 p1 p0 0 [] false).1 ++ [p1])) (Fld.cells p1) (List.length (Qz p0 p1 p0 0 [] false).1) (List.length ((Qz p0 p1 p0 0 [] false).1 ++ [p1])) rfl (Fld.Qd (Qz p0 p1 p0 0 [] false).1).symm (Fld.Qd ((Qz p0 p1 p0 0 [] false).1 ++ [p1])).symm (Fld.Q2l (Qz p0 p1 p0 0 [] false).1 p1) (Fld.Ql (Qz p0 p1 p0 0 [] false).1) rfl (H.2.1 h0)), hS 0 true (Fld.Q5 ((Qz p0 p1 p0 0 [] false).1 ++ [p1]) 6 rfl), hQ (Fld.Qd ((Qz p0 p1 p0 0 [] false).1 ++ [p1])).symm] [aV [(1, Fld.rows (Qz p0 p1 p0 0 [] false).1)] hl0] (by kernel_rfl)
def Q63 (p0 : List Fld) : List Fld → Nat → Val → Val
 | [], _i0, v0_1 =>
  v0_1
 | x0 :: r0, i0, v0_1 =>
  Q63 p0 r0 (i0 + 1) (Val.mk v0_1.kind v0_1.n v0_1.s v0_1.list (s_Kv v0_1.fields (Fld.mk x0.name (s_Kj x0.v))))
def Qsi (p0 : List Fld) (i0 : Nat) (_v0_1 : Val) : List PV :=
  [.sl (Fld.rows p0), .un, .bx 0 0, .bx 1 0, .int .i64 (i0 : Int), .un, .un, .un, .un, .un, .un, .un, .un, .un, .un, .un, .un, .un, .un, .un, .un, .un, .un, .un, .un, .un, .un, .un, .un]
def Qqh (_p0 : List Fld) (_i0 : Nat) (v0_1 : Val) : List Ob :=
  [⟨5, 0, true, [.int .i64 0, .int .i64 0, .str (⟨#[]⟩ : ByteArray), .sl [], .sl []]⟩, ⟨5, 0, true, [.int .i64 v0_1.kind, .int .i64 v0_1.n, .str v0_1.s, .sl (Val.rows v0_1.list), .sl (Fld.rows v0_1.fields)]⟩]
def Qk8 (p0 : List Fld) (i0 : Nat) (v0_1 : Val) : En := .loop 0 Ir.Qgr Ir.Q158 (Qsi p0 i0 v0_1) (Qqh p0 i0 v0_1)
def Qp8 (_p0 : List Fld) (q0 : Val) (z : Nat → PV) (_zo : Nat → List PV) : St :=
  ⟨[z 0, z 1, .bx 0 0, .bx 1 0, z 4, z 5, z 6, z 7, z 8, z 9, z 10, z 11, z 12, z 13, z 14, z 15, z 16, z 17, z 18, z 19, z 20, z 21, z 22, z 23, z 24, z 25, z 26, z 27, z 28], [(0, ⟨5, 0, true, [.int .i64 0, .int .i64 0, .str (⟨#[]⟩ : ByteArray), .sl [], .sl []]⟩), (1, ⟨5, 0, true, [.int .i64 q0.kind, .int .i64 q0.n, .str q0.s, .sl (Val.rows q0.list), .sl (Fld.rows q0.fields)]⟩)], 258⟩
def Qkh (p0 : List Fld) (e : En) (q : Val) : Prop := ∃ z zo, Q7 G e (.st (.exit 0) (Qp8 p0 q z zo))
theorem Qp4 (p0 : List Fld) {e e' : En} (h : ∀ r, Q7 G e r → Q7 G e' r) : ∀ q, Qkh p0 e q → Qkh p0 e' q
  | _, ⟨z, zo, hz⟩ => ⟨z, zo, h _ hz⟩
def Qkl (p0 : List Fld) : Prop := (List.length p0 ≤ 137438953472) ∧ (∀ x0 ∈ p0, H_Kj x0.v) ∧ (∀ (i0 : Nat) (v0_1 : Val) (x0 : Fld), p0[i0]? = some x0 → List.length v0_1.fields ≤ i0 → H_Kv v0_1.fields (Fld.mk x0.name (s_Kj x0.v))) ∧ (∀ (i0 : Nat) (v0_1 : Val) (x0 : Fld), p0[i0]? = some x0 → List.length v0_1.fields ≤ i0 → List.length (Val.mk v0_1.kind v0_1.n v0_1.s v0_1.list (s_Kv v0_1.fields (Fld.mk x0.name (s_Kj x0.v)))).fields ≤ (i0 + 1)) ∧ True
def Qlm (p0 : List Fld) (i0 : Nat) (_v0_1 : Val) : List PV :=
  [.sl (Fld.rows p0), .un, .un, .un, .int .i64 (i0 : Int), .un, .int .i64 (i0 : Int), .sl (Fld.rows p0), .int .i64 ((List.length p0) : Int), .bool false]
def Qgk (_p0 : List Fld) (_i0 : Nat) (_v0_1 : Val) : List (Nat × List PV) :=
  []
theorem Qyz (p0 : List Fld) (_H : Qkl p0) (i0 : Nat) (v0_1 : Val) (_ho0_0 : List.length v0_1.fields ≤ i0) (hc0 : (decide ((i0 : Int) < ((List.length p0) : Int))) = false) : Qkh p0 (Qk8 p0 i0 v0_1) v0_1 := by
 exact ⟨(envF (Qlm p0 i0 v0_1)), (zoF (Qgk p0 i0 v0_1)), Qe VOK.nil (x := ((.exit 0), Qp8 p0 v0_1 (envF (Qlm p0 i0 v0_1)) (zoF (Qgk p0 i0 v0_1)))) [hP 2 (Qj (Fld.rows p0) (List.length p0) (Fld.Qd p0)), hB 0 hc0] [] (by kernel_rfl)⟩
theorem Qzm (p0 : List Fld) (H : Qkl p0) (x0 : Fld) (i0 : Nat) (v0_1 : Val) (hx0 : p0[i0]? = some x0) (hi0 : i0 < List.length p0) (ho0_0 : List.length v0_1.fields ≤ i0) (hc0 : (decide ((i0 : Int) < ((List.length p0) : Int))) = true) {r : Rs} (hr : Q7 G (Qk8 p0 (i0 + 1) (Val.mk v0_1.kind v0_1.n v0_1.s v0_1.list (s_Kv v0_1.fields (Fld.mk x0.name (s_Kj x0.v))))) r) : Q7 G (Qk8 p0 i0 v0_1) r := by
 have hB0 := H.1
 exact Qa VOK.nil (y := (Qsi p0 (i0 + 1) (Val.mk v0_1.kind v0_1.n v0_1.s v0_1.list (s_Kv v0_1.fields (Fld.mk x0.name (s_Kj x0.v)))), Qqh p0 (i0 + 1) (Val.mk v0_1.kind v0_1.n v0_1.s v0_1.list (s_Kv v0_1.fields (Fld.mk x0.name (s_Kj x0.v)))))) [hP 2 (Qj (Fld.rows p0) (List.length p0) (Fld.Qd p0)), hB 0 hc0, hP 4 (Q1h 6 (Fld.rows p0) i0 _ (Fld.Qf hx0) rfl), hP 4 (Q1h 6 (Fld.rows p0) i0 _ (Fld.Qf hx0) rfl), hP 8 (Qs i0 (by omega))] [aN (t_Kj x0.v (H.2.1 x0 (Q1f hx0))), aN (t_Kv v0_1.fields (Fld.mk x0.name (s_Kj x0.v)) (H.2.2.1 i0 v0_1 x0 hx0 ho0_0))] (by kernel_rfl) hr
theorem Qqt (p0 : List Fld) (H : Qkl p0) : ∀ (r0 : List Fld) (i0 : Nat) (v0_1 : Val), List.drop i0 p0 = r0 → List.length v0_1.fields ≤ i0 → Qkh p0 (Qk8 p0 i0 v0_1) (Q63 p0 r0 i0 v0_1)
 | [], i0, v0_1, hd, ho0_0 => by
  have hc0 : (decide ((i0 : Int) < ((List.length p0) : Int))) = false := by have := Q1m hd; simp; omega
  rw [Q63]
  exact Qyz p0 H i0 v0_1 ho0_0 hc0
 | x0 :: r0, i0, v0_1, hd, ho0_0 => by
  obtain ⟨hx0, hi0, hd'⟩ := Q18 hd
  have hc0 : (decide ((i0 : Int) < ((List.length p0) : Int))) = true := by simp; omega
  rw [Q63]
  exact Qp4 p0 (fun r hr => Qzm p0 H x0 i0 v0_1 hx0 hi0 ho0_0 hc0 hr) _ (Qqt p0 H r0 (i0 + 1) (Val.mk v0_1.kind v0_1.n v0_1.s v0_1.list (s_Kv v0_1.fields (Fld.mk x0.name (s_Kj x0.v)))) hd' ((H.2.2.2.1 i0 v0_1 x0 hx0 ho0_0)))
def s_Km (p0 : List Fld) : Val :=
 (Q63 p0 p0 0 (Val.mk 5 0 (⟨#[]⟩ : ByteArray) [] []))
def c_Km (p0 : List Fld) : En := .call 47 [.sl (Fld.rows p0)] []
def a_Km (p0 : List Fld) : Rs := .ret (.agg (Val.cells (s_Km p0))) []
def H_Km (p0 : List Fld) : Prop := (Qkl p0) ∧ (List.length (Val.mk 5 0 (⟨#[]⟩ : ByteArray) [] []).fields ≤ 0) ∧ True
theorem t_Km (p0 : List Fld) (H : H_Km p0) : Q7 G (c_Km p0) (a_Km p0) := by
 unfold a_Km s_Km
 have hl0 := Qqt p0 (H.1) p0 0 (Val.mk 5 0 (⟨#[]⟩ : ByteArray) [] []) (by simp) (H.2.1)
 obtain ⟨z0, zo0, hl0⟩ := hl0
 exact Q9 (fn := Ir.Km) rfl VOK.nil [] [aN hl0] (by kernel_rfl)
def Qui (p0 : List Val) : Val :=
 (Val.mk 4 0 (⟨#[]⟩ : ByteArray) p0 [])
def Q13r (p0 : List Val) : En := .call 40 [.sl (Val.rows p0)] []
def Q14c (p0 : List Val) : Rs := .ret (.agg (Val.cells (Qui p0))) []
def Q12s (p0 : List Val) : Prop := (Qch (Val.mk 4 0 (⟨#[]⟩ : ByteArray) p0 [])) ∧ True
theorem Q17s (p0 : List Val) (H : Q12s p0) : Q7 G (Q13r p0) (Q14c p0) := by
 unfold Q14c Qui
 exact Q9 (fn := Ir.K1l) rfl VOK.nil [] [aN (Q11q (Val.mk 4 0 (⟨#[]⟩ : ByteArray) p0 []) H.1)] (by kernel_rfl)
end Go.Proofs.Ytnhhddbbppbblaa
end

section
/- What building a map computes (printed by a program). -/
namespace Go.Proofs.Ytnhhddbbppbblaa
open Go.Pv
def Q26 (p0 : Fld) (p1 : Fld) : Int :=
 (Q12n p0.name p1.name)
def Q17r (p0 : Fld) (p1 : Fld) : En := .call 43 [.agg (Fld.cells p0), .agg (Fld.cells p1)] []
def Q159 (p0 : Fld) (p1 : Fld) : Rs := .ret (.int .i64 (Q26 p0 p1)) []
theorem Qo5 (p0 : Fld) (p1 : Fld) : Q7 G (Q17r p0 p1) (Q159 p0 p1) := by
 unfold Q159 Q26
 exact Q9 (fn := Ir.K1n) rfl VOK.nil [] [aN (Q16y p0.name p1.name)] (by kernel_rfl)
def Q28 (n0 : Nat) (p1 : Int) (p2 : Int) (v0_0 : Int) : Nat → (List Fld) → Int → List Fld
 | 0, v1_0, _v1_1 => v1_0
 | k1 + 1, v1_0, v1_1 =>
  bif (decide (p1 < v1_1)) then
   bif (decide ((Q26 (List.getD v1_0 (Int.toNat v1_1) zF) (List.getD v1_0 (Int.toNat (v1_1 - 1)) zF)) < 0)) then
    Q28 n0 p1 p2 v0_0 k1 (List.set (List.set v1_0 (Int.toNat v1_1) (List.getD v1_0 (Int.toNat (v1_1 - 1)) zF)) (Int.toNat (v1_1 - 1)) (List.getD v1_0 (Int.toNat v1_1) zF)) (v1_1 - 1)
   else
    v1_0
  else
   v1_0
def Qnf (n0 : Nat) (p1 : Int) (p2 : Int) (v0_0 : Int) (_v1_0 : List Fld) (v1_1 : Int) : List PV :=
  [.ms 0 6 0 n0, .int .i64 p1, .int .i64 p2, .fn 43 [] [], .un, .un, .un, .un, .int .i64 v0_0, .int .i64 v1_1, .un, .un, .un, .un, .un, .un, .un, .un, .un, .un, .un, .un, .un, .un, .un, .un, .un, .un, .un, .un, .un, .un, .un, .un, .un, .un, .un, .un, .un, .un, .un, .un, .un, .un, .un, .un, .un, .un, .un, .un, .un, .un, .un]
def Qcy (_n0 : Nat) (_p1 : Int) (_p2 : Int) (_v0_0 : Int) (v1_0 : List Fld) (_v1_1 : Int) : List Ob :=
  [⟨6, 0, false, (Fld.rows v1_0).flatten⟩]
def Q6l (n0 : Nat) (p1 : Int) (p2 : Int) (v0_0 : Int) (v1_0 : List Fld) (v1_1 : Int) : En := .loop 1 Ir.Qd2 Ir.Q120 (Qnf n0 p1 p2 v0_0 v1_0 v1_1) (Qcy n0 p1 p2 v0_0 v1_0 v1_1)
def Q6q (n0 : Nat) (p1 : Int) (p2 : Int) (v0_0 : Int) (q0 : List Fld) (z : Nat → PV) (_zo : Nat → List PV) : St :=
  ⟨[.ms 0 6 0 n0, .int .i64 p1, .int .i64 p2, .fn 43 [] [], z 4, z 5, z 6, z 7, .int .i64 v0_0, z 9, z 10, z 11, z 12, z 13, z 14, z 15, z 16, z 17, z 18, z 19, z 20, z 21, z 22, z 23, z 24, z 25, z 26, z 27, z 28, z 29, z 30, z 31, z 32, z 33, z 34, z 35, z 36, z 37, z 38, z 39, z 40, z 41, z 42, z 43, z 44, z 45, z 46, z 47, z 48, z 49, z 50, z 51, z 52], [(0, ⟨6, 0, false, (Fld.rows q0).flatten⟩)], 1089⟩
theorem Qlb (n0 : Nat) (p1 : Int) (p2 : Int) (v0_0 : Int) (v1_0 : List Fld) (v1_1 : Int) : VOK (Go.Pv.look (number 0 (Qcy n0 p1 p2 v0_0 v1_0 v1_1))) [(0, Fld.rows v1_0)] := (VOK.cons (show Seen _ _ from Q3j (ob := ⟨6, 0, false, (Fld.rows v1_0).flatten⟩) (Fld.Q5 v1_0 6 rfl)) VOK.nil)
def Q8p (n0 : Nat) (p1 : Int) (p2 : Int) (v0_0 : Int) (e : En) (q : List Fld) : Prop := ∃ z zo, Q7 G e (.st (.exit 2) (Q6q n0 p1 p2 v0_0 q z zo))
theorem Qjn (n0 : Nat) (p1 : Int) (p2 : Int) (v0_0 : Int) {e e' : En} (h : ∀ r, Q7 G e r → Q7 G e' r) : ∀ q, Q8p n0 p1 p2 v0_0 e q → Q8p n0 p1 p2 v0_0 e' q
  | _, ⟨z, zo, hz⟩ => ⟨z, zo, h _ hz⟩
theorem Qvc (n0 : Nat) (p1 : Int) (p2 : Int) (v0_0 : Int) (v1_0 : List Fld) (v1_1 : Int) (ho1_0 : 0 ≤ p1) (_ho1_1 : p1 ≤ v1_1) (ho1_2 : v1_1 < n0) (ho1_3 : (n0 : Int) ≤ 1152921504606846976) (ho1_4 : List.length v1_0 = n0) (h0 : (decide (p1 < v1_1)) = true) (h1 : (decide ((Q26 (List.getD v1_0 (Int.toNat v1_1) zF) (List.getD v1_0 (Int.toNat (v1_1 - 1)) zF)) < 0)) = true) {r : Rs} (hr : Q7 G (Q6l n0 p1 p2 v0_0 (List.set (List.set v1_0 (Int.toNat v1_1) (List.getD v1_0 (Int.toNat (v1_1 - 1)) zF)) (Int.toNat (v1_1 - 1)) (List.getD v1_0 (Int.toNat v1_1) zF)) (v1_1 - 1)) r) : Q7 G (Q6l n0 p1 p2 v0_0 v1_0 v1_1) r := by
 have e0 := of_decide_eq_true h0; have e1 := of_decide_eq_true h1
 exact Qa (Qlb n0 p1 p2 v0_0 v1_0 v1_1) (y := (Qnf n0 p1 p2 v0_0 (List.set (List.set v1_0 (Int.toNat v1_1) (List.getD v1_0 (Int.toNat (v1_1 - 1)) zF)) (Int.toNat (v1_1 - 1)) (List.getD v1_0 (Int.toNat v1_1) zF)) (v1_1 - 1), Qcy n0 p1 p2 v0_0 (List.set (List.set v1_0 (Int.toNat v1_1) (List.getD v1_0 (Int.toNat (v1_1 - 1)) zF)) (Int.toNat (v1_1 - 1)) (List.getD v1_0 (Int.toNat v1_1) zF)) (v1_1 - 1))) [hB 2 h0, hP 4 (Q1i 0 6 n0 v1_1 (Int.toNat v1_1) rfl (by omega) (by omega)), hP 0 (Q2y 0 6 0 false ((Fld.rows v1_0).flatten) (Fld.rows v1_0) 6 true (Int.toNat v1_1) 0 ((Int.toNat v1_1) * 6) (Fld.cells (List.getD v1_0 (Int.toNat v1_1) zF)) (.agg [.str (List.getD v1_0 (Int.toNat v1_1) zF).name, .int .i64 (List.getD v1_0 (Int.toNat v1_1) zF).v.kind, .int .i64 (List.getD v1_0 (Int.toNat v1_1) zF).v.n, .str (List.getD v1_0 (Int.toNat v1_1) zF).v.s, .sl (Val.rows (List.getD v1_0 (Int.toNat v1_1) zF).v.list), .sl (Fld.rows (List.getD v1_0 (Int.toNat v1_1) zF).v.fields)]) rfl rfl (Fld.Qf (Qu v1_0 (Int.toNat v1_1) zF (by omega))) (Fld.Ql v1_0) (by decide) rfl), hP 2 (w_ok (v1_1 - 1) (by omega)), hP 0 (Q1i 0 6 n0 (v1_1 - 1) (Int.toNat (v1_1 - 1)) rfl (by omega) (by omega)), hP 0 (Q2y 0 6 0 false ((Fld.rows v1_0).flatten) (Fld.rows v1_0) 6 true (Int.toNat (v1_1 - 1)) 0 ((Int.toNat (v1_1 - 1)) * 6) (Fld.cells (List.getD v1_0 (Int.toNat (v1_1 - 1)) zF)) (.agg [.str (List.getD v1_0 (Int.toNat (v1_1 - 1)) zF).name, .int .i64 (List.getD v1_0 (Int.toNat (v1_1 - 1)) zF).v.kind, .int .i64 (List.getD v1_0 (Int.toNat (v1_1 - 1)) zF).v.n, .str (List.getD v1_0 (Int.toNat (v1_1 - 1)) zF).v.s, .sl (Val.rows (List.getD v1_0 (Int.toNat (v1_1 - 1)) zF).v.list), .sl (Fld.rows (List.getD v1_0 (Int.toNat (v1_1 - 1)) zF).v.fields)]) rfl rfl (Fld.Qf (Qu v1_0 (Int.toNat (v1_1 - 1)) zF (by omega))) (Fld.Ql v1_0) (by decide) rfl), hB 1 h1, hP 5 (w_ok (v1_1 - 1) (by omega)), hP 2 (w_ok (v1_1 - 1) (by omega)), hP 0 (Q1i 0 6 n0 (v1_1 - 1) (Int.toNat (v1_1 - 1)) rfl (by omega) (by omega)), hP 0 (Q2y 0 6 0 false ((Fld.rows v1_0).flatten) (Fld.rows v1_0) 6 true (Int.toNat (v1_1 - 1)) 0 ((Int.toNat (v1_1 - 1)) * 6) (Fld.cells (List.getD v1_0 (Int.toNat (v1_1 - 1)) zF)) (.agg [.str (List.getD v1_0 (Int.toNat (v1_1 - 1)) zF).name, .int .i64 (List.getD v1_0 (Int.toNat (v1_1 - 1)) zF).v.kind, .int .i64 (List.getD v1_0 (Int.toNat (v1_1 - 1)) zF).v.n, .str (List.getD v1_0 (Int.toNat (v1_1 - 1)) zF).v.s, .sl (Val.rows (List.getD v1_0 (Int.toNat (v1_1 - 1)) zF).v.list), .sl (Fld.rows (List.getD v1_0 (Int.toNat (v1_1 - 1)) zF).v.fields)]) rfl rfl (Fld.Qf (Qu v1_0 (Int.toNat (v1_1 - 1)) zF (by omega))) (Fld.Ql v1_0) (by decide) rfl), hP 2 (Q1i 0 6 n0 v1_1 (Int.toNat v1_1) rfl (by omega) (by omega)), hP 0 (Q2y 0 6 0 false ((Fld.rows v1_0).flatten) (Fld.rows v1_0) 6 true (Int.toNat v1_1) 0 ((Int.toNat v1_1) * 6) (Fld.cells (List.getD v1_0 (Int.toNat v1_1) zF)) (.agg [.str (List.getD v1_0 (Int.toNat v1_1) zF).name, .int .i64 (List.getD v1_0 (Int.toNat v1_1) zF).v.kind, .int .i64 (List.getD v1_0 (Int.toNat v1_1) zF).v.n, .str (List.getD v1_0 (Int.toNat v1_1) zF).v.s, .sl (Val.rows (List.getD v1_0 (Int.toNat v1_1) zF).v.list), .sl (Fld.rows (List.getD v1_0 (Int.toNat v1_1) zF).v.fields)]) rfl rfl (Fld.Qf (Qu v1_0 (Int.toNat v1_1) zF (by omega))) (Fld.Ql v1_0) (by decide) rfl), hP 0 (Q1i 0 6 n0 v1_1 (Int.toNat v1_1) rfl (by omega) (by omega)), hV 0 [(0, Fld.rows (List.set v1_0 (Int.toNat v1_1) (List.getD v1_0 (Int.toNat (v1_1 - 1)) zF)))] (Qdz 0 6 false ((Fld.rows v1_0).flatten) (Fld.rows v1_0) (Fld.rows (List.set v1_0 (Int.toNat v1_1) (List.getD v1_0 (Int.toNat (v1_1 - 1)) zF))) 6 (Int.toNat v1_1) 0 ((Int.toNat v1_1) * 6) _ (.agg [.str (List.getD v1_0 (Int.toNat (v1_1 - 1)) zF).name, .int .i64 (List.getD v1_0 (Int.toNat (v1_1 - 1)) zF).v.kind, .int .i64 (List.getD v1_0 (Int.toNat (v1_1 - 1)) zF).v.n, .str (List.getD v1_0 (Int.toNat (v1_1 - 1)) zF).v.s, .sl (Val.rows (List.getD v1_0 (Int.toNat (v1_1 - 1)) zF).v.list), .sl (Fld.rows (List.getD v1_0 (Int.toNat (v1_1 - 1)) zF).v.fields)]) rfl rfl (Fld.Qf (Qu v1_0 (Int.toNat v1_1) zF (by omega))) (Fld.Ql v1_0) (by decide) rfl rfl (Fld.Q49 v1_0 (Int.toNat v1_1) (List.getD v1_0 (Int.toNat (v1_1 - 1)) zF))), hS 0 false (Fld.Q5 (List.set v1_0 (Int.toNat v1_1) (List.getD v1_0 (Int.toNat (v1_1 - 1)) zF)) 6 rfl), hP 0 (Q1i 0 6 n0 (v1_1 - 1) (Int.toNat (v1_1 - 1)) rfl (by have f0 := (Qp ho1_4 (Int.toNat v1_1) (List.getD v1_0 (Int.toNat (v1_1 - 1)) zF)); omega) (by have f0 := (Qp ho1_4 (Int.toNat v1_1) (List.getD v1_0 (Int.toNat (v1_1 - 1)) zF)); omega)), hV 0 [(0, Fld.rows (List.set (List.set v1_0 (Int.toNat v1_1) (List.getD v1_0 (Int.toNat (v1_1 - 1)) zF)) (Int.toNat (v1_1 - 1)) (List.getD v1_0 (Int.toNat v1_1) zF)))] (Qdz 0 6 false ((Fld.rows (List.set v1_0 (Int.toNat v1_1) (List.getD v1_0 (Int.toNat (v1_1 - 1)) zF))).flatten) (Fld.rows (List.set v1_0 (Int.toNat v1_1) (List.getD v1_0 (Int.toNat (v1_1 - 1)) zF))) (Fld.rows (List.set (List.set v1_0 (Int.toNat v1_1) (List.getD v1_0 (Int.toNat (v1_1 - 1)) zF)) (Int.toNat (v1_1 - 1)) (List.getD v1_0 (Int.toNat v1_1) zF))) 6 (Int.toNat (v1_1 - 1)) 0 ((Int.toNat (v1_1 - 1)) * 6) _ (.agg [.str (List.getD v1_0 (Int.toNat v1_1) zF).name, .int .i64 (List.getD v1_0 (Int.toNat v1_1) zF).v.kind, .int .i64 (List.getD v1_0 (Int.toNat v1_1) zF).v.n, .str (List.getD v1_0 (Int.toNat v1_1) zF).v.s, .sl (Val.rows (List.getD v1_0 (Int.toNat v1_1) zF).v.list), .sl (Fld.rows (List.getD v1_0 (Int.toNat v1_1) zF).v.fields)]) rfl rfl (Fld.Qf (Qu (List.set v1_0 (Int.toNat v1_1) (List.getD v1_0 (Int.toNat (v1_1 - 1)) zF)) (Int.toNat (v1_1 - 1)) zF (by have f0 := (Qp ho1_4 (Int.toNat v1_1) (List.getD v1_0 (Int.toNat (v1_1 - 1)) zF)); try simp only [List.length_set]; omega))) (Fld.Ql (List.set v1_0 (Int.toNat v1_1) (List.getD v1_0 (Int.toNat (v1_1 - 1)) zF))) (by decide) rfl rfl (Fld.Q49 (List.set v1_0 (Int.toNat v1_1) (List.getD v1_0 (Int.toNat (v1_1 - 1)) zF)) (Int.toNat (v1_1 - 1)) (List.getD v1_0 (Int.toNat v1_1) zF))), hS 0 false (Fld.Q5 (List.set (List.set v1_0 (Int.toNat v1_1) (List.getD v1_0 (Int.toNat (v1_1 - 1)) zF)) (Int.toNat (v1_1 - 1)) (List.getD v1_0 (Int.toNat v1_1) zF)) 6 rfl), hP 1 (w_ok (v1_1 - 1) (by have f0 := (Qp (Qp ho1_4 (Int.toNat v1_1) (List.getD v1_0 (Int.toNat (v1_1 - 1)) zF)) (Int.toNat (v1_1 - 1)) (List.getD v1_0 (Int.toNat v1_1) zF)); omega))] [aN (Qo5 (List.getD v1_0 (Int.toNat v1_1) zF) (List.getD v1_0 (Int.toNat (v1_1 - 1)) zF))] (by kernel_rfl) hr
def Qge (n0 : Nat) (p1 : Int) (_p2 : Int) (_v0_0 : Int) (v1_0 : List Fld) (v1_1 : Int) : List PV :=
  [.un, .un, .un, .un, .un, .un, .un, .un, .un, .int .i64 v1_1, .un, .un, .un, .un, .un, .un, .un, .un, .int .i64 v1_1, .int .i64 p1, .bool true, .bool true, .fn 43 [] [], .ms 0 6 0 n0, .int .i64 v1_1, .bx 0 ((Int.toNat v1_1) * 6), .agg [.str (List.getD v1_0 (Int.toNat v1_1) zF).name, .int .i64 (List.getD v1_0 (Int.toNat v1_1) zF).v.kind, .int .i64 (List.getD v1_0 (Int.toNat v1_1) zF).v.n, .str (List.getD v1_0 (Int.toNat v1_1) zF).v.s, .sl (Val.rows (List.getD v1_0 (Int.toNat v1_1) zF).v.list), .sl (Fld.rows (List.getD v1_0 (Int.toNat v1_1) zF).v.fields)], .ms 0 6 0 n0, .int .i64 v1_1, .int .i64 (v1_1 - 1), .bx 0 ((Int.toNat (v1_1 - 1)) * 6), .agg [.str (List.getD v1_0 (Int.toNat (v1_1 - 1)) zF).name, .int .i64 (List.getD v1_0 (Int.toNat (v1_1 - 1)) zF).v.kind, .int .i64 (List.getD v1_0 (Int.toNat (v1_1 - 1)) zF).v.n, .str (List.getD v1_0 (Int.toNat (v1_1 - 1)) zF).v.s, .sl (Val.rows (List.getD v1_0 (Int.toNat (v1_1 - 1)) zF).v.list), .sl (Fld.rows (List.getD v1_0 (Int.toNat (v1_1 - 1)) zF).v.fields)], .int .i64 (Q26 (List.getD v1_0 (Int.toNat v1_1) zF) (List.getD v1_0 (Int.toNat (v1_1 - 1)) zF)), .bool false, .bool false]
def Qdu (_n0 : Nat) (_p1 : Int) (_p2 : Int) (_v0_0 : Int) (_v1_0 : List Fld) (_v1_1 : Int) : List (Nat × List PV) :=
  []
theorem Qv3 (n0 : Nat) (p1 : Int) (p2 : Int) (v0_0 : Int) (v1_0 : List Fld) (v1_1 : Int) (ho1_0 : 0 ≤ p1) (_ho1_1 : p1 ≤ v1_1) (ho1_2 : v1_1 < n0) (ho1_3 : (n0 : Int) ≤ 1152921504606846976) (ho1_4 : List.length v1_0 = n0) (h0 : (decide (p1 < v1_1)) = true) (h1 : (decide ((Q26 (List.getD v1_0 (Int.toNat v1_1) zF) (List.getD v1_0 (Int.toNat (v1_1 - 1)) zF)) < 0)) = false) : Q8p n0 p1 p2 v0_0 (Q6l n0 p1 p2 v0_0 v1_0 v1_1) v1_0 := by
 have e0 := of_decide_eq_true h0; have e1 := of_decide_eq_false h1
 exact ⟨(envF (Qge n0 p1 p2 v0_0 v1_0 v1_1)), (zoF (Qdu n0 p1 p2 v0_0 v1_0 v1_1)), Qe (Qlb n0 p1 p2 v0_0 v1_0 v1_1) (x := ((.exit 2), Q6q n0 p1 p2 v0_0 v1_0 (envF (Qge n0 p1 p2 v0_0 v1_0 v1_1)) (zoF (Qdu n0 p1 p2 v0_0 v1_0 v1_1)))) [hB 2 h0, hP 4 (Q1i 0 6 n0 v1_1 (Int.toNat v1_1) rfl (by omega) (by omega)), hP 0 (Q2y 0 6 0 false ((Fld.rows v1_0).flatten) (Fld.rows v1_0) 6 true (Int.toNat v1_1) 0 ((Int.toNat v1_1) * 6) (Fld.cells (List.getD v1_0 (Int.toNat v1_1) zF)) (.agg [.str (List.getD v1_0 (Int.toNat v1_1) zF).name, .int .i64 (List.getD v1_0 (Int.toNat v1_1) zF).v.kind, .int .i64 (List.getD v1_0 (Int.toNat v1_1) zF).v.n, .str (List.getD v1_0 (Int.toNat v1_1) zF).v.s, .sl (Val.rows (List.getD v1_0 (Int.toNat v1_1) zF).v.list), .sl (Fld.rows (List.getD v1_0 (Int.toNat v1_1) zF).v.fields)]) rfl rfl (Fld.Qf (Qu v1_0 (Int.toNat v1_1) zF (by omega))) (Fld.Ql v1_0) (by decide) rfl), hP 2 (w_ok (v1_1 - 1) (by omega)), hP 0 (Q1i 0 6 n0 (v1_1 - 1) (Int.toNat (v1_1 - 1)) rfl (by omega) (by omega)), hP 0 (Q2y 0 6 0 false ((Fld.rows v1_0).flatten) (Fld.rows v1_0) 6 true (Int.toNat (v1_1 - 1)) 0 ((Int.toNat (v1_1 - 1)) * 6) (Fld.cells (List.getD v1_0 (Int.toNat (v1_1 - 1)) zF)) (.agg [.str (List.getD v1_0 (Int.toNat (v1_1 - 1)) zF).name, .int .i64 (List.getD v1_0 (Int.toNat (v1_1 - 1)) zF).v.kind, .int .i64 (List.getD v1_0 (Int.toNat (v1_1 - 1)) zF).v.n, .str (List.getD v1_0 (Int.toNat (v1_1 - 1)) zF).v.s, .sl (Val.rows (List.getD v1_0 (Int.toNat (v1_1 - 1)) zF).v.list), .sl (Fld.rows (List.getD v1_0 (Int.toNat (v1_1 - 1)) zF).v.fields)]) rfl rfl (Fld.Qf (Qu v1_0 (Int.toNat (v1_1 - 1)) zF (by omega))) (Fld.Ql v1_0) (by decide) rfl), hB 1 h1] [aN (Qo5 (List.getD v1_0 (Int.toNat v1_1) zF) (List.getD v1_0 (Int.toNat (v1_1 - 1)) zF))] (by kernel_rfl)⟩
def Qj1 (_n0 : Nat) (p1 : Int) (_p2 : Int) (_v0_0 : Int) (_v1_0 : List Fld) (v1_1 : Int) : List PV :=
  [.un, .un, .un, .un, .un, .un, .un, .un, .un, .int .i64 v1_1, .un, .un, .un, .un, .un, .un, .un, .un, .int .i64 v1_1, .int .i64 p1, .bool false, .bool false, .tup [], .tup [], .tup [], .tup [], .tup [], .tup [], .tup [], .tup [], .tup [], .tup [], .tup [], .tup [], .bool false]
def Qdc (_n0 : Nat) (_p1 : Int) (_p2 : Int) (_v0_0 : Int) (_v1_0 : List Fld) (_v1_1 : Int) : List (Nat × List PV) :=
  []
theorem Qv6 (n0 : Nat) (p1 : Int) (p2 : Int) (v0_0 : Int) (v1_0 : List Fld) (v1_1 : Int) (_ho1_0 : 0 ≤ p1) (_ho1_1 : p1 ≤ v1_1) (_ho1_2 : v1_1 < n0) (_ho1_3 : (n0 : Int) ≤ 1152921504606846976) (_ho1_4 : List.length v1_0 = n0) (h0 : (decide (p1 < v1_1)) = false) : Q8p n0 p1 p2 v0_0 (Q6l n0 p1 p2 v0_0 v1_0 v1_1) v1_0 := by
 exact ⟨(envF (Qj1 n0 p1 p2 v0_0 v1_0 v1_1)), (zoF (Qdc n0 p1 p2 v0_0 v1_0 v1_1)), Qe (Qlb n0 p1 p2 v0_0 v1_0 v1_1) (x := ((.exit 2), Q6q n0 p1 p2 v0_0 v1_0 (envF (Qj1 n0 p1 p2 v0_0 v1_0 v1_1)) (zoF (Qdc n0 p1 p2 v0_0 v1_0 v1_1)))) [hB 2 h0] [] (by kernel_rfl)⟩
theorem Qox (n0 : Nat) (p1 : Int) (p2 : Int) (v0_0 : Int) : ∀ (k1 : Nat) (v1_0 : List Fld) (v1_1 : Int), 0 ≤ p1 → p1 ≤ v1_1 → v1_1 < n0 → (n0 : Int) ≤ 1152921504606846976 → List.length v1_0 = n0 → Int.toNat v1_1 < k1 → Q8p n0 p1 p2 v0_0 (Q6l n0 p1 p2 v0_0 v1_0 v1_1) (Q28 n0 p1 p2 v0_0 k1 v1_0 v1_1)
 | 0, v1_0, v1_1, _, _, _, _, _, hm => absurd hm (Nat.not_lt_zero _)
 | k1 + 1, v1_0, v1_1, ho1_0, ho1_1, ho1_2, ho1_3, ho1_4, hm => by
  rw [Q28]
  cases h0 : (decide (p1 < v1_1)) with
  | true =>
   have e0 := of_decide_eq_true h0
   cases h1 : (decide ((Q26 (List.getD v1_0 (Int.toNat v1_1) zF) (List.getD v1_0 (Int.toNat (v1_1 - 1)) zF)) < 0)) with
   | true =>
    have e1 := of_decide_eq_true h1
    exact Qjn n0 p1 p2 v0_0 (fun r hr => Qvc n0 p1 p2 v0_0 v1_0 v1_1 ho1_0 ho1_1 ho1_2 ho1_3 ho1_4 h0 h1 hr) _ (Qox n0 p1 p2 v0_0 k1 (List.set (List.set v1_0 (Int.toNat v1_1) (List.getD v1_0 (Int.toNat (v1_1 - 1)) zF)) (Int.toNat (v1_1 - 1)) (List.getD v1_0 (Int.toNat v1_1) zF)) (v1_1 - 1) (by have f0 := (Qp (Qp ho1_4 (Int.toNat v1_1) (List.getD v1_0 (Int.toNat (v1_1 - 1)) zF)) (Int.toNat (v1_1 - 1)) (List.getD v1_0 (Int.toNat v1_1) zF)); omega) (by have f0 := (Qp (Qp ho1_4 (Int.toNat v1_1) (List.getD v1_0 (Int.toNat (v1_1 - 1)) zF)) (Int.toNat (v1_1 - 1)) (List.getD v1_0 (Int.toNat v1_1) zF)); omega) (by have f0 := (Qp (Qp ho1_4 (Int.toNat v1_1) (List.getD v1_0 (Int.toNat (v1_1 - 1)) zF)) (Int.toNat (v1_1 - 1)) (List.getD v1_0 (Int.toNat v1_1) zF)); omega) (by have f0 := (Qp (Qp ho1_4 (Int.toNat v1_1) (List.getD v1_0 (Int.toNat (v1_1 - 1)) zF)) (Int.toNat (v1_1 - 1)) (List.getD v1_0 (Int.toNat v1_1) zF)); omega) (Qp (Qp ho1_4 (Int.toNat v1_1) (List.getD v1_0 (Int.toNat (v1_1 - 1)) zF)) (Int.toNat (v1_1 - 1)) (List.getD v1_0 (Int.toNat v1_1) zF)) (by have f0 := (Qp (Qp ho1_4 (Int.toNat v1_1) (List.getD v1_0 (Int.toNat (v1_1 - 1)) zF)) (Int.toNat (v1_1 - 1)) (List.getD v1_0 (Int.toNat v1_1) zF)); omega))
   | false =>
    exact Qv3 n0 p1 p2 v0_0 v1_0 v1_1 ho1_0 ho1_1 ho1_2 ho1_3 ho1_4 h0 h1
  | false =>
   exact Qv6 n0 p1 p2 v0_0 v1_0 v1_1 ho1_0 ho1_1 ho1_2 ho1_3 ho1_4 h0
theorem Q2i (n0 : Nat) (p1 : Int) (p2 : Int) (v0_0 : Int) : ∀ (k1 : Nat) (v1_0 : List Fld) (v1_1 : Int), List.length v1_0 = n0 → List.length (Q28 n0 p1 p2 v0_0 k1 v1_0 v1_1) = n0
 | 0, v1_0, v1_1, ho1_4 => by rw [Q28]; exact ho1_4
 | k1 + 1, v1_0, v1_1, ho1_4 => by
  rw [Q28]
  cases h0 : (decide (p1 < v1_1)) with
  | true =>
   cases h1 : (decide ((Q26 (List.getD v1_0 (Int.toNat v1_1) zF) (List.getD v1_0 (Int.toNat (v1_1 - 1)) zF)) < 0)) with
   | true =>
    exact Q2i n0 p1 p2 v0_0 k1 (List.set (List.set v1_0 (Int.toNat v1_1) (List.getD v1_0 (Int.toNat (v1_1 - 1)) zF)) (Int.toNat (v1_1 - 1)) (List.getD v1_0 (Int.toNat v1_1) zF)) (v1_1 - 1) (Qp (Qp ho1_4 (Int.toNat v1_1) (List.getD v1_0 (Int.toNat (v1_1 - 1)) zF)) (Int.toNat (v1_1 - 1)) (List.getD v1_0 (Int.toNat v1_1) zF))
   | false =>
    exact ho1_4
  | false =>
   exact ho1_4
def Q2u (n0 : Nat) (p1 : Int) (p2 : Int) : Nat → Int → (List Fld) → List Fld
 | 0, _v0_0, v0_1 => v0_1
 | k0 + 1, v0_0, v0_1 =>
  bif (decide (v0_0 < p2)) then
   Q2u n0 p1 p2 k0 (v0_0 + 1) (Q28 n0 p1 p2 v0_0 ((Int.toNat v0_0) + 1) v0_1 v0_0)
  else
   v0_1
def Qlf (n0 : Nat) (p1 : Int) (p2 : Int) (v0_0 : Int) (_v0_1 : List Fld) : List PV :=
  [.ms 0 6 0 n0, .int .i64 p1, .int .i64 p2, .fn 43 [] [], .un, .un, .un, .un, .int .i64 v0_0, .un, .un, .un, .un, .un, .un, .un, .un, .un, .un, .un, .un, .un, .un, .un, .un, .un, .un, .un, .un, .un, .un, .un, .un, .un, .un, .un, .un, .un, .un, .un, .un, .un, .un, .un, .un, .un, .un, .un, .un, .un, .un, .un, .un]
def Qds (_n0 : Nat) (_p1 : Int) (_p2 : Int) (_v0_0 : Int) (v0_1 : List Fld) : List Ob :=
  [⟨6, 0, false, (Fld.rows v0_1).flatten⟩]
def Qb6 (n0 : Nat) (p1 : Int) (p2 : Int) (v0_0 : Int) (v0_1 : List Fld) : En := .loop 1 Ir.Qex Ir.Q124 (Qlf n0 p1 p2 v0_0 v0_1) (Qds n0 p1 p2 v0_0 v0_1)
def Qig (_n0 : Nat) (_p1 : Int) (_p2 : Int) (q0 : List Fld) (z : Nat → PV) (_zo : Nat → List PV) : St :=
  ⟨[z 0, z 1, z 2, z 3, z 4, z 5, z 6, z 7, z 8, z 9, z 10, z 11, z 12, z 13, z 14, z 15, z 16, z 17, z 18, z 19, z 20, z 21, z 22, z 23, z 24, z 25, z 26, z 27, z 28, z 29, z 30, z 31, z 32, z 33, z 34, z 35, z 36, z 37, z 38, z 39, z 40, z 41, z 42, z 43, z 44, z 45, z 46, z 47, z 48, z 49, z 50, z 51, z 52], [(0, ⟨6, 0, false, (Fld.rows q0).flatten⟩)], 193⟩
theorem Qr3 (n0 : Nat) (p1 : Int) (p2 : Int) (v0_0 : Int) (v0_1 : List Fld) : VOK (Go.Pv.look (number 0 (Qds n0 p1 p2 v0_0 v0_1))) [(0, Fld.rows v0_1)] := (VOK.cons (show Seen _ _ from Q3j (ob := ⟨6, 0, false, (Fld.rows v0_1).flatten⟩) (Fld.Q5 v0_1 6 rfl)) VOK.nil)
def Qbd (n0 : Nat) (p1 : Int) (p2 : Int) (e : En) (q : List Fld) : Prop := ∃ z zo, Q7 G e (.st (.exit 0) (Qig n0 p1 p2 q z zo))
theorem Qkm (n0 : Nat) (p1 : Int) (p2 : Int) {e e' : En} (h : ∀ r, Q7 G e r → Q7 G e' r) : ∀ q, Qbd n0 p1 p2 e q → Qbd n0 p1 p2 e' q
  | _, ⟨z, zo, hz⟩ => ⟨z, zo, h _ hz⟩
theorem Qvl (n0 : Nat) (p1 : Int) (p2 : Int) (v0_0 : Int) (v0_1 : List Fld) (ho0_0 : 0 ≤ p1) (ho0_1 : p1 < v0_0) (ho0_2 : p2 ≤ n0) (ho0_3 : (n0 : Int) ≤ 1152921504606846976) (ho0_4 : List.length v0_1 = n0) (h0 : (decide (v0_0 < p2)) = true) (z1 : Nat → PV) (zo1 : Nat → List PV) (hl1 : Q7 G (Q6l n0 p1 p2 v0_0 v0_1 v0_0) (.st (.exit 2) (Q6q n0 p1 p2 v0_0 (Q28 n0 p1 p2 v0_0 ((Int.toNat v0_0) + 1) v0_1 v0_0) z1 zo1))) {r : Rs} (hr : Q7 G (Qb6 n0 p1 p2 (v0_0 + 1) (Q28 n0 p1 p2 v0_0 ((Int.toNat v0_0) + 1) v0_1 v0_0)) r) : Q7 G (Qb6 n0 p1 p2 v0_0 v0_1) r := by
 have e0 := of_decide_eq_true h0
 exact Qa (Qr3 n0 p1 p2 v0_0 v0_1) (y := (Qlf n0 p1 p2 (v0_0 + 1) (Q28 n0 p1 p2 v0_0 ((Int.toNat v0_0) + 1) v0_1 v0_0), Qds n0 p1 p2 (v0_0 + 1) (Q28 n0 p1 p2 v0_0 ((Int.toNat v0_0) + 1) v0_1 v0_0))) [hB 2 h0, hS 0 false (Fld.Q5 (Q28 n0 p1 p2 v0_0 ((Int.toNat v0_0) + 1) v0_1 v0_0) 6 rfl), hP 3 (w_ok (v0_0 + 1) (by have f0 := (Q2i n0 p1 p2 v0_0 ((Int.toNat v0_0) + 1) v0_1 v0_0 ho0_4); omega))] [aV [(0, Fld.rows (Q28 n0 p1 p2 v0_0 ((Int.toNat v0_0) + 1) v0_1 v0_0))] hl1] (by kernel_rfl) hr
def Qgo (n0 : Nat) (p1 : Int) (p2 : Int) (v0_0 : Int) (_v0_1 : List Fld) : List PV :=
  [.ms 0 6 0 n0, .int .i64 p1, .int .i64 p2, .fn 43 [] [], .un, .un, .un, .un, .int .i64 v0_0, .un, .un, .un, .int .i64 v0_0, .int .i64 p2, .bool false]
def Qes (_n0 : Nat) (_p1 : Int) (_p2 : Int) (_v0_0 : Int) (_v0_1 : List Fld) : List (Nat × List PV) :=
  []
theorem Qvd (n0 : Nat) (p1 : Int) (p2 : Int) (v0_0 : Int) (v0_1 : List Fld) (_ho0_0 : 0 ≤ p1) (_ho0_1 : p1 < v0_0) (_ho0_2 : p2 ≤ n0) (_ho0_3 : (n0 : Int) ≤ 1152921504606846976) (_ho0_4 : List.length v0_1 = n0) (h0 : (decide (v0_0 < p2)) = false) : Qbd n0 p1 p2 (Qb6 n0 p1 p2 v0_0 v0_1) v0_1 := by
 exact ⟨(envF (Qgo n0 p1 p2 v0_0 v0_1)), (zoF (Qes n0 p1 p2 v0_0 v0_1)), Qe (Qr3 n0 p1 p2 v0_0 v0_1) (x := ((.exit 0), Qig n0 p1 p2 v0_1 (envF (Qgo n0 p1 p2 v0_0 v0_1)) (zoF (Qes n0 p1 p2 v0_0 v0_1)))) [hB 2 h0] [] (by kernel_rfl)⟩
theorem Qmj (n0 : Nat) (p1 : Int) (p2 : Int) : ∀ (k0 : Nat) (v0_0 : Int) (v0_1 : List Fld), 0 ≤ p1 → p1 < v0_0 → p2 ≤ n0 → (n0 : Int) ≤ 1152921504606846976 → List.length v0_1 = n0 → Int.toNat (p2 - v0_0) < k0 → Qbd n0 p1 p2 (Qb6 n0 p1 p2 v0_0 v0_1) (Q2u n0 p1 p2 k0 v0_0 v0_1)
 | 0, v0_0, v0_1, _, _, _, _, _, hm => absurd hm (Nat.not_lt_zero _)
 | k0 + 1, v0_0, v0_1, ho0_0, ho0_1, ho0_2, ho0_3, ho0_4, hm => by
  rw [Q2u]
  cases h0 : (decide (v0_0 < p2)) with
  | true =>
   have e0 := of_decide_eq_true h0
   have hl1 := Qox n0 p1 p2 v0_0 ((Int.toNat v0_0) + 1) v0_1 v0_0 (by omega) (by omega) (by omega) (by omega) ho0_4 (by omega)
   obtain ⟨z1, zo1, hl1⟩ := hl1
   exact Qkm n0 p1 p2 (fun r hr => Qvl n0 p1 p2 v0_0 v0_1 ho0_0 ho0_1 ho0_2 ho0_3 ho0_4 h0 z1 zo1 hl1 hr) _ (Qmj n0 p1 p2 k0 (v0_0 + 1) (Q28 n0 p1 p2 v0_0 ((Int.toNat v0_0) + 1) v0_1 v0_0) (by have f0 := (Q2i n0 p1 p2 v0_0 ((Int.toNat v0_0) + 1) v0_1 v0_0 ho0_4); omega) (by have f0 := (Q2i n0 p1 p2 v0_0 ((Int.toNat v0_0) + 1) v0_1 v0_0 ho0_4); omega) (by have f0 := (Q2i n0 p1 p2 v0_0 ((Int.toNat v0_0) + 1) v0_1 v0_0 ho0_4); omega) (by have f0 := (Q2i n0 p1 p2 v0_0 ((Int.toNat v0_0) + 1) v0_1 v0_0 ho0_4); omega) (Q2i n0 p1 p2 v0_0 ((Int.toNat v0_0) + 1) v0_1 v0_0 ho0_4) (by have f0 := (Q2i n0 p1 p2 v0_0 ((Int.toNat v0_0) + 1) v0_1 v0_0 ho0_4); omega))
  | false =>
   exact Qvd n0 p1 p2 v0_0 v0_1 ho0_0 ho0_1 ho0_2 ho0_3 ho0_4 h0
theorem Q7d (n0 : Nat) (p1 : Int) (p2 : Int) : ∀ (k0 : Nat) (v0_0 : Int) (v0_1 : List Fld), List.length v0_1 = n0 → List.length (Q2u n0 p1 p2 k0 v0_0 v0_1) = n0
 | 0, v0_0, v0_1, ho0_4 => by rw [Q2u]; exact ho0_4
 | k0 + 1, v0_0, v0_1, ho0_4 => by
  rw [Q2u]
  cases h0 : (decide (v0_0 < p2)) with
  | true =>
   exact Q7d n0 p1 p2 k0 (v0_0 + 1) (Q28 n0 p1 p2 v0_0 ((Int.toNat v0_0) + 1) v0_1 v0_0) (Q2i n0 p1 p2 v0_0 ((Int.toNat v0_0) + 1) v0_1 v0_0 ho0_4)
  | false =>
   exact ho0_4
def Q19 (n0 : Nat) (p0 : List Fld) (p1 : Int) (p2 : Int) : List Fld :=
 (Q2u n0 p1 p2 ((Int.toNat (p2 - (p1 + 1))) + 1) (p1 + 1) p0)
def Qxa (n0 : Nat) (p0 : List Fld) (p1 : Int) (p2 : Int) : En := .call 66 [.ms 0 6 0 n0, .int .i64 p1, .int .i64 p2, .fn 43 [] []] [⟨6, 0, false, (Fld.rows p0).flatten⟩]
def Qli (n0 : Nat) (p0 : List Fld) (p1 : Int) (p2 : Int) : Rs := .ret (.tup []) [⟨6, 0, false, (Fld.rows (Q19 n0 p0 p1 p2)).flatten⟩]
theorem Qt (n0 : Nat) (p0 : List Fld) (p1 : Int) (p2 : Int) (hn : List.length p0 = n0) : List.length (Q19 n0 p0 p1 p2) = n0 := by
 unfold Q19
 have hz0_0 : List.length (Q2u n0 p1 p2 ((Int.toNat (p2 - (p1 + 1))) + 1) (p1 + 1) p0) = n0 := Q7d n0 p1 p2 ((Int.toNat (p2 - (p1 + 1))) + 1) (p1 + 1) p0 hn
 obtain ⟨R0, eR0⟩ : ∃ R, (Q2u n0 p1 p2 ((Int.toNat (p2 - (p1 + 1))) + 1) (p1 + 1) p0) = R := ⟨_, rfl⟩
 rw [eR0] at hz0_0 ⊢
 exact hz0_0
theorem Qoh (n0 : Nat) (p0 : List Fld) (p1 : Int) (p2 : Int) (hn : List.length p0 = n0) (hq0 : 0 ≤ p1 ∧ p1 ≤ p2 ∧ p2 ≤ n0 ∧ (n0 : Int) ≤ 1152921504606846976) : Q7 G (Qxa n0 p0 p1 p2) (Qli n0 p0 p1 p2) := by
 unfold Qli Q19
 have hl0 := Qmj n0 p1 p2 ((Int.toNat (p2 - (p1 + 1))) + 1) (p1 + 1) p0 (by omega) (by omega) (by omega) (by omega) hn (by omega)
 have hz0_0 : List.length (Q2u n0 p1 p2 ((Int.toNat (p2 - (p1 + 1))) + 1) (p1 + 1) p0) = n0 := Q7d n0 p1 p2 ((Int.toNat (p2 - (p1 + 1))) + 1) (p1 + 1) p0 hn
 obtain ⟨R0, eR0⟩ : ∃ R, (Q2u n0 p1 p2 ((Int.toNat (p2 - (p1 + 1))) + 1) (p1 + 1) p0) = R := ⟨_, rfl⟩
 rw [eR0] at hz0_0 hl0 ⊢
 obtain ⟨z0, zo0, hl0⟩ := hl0
 exact Q9 (fn := Ir.K1b) rfl (vk1 (Fld.Q5 p0 6 rfl)) [hP 1 (w_ok (p1 + 1) (by omega)), hS 0 false (Fld.Q5 R0 6 rfl)] [aV [(0, Fld.rows R0)] hl0] (by kernel_rfl)
def Q2v (n0 : Nat) (p1 : Int) (p2 : Int) (p3 : Int) : Nat → (List Fld) → Int → List Fld
 | 0, v0_0, _v0_1 => v0_0
 | k0 + 1, v0_0, v0_1 =>
  bif (decide (v0_1 < p3)) then
   Q2v n0 p1 p2 p3 k0 (List.set (List.set v0_0 (Int.toNat (p1 + v0_1)) (List.getD v0_0 (Int.toNat (p2 + v0_1)) zF)) (Int.toNat (p2 + v0_1)) (List.getD v0_0 (Int.toNat (p1 + v0_1)) zF)) (v0_1 + 1)
  else
   v0_0
def Qnv (n0 : Nat) (p1 : Int) (p2 : Int) (p3 : Int) (_v0_0 : List Fld) (v0_1 : Int) : List PV :=
  [.ms 0 6 0 n0, .int .i64 p1, .int .i64 p2, .int .i64 p3, .un, .un, .un, .un, .un, .un, .int .i64 v0_1, .un, .un, .un, .un, .un, .un, .un, .un, .un, .un, .un, .un, .un, .un, .un, .un, .un, .un, .un, .un, .un, .un, .un, .un, .un, .un, .un]
def Qdw (_n0 : Nat) (_p1 : Int) (_p2 : Int) (_p3 : Int) (v0_0 : List Fld) (_v0_1 : Int) : List Ob :=
  [⟨6, 0, false, (Fld.rows v0_0).flatten⟩]
def Qb5 (n0 : Nat) (p1 : Int) (p2 : Int) (p3 : Int) (v0_0 : List Fld) (v0_1 : Int) : En := .loop 1 Ir.Qdt Ir.Q127 (Qnv n0 p1 p2 p3 v0_0 v0_1) (Qdw n0 p1 p2 p3 v0_0 v0_1)
def Qgh (_n0 : Nat) (_p1 : Int) (_p2 : Int) (_p3 : Int) (q0 : List Fld) (z : Nat → PV) (_zo : Nat → List PV) : St :=
  ⟨[z 0, z 1, z 2, z 3, z 4, z 5, z 6, z 7, z 8, z 9, z 10, z 11, z 12, z 13, z 14, z 15, z 16, z 17, z 18, z 19, z 20, z 21, z 22, z 23, z 24, z 25, z 26, z 27, z 28, z 29, z 30, z 31, z 32, z 33, z 34, z 35, z 36, z 37], [(0, ⟨6, 0, false, (Fld.rows q0).flatten⟩)], 193⟩
theorem Qrz (n0 : Nat) (p1 : Int) (p2 : Int) (p3 : Int) (v0_0 : List Fld) (v0_1 : Int) : VOK (Go.Pv.look (number 0 (Qdw n0 p1 p2 p3 v0_0 v0_1))) [(0, Fld.rows v0_0)] := (VOK.cons (show Seen _ _ from Q3j (ob := ⟨6, 0, false, (Fld.rows v0_0).flatten⟩) (Fld.Q5 v0_0 6 rfl)) VOK.nil)
def Qay (n0 : Nat) (p1 : Int) (p2 : Int) (p3 : Int) (e : En) (q : List Fld) : Prop := ∃ z zo, Q7 G e (.st (.exit 0) (Qgh n0 p1 p2 p3 q z zo))
theorem Qk3 (n0 : Nat) (p1 : Int) (p2 : Int) (p3 : Int) {e e' : En} (h : ∀ r, Q7 G e r → Q7 G e' r) : ∀ q, Qay n0 p1 p2 p3 e q → Qay n0 p1 p2 p3 e' q
  | _, ⟨z, zo, hz⟩ => ⟨z, zo, h _ hz⟩
theorem Qvh (n0 : Nat) (p1 : Int) (p2 : Int) (p3 : Int) (v0_0 : List Fld) (v0_1 : Int) (ho0_0 : 0 ≤ v0_1) (ho0_1 : 0 ≤ p1) (ho0_2 : 0 ≤ p2) (ho0_3 : p1 + p3 ≤ n0) (ho0_4 : p2 + p3 ≤ n0) (ho0_5 : (n0 : Int) ≤ 1152921504606846976) (ho0_6 : List.length v0_0 = n0) (h0 : (decide (v0_1 < p3)) = true) {r : Rs} (hr : Q7 G (Qb5 n0 p1 p2 p3 (List.set (List.set v0_0 (Int.toNat (p1 + v0_1)) (List.getD v0_0 (Int.toNat (p2 + v0_1)) zF)) (Int.toNat (p2 + v0_1)) (List.getD v0_0 (Int.toNat (p1 + v0_1)) zF)) (v0_1 + 1)) r) : Q7 G (Qb5 n0 p1 p2 p3 v0_0 v0_1) r := by
 have e0 := of_decide_eq_true h0
 exact Qa (Qrz n0 p1 p2 p3 v0_0 v0_1) (y := (Qnv n0 p1 p2 p3 (List.set (List.set v0_0 (Int.toNat (p1 + v0_1)) (List.getD v0_0 (Int.toNat (p2 + v0_1)) zF)) (Int.toNat (p2 + v0_1)) (List.getD v0_0 (Int.toNat (p1 + v0_1)) zF)) (v0_1 + 1), Qdw n0 p1 p2 p3 (List.set (List.set v0_0 (Int.toNat (p1 + v0_1)) (List.getD v0_0 (Int.toNat (p2 + v0_1)) zF)) (Int.toNat (p2 + v0_1)) (List.getD v0_0 (Int.toNat (p1 + v0_1)) zF)) (v0_1 + 1))) [hB 2 h0, hP 3 (w_ok (p1 + v0_1) (by omega)), hP 3 (w_ok (p2 + v0_1) (by omega)), hP 3 (w_ok (p2 + v0_1) (by omega)), hP 0 (Q1i 0 6 n0 (p2 + v0_1) (Int.toNat (p2 + v0_1)) rfl (by omega) (by omega)), hP 0 (Q2y 0 6 0 false ((Fld.rows v0_0).flatten) (Fld.rows v0_0) 6 true (Int.toNat (p2 + v0_1)) 0 ((Int.toNat (p2 + v0_1)) * 6) (Fld.cells (List.getD v0_0 (Int.toNat (p2 + v0_1)) zF)) (.agg [.str (List.getD v0_0 (Int.toNat (p2 + v0_1)) zF).name, .int .i64 (List.getD v0_0 (Int.toNat (p2 + v0_1)) zF).v.kind, .int .i64 (List.getD v0_0 (Int.toNat (p2 + v0_1)) zF).v.n, .str (List.getD v0_0 (Int.toNat (p2 + v0_1)) zF).v.s, .sl (Val.rows (List.getD v0_0 (Int.toNat (p2 + v0_1)) zF).v.list), .sl (Fld.rows (List.getD v0_0 (Int.toNat (p2 + v0_1)) zF).v.fields)]) rfl rfl (Fld.Qf (Qu v0_0 (Int.toNat (p2 + v0_1)) zF (by omega))) (Fld.Ql v0_0) (by decide) rfl), hP 3 (w_ok (p1 + v0_1) (by omega)), hP 0 (Q1i 0 6 n0 (p1 + v0_1) (Int.toNat (p1 + v0_1)) rfl (by omega) (by omega)), hP 0 (Q2y 0 6 0 false ((Fld.rows v0_0).flatten) (Fld.rows v0_0) 6 true (Int.toNat (p1 + v0_1)) 0 ((Int.toNat (p1 + v0_1)) * 6) (Fld.cells (List.getD v0_0 (Int.toNat (p1 + v0_1)) zF)) (.agg [.str (List.getD v0_0 (Int.toNat (p1 + v0_1)) zF).name, .int .i64 (List.getD v0_0 (Int.toNat (p1 + v0_1)) zF).v.kind, .int .i64 (List.getD v0_0 (Int.toNat (p1 + v0_1)) zF).v.n, .str (List.getD v0_0 (Int.toNat (p1 + v0_1)) zF).v.s, .sl (Val.rows (List.getD v0_0 (Int.toNat (p1 + v0_1)) zF).v.list), .sl (Fld.rows (List.getD v0_0 (Int.toNat (p1 + v0_1)) zF).v.fields)]) rfl rfl (Fld.Qf (Qu v0_0 (Int.toNat (p1 + v0_1)) zF (by omega))) (Fld.Ql v0_0) (by decide) rfl), hP 0 (Q1i 0 6 n0 (p1 + v0_1) (Int.toNat (p1 + v0_1)) rfl (by omega) (by omega)), hV 0 [(0, Fld.rows (List.set v0_0 (Int.toNat (p1 + v0_1)) (List.getD v0_0 (Int.toNat (p2 + v0_1)) zF)))] (Qdz 0 6 false ((Fld.rows v0_0).flatten) (Fld.rows v0_0) (Fld.rows (List.set v0_0 (Int.toNat (p1 + v0_1)) (List.getD v0_0 (Int.toNat (p2 + v0_1)) zF))) 6 (Int.toNat (p1 + v0_1)) 0 ((Int.toNat (p1 + v0_1)) * 6) _ (.agg [.str (List.getD v0_0 (Int.toNat (p2 + v0_1)) zF).name, .int .i64 (List.getD v0_0 (Int.toNat (p2 + v0_1)) zF).v.kind, .int .i64 (List.getD v0_0 (Int.toNat (p2 + v0_1)) zF).v.n, .str (List.getD v0_0 (Int.toNat (p2 + v0_1)) zF).v.s, .sl (Val.rows (List.getD v0_0 (Int.toNat (p2 + v0_1)) zF).v.list), .sl (Fld.rows (List.getD v0_0 (Int.toNat (p2 + v0_1)) zF).v.fields)]) rfl rfl (Fld.Qf (Qu v0_0 (Int.toNat (p1 + v0_1)) zF (by omega))) (Fld.Ql v0_0) (by decide) rfl rfl (Fld.Q49 v0_0 (Int.toNat (p1 + v0_1)) (List.getD v0_0 (Int.toNat (p2 + v0_1)) zF))), hS 0 false (Fld.Q5 (List.set v0_0 (Int.toNat (p1 + v0_1)) (List.getD v0_0 (Int.toNat (p2 + v0_1)) zF)) 6 rfl), hP 0 (Q1i 0 6 n0 (p2 + v0_1) (Int.toNat (p2 + v0_1)) rfl (by have f0 := (Qp ho0_6 (Int.toNat (p1 + v0_1)) (List.getD v0_0 (Int.toNat (p2 + v0_1)) zF)); omega) (by have f0 := (Qp ho0_6 (Int.toNat (p1 + v0_1)) (List.getD v0_0 (Int.toNat (p2 + v0_1)) zF)); omega)), hV 0 [(0, Fld.rows (List.set (List.set v0_0 (Int.toNat (p1 + v0_1)) (List.getD v0_0 (Int.toNat (p2 + v0_1)) zF)) (Int.toNat (p2 + v0_1)) (List.getD v0_0 (Int.toNat (p1 + v0_1)) zF)))] (Qdz 0 6 false ((Fld.rows (List.set v0_0 (Int.toNat (p1 + v0_1)) (List.getD v0_0 (Int.toNat (p2 + v0_1)) zF))).flatten) (Fld.rows (List.set v0_0 (Int.toNat (p1 + v0_1)) (List.getD v0_0 (Int.toNat (p2 + v0_1)) zF))) (Fld.rows (List.set (List.set v0_0 (Int.toNat (p1 + v0_1)) (List.getD v0_0 (Int.toNat (p2 + v0_1)) zF)) (Int.toNat (p2 + v0_1)) (List.getD v0_0 (Int.toNat (p1 + v0_1)) zF))) 6 (Int.toNat (p2 + v0_1)) 0 ((Int.toNat (p2 + v0_1)) * 6) _ (.agg [.str (List.getD v0_0 (Int.toNat (p1 + v0_1)) zF).name, .int .i64 (List.getD v0_0 (Int.toNat (p1 + v0_1)) zF).v.kind, .int .i64 (List.getD v0_0 (Int.toNat (p1 + v0_1)) zF).v.n, .str (List.getD v0_0 (Int.toNat (p1 + v0_1)) zF).v.s, .sl (Val.rows (List.getD v0_0 (Int.toNat (p1 + v0_1)) zF).v.list), .sl (Fld.rows (List.getD v0_0 (Int.toNat (p1 + v0_1)) zF).v.fields)]) rfl rfl (Fld.Qf (Qu (List.set v0_0 (Int.toNat (p1 + v0_1)) (List.getD v0_0 (Int.toNat (p2 + v0_1)) zF)) (Int.toNat (p2 + v0_1)) zF (by have f0 := (Qp ho0_6 (Int.toNat (p1 + v0_1)) (List.getD v0_0 (Int.toNat (p2 + v0_1)) zF)); try simp only [List.length_set]; omega))) (Fld.Ql (List.set v0_0 (Int.toNat (p1 + v0_1)) (List.getD v0_0 (Int.toNat (p2 + v0_1)) zF))) (by decide) rfl rfl (Fld.Q49 (List.set v0_0 (Int.toNat (p1 + v0_1)) (List.getD v0_0 (Int.toNat (p2 + v0_1)) zF)) (Int.toNat (p2 + v0_1)) (List.getD v0_0 (Int.toNat (p1 + v0_1)) zF))), hS 0 false (Fld.Q5 (List.set (List.set v0_0 (Int.toNat (p1 + v0_1)) (List.getD v0_0 (Int.toNat (p2 + v0_1)) zF)) (Int.toNat (p2 + v0_1)) (List.getD v0_0 (Int.toNat (p1 + v0_1)) zF)) 6 rfl), hP 1 (w_ok (v0_1 + 1) (by have f0 := (Qp (Qp ho0_6 (Int.toNat (p1 + v0_1)) (List.getD v0_0 (Int.toNat (p2 + v0_1)) zF)) (Int.toNat (p2 + v0_1)) (List.getD v0_0 (Int.toNat (p1 + v0_1)) zF)); omega))] [] (by kernel_rfl) hr
def Qhp (n0 : Nat) (p1 : Int) (p2 : Int) (p3 : Int) (_v0_0 : List Fld) (v0_1 : Int) : List PV :=
  [.ms 0 6 0 n0, .int .i64 p1, .int .i64 p2, .int .i64 p3, .un, .un, .un, .un, .un, .un, .int .i64 v0_1, .int .i64 v0_1, .int .i64 p3, .bool false]
def Qcu (_n0 : Nat) (_p1 : Int) (_p2 : Int) (_p3 : Int) (_v0_0 : List Fld) (_v0_1 : Int) : List (Nat × List PV) :=
  []
theorem Qvk (n0 : Nat) (p1 : Int) (p2 : Int) (p3 : Int) (v0_0 : List Fld) (v0_1 : Int) (_ho0_0 : 0 ≤ v0_1) (_ho0_1 : 0 ≤ p1) (_ho0_2 : 0 ≤ p2) (_ho0_3 : p1 + p3 ≤ n0) (_ho0_4 : p2 + p3 ≤ n0) (_ho0_5 : (n0 : Int) ≤ 1152921504606846976) (_ho0_6 : List.length v0_0 = n0) (h0 : (decide (v0_1 < p3)) = false) : Qay n0 p1 p2 p3 (Qb5 n0 p1 p2 p3 v0_0 v0_1) v0_0 := by
 exact ⟨(envF (Qhp n0 p1 p2 p3 v0_0 v0_1)), (zoF (Qcu n0 p1 p2 p3 v0_0 v0_1)), Qe (Qrz n0 p1 p2 p3 v0_0 v0_1) (x := ((.exit 0), Qgh n0 p1 p2 p3 v0_0 (envF (Qhp n0 p1 p2 p3 v0_0 v0_1)) (zoF (Qcu n0 p1 p2 p3 v0_0 v0_1)))) [hB 2 h0] [] (by kernel_rfl)⟩
theorem Qmo (n0 : Nat) (p1 : Int) (p2 : Int) (p3 : Int) : ∀ (k0 : Nat) (v0_0 : List Fld) (v0_1 : Int), 0 ≤ v0_1 → 0 ≤ p1 → 0 ≤ p2 → p1 + p3 ≤ n0 → p2 + p3 ≤ n0 → (n0 : Int) ≤ 1152921504606846976 → List.length v0_0 = n0 → Int.toNat (p3 - v0_1) < k0 → Qay n0 p1 p2 p3 (Qb5 n0 p1 p2 p3 v0_0 v0_1) (Q2v n0 p1 p2 p3 k0 v0_0 v0_1)
 | 0, v0_0, v0_1, _, _, _, _, _, _, _, hm => absurd hm (Nat.not_lt_zero _)
 | k0 + 1, v0_0, v0_1, ho0_0, ho0_1, ho0_2, ho0_3, ho0_4, ho0_5, ho0_6, hm => by
  rw [Q2v]
  cases h0 : (decide (v0_1 < p3)) with
  | true =>
   have e0 := of_decide_eq_true h0
   exact Qk3 n0 p1 p2 p3 (fun r hr => Qvh n0 p1 p2 p3 v0_0 v0_1 ho0_0 ho0_1 ho0_2 ho0_3 ho0_4 ho0_5 ho0_6 h0 hr) _ (Qmo n0 p1 p2 p3 k0 (List.set (List.set v0_0 (Int.toNat (p1 + v0_1)) (List.getD v0_0 (Int.toNat (p2 + v0_1)) zF)) (Int.toNat (p2 + v0_1)) (List.getD v0_0 (Int.toNat (p1 + v0_1)) zF)) (v0_1 + 1) (by have f0 := (Qp (Qp ho0_6 (Int.toNat (p1 + v0_1)) (List.getD v0_0 (Int.toNat (p2 + v0_1)) zF)) (Int.toNat (p2 + v0_1)) (List.getD v0_0 (Int.toNat (p1 + v0_1)) zF)); omega) (by have f0 := (Qp (Qp ho0_6 (Int.toNat (p1 + v0_1)) (List.getD v0_0 (Int.toNat (p2 + v0_1)) zF)) (Int.toNat (p2 + v0_1)) (List.getD v0_0 (Int.toNat (p1 + v0_1)) zF)); omega) (by have f0 := (Qp (Qp ho0_6 (Int.toNat (p1 + v0_1)) (List.getD v0_0 (Int.toNat (p2 + v0_1)) zF)) (Int.toNat (p2 + v0_1)) (List.getD v0_0 (Int.toNat (p1 + v0_1)) zF)); omega) (by have f0 := (Qp (Qp ho0_6 (Int.toNat (p1 + v0_1)) (List.getD v0_0 (Int.toNat (p2 + v0_1)) zF)) (Int.toNat (p2 + v0_1)) (List.getD v0_0 (Int.toNat (p1 + v0_1)) zF)); omega) (by have f0 := (Qp (Qp ho0_6 (Int.toNat (p1 + v0_1)) (List.getD v0_0 (Int.toNat (p2 + v0_1)) zF)) (Int.toNat (p2 + v0_1)) (List.getD v0_0 (Int.toNat (p1 + v0_1)) zF)); omega) (by have f0 := (Qp (Qp ho0_6 (Int.toNat (p1 + v0_1)) (List.getD v0_0 (Int.toNat (p2 + v0_1)) zF)) (Int.toNat (p2 + v0_1)) (List.getD v0_0 (Int.toNat (p1 + v0_1)) zF)); omega) (Qp (Qp ho0_6 (Int.toNat (p1 + v0_1)) (List.getD v0_0 (Int.toNat (p2 + v0_1)) zF)) (Int.toNat (p2 + v0_1)) (List.getD v0_0 (Int.toNat (p1 + v0_1)) zF)) (by have f0 := (Qp (Qp ho0_6 (Int.toNat (p1 + v0_1)) (List.getD v0_0 (Int.toNat (p2 + v0_1)) zF)) (Int.toNat (p2 + v0_1)) (List.getD v0_0 (Int.toNat (p1 + v0_1)) zF)); omega))
  | false =>
   exact Qvk n0 p1 p2 p3 v0_0 v0_1 ho0_0 ho0_1 ho0_2 ho0_3 ho0_4 ho0_5 ho0_6 h0
theorem Q7i (n0 : Nat) (p1 : Int) (p2 : Int) (p3 : Int) : ∀ (k0 : Nat) (v0_0 : List Fld) (v0_1 : Int), List.length v0_0 = n0 → List.length (Q2v n0 p1 p2 p3 k0 v0_0 v0_1) = n0
 | 0, v0_0, v0_1, ho0_6 => by rw [Q2v]; exact ho0_6
 | k0 + 1, v0_0, v0_1, ho0_6 => by
  rw [Q2v]
  cases h0 : (decide (v0_1 < p3)) with
  | true =>
   exact Q7i n0 p1 p2 p3 k0 (List.set (List.set v0_0 (Int.toNat (p1 + v0_1)) (List.getD v0_0 (Int.toNat (p2 + v0_1)) zF)) (Int.toNat (p2 + v0_1)) (List.getD v0_0 (Int.toNat (p1 + v0_1)) zF)) (v0_1 + 1) (Qp (Qp ho0_6 (Int.toNat (p1 + v0_1)) (List.getD v0_0 (Int.toNat (p2 + v0_1)) zF)) (Int.toNat (p2 + v0_1)) (List.getD v0_0 (Int.toNat (p1 + v0_1)) zF))
  | false =>
   exact ho0_6
def Q14 (n0 : Nat) (p0 : List Fld) (p1 : Int) (p2 : Int) (p3 : Int) : List Fld :=
 (Q2v n0 p1 p2 p3 ((Int.toNat (p3 - 0)) + 1) p0 0)
def Qyn (n0 : Nat) (p0 : List Fld) (p1 : Int) (p2 : Int) (p3 : Int) : En := .call 72 [.ms 0 6 0 n0, .int .i64 p1, .int .i64 p2, .int .i64 p3, .fn 43 [] []] [⟨6, 0, false, (Fld.rows p0).flatten⟩]
def Qpb (n0 : Nat) (p0 : List Fld) (p1 : Int) (p2 : Int) (p3 : Int) : Rs := .ret (.tup []) [⟨6, 0, false, (Fld.rows (Q14 n0 p0 p1 p2 p3)).flatten⟩]
theorem Qm (n0 : Nat) (p0 : List Fld) (p1 : Int) (p2 : Int) (p3 : Int) (hn : List.length p0 = n0) : List.length (Q14 n0 p0 p1 p2 p3) = n0 := by
 unfold Q14
 have hz0_0 : List.length (Q2v n0 p1 p2 p3 ((Int.toNat (p3 - 0)) + 1) p0 0) = n0 := Q7i n0 p1 p2 p3 ((Int.toNat (p3 - 0)) + 1) p0 0 hn
 obtain ⟨R0, eR0⟩ : ∃ R, (Q2v n0 p1 p2 p3 ((Int.toNat (p3 - 0)) + 1) p0 0) = R := ⟨_, rfl⟩
 rw [eR0] at hz0_0 ⊢
 exact hz0_0
theorem Qdd (n0 : Nat) (p0 : List Fld) (p1 : Int) (p2 : Int) (p3 : Int) (hn : List.length p0 = n0) (hq0 : 0 ≤ p1 ∧ 0 ≤ p2 ∧ 0 ≤ p3 ∧ p1 + p3 ≤ n0 ∧ p2 + p3 ≤ n0 ∧ (n0 : Int) ≤ 1152921504606846976) : Q7 G (Qyn n0 p0 p1 p2 p3) (Qpb n0 p0 p1 p2 p3) := by
 unfold Qpb Q14
 have hl0 := Qmo n0 p1 p2 p3 ((Int.toNat (p3 - 0)) + 1) p0 0 (by omega) (by omega) (by omega) (by omega) (by omega) (by omega) hn (by omega)
 have hz0_0 : List.length (Q2v n0 p1 p2 p3 ((Int.toNat (p3 - 0)) + 1) p0 0) = n0 := Q7i n0 p1 p2 p3 ((Int.toNat (p3 - 0)) + 1) p0 0 hn
 obtain ⟨R0, eR0⟩ : ∃ R, (Q2v n0 p1 p2 p3 ((Int.toNat (p3 - 0)) + 1) p0 0) = R := ⟨_, rfl⟩
 rw [eR0] at hz0_0 hl0 ⊢
 obtain ⟨z0, zo0, hl0⟩ := hl0
 exact Q9 (fn := Ir.K1e) rfl (vk1 (Fld.Q5 p0 6 rfl)) [hS 0 false (Fld.Q5 R0 6 rfl)] [aV [(0, Fld.rows R0)] hl0] (by kernel_rfl)
def Q1p (n0 : Nat) (p2 : Int) : Nat → Int → Int → (List Fld) → (List Fld) × Int
 | 0, v0_0, _v0_1, v0_2 => (v0_2, v0_0)
 | k0 + 1, v0_0, v0_1, v0_2 =>
  bif (v0_0 == v0_1) then
   (v0_2, v0_0)
  else
   bif (decide (v0_1 < v0_0)) then
    Q1p n0 p2 k0 (v0_0 - v0_1) v0_1 (Q14 n0 v0_2 (p2 - v0_0) p2 v0_1)
   else
    Q1p n0 p2 k0 v0_0 (v0_1 - v0_0) (Q14 n0 v0_2 (p2 - v0_0) ((p2 + v0_1) - v0_0) v0_0)
def Qdl (n0 : Nat) (p2 : Int) (v0_0 : Int) (v0_1 : Int) (_v0_2 : List Fld) : List PV :=
  [.ms 0 6 0 n0, .un, .int .i64 p2, .un, .fn 43 [] [], .un, .un, .un, .un, .un, .int .i64 v0_0, .int .i64 v0_1, .un, .un, .un, .un, .un, .un, .un, .un, .un, .un, .un, .un, .un, .un, .un, .un, .un, .un, .un, .un, .un, .un, .un, .un, .un, .un, .un, .un, .un, .un, .un, .un, .un, .un, .un, .un, .un, .un, .un, .un, .un, .un, .un, .un, .un, .un]
def Q81 (_n0 : Nat) (_p2 : Int) (_v0_0 : Int) (_v0_1 : Int) (v0_2 : List Fld) : List Ob :=
  [⟨6, 0, false, (Fld.rows v0_2).flatten⟩]
def Q6v (n0 : Nat) (p2 : Int) (v0_0 : Int) (v0_1 : Int) (v0_2 : List Fld) : En := .loop 1 Ir.Qd1 Ir.Q11u (Qdl n0 p2 v0_0 v0_1 v0_2) (Q81 n0 p2 v0_0 v0_1 v0_2)
def Qit (n0 : Nat) (p2 : Int) (q0 : List Fld) (q1 : Int) (z : Nat → PV) (_zo : Nat → List PV) : St :=
  ⟨[.ms 0 6 0 n0, z 1, .int .i64 p2, z 3, .fn 43 [] [], z 5, z 6, z 7, z 8, z 9, .int .i64 q1, z 11, z 12, z 13, z 14, z 15, z 16, z 17, z 18, z 19, z 20, z 21, z 22, z 23, z 24, z 25, z 26, z 27, z 28, z 29, z 30, z 31, z 32, z 33, z 34, z 35, z 36, z 37, z 38, z 39, z 40, z 41, z 42, z 43, z 44, z 45, z 46, z 47, z 48, z 49, z 50, z 51, z 52, z 53, z 54, z 55, z 56, z 57], [(0, ⟨6, 0, false, (Fld.rows q0).flatten⟩)], 193⟩
theorem Qju (n0 : Nat) (p2 : Int) (v0_0 : Int) (v0_1 : Int) (v0_2 : List Fld) : VOK (Go.Pv.look (number 0 (Q81 n0 p2 v0_0 v0_1 v0_2))) [(0, Fld.rows v0_2)] := (VOK.cons (show Seen _ _ from Q3j (ob := ⟨6, 0, false, (Fld.rows v0_2).flatten⟩) (Fld.Q5 v0_2 6 rfl)) VOK.nil)
def Qas (n0 : Nat) (p2 : Int) (e : En) (q : (List Fld) × Int) : Prop := ∃ z zo, Q7 G e (.st (.exit 0) (Qit n0 p2 q.1 q.2 z zo))
theorem Q7r (n0 : Nat) (p2 : Int) {e e' : En} (h : ∀ r, Q7 G e r → Q7 G e' r) : ∀ q, Qas n0 p2 e q → Qas n0 p2 e' q
  | _, ⟨z, zo, hz⟩ => ⟨z, zo, h _ hz⟩
def Qi8 (_n0 : Nat) (_p2 : Int) (v0_0 : Int) (v0_1 : Int) (_v0_2 : List Fld) : List PV :=
  [.un, .un, .un, .un, .un, .un, .un, .un, .un, .un, .un, .int .i64 v0_1, .un, .un, .un, .un, .un, .un, .int .i64 v0_0, .int .i64 v0_1, .bool false]
def Qfo (_n0 : Nat) (_p2 : Int) (_v0_0 : Int) (_v0_1 : Int) (_v0_2 : List Fld) : List (Nat × List PV) :=
  []
theorem Qt3 (n0 : Nat) (p2 : Int) (v0_0 : Int) (v0_1 : Int) (v0_2 : List Fld) (_ho0_0 : 0 < v0_0) (_ho0_1 : 0 < v0_1) (_ho0_2 : v0_0 ≤ p2) (_ho0_3 : p2 + v0_1 ≤ n0) (_ho0_4 : (n0 : Int) ≤ 1152921504606846976) (_ho0_5 : List.length v0_2 = n0) (h0 : (v0_0 == v0_1) = true) : Qas n0 p2 (Q6v n0 p2 v0_0 v0_1 v0_2) (v0_2, v0_0) := by
 exact ⟨(envF (Qi8 n0 p2 v0_0 v0_1 v0_2)), (zoF (Qfo n0 p2 v0_0 v0_1 v0_2)), Qe (Qju n0 p2 v0_0 v0_1 v0_2) (x := ((.exit 0), Qit n0 p2 v0_2 v0_0 (envF (Qi8 n0 p2 v0_0 v0_1 v0_2)) (zoF (Qfo n0 p2 v0_0 v0_1 v0_2)))) [hP 2 (dec (!(v0_0 == v0_1)) false (by rw [h0]; rfl))] [] (by kernel_rfl)⟩
theorem Qtz (n0 : Nat) (p2 : Int) (v0_0 : Int) (v0_1 : Int) (v0_2 : List Fld) (ho0_0 : 0 < v0_0) (ho0_1 : 0 < v0_1) (ho0_2 : v0_0 ≤ p2) (ho0_3 : p2 + v0_1 ≤ n0) (ho0_4 : (n0 : Int) ≤ 1152921504606846976) (ho0_5 : List.length v0_2 = n0) (h0 : (v0_0 == v0_1) = false) (h1 : (decide (v0_1 < v0_0)) = true) {r : Rs} (hr : Q7 G (Q6v n0 p2 (v0_0 - v0_1) v0_1 (Q14 n0 v0_2 (p2 - v0_0) p2 v0_1)) r) : Q7 G (Q6v n0 p2 v0_0 v0_1 v0_2) r := by
 have e0 := beq_eq_false_iff_ne.1 h0; have e1 := of_decide_eq_true h1
 exact Qa (Qju n0 p2 v0_0 v0_1 v0_2) (y := (Qdl n0 p2 (v0_0 - v0_1) v0_1 (Q14 n0 v0_2 (p2 - v0_0) p2 v0_1), Q81 n0 p2 (v0_0 - v0_1) v0_1 (Q14 n0 v0_2 (p2 - v0_0) p2 v0_1))) [hP 2 (dec (!(v0_0 == v0_1)) true (by rw [h0]; rfl)), hB 2 h1, hP 3 (w_ok (p2 - v0_0) (by omega)), hQ (Fld.Q5 (Q14 n0 v0_2 (p2 - v0_0) p2 v0_1) 6 rfl), hP 6 (w_ok (v0_0 - v0_1) (by have f0 := (Qm n0 v0_2 (p2 - v0_0) p2 v0_1 ho0_5); omega))] [aV [(0, Fld.rows (Q14 n0 v0_2 (p2 - v0_0) p2 v0_1))] (Qdd n0 v0_2 (p2 - v0_0) p2 v0_1 ho0_5 (by omega))] (by kernel_rfl) hr
theorem Qv9 (n0 : Nat) (p2 : Int) (v0_0 : Int) (v0_1 : Int) (v0_2 : List Fld) (ho0_0 : 0 < v0_0) (ho0_1 : 0 < v0_1) (ho0_2 : v0_0 ≤ p2) (ho0_3 : p2 + v0_1 ≤ n0) (ho0_4 : (n0 : Int) ≤ 1152921504606846976) (ho0_5 : List.length v0_2 = n0) (h0 : (v0_0 == v0_1) = false) (h1 : (decide (v0_1 < v0_0)) = false) {r : Rs} (hr : Q7 G (Q6v n0 p2 v0_0 (v0_1 - v0_0) (Q14 n0 v0_2 (p2 - v0_0) ((p2 + v0_1) - v0_0) v0_0)) r) : Q7 G (Q6v n0 p2 v0_0 v0_1 v0_2) r := by
 have e0 := beq_eq_false_iff_ne.1 h0; have e1 := of_decide_eq_false h1
 exact Qa (Qju n0 p2 v0_0 v0_1 v0_2) (y := (Qdl n0 p2 v0_0 (v0_1 - v0_0) (Q14 n0 v0_2 (p2 - v0_0) ((p2 + v0_1) - v0_0) v0_0), Q81 n0 p2 v0_0 (v0_1 - v0_0) (Q14 n0 v0_2 (p2 - v0_0) ((p2 + v0_1) - v0_0) v0_0))) [hP 2 (dec (!(v0_0 == v0_1)) true (by rw [h0]; rfl)), hB 2 h1, hP 3 (w_ok (p2 - v0_0) (by omega)), hP 2 (w_ok (p2 + v0_1) (by omega)), hP 1 (w_ok ((p2 + v0_1) - v0_0) (by omega)), hQ (Fld.Q5 (Q14 n0 v0_2 (p2 - v0_0) ((p2 + v0_1) - v0_0) v0_0) 6 rfl), hP 5 (w_ok (v0_1 - v0_0) (by have f0 := (Qm n0 v0_2 (p2 - v0_0) ((p2 + v0_1) - v0_0) v0_0 ho0_5); omega))] [aV [(0, Fld.rows (Q14 n0 v0_2 (p2 - v0_0) ((p2 + v0_1) - v0_0) v0_0))] (Qdd n0 v0_2 (p2 - v0_0) ((p2 + v0_1) - v0_0) v0_0 ho0_5 (by omega))] (by kernel_rfl) hr
theorem Qcm (n0 : Nat) (p2 : Int) : ∀ (k0 : Nat) (v0_0 : Int) (v0_1 : Int) (v0_2 : List Fld), 0 < v0_0 → 0 < v0_1 → v0_0 ≤ p2 → p2 + v0_1 ≤ n0 → (n0 : Int) ≤ 1152921504606846976 → List.length v0_2 = n0 → Int.toNat (v0_0 + v0_1) < k0 → Qas n0 p2 (Q6v n0 p2 v0_0 v0_1 v0_2) (Q1p n0 p2 k0 v0_0 v0_1 v0_2)
 | 0, v0_0, v0_1, v0_2, _, _, _, _, _, _, hm => absurd hm (Nat.not_lt_zero _)
 | k0 + 1, v0_0, v0_1, v0_2, ho0_0, ho0_1, ho0_2, ho0_3, ho0_4, ho0_5, hm => by
  rw [Q1p]
  cases h0 : (v0_0 == v0_1) with
  | true =>
   exact Qt3 n0 p2 v0_0 v0_1 v0_2 ho0_0 ho0_1 ho0_2 ho0_3 ho0_4 ho0_5 h0
  | false =>
   have e0 := beq_eq_false_iff_ne.1 h0
   cases h1 : (decide (v0_1 < v0_0)) with
   | true =>
    have e1 := of_decide_eq_true h1
    exact Q7r n0 p2 (fun r hr => Qtz n0 p2 v0_0 v0_1 v0_2 ho0_0 ho0_1 ho0_2 ho0_3 ho0_4 ho0_5 h0 h1 hr) _ (Qcm n0 p2 k0 (v0_0 - v0_1) v0_1 (Q14 n0 v0_2 (p2 - v0_0) p2 v0_1) (by have f0 := (Qm n0 v0_2 (p2 - v0_0) p2 v0_1 ho0_5); omega) (by have f0 := (Qm n0 v0_2 (p2 - v0_0) p2 v0_1 ho0_5); omega) (by have f0 := (Qm n0 v0_2 (p2 - v0_0) p2 v0_1 ho0_5); omega) (by have f0 := (Qm n0 v0_2 (p2 - v0_0) p2 v0_1 ho0_5); omega) (by have f0 := (Qm n0 v0_2 (p2 - v0_0) p2 v0_1 ho0_5); omega) (Qm n0 v0_2 (p2 - v0_0) p2 v0_1 ho0_5) (by have f0 := (Qm n0 v0_2 (p2 - v0_0) p2 v0_1 ho0_5); omega))
   | false =>
    have e1 := of_decide_eq_false h1
    exact Q7r n0 p2 (fun r hr => Qv9 n0 p2 v0_0 v0_1 v0_2 ho0_0 ho0_1 ho0_2 ho0_3 ho0_4 ho0_5 h0 h1 hr) _ (Qcm n0 p2 k0 v0_0 (v0_1 - v0_0) (Q14 n0 v0_2 (p2 - v0_0) ((p2 + v0_1) - v0_0) v0_0) (by have f0 := (Qm n0 v0_2 (p2 - v0_0) ((p2 + v0_1) - v0_0) v0_0 ho0_5); omega) (by have f0 := (Qm n0 v0_2 (p2 - v0_0) ((p2 + v0_1) - v0_0) v0_0 ho0_5); omega) (by have f0 := (Qm n0 v0_2 (p2 - v0_0) ((p2 + v0_1) - v0_0) v0_0 ho0_5); omega) (by have f0 := (Qm n0 v0_2 (p2 - v0_0) ((p2 + v0_1) - v0_0) v0_0 ho0_5); omega) (by have f0 := (Qm n0 v0_2 (p2 - v0_0) ((p2 + v0_1) - v0_0) v0_0 ho0_5); omega) (Qm n0 v0_2 (p2 - v0_0) ((p2 + v0_1) - v0_0) v0_0 ho0_5) (by have f0 := (Qm n0 v0_2 (p2 - v0_0) ((p2 + v0_1) - v0_0) v0_0 ho0_5); omega))
theorem Q5a (n0 : Nat) (p2 : Int) : ∀ (k0 : Nat) (v0_0 : Int) (v0_1 : Int) (v0_2 : List Fld), List.length v0_2 = n0 → List.length (Q1p n0 p2 k0 v0_0 v0_1 v0_2).1 = n0
 | 0, v0_0, v0_1, v0_2, ho0_5 => by rw [Q1p]; exact ho0_5
 | k0 + 1, v0_0, v0_1, v0_2, ho0_5 => by
  rw [Q1p]
  cases h0 : (v0_0 == v0_1) with
  | true =>
   exact ho0_5
  | false =>
   cases h1 : (decide (v0_1 < v0_0)) with
   | true =>
    exact Q5a n0 p2 k0 (v0_0 - v0_1) v0_1 (Q14 n0 v0_2 (p2 - v0_0) p2 v0_1) (Qm n0 v0_2 (p2 - v0_0) p2 v0_1 ho0_5)
   | false =>
    exact Q5a n0 p2 k0 v0_0 (v0_1 - v0_0) (Q14 n0 v0_2 (p2 - v0_0) ((p2 + v0_1) - v0_0) v0_0) (Qm n0 v0_2 (p2 - v0_0) ((p2 + v0_1) - v0_0) v0_0 ho0_5)
theorem Qcs (n0 : Nat) (p2 : Int) : ∀ (k0 : Nat) (v0_0 : Int) (v0_1 : Int) (v0_2 : List Fld), 0 < v0_0 → 0 < v0_1 → v0_0 ≤ p2 → p2 + v0_1 ≤ n0 → (n0 : Int) ≤ 1152921504606846976 → List.length v0_2 = n0 → Int.toNat (v0_0 + v0_1) < k0 → 0 < (Q1p n0 p2 k0 v0_0 v0_1 v0_2).2 ∧ (Q1p n0 p2 k0 v0_0 v0_1 v0_2).2 ≤ p2 ∧ p2 + (Q1p n0 p2 k0 v0_0 v0_1 v0_2).2 ≤ n0
 | 0, v0_0, v0_1, v0_2, _, _, _, _, _, _, hm => absurd hm (Nat.not_lt_zero _)
 | k0 + 1, v0_0, v0_1, v0_2, ho0_0, ho0_1, ho0_2, ho0_3, ho0_4, ho0_5, hm => by
  rw [Q1p]
  cases h0 : (v0_0 == v0_1) with
  | true =>
   have e0 := eq_of_beq h0
   exact (show 0 < v0_0 ∧ v0_0 ≤ p2 ∧ p2 + v0_0 ≤ n0 from ⟨(by omega), (by omega), (by omega)⟩)
  | false =>
   have e0 := beq_eq_false_iff_ne.1 h0
   cases h1 : (decide (v0_1 < v0_0)) with
   | true =>
    have e1 := of_decide_eq_true h1
    exact Qcs n0 p2 k0 (v0_0 - v0_1) v0_1 (Q14 n0 v0_2 (p2 - v0_0) p2 v0_1) (by have f0 := (Qm n0 v0_2 (p2 - v0_0) p2 v0_1 ho0_5); omega) (by have f0 := (Qm n0 v0_2 (p2 - v0_0) p2 v0_1 ho0_5); omega) (by have f0 := (Qm n0 v0_2 (p2 - v0_0) p2 v0_1 ho0_5); omega) (by have f0 := (Qm n0 v0_2 (p2 - v0_0) p2 v0_1 ho0_5); omega) (by have f0 := (Qm n0 v0_2 (p2 - v0_0) p2 v0_1 ho0_5); omega) (Qm n0 v0_2 (p2 - v0_0) p2 v0_1 ho0_5) (by have f0 := (Qm n0 v0_2 (p2 - v0_0) p2 v0_1 ho0_5); omega)
   | false =>
    have e1 := of_decide_eq_false h1
    exact Qcs n0 p2 k0 v0_0 (v0_1 - v0_0) (Q14 n0 v0_2 (p2 - v0_0) ((p2 + v0_1) - v0_0) v0_0) (by have f0 := (Qm n0 v0_2 (p2 - v0_0) ((p2 + v0_1) - v0_0) v0_0 ho0_5); omega) (by have f0 := (Qm n0 v0_2 (p2 - v0_0) ((p2 + v0_1) - v0_0) v0_0 ho0_5); omega) (by have f0 := (Qm n0 v0_2 (p2 - v0_0) ((p2 + v0_1) - v0_0) v0_0 ho0_5); omega) (by have f0 := (Qm n0 v0_2 (p2 - v0_0) ((p2 + v0_1) - v0_0) v0_0 ho0_5); omega) (by have f0 := (Qm n0 v0_2 (p2 - v0_0) ((p2 + v0_1) - v0_0) v0_0 ho0_5); omega) (Qm n0 v0_2 (p2 - v0_0) ((p2 + v0_1) - v0_0) v0_0 ho0_5) (by have f0 := (Qm n0 v0_2 (p2 - v0_0) ((p2 + v0_1) - v0_0) v0_0 ho0_5); omega)
def Q8 (n0 : Nat) (p0 : List Fld) (p1 : Int) (p2 : Int) (p3 : Int) : List Fld :=
 (Q14 n0 (Q1p n0 p2 ((Int.toNat ((p2 - p1) + (p3 - p2))) + 1) (p2 - p1) (p3 - p2) p0).1 (p2 - (Q1p n0 p2 ((Int.toNat ((p2 - p1) + (p3 - p2))) + 1) (p2 - p1) (p3 - p2) p0).2) p2 (Q1p n0 p2 ((Int.toNat ((p2 - p1) + (p3 - p2))) + 1) (p2 - p1) (p3 - p2) p0).2)
def Qwo (n0 : Nat) (p0 : List Fld) (p1 : Int) (p2 : Int) (p3 : Int) : En := .call 71 [.ms 0 6 0 n0, .int .i64 p1, .int .i64 p2, .int .i64 p3, .fn 43 [] []] [⟨6, 0, false, (Fld.rows p0).flatten⟩]
def Qlr (n0 : Nat) (p0 : List Fld) (p1 : Int) (p2 : Int) (p3 : Int) : Rs := .ret (.tup []) [⟨6, 0, false, (Fld.rows (Q8 n0 p0 p1 p2 p3)).flatten⟩]
theorem Qg (n0 : Nat) (p0 : List Fld) (p1 : Int) (p2 : Int) (p3 : Int) (hn : List.length p0 = n0) : List.length (Q8 n0 p0 p1 p2 p3) = n0 := by
 unfold Q8
 have hz0_0 : List.length (Q1p n0 p2 ((Int.toNat ((p2 - p1) + (p3 - p2))) + 1) (p2 - p1) (p3 - p2) p0).1 = n0 := Q5a n0 p2 ((Int.toNat ((p2 - p1) + (p3 - p2))) + 1) (p2 - p1) (p3 - p2) p0 hn
 obtain ⟨R1, eR1⟩ : ∃ R, (Q1p n0 p2 ((Int.toNat ((p2 - p1) + (p3 - p2))) + 1) (p2 - p1) (p3 - p2) p0) = R := ⟨_, rfl⟩
 rw [eR1] at hz0_0 ⊢
 exact (Qm n0 R1.1 (p2 - R1.2) p2 R1.2 hz0_0)
theorem Q1q (n0 : Nat) (p0 : List Fld) (p1 : Int) (p2 : Int) (p3 : Int) (hn : List.length p0 = n0) (hq0 : 0 ≤ p1 ∧ p1 < p2 ∧ p2 < p3 ∧ p3 ≤ n0 ∧ (n0 : Int) ≤ 1152921504606846976) : Q7 G (Qwo n0 p0 p1 p2 p3) (Qlr n0 p0 p1 p2 p3) := by
 unfold Qlr Q8
 have hl0 := Qcm n0 p2 ((Int.toNat ((p2 - p1) + (p3 - p2))) + 1) (p2 - p1) (p3 - p2) p0 (by omega) (by omega) (by omega) (by omega) (by omega) hn (by omega)
 have hz0_0 : List.length (Q1p n0 p2 ((Int.toNat ((p2 - p1) + (p3 - p2))) + 1) (p2 - p1) (p3 - p2) p0).1 = n0 := Q5a n0 p2 ((Int.toNat ((p2 - p1) + (p3 - p2))) + 1) (p2 - p1) (p3 - p2) p0 hn
 have hy0 : 0 < (Q1p n0 p2 ((Int.toNat ((p2 - p1) + (p3 - p2))) + 1) (p2 - p1) (p3 - p2) p0).2 ∧ (Q1p n0 p2 ((Int.toNat ((p2 - p1) + (p3 - p2))) + 1) (p2 - p1) (p3 - p2) p0).2 ≤ p2 ∧ p2 + (Q1p n0 p2 ((Int.toNat ((p2 - p1) + (p3 - p2))) + 1) (p2 - p1) (p3 - p2) p0).2 ≤ n0 := Qcs n0 p2 ((Int.toNat ((p2 - p1) + (p3 - p2))) + 1) (p2 - p1) (p3 - p2) p0 (by omega) (by omega) (by omega) (by omega) (by omega) hn (by omega)
 obtain ⟨R1, eR1⟩ : ∃ R, (Q1p n0 p2 ((Int.toNat ((p2 - p1) + (p3 - p2))) + 1) (p2 - p1) (p3 - p2) p0) = R := ⟨_, rfl⟩
 rw [eR1] at hz0_0 hy0 hl0 ⊢
 obtain ⟨z0, zo0, hl0⟩ := hl0
 exact Q9 (fn := Ir.K1c) rfl (vk1 (Fld.Q5 p0 6 rfl)) [hP 2 (w_ok (p2 - p1) (by omega)), hP 3 (w_ok (p3 - p2) (by omega)), hS 0 false (Fld.Q5 R1.1 6 rfl), hP 4 (w_ok (p2 - R1.2) (by have g0 := hy0; omega)), hQ (Fld.Q5 (Q14 n0 R1.1 (p2 - R1.2) p2 R1.2) 6 rfl)] [aV [(0, Fld.rows R1.1)] hl0, aV [(0, Fld.rows (Q14 n0 R1.1 (p2 - R1.2) p2 R1.2))] (Qdd n0 R1.1 (p2 - R1.2) p2 R1.2 hz0_0 (by have g0 := hy0; omega))] (by kernel_rfl)
end Go.Proofs.Ytnhhddbbppbblaa
end

