/- Texts of the claim, merged by a program; what the statement does not reach is left out. -/
import Derived.Test.YtnhhddbbppbblaaBPatchMinimal6
import Derived.Lib.Strings
import Derived.Lib.Slices
import Derived.Lib.Walk
import Derived.Lib.Bytealg

section
/- What the law PatchMinimal computes (printed by a program). -/
namespace Go.Proofs.Ytnhhddbbppbblaa
open Go.Pv
inductive Q11d where
  | k0
  | k1
def Q34 (p0 : Val) (p1 : Val) : List Fld → Nat → Q11d
 | [], _i0 =>
  (.k0)
 | x0 :: r0, i0 =>
  bif (s_Kl p1 x0.name).2 then
   bif ((s_Kl p0 x0.name).2 == true) then
    bif (s_Ky (s_Kl p0 x0.name).1 (s_Kl p1 x0.name).1) then
     (.k1)
    else
     bif (x0.v.kind == 0) then
      bif ((s_Kl p1 x0.name).1.kind == 0) then
       Q34 p0 p1 r0 (i0 + 1)
      else
       (.k1)
     else
      Q34 p0 p1 r0 (i0 + 1)
   else
    bif (x0.v.kind == 0) then
     bif ((s_Kl p1 x0.name).1.kind == 0) then
      Q34 p0 p1 r0 (i0 + 1)
     else
      (.k1)
    else
     Q34 p0 p1 r0 (i0 + 1)
  else
   bif ((s_Kl p0 x0.name).2 == false) then
    bif (s_Ky (s_Kl p0 x0.name).1 (s_Kl p1 x0.name).1) then
     (.k1)
    else
     bif (x0.v.kind == 0) then
      Q34 p0 p1 r0 (i0 + 1)
     else
      Q34 p0 p1 r0 (i0 + 1)
   else
    bif (x0.v.kind == 0) then
     Q34 p0 p1 r0 (i0 + 1)
    else
     Q34 p0 p1 r0 (i0 + 1)
def Q4c (p0 : Val) (p1 : Val) (i0 : Nat) : List PV :=
  [.un, .un, .bx 0 0, .bx 1 0, .un, .un, .un, .un, .un, .un, .un, .un, .un, .un, .un, .un, .un, .un, .un, .un, .un, .un, .un, .un, .un, .un, .un, .un, .un, .un, .un, .un, .un, .un, .un, .un, .un, .un, .un, .un, .un, .un, .un, .sl (Fld.rows (s_Kf p0 p1).fields), .int .i64 ((List.length (s_Kf p0 p1).fields) : Int), .int .i64 (i0 : Int), .un, .un, .un, .un, .un, .un, .un, .un, .un, .un, .un, .un, .un, .un, .un, .un, .un, .un, .un, .un, .un, .un, .un, .un, .un, .un, .un, .un, .un, .un, .un, .un, .un, .un, .un, .un, .un, .un, .un, .un, .un]
def Q48 (p0 : Val) (p1 : Val) (_i0 : Nat) : List Ob :=
  [⟨5, 0, true, [.int .i64 p0.kind, .int .i64 p0.n, .str p0.s, .sl (Val.rows p0.list), .sl (Fld.rows p0.fields)]⟩, ⟨5, 0, true, [.int .i64 p1.kind, .int .i64 p1.n, .str p1.s, .sl (Val.rows p1.list), .sl (Fld.rows p1.fields)]⟩]
def Q20 (p0 : Val) (p1 : Val) (i0 : Nat) : En := .loop 0 Ir.Qgw Ir.Q187 (Q4c p0 p1 i0) (Q48 p0 p1 i0)
def Qcp (p0 : Val) (p1 : Val) (z : Nat → PV) (_zo : Nat → List PV) : St :=
  ⟨[z 0, z 1, z 2, z 3, z 4, z 5, z 6, z 7, z 8, z 9, z 10, z 11, z 12, z 13, z 14, z 15, z 16, z 17, z 18, z 19, z 20, z 21, z 22, z 23, z 24, z 25, z 26, z 27, z 28, z 29, z 30, z 31, z 32, z 33, z 34, z 35, z 36, z 37, z 38, z 39, z 40, z 41, z 42, z 43, z 44, z 45, z 46, z 47, z 48, z 49, z 50, z 51, z 52, z 53, z 54, z 55, z 56, z 57, z 58, z 59, z 60, z 61, z 62, z 63, z 64, z 65, z 66, z 67, z 68, z 69, z 70, z 71, z 72, z 73, z 74, z 75, z 76, z 77, z 78, z 79, z 80, z 81, z 82, z 83, z 84, z 85, z 86], [(0, ⟨5, 0, true, [.int .i64 p0.kind, .int .i64 p0.n, .str p0.s, .sl (Val.rows p0.list), .sl (Fld.rows p0.fields)]⟩), (1, ⟨5, 0, true, [.int .i64 p1.kind, .int .i64 p1.n, .str p1.s, .sl (Val.rows p1.list), .sl (Fld.rows p1.fields)]⟩)], 66⟩
def Q5e (_p0 : Val) (_p1 : Val) (z : Nat → PV) (zo : Nat → List PV) : St :=
  ⟨[z 0, z 1, z 2, z 3, .bool false, z 5, z 6, z 7, z 8, z 9, z 10, z 11, z 12, z 13, z 14, z 15, z 16, z 17, z 18, z 19, z 20, z 21, z 22, z 23, z 24, z 25, z 26, z 27, z 28, z 29, z 30, z 31, z 32, z 33, z 34, z 35, z 36, z 37, z 38, z 39, z 40, z 41, z 42, z 43, z 44, z 45, z 46, z 47, z 48, z 49, z 50, z 51, z 52, z 53, z 54, z 55, z 56, z 57, z 58, z 59, z 60, z 61, z 62, z 63, z 64, z 65, z 66, z 67, z 68, z 69, z 70, z 71, z 72, z 73, z 74, z 75, z 76, z 77, z 78, z 79, z 80, z 81, z 82, z 83, z 84, z 85, z 86], [(0, ⟨5, 0, true, zo 0⟩), (1, ⟨5, 0, true, zo 1⟩), (194, ⟨6, 0, true, zo 194⟩), (770, ⟨5, 0, true, zo 770⟩), (1410, ⟨5, 0, true, zo 1410⟩)], 3074⟩
def Q6h (p0 : Val) (p1 : Val) (e : En) : Q11d → Prop
  | .k0 => ∃ z zo, Q7 G e (.st (.exit 0) (Qcp p0 p1 z zo))
  | .k1 => ∃ z zo, Q7 G e (.st .ret (Q5e p0 p1 z zo))
theorem Q2i (p0 : Val) (p1 : Val) {e e' : En} (h : ∀ r, Q7 G e r → Q7 G e' r) : ∀ q, Q6h p0 p1 e q → Q6h p0 p1 e' q
  | .k0, ⟨z, zo, hz⟩ => ⟨z, zo, h _ hz⟩
  | .k1, ⟨z, zo, hz⟩ => ⟨z, zo, h _ hz⟩
def Q32 (p0 : Val) (p1 : Val) : Prop := (List.length (s_Kf p0 p1).fields ≤ 4611686018427387904) ∧ (∀ x0 ∈ (s_Kf p0 p1).fields, H_Kl p0 x0.name) ∧ (∀ x0 ∈ (s_Kf p0 p1).fields, H_Kl p1 x0.name) ∧ (∀ x0 ∈ (s_Kf p0 p1).fields, ((s_Kl p0 x0.name).2 == (s_Kl p1 x0.name).2) = true → H_Ky (s_Kl p0 x0.name).1) ∧ (∀ x0 ∈ (s_Kf p0 p1).fields, (s_Kl p1 x0.name).2 = true → ((s_Kl p0 x0.name).2 == true) = true → H_Ky (s_Kl p0 x0.name).1) ∧ (∀ x0 ∈ (s_Kf p0 p1).fields, (s_Kl p1 x0.name).2 = false → ((s_Kl p0 x0.name).2 == false) = true → H_Ky (s_Kl p0 x0.name).1) ∧ True
def Qpk (p0 : Val) (p1 : Val) (i0 : Nat) : List PV :=
  [.un, .un, .bx 0 0, .bx 1 0, .un, .un, .un, .un, .un, .un, .un, .un, .un, .un, .un, .un, .un, .un, .un, .un, .un, .un, .un, .un, .un, .un, .un, .un, .un, .un, .un, .un, .un, .un, .un, .un, .un, .un, .un, .un, .un, .un, .un, .sl (Fld.rows (s_Kf p0 p1).fields), .int .i64 ((List.length (s_Kf p0 p1).fields) : Int), .int .i64 (i0 : Int), .bool false]
def Qge (_p0 : Val) (_p1 : Val) (_i0 : Nat) : List (Nat × List PV) :=
  []
theorem Q100 (p0 : Val) (p1 : Val) (_H : Q32 p0 p1) (i0 : Nat) (hc0 : (decide ((i0 : Int) < ((List.length (s_Kf p0 p1).fields) : Int))) = false) : Q6h p0 p1 (Q20 p0 p1 i0) (.k0) := by
 exact ⟨(envF (Qpk p0 p1 i0)), (zoF (Qge p0 p1 i0)), Qe VOK.nil (x := ((.exit 0), Qcp p0 p1 (envF (Qpk p0 p1 i0)) (zoF (Qge p0 p1 i0)))) [hB 0 hc0] [] (by kernel_rfl)⟩
def Qp2 (p0 : Val) (p1 : Val) (i0 : Nat) (x0 : Fld) : List PV :=
  [.un, .un, .bx 0 0, .bx 1 0, .un, .un, .un, .bx 194 0, .bx 770 0, .bool (s_Kl p0 x0.name).2, .bx 1410 0, .bool true, .un, .un, .un, .un, .un, .un, .un, .un, .un, .un, .un, .un, .un, .un, .un, .un, .un, .un, .un, .un, .un, .un, .un, .un, .un, .un, .un, .un, .un, .un, .un, .sl (Fld.rows (s_Kf p0 p1).fields), .int .i64 ((List.length (s_Kf p0 p1).fields) : Int), .int .i64 (i0 : Int), .bool true, .rf [.str x0.name, .int .i64 x0.v.kind, .int .i64 x0.v.n, .str x0.v.s, .sl (Val.rows x0.v.list), .sl (Fld.rows x0.v.fields)], .agg [.str x0.name, .int .i64 x0.v.kind, .int .i64 x0.v.n, .str x0.v.s, .sl (Val.rows x0.v.list), .sl (Fld.rows x0.v.fields)], .tup [.agg [.int .i64 (s_Kl p0 x0.name).1.kind, .int .i64 (s_Kl p0 x0.name).1.n, .str (s_Kl p0 x0.name).1.s, .sl (Val.rows (s_Kl p0 x0.name).1.list), .sl (Fld.rows (s_Kl p0 x0.name).1.fields)], .bool (s_Kl p0 x0.name).2], .agg [.int .i64 p0.kind, .int .i64 p0.n, .str p0.s, .sl (Val.rows p0.list), .sl (Fld.rows p0.fields)], .bx 194 0, .str x0.name, .tup [.agg [.int .i64 (s_Kl p0 x0.name).1.kind, .int .i64 (s_Kl p0 x0.name).1.n, .str (s_Kl p0 x0.name).1.s, .sl (Val.rows (s_Kl p0 x0.name).1.list), .sl (Fld.rows (s_Kl p0 x0.name).1.fields)], .bool (s_Kl p0 x0.name).2], .agg [.int .i64 (s_Kl p0 x0.name).1.kind, .int .i64 (s_Kl p0 x0.name).1.n, .str (s_Kl p0 x0.name).1.s, .sl (Val.rows (s_Kl p0 x0.name).1.list), .sl (Fld.rows (s_Kl p0 x0.name).1.fields)], .bool (s_Kl p0 x0.name).2, .tup [.agg [.int .i64 (s_Kl p1 x0.name).1.kind, .int .i64 (s_Kl p1 x0.name).1.n, .str (s_Kl p1 x0.name).1.s, .sl (Val.rows (s_Kl p1 x0.name).1.list), .sl (Fld.rows (s_Kl p1 x0.name).1.fields)], .bool (s_Kl p1 x0.name).2], .agg [.int .i64 p1.kind, .int .i64 p1.n, .str p1.s, .sl (Val.rows p1.list), .sl (Fld.rows p1.fields)], .bx 194 0, .str x0.name, .tup [.agg [.int .i64 (s_Kl p1 x0.name).1.kind, .int .i64 (s_Kl p1 x0.name).1.n, .str (s_Kl p1 x0.name).1.s, .sl (Val.rows (s_Kl p1 x0.name).1.list), .sl (Fld.rows (s_Kl p1 x0.name).1.fields)], .bool (s_Kl p1 x0.name).2], .agg [.int .i64 (s_Kl p1 x0.name).1.kind, .int .i64 (s_Kl p1 x0.name).1.n, .str (s_Kl p1 x0.name).1.s, .sl (Val.rows (s_Kl p1 x0.name).1.list), .sl (Fld.rows (s_Kl p1 x0.name).1.fields)], .bool true, .bool (s_Kl p0 x0.name).2, .bool true, .bool true, .bool true, .agg [.int .i64 (s_Kl p0 x0.name).1.kind, .int .i64 (s_Kl p0 x0.name).1.n, .str (s_Kl p0 x0.name).1.s, .sl (Val.rows (s_Kl p0 x0.name).1.list), .sl (Fld.rows (s_Kl p0 x0.name).1.fields)], .agg [.int .i64 (s_Kl p1 x0.name).1.kind, .int .i64 (s_Kl p1 x0.name).1.n, .str (s_Kl p1 x0.name).1.s, .sl (Val.rows (s_Kl p1 x0.name).1.list), .sl (Fld.rows (s_Kl p1 x0.name).1.fields)], .bool true, .bool true, .bool true, .tup [], .tup [], .tup [], .tup [], .tup [], .tup [], .tup [], .tup [], .tup [], .tup [], .tup [], .tup [], .bool true]
def Qgt (p0 : Val) (p1 : Val) (_i0 : Nat) (x0 : Fld) : List (Nat × List PV) :=
  [(0, [.int .i64 p0.kind, .int .i64 p0.n, .str p0.s, .sl (Val.rows p0.list), .sl (Fld.rows p0.fields)]), (1, [.int .i64 p1.kind, .int .i64 p1.n, .str p1.s, .sl (Val.rows p1.list), .sl (Fld.rows p1.fields)]), (194, [.str x0.name, .int .i64 x0.v.kind, .int .i64 x0.v.n, .str x0.v.s, .sl (Val.rows x0.v.list), .sl (Fld.rows x0.v.fields)]), (770, [.int .i64 (s_Kl p0 x0.name).1.kind, .int .i64 (s_Kl p0 x0.name).1.n, .str (s_Kl p0 x0.name).1.s, .sl (Val.rows (s_Kl p0 x0.name).1.list), .sl (Fld.rows (s_Kl p0 x0.name).1.fields)]), (1410, [.int .i64 (s_Kl p1 x0.name).1.kind, .int .i64 (s_Kl p1 x0.name).1.n, .str (s_Kl p1 x0.name).1.s, .sl (Val.rows (s_Kl p1 x0.name).1.list), .sl (Fld.rows (s_Kl p1 x0.name).1.fields)])]
theorem Q12d (p0 : Val) (p1 : Val) (H : Q32 p0 p1) (x0 : Fld) (i0 : Nat) (hx0 : (s_Kf p0 p1).fields[i0]? = some x0) (_hi0 : i0 < List.length (s_Kf p0 p1).fields) (hc0 : (decide ((i0 : Int) < ((List.length (s_Kf p0 p1).fields) : Int))) = true) (h0 : (s_Kl p1 x0.name).2 = true) (h1 : ((s_Kl p0 x0.name).2 == true) = true) (h2 : (s_Ky (s_Kl p0 x0.name).1 (s_Kl p1 x0.name).1) = true) : Q6h p0 p1 (Q20 p0 p1 i0) (.k1) := by
 exact ⟨(envF (Qp2 p0 p1 i0 x0)), (zoF (Qgt p0 p1 i0 x0)), Qe VOK.nil (x := (.ret, Q5e p0 p1 (envF (Qp2 p0 p1 i0 x0)) (zoF (Qgt p0 p1 i0 x0)))) [hB 0 hc0, hP 0 (Q18 6 (Fld.rows (s_Kf p0 p1).fields) i0 _ (Fld.Qf hx0) rfl), hB 19 h0, hB 5 h1] [aN (t_Kl p0 x0.name ((H.2.1 x0 (Ql hx0)))), aN (t_Kl p1 x0.name ((H.2.2.1 x0 (Ql hx0)))), aB (t_Ky (s_Kl p0 x0.name).1 (s_Kl p1 x0.name).1 ((H.2.2.2.2.1 x0 (Ql hx0)) h0 h1)) h2] (by kernel_rfl)⟩
theorem Q121 (p0 : Val) (p1 : Val) (H : Q32 p0 p1) (x0 : Fld) (i0 : Nat) (hx0 : (s_Kf p0 p1).fields[i0]? = some x0) (hi0 : i0 < List.length (s_Kf p0 p1).fields) (hc0 : (decide ((i0 : Int) < ((List.length (s_Kf p0 p1).fields) : Int))) = true) (h0 : (s_Kl p1 x0.name).2 = true) (h1 : ((s_Kl p0 x0.name).2 == true) = true) (h2 : (s_Ky (s_Kl p0 x0.name).1 (s_Kl p1 x0.name).1) = false) (h3 : (x0.v.kind == 0) = true) (h4 : ((s_Kl p1 x0.name).1.kind == 0) = true) {r : Rs} (hr : Q7 G (Q20 p0 p1 (i0 + 1)) r) : Q7 G (Q20 p0 p1 i0) r := by
 have hB0 := H.1; have e3 := eq_of_beq h3; have e4 := eq_of_beq h4
 exact Q9 VOK.nil (y := (Q4c p0 p1 (i0 + 1), Q48 p0 p1 (i0 + 1))) [hB 0 hc0, hP 0 (Q18 6 (Fld.rows (s_Kf p0 p1).fields) i0 _ (Fld.Qf hx0) rfl), hB 19 h0, hB 5 h1, hB 9 h3, hP 6 (dec (!((s_Kl p1 x0.name).1.kind == 0)) false (by rw [h4]; rfl)), hP 2 (Qt i0 (by omega))] [aN (t_Kl p0 x0.name ((H.2.1 x0 (Ql hx0)))), aN (t_Kl p1 x0.name ((H.2.2.1 x0 (Ql hx0)))), aB (t_Ky (s_Kl p0 x0.name).1 (s_Kl p1 x0.name).1 ((H.2.2.2.2.1 x0 (Ql hx0)) h0 h1)) h2] (by kernel_rfl) hr
def Qp6 (p0 : Val) (p1 : Val) (i0 : Nat) (x0 : Fld) : List PV :=
  [.un, .un, .bx 0 0, .bx 1 0, .un, .un, .un, .bx 194 0, .bx 770 0, .bool (s_Kl p0 x0.name).2, .bx 1410 0, .bool true, .un, .un, .un, .un, .un, .un, .un, .un, .un, .un, .un, .un, .un, .un, .un, .un, .un, .un, .un, .un, .un, .un, .un, .un, .un, .un, .un, .un, .un, .un, .un, .sl (Fld.rows (s_Kf p0 p1).fields), .int .i64 ((List.length (s_Kf p0 p1).fields) : Int), .int .i64 (i0 : Int), .bool true, .rf [.str x0.name, .int .i64 x0.v.kind, .int .i64 x0.v.n, .str x0.v.s, .sl (Val.rows x0.v.list), .sl (Fld.rows x0.v.fields)], .agg [.str x0.name, .int .i64 x0.v.kind, .int .i64 x0.v.n, .str x0.v.s, .sl (Val.rows x0.v.list), .sl (Fld.rows x0.v.fields)], .tup [.agg [.int .i64 (s_Kl p0 x0.name).1.kind, .int .i64 (s_Kl p0 x0.name).1.n, .str (s_Kl p0 x0.name).1.s, .sl (Val.rows (s_Kl p0 x0.name).1.list), .sl (Fld.rows (s_Kl p0 x0.name).1.fields)], .bool (s_Kl p0 x0.name).2], .agg [.int .i64 p0.kind, .int .i64 p0.n, .str p0.s, .sl (Val.rows p0.list), .sl (Fld.rows p0.fields)], .bx 194 0, .str x0.name, .tup [.agg [.int .i64 (s_Kl p0 x0.name).1.kind, .int .i64 (s_Kl p0 x0.name).1.n, .str (s_Kl p0 x0.name).1.s, .sl (Val.rows (s_Kl p0 x0.name).1.list), .sl (Fld.rows (s_Kl p0 x0.name).1.fields)], .bool (s_Kl p0 x0.name).2], .agg [.int .i64 (s_Kl p0 x0.name).1.kind, .int .i64 (s_Kl p0 x0.name).1.n, .str (s_Kl p0 x0.name).1.s, .sl (Val.rows (s_Kl p0 x0.name).1.list), .sl (Fld.rows (s_Kl p0 x0.name).1.fields)], .bool (s_Kl p0 x0.name).2, .tup [.agg [.int .i64 (s_Kl p1 x0.name).1.kind, .int .i64 (s_Kl p1 x0.name).1.n, .str (s_Kl p1 x0.name).1.s, .sl (Val.rows (s_Kl p1 x0.name).1.list), .sl (Fld.rows (s_Kl p1 x0.name).1.fields)], .bool (s_Kl p1 x0.name).2], .agg [.int .i64 p1.kind, .int .i64 p1.n, .str p1.s, .sl (Val.rows p1.list), .sl (Fld.rows p1.fields)], .bx 194 0, .str x0.name, .tup [.agg [.int .i64 (s_Kl p1 x0.name).1.kind, .int .i64 (s_Kl p1 x0.name).1.n, .str (s_Kl p1 x0.name).1.s, .sl (Val.rows (s_Kl p1 x0.name).1.list), .sl (Fld.rows (s_Kl p1 x0.name).1.fields)], .bool (s_Kl p1 x0.name).2], .agg [.int .i64 (s_Kl p1 x0.name).1.kind, .int .i64 (s_Kl p1 x0.name).1.n, .str (s_Kl p1 x0.name).1.s, .sl (Val.rows (s_Kl p1 x0.name).1.list), .sl (Fld.rows (s_Kl p1 x0.name).1.fields)], .bool true, .bool (s_Kl p0 x0.name).2, .bool true, .bool true, .bool true, .agg [.int .i64 (s_Kl p0 x0.name).1.kind, .int .i64 (s_Kl p0 x0.name).1.n, .str (s_Kl p0 x0.name).1.s, .sl (Val.rows (s_Kl p0 x0.name).1.list), .sl (Fld.rows (s_Kl p0 x0.name).1.fields)], .agg [.int .i64 (s_Kl p1 x0.name).1.kind, .int .i64 (s_Kl p1 x0.name).1.n, .str (s_Kl p1 x0.name).1.s, .sl (Val.rows (s_Kl p1 x0.name).1.list), .sl (Fld.rows (s_Kl p1 x0.name).1.fields)], .bool false, .bool false, .bool false, .bx 194 1, .bx 194 1, .int .i64 x0.v.kind, .bool true, .bool true, .bool true, .bool true, .bool true, .bx 1410 0, .int .i64 (s_Kl p1 x0.name).1.kind, .bool true, .bool true, .bool true]
def Qja (p0 : Val) (p1 : Val) (_i0 : Nat) (x0 : Fld) : List (Nat × List PV) :=
  [(0, [.int .i64 p0.kind, .int .i64 p0.n, .str p0.s, .sl (Val.rows p0.list), .sl (Fld.rows p0.fields)]), (1, [.int .i64 p1.kind, .int .i64 p1.n, .str p1.s, .sl (Val.rows p1.list), .sl (Fld.rows p1.fields)]), (194, [.str x0.name, .int .i64 x0.v.kind, .int .i64 x0.v.n, .str x0.v.s, .sl (Val.rows x0.v.list), .sl (Fld.rows x0.v.fields)]), (770, [.int .i64 (s_Kl p0 x0.name).1.kind, .int .i64 (s_Kl p0 x0.name).1.n, .str (s_Kl p0 x0.name).1.s, .sl (Val.rows (s_Kl p0 x0.name).1.list), .sl (Fld.rows (s_Kl p0 x0.name).1.fields)]), (1410, [.int .i64 (s_Kl p1 x0.name).1.kind, .int .i64 (s_Kl p1 x0.name).1.n, .str (s_Kl p1 x0.name).1.s, .sl (Val.rows (s_Kl p1 x0.name).1.list), .sl (Fld.rows (s_Kl p1 x0.name).1.fields)])]
theorem Qz0 (p0 : Val) (p1 : Val) (H : Q32 p0 p1) (x0 : Fld) (i0 : Nat) (hx0 : (s_Kf p0 p1).fields[i0]? = some x0) (_hi0 : i0 < List.length (s_Kf p0 p1).fields) (hc0 : (decide ((i0 : Int) < ((List.length (s_Kf p0 p1).fields) : Int))) = true) (h0 : (s_Kl p1 x0.name).2 = true) (h1 : ((s_Kl p0 x0.name).2 == true) = true) (h2 : (s_Ky (s_Kl p0 x0.name).1 (s_Kl p1 x0.name).1) = false) (h3 : (x0.v.kind == 0) = true) (h4 : ((s_Kl p1 x0.name).1.kind == 0) = false) : Q6h p0 p1 (Q20 p0 p1 i0) (.k1) := by
 exact ⟨(envF (Qp6 p0 p1 i0 x0)), (zoF (Qja p0 p1 i0 x0)), Qe VOK.nil (x := (.ret, Q5e p0 p1 (envF (Qp6 p0 p1 i0 x0)) (zoF (Qja p0 p1 i0 x0)))) [hB 0 hc0, hP 0 (Q18 6 (Fld.rows (s_Kf p0 p1).fields) i0 _ (Fld.Qf hx0) rfl), hB 19 h0, hB 5 h1, hB 9 h3, hP 6 (dec (!((s_Kl p1 x0.name).1.kind == 0)) true (by rw [h4]; rfl))] [aN (t_Kl p0 x0.name ((H.2.1 x0 (Ql hx0)))), aN (t_Kl p1 x0.name ((H.2.2.1 x0 (Ql hx0)))), aB (t_Ky (s_Kl p0 x0.name).1 (s_Kl p1 x0.name).1 ((H.2.2.2.2.1 x0 (Ql hx0)) h0 h1)) h2] (by kernel_rfl)⟩
theorem Q116 (p0 : Val) (p1 : Val) (H : Q32 p0 p1) (x0 : Fld) (i0 : Nat) (hx0 : (s_Kf p0 p1).fields[i0]? = some x0) (hi0 : i0 < List.length (s_Kf p0 p1).fields) (hc0 : (decide ((i0 : Int) < ((List.length (s_Kf p0 p1).fields) : Int))) = true) (h0 : (s_Kl p1 x0.name).2 = true) (h1 : ((s_Kl p0 x0.name).2 == true) = true) (h2 : (s_Ky (s_Kl p0 x0.name).1 (s_Kl p1 x0.name).1) = false) (h3 : (x0.v.kind == 0) = false) {r : Rs} (hr : Q7 G (Q20 p0 p1 (i0 + 1)) r) : Q7 G (Q20 p0 p1 i0) r := by
 have hB0 := H.1; have e3 := beq_eq_false_iff_ne.1 h3
 exact Q9 VOK.nil (y := (Q4c p0 p1 (i0 + 1), Q48 p0 p1 (i0 + 1))) [hB 0 hc0, hP 0 (Q18 6 (Fld.rows (s_Kf p0 p1).fields) i0 _ (Fld.Qf hx0) rfl), hB 19 h0, hB 5 h1, hB 9 h3, hP 9 (Qt i0 (by omega))] [aN (t_Kl p0 x0.name ((H.2.1 x0 (Ql hx0)))), aN (t_Kl p1 x0.name ((H.2.2.1 x0 (Ql hx0)))), aB (t_Ky (s_Kl p0 x0.name).1 (s_Kl p1 x0.name).1 ((H.2.2.2.2.1 x0 (Ql hx0)) h0 h1)) h2] (by kernel_rfl) hr
theorem Qyr (p0 : Val) (p1 : Val) (H : Q32 p0 p1) (x0 : Fld) (i0 : Nat) (hx0 : (s_Kf p0 p1).fields[i0]? = some x0) (hi0 : i0 < List.length (s_Kf p0 p1).fields) (hc0 : (decide ((i0 : Int) < ((List.length (s_Kf p0 p1).fields) : Int))) = true) (h0 : (s_Kl p1 x0.name).2 = true) (h1 : ((s_Kl p0 x0.name).2 == true) = false) (h2 : (x0.v.kind == 0) = true) (h3 : ((s_Kl p1 x0.name).1.kind == 0) = true) {r : Rs} (hr : Q7 G (Q20 p0 p1 (i0 + 1)) r) : Q7 G (Q20 p0 p1 i0) r := by
 have hB0 := H.1; have e2 := eq_of_beq h2; have e3 := eq_of_beq h3
 exact Q9 VOK.nil (y := (Q4c p0 p1 (i0 + 1), Q48 p0 p1 (i0 + 1))) [hB 0 hc0, hP 0 (Q18 6 (Fld.rows (s_Kf p0 p1).fields) i0 _ (Fld.Qf hx0) rfl), hB 19 h0, hB 5 h1, hB 9 h2, hP 6 (dec (!((s_Kl p1 x0.name).1.kind == 0)) false (by rw [h3]; rfl)), hP 2 (Qt i0 (by omega))] [aN (t_Kl p0 x0.name ((H.2.1 x0 (Ql hx0)))), aN (t_Kl p1 x0.name ((H.2.2.1 x0 (Ql hx0))))] (by kernel_rfl) hr
def Qpm (p0 : Val) (p1 : Val) (i0 : Nat) (x0 : Fld) : List PV :=
  [.un, .un, .bx 0 0, .bx 1 0, .un, .un, .un, .bx 194 0, .bx 770 0, .bool (s_Kl p0 x0.name).2, .bx 1410 0, .bool true, .un, .un, .un, .un, .un, .un, .un, .un, .un, .un, .un, .un, .un, .un, .un, .un, .un, .un, .un, .un, .un, .un, .un, .un, .un, .un, .un, .un, .un, .un, .un, .sl (Fld.rows (s_Kf p0 p1).fields), .int .i64 ((List.length (s_Kf p0 p1).fields) : Int), .int .i64 (i0 : Int), .bool true, .rf [.str x0.name, .int .i64 x0.v.kind, .int .i64 x0.v.n, .str x0.v.s, .sl (Val.rows x0.v.list), .sl (Fld.rows x0.v.fields)], .agg [.str x0.name, .int .i64 x0.v.kind, .int .i64 x0.v.n, .str x0.v.s, .sl (Val.rows x0.v.list), .sl (Fld.rows x0.v.fields)], .tup [.agg [.int .i64 (s_Kl p0 x0.name).1.kind, .int .i64 (s_Kl p0 x0.name).1.n, .str (s_Kl p0 x0.name).1.s, .sl (Val.rows (s_Kl p0 x0.name).1.list), .sl (Fld.rows (s_Kl p0 x0.name).1.fields)], .bool (s_Kl p0 x0.name).2], .agg [.int .i64 p0.kind, .int .i64 p0.n, .str p0.s, .sl (Val.rows p0.list), .sl (Fld.rows p0.fields)], .bx 194 0, .str x0.name, .tup [.agg [.int .i64 (s_Kl p0 x0.name).1.kind, .int .i64 (s_Kl p0 x0.name).1.n, .str (s_Kl p0 x0.name).1.s, .sl (Val.rows (s_Kl p0 x0.name).1.list), .sl (Fld.rows (s_Kl p0 x0.name).1.fields)], .bool (s_Kl p0 x0.name).2], .agg [.int .i64 (s_Kl p0 x0.name).1.kind, .int .i64 (s_Kl p0 x0.name).1.n, .str (s_Kl p0 x0.name).1.s, .sl (Val.rows (s_Kl p0 x0.name).1.list), .sl (Fld.rows (s_Kl p0 x0.name).1.fields)], .bool (s_Kl p0 x0.name).2, .tup [.agg [.int .i64 (s_Kl p1 x0.name).1.kind, .int .i64 (s_Kl p1 x0.name).1.n, .str (s_Kl p1 x0.name).1.s, .sl (Val.rows (s_Kl p1 x0.name).1.list), .sl (Fld.rows (s_Kl p1 x0.name).1.fields)], .bool (s_Kl p1 x0.name).2], .agg [.int .i64 p1.kind, .int .i64 p1.n, .str p1.s, .sl (Val.rows p1.list), .sl (Fld.rows p1.fields)], .bx 194 0, .str x0.name, .tup [.agg [.int .i64 (s_Kl p1 x0.name).1.kind, .int .i64 (s_Kl p1 x0.name).1.n, .str (s_Kl p1 x0.name).1.s, .sl (Val.rows (s_Kl p1 x0.name).1.list), .sl (Fld.rows (s_Kl p1 x0.name).1.fields)], .bool (s_Kl p1 x0.name).2], .agg [.int .i64 (s_Kl p1 x0.name).1.kind, .int .i64 (s_Kl p1 x0.name).1.n, .str (s_Kl p1 x0.name).1.s, .sl (Val.rows (s_Kl p1 x0.name).1.list), .sl (Fld.rows (s_Kl p1 x0.name).1.fields)], .bool true, .bool (s_Kl p0 x0.name).2, .bool true, .bool false, .bool false, .tup [], .tup [], .tup [], .bool false, .bool false, .bx 194 1, .bx 194 1, .int .i64 x0.v.kind, .bool true, .bool true, .bool true, .bool true, .bool true, .bx 1410 0, .int .i64 (s_Kl p1 x0.name).1.kind, .bool true, .bool true, .bool true]
def Qjg (p0 : Val) (p1 : Val) (_i0 : Nat) (x0 : Fld) : List (Nat × List PV) :=
  [(0, [.int .i64 p0.kind, .int .i64 p0.n, .str p0.s, .sl (Val.rows p0.list), .sl (Fld.rows p0.fields)]), (1, [.int .i64 p1.kind, .int .i64 p1.n, .str p1.s, .sl (Val.rows p1.list), .sl (Fld.rows p1.fields)]), (194, [.str x0.name, .int .i64 x0.v.kind, .int .i64 x0.v.n, .str x0.v.s, .sl (Val.rows x0.v.list), .sl (Fld.rows x0.v.fields)]), (770, [.int .i64 (s_Kl p0 x0.name).1.kind, .int .i64 (s_Kl p0 x0.name).1.n, .str (s_Kl p0 x0.name).1.s, .sl (Val.rows (s_Kl p0 x0.name).1.list), .sl (Fld.rows (s_Kl p0 x0.name).1.fields)]), (1410, [.int .i64 (s_Kl p1 x0.name).1.kind, .int .i64 (s_Kl p1 x0.name).1.n, .str (s_Kl p1 x0.name).1.s, .sl (Val.rows (s_Kl p1 x0.name).1.list), .sl (Fld.rows (s_Kl p1 x0.name).1.fields)])]
theorem Qy0 (p0 : Val) (p1 : Val) (H : Q32 p0 p1) (x0 : Fld) (i0 : Nat) (hx0 : (s_Kf p0 p1).fields[i0]? = some x0) (_hi0 : i0 < List.length (s_Kf p0 p1).fields) (hc0 : (decide ((i0 : Int) < ((List.length (s_Kf p0 p1).fields) : Int))) = true) (h0 : (s_Kl p1 x0.name).2 = true) (h1 : ((s_Kl p0 x0.name).2 == true) = false) (h2 : (x0.v.kind == 0) = true) (h3 : ((s_Kl p1 x0.name).1.kind == 0) = false) : Q6h p0 p1 (Q20 p0 p1 i0) (.k1) := by
 exact ⟨(envF (Qpm p0 p1 i0 x0)), (zoF (Qjg p0 p1 i0 x0)), Qe VOK.nil (x := (.ret, Q5e p0 p1 (envF (Qpm p0 p1 i0 x0)) (zoF (Qjg p0 p1 i0 x0)))) [hB 0 hc0, hP 0 (Q18 6 (Fld.rows (s_Kf p0 p1).fields) i0 _ (Fld.Qf hx0) rfl), hB 19 h0, hB 5 h1, hB 9 h2, hP 6 (dec (!((s_Kl p1 x0.name).1.kind == 0)) true (by rw [h3]; rfl))] [aN (t_Kl p0 x0.name ((H.2.1 x0 (Ql hx0)))), aN (t_Kl p1 x0.name ((H.2.2.1 x0 (Ql hx0))))] (by kernel_rfl)⟩
theorem Q12b (p0 : Val) (p1 : Val) (H : Q32 p0 p1) (x0 : Fld) (i0 : Nat) (hx0 : (s_Kf p0 p1).fields[i0]? = some x0) (hi0 : i0 < List.length (s_Kf p0 p1).fields) (hc0 : (decide ((i0 : Int) < ((List.length (s_Kf p0 p1).fields) : Int))) = true) (h0 : (s_Kl p1 x0.name).2 = true) (h1 : ((s_Kl p0 x0.name).2 == true) = false) (h2 : (x0.v.kind == 0) = false) {r : Rs} (hr : Q7 G (Q20 p0 p1 (i0 + 1)) r) : Q7 G (Q20 p0 p1 i0) r := by
 have hB0 := H.1; have e2 := beq_eq_false_iff_ne.1 h2
 exact Q9 VOK.nil (y := (Q4c p0 p1 (i0 + 1), Q48 p0 p1 (i0 + 1))) [hB 0 hc0, hP 0 (Q18 6 (Fld.rows (s_Kf p0 p1).fields) i0 _ (Fld.Qf hx0) rfl), hB 19 h0, hB 5 h1, hB 9 h2, hP 9 (Qt i0 (by omega))] [aN (t_Kl p0 x0.name ((H.2.1 x0 (Ql hx0)))), aN (t_Kl p1 x0.name ((H.2.2.1 x0 (Ql hx0))))] (by kernel_rfl) hr
def Qmu (p0 : Val) (p1 : Val) (i0 : Nat) (x0 : Fld) : List PV :=
  [.un, .un, .bx 0 0, .bx 1 0, .un, .un, .un, .bx 194 0, .bx 770 0, .bool (s_Kl p0 x0.name).2, .bx 1410 0, .bool false, .un, .un, .un, .un, .un, .un, .un, .un, .un, .un, .un, .un, .un, .un, .un, .un, .un, .un, .un, .un, .un, .un, .un, .un, .un, .un, .un, .un, .un, .un, .un, .sl (Fld.rows (s_Kf p0 p1).fields), .int .i64 ((List.length (s_Kf p0 p1).fields) : Int), .int .i64 (i0 : Int), .bool true, .rf [.str x0.name, .int .i64 x0.v.kind, .int .i64 x0.v.n, .str x0.v.s, .sl (Val.rows x0.v.list), .sl (Fld.rows x0.v.fields)], .agg [.str x0.name, .int .i64 x0.v.kind, .int .i64 x0.v.n, .str x0.v.s, .sl (Val.rows x0.v.list), .sl (Fld.rows x0.v.fields)], .tup [.agg [.int .i64 (s_Kl p0 x0.name).1.kind, .int .i64 (s_Kl p0 x0.name).1.n, .str (s_Kl p0 x0.name).1.s, .sl (Val.rows (s_Kl p0 x0.name).1.list), .sl (Fld.rows (s_Kl p0 x0.name).1.fields)], .bool (s_Kl p0 x0.name).2], .agg [.int .i64 p0.kind, .int .i64 p0.n, .str p0.s, .sl (Val.rows p0.list), .sl (Fld.rows p0.fields)], .bx 194 0, .str x0.name, .tup [.agg [.int .i64 (s_Kl p0 x0.name).1.kind, .int .i64 (s_Kl p0 x0.name).1.n, .str (s_Kl p0 x0.name).1.s, .sl (Val.rows (s_Kl p0 x0.name).1.list), .sl (Fld.rows (s_Kl p0 x0.name).1.fields)], .bool (s_Kl p0 x0.name).2], .agg [.int .i64 (s_Kl p0 x0.name).1.kind, .int .i64 (s_Kl p0 x0.name).1.n, .str (s_Kl p0 x0.name).1.s, .sl (Val.rows (s_Kl p0 x0.name).1.list), .sl (Fld.rows (s_Kl p0 x0.name).1.fields)], .bool (s_Kl p0 x0.name).2, .tup [.agg [.int .i64 (s_Kl p1 x0.name).1.kind, .int .i64 (s_Kl p1 x0.name).1.n, .str (s_Kl p1 x0.name).1.s, .sl (Val.rows (s_Kl p1 x0.name).1.list), .sl (Fld.rows (s_Kl p1 x0.name).1.fields)], .bool (s_Kl p1 x0.name).2], .agg [.int .i64 p1.kind, .int .i64 p1.n, .str p1.s, .sl (Val.rows p1.list), .sl (Fld.rows p1.fields)], .bx 194 0, .str x0.name, .tup [.agg [.int .i64 (s_Kl p1 x0.name).1.kind, .int .i64 (s_Kl p1 x0.name).1.n, .str (s_Kl p1 x0.name).1.s, .sl (Val.rows (s_Kl p1 x0.name).1.list), .sl (Fld.rows (s_Kl p1 x0.name).1.fields)], .bool (s_Kl p1 x0.name).2], .agg [.int .i64 (s_Kl p1 x0.name).1.kind, .int .i64 (s_Kl p1 x0.name).1.n, .str (s_Kl p1 x0.name).1.s, .sl (Val.rows (s_Kl p1 x0.name).1.list), .sl (Fld.rows (s_Kl p1 x0.name).1.fields)], .bool false, .bool (s_Kl p0 x0.name).2, .bool false, .bool true, .bool true, .agg [.int .i64 (s_Kl p0 x0.name).1.kind, .int .i64 (s_Kl p0 x0.name).1.n, .str (s_Kl p0 x0.name).1.s, .sl (Val.rows (s_Kl p0 x0.name).1.list), .sl (Fld.rows (s_Kl p0 x0.name).1.fields)], .agg [.int .i64 (s_Kl p1 x0.name).1.kind, .int .i64 (s_Kl p1 x0.name).1.n, .str (s_Kl p1 x0.name).1.s, .sl (Val.rows (s_Kl p1 x0.name).1.list), .sl (Fld.rows (s_Kl p1 x0.name).1.fields)], .bool true, .bool true, .bool true, .tup [], .tup [], .tup [], .tup [], .tup [], .tup [], .tup [], .tup [], .tup [], .tup [], .tup [], .tup [], .bool true]
def Qhn (p0 : Val) (p1 : Val) (_i0 : Nat) (x0 : Fld) : List (Nat × List PV) :=
  [(0, [.int .i64 p0.kind, .int .i64 p0.n, .str p0.s, .sl (Val.rows p0.list), .sl (Fld.rows p0.fields)]), (1, [.int .i64 p1.kind, .int .i64 p1.n, .str p1.s, .sl (Val.rows p1.list), .sl (Fld.rows p1.fields)]), (194, [.str x0.name, .int .i64 x0.v.kind, .int .i64 x0.v.n, .str x0.v.s, .sl (Val.rows x0.v.list), .sl (Fld.rows x0.v.fields)]), (770, [.int .i64 (s_Kl p0 x0.name).1.kind, .int .i64 (s_Kl p0 x0.name).1.n, .str (s_Kl p0 x0.name).1.s, .sl (Val.rows (s_Kl p0 x0.name).1.list), .sl (Fld.rows (s_Kl p0 x0.name).1.fields)]), (1410, [.int .i64 (s_Kl p1 x0.name).1.kind, .int .i64 (s_Kl p1 x0.name).1.n, .str (s_Kl p1 x0.name).1.s, .sl (Val.rows (s_Kl p1 x0.name).1.list), .sl (Fld.rows (s_Kl p1 x0.name).1.fields)])]
theorem Qzi (p0 : Val) (p1 : Val) (H : Q32 p0 p1) (x0 : Fld) (i0 : Nat) (hx0 : (s_Kf p0 p1).fields[i0]? = some x0) (_hi0 : i0 < List.length (s_Kf p0 p1).fields) (hc0 : (decide ((i0 : Int) < ((List.length (s_Kf p0 p1).fields) : Int))) = true) (h0 : (s_Kl p1 x0.name).2 = false) (h1 : ((s_Kl p0 x0.name).2 == false) = true) (h2 : (s_Ky (s_Kl p0 x0.name).1 (s_Kl p1 x0.name).1) = true) : Q6h p0 p1 (Q20 p0 p1 i0) (.k1) := by
 exact ⟨(envF (Qmu p0 p1 i0 x0)), (zoF (Qhn p0 p1 i0 x0)), Qe VOK.nil (x := (.ret, Q5e p0 p1 (envF (Qmu p0 p1 i0 x0)) (zoF (Qhn p0 p1 i0 x0)))) [hB 0 hc0, hP 0 (Q18 6 (Fld.rows (s_Kf p0 p1).fields) i0 _ (Fld.Qf hx0) rfl), hB 19 h0, hB 5 h1] [aN (t_Kl p0 x0.name ((H.2.1 x0 (Ql hx0)))), aN (t_Kl p1 x0.name ((H.2.2.1 x0 (Ql hx0)))), aB (t_Ky (s_Kl p0 x0.name).1 (s_Kl p1 x0.name).1 ((H.2.2.2.2.2.1 x0 (Ql hx0)) h0 h1)) h2] (by kernel_rfl)⟩
theorem Q10b (p0 : Val) (p1 : Val) (H : Q32 p0 p1) (x0 : Fld) (i0 : Nat) (hx0 : (s_Kf p0 p1).fields[i0]? = some x0) (hi0 : i0 < List.length (s_Kf p0 p1).fields) (hc0 : (decide ((i0 : Int) < ((List.length (s_Kf p0 p1).fields) : Int))) = true) (h0 : (s_Kl p1 x0.name).2 = false) (h1 : ((s_Kl p0 x0.name).2 == false) = true) (h2 : (s_Ky (s_Kl p0 x0.name).1 (s_Kl p1 x0.name).1) = false) (h3 : (x0.v.kind == 0) = true) {r : Rs} (hr : Q7 G (Q20 p0 p1 (i0 + 1)) r) : Q7 G (Q20 p0 p1 i0) r := by
 have hB0 := H.1; have e3 := eq_of_beq h3
 exact Q9 VOK.nil (y := (Q4c p0 p1 (i0 + 1), Q48 p0 p1 (i0 + 1))) [hB 0 hc0, hP 0 (Q18 6 (Fld.rows (s_Kf p0 p1).fields) i0 _ (Fld.Qf hx0) rfl), hB 19 h0, hB 5 h1, hB 9 h3, hP 9 (Qt i0 (by omega))] [aN (t_Kl p0 x0.name ((H.2.1 x0 (Ql hx0)))), aN (t_Kl p1 x0.name ((H.2.2.1 x0 (Ql hx0)))), aB (t_Ky (s_Kl p0 x0.name).1 (s_Kl p1 x0.name).1 ((H.2.2.2.2.2.1 x0 (Ql hx0)) h0 h1)) h2] (by kernel_rfl) hr
theorem Qv0 (p0 : Val) (p1 : Val) (H : Q32 p0 p1) (x0 : Fld) (i0 : Nat) (hx0 : (s_Kf p0 p1).fields[i0]? = some x0) (hi0 : i0 < List.length (s_Kf p0 p1).fields) (hc0 : (decide ((i0 : Int) < ((List.length (s_Kf p0 p1).fields) : Int))) = true) (h0 : (s_Kl p1 x0.name).2 = false) (h1 : ((s_Kl p0 x0.name).2 == false) = true) (h2 : (s_Ky (s_Kl p0 x0.name).1 (s_Kl p1 x0.name).1) = false) (h3 : (x0.v.kind == 0) = false) {r : Rs} (hr : Q7 G (Q20 p0 p1 (i0 + 1)) r) : Q7 G (Q20 p0 p1 i0) r := by
 have hB0 := H.1; have e3 := beq_eq_false_iff_ne.1 h3
 exact Q9 VOK.nil (y := (Q4c p0 p1 (i0 + 1), Q48 p0 p1 (i0 + 1))) [hB 0 hc0, hP 0 (Q18 6 (Fld.rows (s_Kf p0 p1).fields) i0 _ (Fld.Qf hx0) rfl), hB 19 h0, hB 5 h1, hB 9 h3, hP 9 (Qt i0 (by omega))] [aN (t_Kl p0 x0.name ((H.2.1 x0 (Ql hx0)))), aN (t_Kl p1 x0.name ((H.2.2.1 x0 (Ql hx0)))), aB (t_Ky (s_Kl p0 x0.name).1 (s_Kl p1 x0.name).1 ((H.2.2.2.2.2.1 x0 (Ql hx0)) h0 h1)) h2] (by kernel_rfl) hr
theorem Qwv (p0 : Val) (p1 : Val) (H : Q32 p0 p1) (x0 : Fld) (i0 : Nat) (hx0 : (s_Kf p0 p1).fields[i0]? = some x0) (hi0 : i0 < List.length (s_Kf p0 p1).fields) (hc0 : (decide ((i0 : Int) < ((List.length (s_Kf p0 p1).fields) : Int))) = true) (h0 : (s_Kl p1 x0.name).2 = false) (h1 : ((s_Kl p0 x0.name).2 == false) = false) (h2 : (x0.v.kind == 0) = true) {r : Rs} (hr : Q7 G (Q20 p0 p1 (i0 + 1)) r) : Q7 G (Q20 p0 p1 i0) r := by
 have hB0 := H.1; have e2 := eq_of_beq h2
 exact Q9 VOK.nil (y := (Q4c p0 p1 (i0 + 1), Q48 p0 p1 (i0 + 1))) [hB 0 hc0, hP 0 (Q18 6 (Fld.rows (s_Kf p0 p1).fields) i0 _ (Fld.Qf hx0) rfl), hB 19 h0, hB 5 h1, hB 9 h2, hP 9 (Qt i0 (by omega))] [aN (t_Kl p0 x0.name ((H.2.1 x0 (Ql hx0)))), aN (t_Kl p1 x0.name ((H.2.2.1 x0 (Ql hx0))))] (by kernel_rfl) hr
theorem Quw (p0 : Val) (p1 : Val) (H : Q32 p0 p1) (x0 : Fld) (i0 : Nat) (hx0 : (s_Kf p0 p1).fields[i0]? = some x0) (hi0 : i0 < List.length (s_Kf p0 p1).fields) (hc0 : (decide ((i0 : Int) < ((List.length (s_Kf p0 p1).fields) : Int))) = true) (h0 : (s_Kl p1 x0.name).2 = false) (h1 : ((s_Kl p0 x0.name).2 == false) = false) (h2 : (x0.v.kind == 0) = false) {r : Rs} (hr : Q7 G (Q20 p0 p1 (i0 + 1)) r) : Q7 G (Q20 p0 p1 i0) r := by
 have hB0 := H.1; have e2 := beq_eq_false_iff_ne.1 h2
 exact Q9 VOK.nil (y := (Q4c p0 p1 (i0 + 1), Q48 p0 p1 (i0 + 1))) [hB 0 hc0, hP 0 (Q18 6 (Fld.rows (s_Kf p0 p1).fields) i0 _ (Fld.Qf hx0) rfl), hB 19 h0, hB 5 h1, hB 9 h2, hP 9 (Qt i0 (by omega))] [aN (t_Kl p0 x0.name ((H.2.1 x0 (Ql hx0)))), aN (t_Kl p1 x0.name ((H.2.2.1 x0 (Ql hx0))))] (by kernel_rfl) hr
theorem Q49 (p0 : Val) (p1 : Val) (H : Q32 p0 p1) : ∀ (r0 : List Fld) (i0 : Nat), List.drop i0 (s_Kf p0 p1).fields = r0 → Q6h p0 p1 (Q20 p0 p1 i0) (Q34 p0 p1 r0 i0)
 | [], i0, hd => by
  have hc0 : (decide ((i0 : Int) < ((List.length (s_Kf p0 p1).fields) : Int))) = false := by have := Q1k hd; simp; omega
  rw [Q34]
  exact Q100 p0 p1 H i0 hc0
 | x0 :: r0, i0, hd => by
  obtain ⟨hx0, hi0, hd'⟩ := Q15 hd
  have hc0 : (decide ((i0 : Int) < ((List.length (s_Kf p0 p1).fields) : Int))) = true := by simp; omega
  rw [Q34]
  cases h0 : (s_Kl p1 x0.name).2 with
  | true =>
   cases h1 : ((s_Kl p0 x0.name).2 == true) with
   | true =>
    cases h2 : (s_Ky (s_Kl p0 x0.name).1 (s_Kl p1 x0.name).1) with
    | true =>
     exact Q12d p0 p1 H x0 i0 hx0 hi0 hc0 h0 h1 h2
    | false =>
     cases h3 : (x0.v.kind == 0) with
     | true =>
      cases h4 : ((s_Kl p1 x0.name).1.kind == 0) with
      | true =>
       exact Q2i p0 p1 (fun r hr => Q121 p0 p1 H x0 i0 hx0 hi0 hc0 h0 h1 h2 h3 h4 hr) _ (Q49 p0 p1 H r0 (i0 + 1) hd')
      | false =>
       exact Qz0 p0 p1 H x0 i0 hx0 hi0 hc0 h0 h1 h2 h3 h4
     | false =>
      exact Q2i p0 p1 (fun r hr => Q116 p0 p1 H x0 i0 hx0 hi0 hc0 h0 h1 h2 h3 hr) _ (Q49 p0 p1 H r0 (i0 + 1) hd')
   | false =>
    cases h2 : (x0.v.kind == 0) with
    | true =>
     cases h3 : ((s_Kl p1 x0.name).1.kind == 0) with
     | true =>
      exact Q2i p0 p1 (fun r hr => Qyr p0 p1 H x0 i0 hx0 hi0 hc0 h0 h1 h2 h3 hr) _ (Q49 p0 p1 H r0 (i0 + 1) hd')
     | false =>
      exact Qy0 p0 p1 H x0 i0 hx0 hi0 hc0 h0 h1 h2 h3
    | false =>
     exact Q2i p0 p1 (fun r hr => Q12b p0 p1 H x0 i0 hx0 hi0 hc0 h0 h1 h2 hr) _ (Q49 p0 p1 H r0 (i0 + 1) hd')
  | false =>
   cases h1 : ((s_Kl p0 x0.name).2 == false) with
   | true =>
    cases h2 : (s_Ky (s_Kl p0 x0.name).1 (s_Kl p1 x0.name).1) with
    | true =>
     exact Qzi p0 p1 H x0 i0 hx0 hi0 hc0 h0 h1 h2
    | false =>
     cases h3 : (x0.v.kind == 0) with
     | true =>
      exact Q2i p0 p1 (fun r hr => Q10b p0 p1 H x0 i0 hx0 hi0 hc0 h0 h1 h2 h3 hr) _ (Q49 p0 p1 H r0 (i0 + 1) hd')
     | false =>
      exact Q2i p0 p1 (fun r hr => Qv0 p0 p1 H x0 i0 hx0 hi0 hc0 h0 h1 h2 h3 hr) _ (Q49 p0 p1 H r0 (i0 + 1) hd')
   | false =>
    cases h2 : (x0.v.kind == 0) with
    | true =>
     exact Q2i p0 p1 (fun r hr => Qwv p0 p1 H x0 i0 hx0 hi0 hc0 h0 h1 h2 hr) _ (Q49 p0 p1 H r0 (i0 + 1) hd')
    | false =>
     exact Q2i p0 p1 (fun r hr => Quw p0 p1 H x0 i0 hx0 hi0 hc0 h0 h1 h2 hr) _ (Q49 p0 p1 H r0 (i0 + 1) hd')
def s_K9 (p0 : Val) (p1 : Val) : Bool :=
 bif (s_Kd ([p0, p1])) then
  bif (p0.kind == 5) then
   bif (p1.kind == 5) then
    bif ((s_Kf p0 p0).kind == 5) then
     bif (((List.length (s_Kf p0 p0).fields) : Int) == 0) then
      (match (Q34 p0 p1 (s_Kf p0 p1).fields 0) with
      | .k0 => true
      | .k1 => false)
     else
      false
    else
     false
   else
    true
  else
   true
 else
  true
def c_K9 (p0 : Val) (p1 : Val) : En := .call 8 [.agg (Val.cells p0), .agg (Val.cells p1)] []
def a_K9 (p0 : Val) (p1 : Val) : Rs := .ret (.bool (s_K9 p0 p1)) []
def H_K9 (p0 : Val) (p1 : Val) : Prop := (H_Kd ([p0, p1])) ∧ ((s_Kd ([p0, p1])) = true → (p0.kind == 5) = true → (p1.kind == 5) = true → H_Kf p0 p0) ∧ ((s_Kd ([p0, p1])) = true → (p0.kind == 5) = true → (p1.kind == 5) = true → ((s_Kf p0 p0).kind == 5) = true → (((List.length (s_Kf p0 p0).fields) : Int) == 0) = true → H_Kf p0 p1) ∧ ((s_Kd ([p0, p1])) = true → (p0.kind == 5) = true → (p1.kind == 5) = true → ((s_Kf p0 p0).kind == 5) = true → (((List.length (s_Kf p0 p0).fields) : Int) == 0) = true → Q32 p0 p1) ∧ True
theorem Q18o (p0 : Val) (p1 : Val) (H : H_K9 p0 p1) (h0 : (s_Kd ([p0, p1])) = true) (h1 : (p0.kind == 5) = true) (h2 : (p1.kind == 5) = true) (h3 : ((s_Kf p0 p0).kind == 5) = true) (h4 : (((List.length (s_Kf p0 p0).fields) : Int) == 0) = true) (z5 : Nat → PV) (zo5 : Nat → List PV) (hl5 : Q7 G (Q20 p0 p1 0) (.st (.exit 0) (Qcp p0 p1 z5 zo5))) : Q7 G (c_K9 p0 p1) (.ret (.bool (true)) []) := by
 exact Q8 (fn := Ir.K9) rfl VOK.nil [hP 11 (dec (!(p0.kind == 5)) false (by rw [h1]; rfl)), hP 4 (dec (!(p1.kind == 5)) false (by rw [h2]; rfl)), hP 8 (dec (!((s_Kf p0 p0).kind == 5)) false (by rw [h3]; rfl)), hP 3 (Qi (Fld.rows (s_Kf p0 p0).fields) (List.length (s_Kf p0 p0).fields) (Fld.Qd (s_Kf p0 p0).fields)), hP 0 (dec (!(((List.length (s_Kf p0 p0).fields) : Int) == 0)) false (by rw [h4]; rfl)), hP 5 (Qi (Fld.rows (s_Kf p0 p1).fields) (List.length (s_Kf p0 p1).fields) (Fld.Qd (s_Kf p0 p1).fields))] [aB (Qmx (e' := .call 10 [.sl [(Val.cells p0), (Val.cells p1)]] []) (t_Kd ([p0, p1]) (H.1)) (by simp only [c_Kd, Val.Q1z, Val.Q2t])) h0, aN (t_Kf p0 p0 (H.2.1 h0 h1 h2)), aN (t_Kf p0 p1 (H.2.2.1 h0 h1 h2 h3 h4)), aN hl5, aN t_Ka] (by kernel_rfl)
theorem Q17n (p0 : Val) (p1 : Val) (H : H_K9 p0 p1) (h0 : (s_Kd ([p0, p1])) = true) (h1 : (p0.kind == 5) = true) (h2 : (p1.kind == 5) = true) (h3 : ((s_Kf p0 p0).kind == 5) = true) (h4 : (((List.length (s_Kf p0 p0).fields) : Int) == 0) = true) (z5 : Nat → PV) (zo5 : Nat → List PV) (hl5 : Q7 G (Q20 p0 p1 0) (.st .ret (Q5e p0 p1 z5 zo5))) : Q7 G (c_K9 p0 p1) (.ret (.bool (false)) []) := by
 exact Q8 (fn := Ir.K9) rfl VOK.nil [hP 11 (dec (!(p0.kind == 5)) false (by rw [h1]; rfl)), hP 4 (dec (!(p1.kind == 5)) false (by rw [h2]; rfl)), hP 8 (dec (!((s_Kf p0 p0).kind == 5)) false (by rw [h3]; rfl)), hP 3 (Qi (Fld.rows (s_Kf p0 p0).fields) (List.length (s_Kf p0 p0).fields) (Fld.Qd (s_Kf p0 p0).fields)), hP 0 (dec (!(((List.length (s_Kf p0 p0).fields) : Int) == 0)) false (by rw [h4]; rfl)), hP 5 (Qi (Fld.rows (s_Kf p0 p1).fields) (List.length (s_Kf p0 p1).fields) (Fld.Qd (s_Kf p0 p1).fields))] [aB (Qmx (e' := .call 10 [.sl [(Val.cells p0), (Val.cells p1)]] []) (t_Kd ([p0, p1]) (H.1)) (by simp only [c_Kd, Val.Q1z, Val.Q2t])) h0, aN (t_Kf p0 p0 (H.2.1 h0 h1 h2)), aN (t_Kf p0 p1 (H.2.2.1 h0 h1 h2 h3 h4)), aN hl5] (by kernel_rfl)
theorem Q17e (p0 : Val) (p1 : Val) (H : H_K9 p0 p1) (h0 : (s_Kd ([p0, p1])) = true) (h1 : (p0.kind == 5) = true) (h2 : (p1.kind == 5) = true) (h3 : ((s_Kf p0 p0).kind == 5) = true) (h4 : (((List.length (s_Kf p0 p0).fields) : Int) == 0) = false) : Q7 G (c_K9 p0 p1) (.ret (.bool (false)) []) := by
 exact Q8 (fn := Ir.K9) rfl VOK.nil [hP 11 (dec (!(p0.kind == 5)) false (by rw [h1]; rfl)), hP 4 (dec (!(p1.kind == 5)) false (by rw [h2]; rfl)), hP 8 (dec (!((s_Kf p0 p0).kind == 5)) false (by rw [h3]; rfl)), hP 3 (Qi (Fld.rows (s_Kf p0 p0).fields) (List.length (s_Kf p0 p0).fields) (Fld.Qd (s_Kf p0 p0).fields)), hP 0 (dec (!(((List.length (s_Kf p0 p0).fields) : Int) == 0)) true (by rw [h4]; rfl))] [aB (Qmx (e' := .call 10 [.sl [(Val.cells p0), (Val.cells p1)]] []) (t_Kd ([p0, p1]) (H.1)) (by simp only [c_Kd, Val.Q1z, Val.Q2t])) h0, aN (t_Kf p0 p0 (H.2.1 h0 h1 h2))] (by kernel_rfl)
theorem Q191 (p0 : Val) (p1 : Val) (H : H_K9 p0 p1) (h0 : (s_Kd ([p0, p1])) = true) (h1 : (p0.kind == 5) = true) (h2 : (p1.kind == 5) = true) (h3 : ((s_Kf p0 p0).kind == 5) = false) : Q7 G (c_K9 p0 p1) (.ret (.bool (false)) []) := by
 exact Q8 (fn := Ir.K9) rfl VOK.nil [hP 11 (dec (!(p0.kind == 5)) false (by rw [h1]; rfl)), hP 4 (dec (!(p1.kind == 5)) false (by rw [h2]; rfl)), hP 8 (dec (!((s_Kf p0 p0).kind == 5)) true (by rw [h3]; rfl))] [aB (Qmx (e' := .call 10 [.sl [(Val.cells p0), (Val.cells p1)]] []) (t_Kd ([p0, p1]) (H.1)) (by simp only [c_Kd, Val.Q1z, Val.Q2t])) h0, aN (t_Kf p0 p0 (H.2.1 h0 h1 h2))] (by kernel_rfl)
theorem Q18r (p0 : Val) (p1 : Val) (H : H_K9 p0 p1) (h0 : (s_Kd ([p0, p1])) = true) (h1 : (p0.kind == 5) = true) (h2 : (p1.kind == 5) = false) : Q7 G (c_K9 p0 p1) (.ret (.bool (true)) []) := by
 exact Q8 (fn := Ir.K9) rfl VOK.nil [hP 11 (dec (!(p0.kind == 5)) false (by rw [h1]; rfl)), hP 4 (dec (!(p1.kind == 5)) true (by rw [h2]; rfl))] [aB (Qmx (e' := .call 10 [.sl [(Val.cells p0), (Val.cells p1)]] []) (t_Kd ([p0, p1]) (H.1)) (by simp only [c_Kd, Val.Q1z, Val.Q2t])) h0, aN t_Ka] (by kernel_rfl)
theorem Q16e (p0 : Val) (p1 : Val) (H : H_K9 p0 p1) (h0 : (s_Kd ([p0, p1])) = true) (h1 : (p0.kind == 5) = false) : Q7 G (c_K9 p0 p1) (.ret (.bool (true)) []) := by
 exact Q8 (fn := Ir.K9) rfl VOK.nil [hP 11 (dec (!(p0.kind == 5)) true (by rw [h1]; rfl))] [aB (Qmx (e' := .call 10 [.sl [(Val.cells p0), (Val.cells p1)]] []) (t_Kd ([p0, p1]) (H.1)) (by simp only [c_Kd, Val.Q1z, Val.Q2t])) h0, aN t_Ka] (by kernel_rfl)
theorem Q16b (p0 : Val) (p1 : Val) (H : H_K9 p0 p1) (h0 : (s_Kd ([p0, p1])) = false) : Q7 G (c_K9 p0 p1) (.ret (.bool (true)) []) := by
 exact Q8 (fn := Ir.K9) rfl VOK.nil [] [aB (Qmx (e' := .call 10 [.sl [(Val.cells p0), (Val.cells p1)]] []) (t_Kd ([p0, p1]) (H.1)) (by simp only [c_Kd, Val.Q1z, Val.Q2t])) h0, aN t_Ka] (by kernel_rfl)
theorem t_K9 (p0 : Val) (p1 : Val) (H : H_K9 p0 p1) : Q7 G (c_K9 p0 p1) (a_K9 p0 p1) := by
 unfold a_K9 s_K9
 cases h0 : (s_Kd ([p0, p1])) with
 | true =>
  cases h1 : (p0.kind == 5) with
  | true =>
   cases h2 : (p1.kind == 5) with
   | true =>
    cases h3 : ((s_Kf p0 p0).kind == 5) with
    | true =>
     cases h4 : (((List.length (s_Kf p0 p0).fields) : Int) == 0) with
     | true =>
      have hl5 := Q49 p0 p1 (H.2.2.2.1 h0 h1 h2 h3 h4) (s_Kf p0 p1).fields 0 (by simp)
      cases hr5 : (Q34 p0 p1 (s_Kf p0 p1).fields 0) with
      | k0 =>
       rw [hr5] at hl5
       obtain ⟨z5, zo5, hl5⟩ := hl5
       exact Q18o p0 p1 H h0 h1 h2 h3 h4 z5 zo5 hl5
      | k1 =>
       rw [hr5] at hl5
       obtain ⟨z5, zo5, hl5⟩ := hl5
       exact Q17n p0 p1 H h0 h1 h2 h3 h4 z5 zo5 hl5
     | false =>
      exact Q17e p0 p1 H h0 h1 h2 h3 h4
    | false =>
     exact Q191 p0 p1 H h0 h1 h2 h3
   | false =>
    exact Q18r p0 p1 H h0 h1 h2
  | false =>
   exact Q16e p0 p1 H h0 h1
 | false =>
  exact Q16b p0 p1 H h0
def tysPatchMinimal : List Ty := [.nm 25, .nm 25]
theorem purePatchMinimal (hp : ∀ (p0 : Val) (p1 : Val), Q31 p0 → Q31 p1 → H_K9 p0 p1 ∧ s_K9 p0 p1 = true) : ∀ qs, Args Γ tysPatchMinimal qs → ∃ n, runs G n (.call 8 qs []) = some (.ret (.bool true) []) := by
  intro qs h
  cases qs with
  | nil => cases h
  | cons q0 qs =>
  obtain ⟨h0, h⟩ := h
  cases qs with
  | nil => cases h
  | cons q1 qs =>
  obtain ⟨h1, h⟩ := h
  cases qs with
  | cons _ _ => cases h
  | nil =>
  obtain ⟨c0, rfl, g0⟩ := h0.agg rfl
  obtain ⟨p0, rfl, k0⟩ := (Qsq (Q148 25) g0)
  obtain ⟨c1, rfl, g1⟩ := h1.agg rfl
  obtain ⟨p1, rfl, k1⟩ := (Qsq (Q148 25) g1)
  have e := hp p0 p1 k0 k1
  have t := t_K9 p0 p1 e.1
  unfold a_K9 at t
  rw [e.2] at t
  exact t
end Go.Proofs.Ytnhhddbbppbblaa
end

section
/- PatchMinimal in plain words. -/
namespace Go.Proofs.Ytnhhddbbppbblaa
open Go.Pv
theorem Qk9 {a b : Val} (hb : DV b) (ka : a.kind = 5) (kb : b.kind = 5) : ∀ (l : List Fld) (i : Nat), (∀ f ∈ l, f ∈ (df a b).fields) → Q34 a b l i = .k0
  | [], i, _ => by rw [Q34]
  | x :: l, i, h => by
    obtain ⟨h1, h2⟩ := Q13u hb ka kb (h x List.mem_cons_self)
    have ih := Qk9 hb ka kb l (i + 1) fun f hf => h f (List.mem_cons_of_mem _ hf)
    have al : (atN a x.name).isSome = (atN b x.name).isSome → s_Ky ((atN a x.name).getD zV) ((atN b x.name).getD zV) = false := fun e => by
      cases c : s_Ky ((atN a x.name).getD zV) ((atN b x.name).getD zV) with
      | false => rfl
      | true => exact absurd ⟨e, (Q11v _ _).1 c⟩ h1
    have kz : (x.v.kind == 0) = true → (atN b x.name).isSome = true → (((atN b x.name).getD zV).kind == 0) = true := fun e f => by
      cases c : ((atN b x.name).getD zV).kind == 0 with
      | true => rfl
      | false => exact absurd ⟨by simpa using e, f, by simpa using c⟩ h2
    rw [Q34, Q175, Q15r, Q175, Q15r, ih]
    cases e2 : (atN b x.name).isSome with
    | true =>
      rw [cond_true]
      cases e1 : (atN a x.name).isSome with
      | true =>
        rw [show (true == true) = true from rfl, cond_true, al (e1.trans e2.symm), cond_false]
        cases e3 : x.v.kind == 0 with
        | true => rw [cond_true, kz e3 e2, cond_true]
        | false => rw [cond_false]
      | false =>
        rw [show (false == true) = false from rfl, cond_false]
        cases e3 : x.v.kind == 0 with
        | true => rw [cond_true, kz e3 e2, cond_true]
        | false => rw [cond_false]
    | false =>
      rw [cond_false]
      cases e1 : (atN a x.name).isSome with
      | true => rw [show (true == false) = false from rfl, cond_false]; cases x.v.kind == 0 <;> rfl
      | false => rw [show (false == false) = true from rfl, cond_true, al (e1.trans e2.symm), cond_false]; cases x.v.kind == 0 <;> rfl
theorem minimal_holds (a b : Val) (ha : Q31 a) (hb : Q31 b) : H_K9 a b ∧ s_K9 a b = true := by
  have S : s_Kd [a, b] = true → (tot a ≤ 3000 ∧ DV a) ∧ (tot b ≤ 3000 ∧ DV b) := fun h => ⟨Qu5 (two ha hb) h a in2a, Qu5 (two ha hb) h b in2b⟩
  refine ⟨⟨Q17x (two ha hb) (by simp), fun h _ _ => ?_, fun h _ _ _ _ => ?_, fun h _ _ _ _ => ?_, trivial⟩, ?_⟩
  · have := S h
    have := Q115 this.1.1 this.1.1
    unfold H_Kf
    omega
  · have := S h
    have := Q115 this.1.1 this.2.1
    unfold H_Kf
    omega
  · have := S h
    have g := Q115 this.1.1 this.2.1
    have t := Q14t b a
    have l := Qrd (df a b)
    have A : ∀ n, H_Ky (s_Kl a n).1 := fun n => by rw [Q15r]; exact alH (by have := Qo0 a n; omega)
    rw [Q32, Q6y]
    exact ⟨by omega, fun x _ => Q180 (by omega) _, fun x _ => Q180 (by omega) _, fun x _ _ => A _, fun x _ _ _ => A _, fun x _ _ _ => A _, trivial⟩
  · unfold s_K9
    cases h : s_Kd [a, b] with
    | false => rfl
    | true =>
      obtain ⟨⟨_, x⟩, ⟨_, y⟩⟩ := S h
      rw [cond_true]
      cases ka : a.kind == 5 with
      | false => rfl
      | true =>
        cases kb : b.kind == 5 with
        | false => rfl
        | true =>
          have ka' : a.kind = 5 := by simpa using ka
          have kb' : b.kind = 5 := by simpa using kb
          rw [cond_true, cond_true, Q6y, Q6y, Q15p x ka', Qk9 y ka' kb' _ 0 fun _ g => g, mp0]
          rfl
end Go.Proofs.Ytnhhddbbppbblaa
end

section
/- The library's comparison of two strings, walked: it answers as the evaluator's cmpL. -/
namespace Go.Proofs.Ytnhhddbbppbblaa
open Go.Pv
theorem cmpL_eq : ∀ (a b : List UInt8), cmpL a b = Lib.compareBytes a b
  | [], [] => rfl
  | [], _ :: _ => rfl
  | _ :: _, [] => rfl
  | a :: x, b :: y => by
    rw [Lib.compareBytes, ← cmpL_eq x y]
    rfl
set_option maxHeartbeats 1000000 in
set_option maxRecDepth 100000 in
theorem comparing (a b : ByteArray) (w : World) :
    Calls Try.prog 54 #[.string a, .string b] w fun e w' => e = .returned (.int .i64 (Lib.compareBytes a.data.toList b.data.toList)) ∧ w' = w := by
  go_enter Try.func54, Try.ntmps54
  go_wp2
  rw [run_callFunc_extern Try.func68 (by kernel_rfl) (by kernel_rfl) (by kernel_rfl) (e := Extern.BytealgCompare.compare) (by kernel_rfl), Lib.run_compareString]
  simp only [Result.andThen]
  rw [Oper.upon_value]
  go_wp2
  go_ret
  exact ⟨rfl, rfl⟩
theorem cmpOK : Q132 Try.prog 54 := by
  refine ⟨⟨_, Try.func54, by kernel_rfl, by kernel_rfl⟩, fun x y w => ?_⟩
  have h := comparing x y w
  rw [← cmpL_eq, ← toList_data, ← toList_data] at h
  exact h
end Go.Proofs.Ytnhhddbbppbblaa
end

