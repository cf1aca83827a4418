/- Texts of the claim, merged by a program; what the statement does not reach is left out. -/
import Derived.Test.YtiflaadeikaghaaGreatBPodcodecDecodes7

section
/- What the reference's decoders compute (printed by a program). -/
namespace Go.Proofs.YtiflaadeikaghaaGreat
open Go.Pv
inductive Q128 where
  | k0
  | k1 (q0 : Val)
def Q4t (p0 : Val) (p1 : BA) : List Fld → Nat → Q128
 | [], _i0 =>
  (.k0)
 | x0 :: r0, i0 =>
  bif (p0.kind == 5) then
   bif (sEq x0.name p1) then
    (.k1 x0.v)
   else
    Q4t p0 p1 r0 (i0 + 1)
  else
   Q4t p0 p1 r0 (i0 + 1)
def Qm0 (_p0 : Val) (p1 : BA) (i0 : Nat) : List PV :=
  [.un, .str p1, .bx 0 0, .un, .bx 1 0, .int .i64 (i0 : Int)] ++ nuns 27
def Qkb (p0 : Val) (_p1 : BA) (_i0 : Nat) : List Ob :=
  [⟨5, 0, true, [.int .i64 p0.kind, .int .i64 p0.n, .str p0.s, .sl (Val.rows p0.list), .sl (Fld.rows p0.fields)]⟩, ⟨5, 0, true, [.int .i64 0, .int .i64 0, .str eB, .ms 2 5 0 0, .ms 3 6 0 0]⟩, ⟨5, 0, true, []⟩, ⟨6, 0, true, []⟩]
def Q8n (p0 : Val) (p1 : BA) (i0 : Nat) : En := .loop 0 Ir.Qkc Ir.Q1f8 (Qm0 p0 p1 i0) (Qkb p0 p1 i0)
def Qqd (p0 : Val) (_p1 : BA) (z : Nat → PV) (_zo : Nat → List PV) : St :=
  ⟨[z 0, z 1, z 2, z 3, .bx 1 0] ++ zr z 5 28, [(0, ⟨5, 0, true, [.int .i64 p0.kind, .int .i64 p0.n, .str p0.s, .sl (Val.rows p0.list), .sl (Fld.rows p0.fields)]⟩), (1, ⟨5, 0, true, [.int .i64 0, .int .i64 0, .str eB, .ms 2 5 0 0, .ms 3 6 0 0]⟩), (2, ⟨5, 0, true, []⟩), (3, ⟨6, 0, true, []⟩)], 324⟩
def Qph (_p0 : Val) (_p1 : BA) (q0 : Val) (z : Nat → PV) (zo : Nat → List PV) : St :=
  ⟨[z 0, z 1, z 2, z 3, .bx 1 0] ++ zr z 5 28, [(0, ⟨5, 0, true, zo 0⟩), (1, ⟨5, 0, true, [.int .i64 q0.kind, .int .i64 q0.n, .str q0.s, .sl (Val.rows q0.list), .sl (Fld.rows q0.fields)]⟩), (2, ⟨5, 0, true, zo 2⟩), (3, ⟨6, 0, true, zo 3⟩)], 1604⟩
def Qd0 (p0 : Val) (p1 : BA) (e : En) : Q128 → Prop
  | .k0 => ∃ z zo, Qi G e (.st (.exit 0) (Qqd p0 p1 z zo))
  | .k1 q0 => ∃ z zo, Qi G e (.st .ret (Qph p0 p1 q0 z zo))
theorem Qck (p0 : Val) (p1 : BA) {e e' : En} (h : ∀ r, Qi G e r → Qi G e' r) : ∀ q, Qd0 p0 p1 e q → Qd0 p0 p1 e' q
  | .k0, ⟨z, zo, hz⟩ => ⟨z, zo, h _ hz⟩
  | .k1 _, ⟨z, zo, hz⟩ => ⟨z, zo, h _ hz⟩
def Qa4 (p0 : Val) (_p1 : BA) : Prop := (List.length p0.fields ≤ 4611686018427387904) ∧ True
def Qrq (p0 : Val) (p1 : BA) (i0 : Nat) : List PV :=
  [.un, .str p1, .bx 0 0, .un, .un, .int .i64 (i0 : Int), .int .i64 (i0 : Int), .bx 0 4, .sl (Fld.rows p0.fields), .int .i64 ((List.length p0.fields) : Int), .bool false]
def Qld (_p0 : Val) (_p1 : BA) (_i0 : Nat) : List (Nat × List PV) :=
  []
theorem Q184 (p0 : Val) (p1 : BA) (_H : Qa4 p0 p1) (i0 : Nat) (hc0 : (decide ((i0 : Int) < ((List.length p0.fields) : Int))) = false) : Qd0 p0 p1 (Q8n p0 p1 i0) (.k0) := by
 exact ⟨(envF (Qrq p0 p1 i0)), (zoF (Qld p0 p1 i0)), Q10 VOK.nil (x := ((.exit 0), Qqd p0 p1 (envF (Qrq p0 p1 i0)) (zoF (Qld p0 p1 i0)))) [hP 3 (Qz (Fld.rows p0.fields) (List.length p0.fields) (Fld.Q9 p0.fields)), hB 0 hc0] [] (by kernel_rfl)⟩
def Qqj (p0 : Val) (p1 : BA) (i0 : Nat) (x0 : Fld) : List PV :=
  [.un, .str p1, .bx 0 0, .un, .un, .int .i64 (i0 : Int), .int .i64 (i0 : Int), .bx 0 4, .sl (Fld.rows p0.fields), .int .i64 ((List.length p0.fields) : Int), .bool true, .un, .un, .bx 0 0, .int .i64 p0.kind, .bool true, .bool true, .bx 0 4, .sl (Fld.rows p0.fields), .int .i64 (i0 : Int), .rf [.str x0.name, .int .i64 x0.v.kind, .int .i64 x0.v.n, .str x0.v.s, .sl (Val.rows x0.v.list), .sl (Fld.rows x0.v.fields)], .rf [.str x0.name, .int .i64 x0.v.kind, .int .i64 x0.v.n, .str x0.v.s, .sl (Val.rows x0.v.list), .sl (Fld.rows x0.v.fields)], .str x0.name, .str p1, .bool true, .bool true, .bx 0 4, .sl (Fld.rows p0.fields), .int .i64 (i0 : Int), .rf [.str x0.name, .int .i64 x0.v.kind, .int .i64 x0.v.n, .str x0.v.s, .sl (Val.rows x0.v.list), .sl (Fld.rows x0.v.fields)], .rf [.int .i64 x0.v.kind, .int .i64 x0.v.n, .str x0.v.s, .sl (Val.rows x0.v.list), .sl (Fld.rows x0.v.fields)], .agg [.int .i64 x0.v.kind, .int .i64 x0.v.n, .str x0.v.s, .sl (Val.rows x0.v.list), .sl (Fld.rows x0.v.fields)]]
def Qko (p0 : Val) (_p1 : BA) (_i0 : Nat) (_x0 : Fld) : List (Nat × List PV) :=
  [(0, [.int .i64 p0.kind, .int .i64 p0.n, .str p0.s, .sl (Val.rows p0.list), .sl (Fld.rows p0.fields)]), (2, []), (3, [])]
theorem Q15v (p0 : Val) (p1 : BA) (_H : Qa4 p0 p1) (x0 : Fld) (i0 : Nat) (hx0 : p0.fields[i0]? = some x0) (_hi0 : i0 < List.length p0.fields) (hc0 : (decide ((i0 : Int) < ((List.length p0.fields) : Int))) = true) (h0 : (p0.kind == 5) = true) (h1 : (sEq x0.name p1) = true) : Qd0 p0 p1 (Q8n p0 p1 i0) (.k1 x0.v) := by
 exact ⟨(envF (Qqj p0 p1 i0 x0)), (zoF (Qko p0 p1 i0 x0)), Q10 VOK.nil (x := (.ret, Qph p0 p1 x0.v (envF (Qqj p0 p1 i0 x0)) (zoF (Qko p0 p1 i0 x0)))) [hP 3 (Qz (Fld.rows p0.fields) (List.length p0.fields) (Fld.Q9 p0.fields)), hB 0 hc0, hB 2 h0, hP 4 (Q15 6 (Fld.rows p0.fields) i0 _ (Fld.Qe hx0) rfl), hB 3 h1, hP 4 (Q15 6 (Fld.rows p0.fields) i0 _ (Fld.Qe hx0) rfl)] [] (by kernel_rfl)⟩
theorem Q16x (p0 : Val) (p1 : BA) (H : Qa4 p0 p1) (x0 : Fld) (i0 : Nat) (hx0 : p0.fields[i0]? = some x0) (hi0 : i0 < List.length p0.fields) (hc0 : (decide ((i0 : Int) < ((List.length p0.fields) : Int))) = true) (h0 : (p0.kind == 5) = true) (h1 : (sEq x0.name p1) = false) {r : Rs} (hr : Qi G (Q8n p0 p1 (i0 + 1)) r) : Qi G (Q8n p0 p1 i0) r := by
 have hB0 := H.1; have e0 := eq_of_beq h0
 exact Qw VOK.nil (y := (Qm0 p0 p1 (i0 + 1), Qkb p0 p1 (i0 + 1))) [hP 3 (Qz (Fld.rows p0.fields) (List.length p0.fields) (Fld.Q9 p0.fields)), hB 0 hc0, hB 2 h0, hP 4 (Q15 6 (Fld.rows p0.fields) i0 _ (Fld.Qe hx0) rfl), hB 3 h1, hP 2 (Q25 i0 (by omega))] [] (by kernel_rfl) hr
theorem Q18t (p0 : Val) (p1 : BA) (H : Qa4 p0 p1) (x0 : Fld) (i0 : Nat) (_hx0 : p0.fields[i0]? = some x0) (hi0 : i0 < List.length p0.fields) (hc0 : (decide ((i0 : Int) < ((List.length p0.fields) : Int))) = true) (h0 : (p0.kind == 5) = false) {r : Rs} (hr : Qi G (Q8n p0 p1 (i0 + 1)) r) : Qi G (Q8n p0 p1 i0) r := by
 have hB0 := H.1; have e0 := beq_eq_false_iff_ne.1 h0
 exact Qw VOK.nil (y := (Qm0 p0 p1 (i0 + 1), Qkb p0 p1 (i0 + 1))) [hP 3 (Qz (Fld.rows p0.fields) (List.length p0.fields) (Fld.Q9 p0.fields)), hB 0 hc0, hB 2 h0, hP 11 (Q25 i0 (by omega))] [] (by kernel_rfl) hr
theorem Qlu (p0 : Val) (p1 : BA) (H : Qa4 p0 p1) : ∀ (r0 : List Fld) (i0 : Nat), List.drop i0 p0.fields = r0 → Qd0 p0 p1 (Q8n p0 p1 i0) (Q4t p0 p1 r0 i0)
 | [], i0, hd => by
  have hc0 : (decide ((i0 : Int) < ((List.length p0.fields) : Int))) = false := by have := Q1v hd; simp; omega
  rw [Q4t]
  exact Q184 p0 p1 H i0 hc0
 | x0 :: r0, i0, hd => by
  obtain ⟨hx0, hi0, hd'⟩ := Q1s hd
  have hc0 : (decide ((i0 : Int) < ((List.length p0.fields) : Int))) = true := by simp; omega
  rw [Q4t]
  cases h0 : (p0.kind == 5) with
  | true =>
   cases h1 : (sEq x0.name p1) with
   | true =>
    exact Q15v p0 p1 H x0 i0 hx0 hi0 hc0 h0 h1
   | false =>
    exact Qck p0 p1 (fun r hr => Q16x p0 p1 H x0 i0 hx0 hi0 hc0 h0 h1 hr) _ (Qlu p0 p1 H r0 (i0 + 1) hd')
  | false =>
   exact Qck p0 p1 (fun r hr => Q18t p0 p1 H x0 i0 hx0 hi0 hc0 h0 hr) _ (Qlu p0 p1 H r0 (i0 + 1) hd')
def Q33 (p0 : Val) (p1 : BA) : Val := prt p0 p1
theorem Q1ej (p0 : Val) (p1 : BA) (h : (p0.kind == 5) = true) : ∀ (l : List Fld) (i : Nat), (match Q4t p0 p1 l i with | .k0 => vZ | .k1 y => y) = Qv5 p1 l
  | [], _ => by rw [Q4t]; rfl
  | x :: l, i => by
    rw [Q4t, h, cond_true, Qv5]
    cases sEq x.name p1 with
    | true => rfl
    | false => exact Q1ej p0 p1 h l (i + 1)
theorem Q19d (p0 : Val) (p1 : BA) (h : (p0.kind == 5) = false) : ∀ (l : List Fld) (i : Nat), (match Q4t p0 p1 l i with | .k0 => vZ | .k1 y => y) = vZ
  | [], _ => by rw [Q4t]
  | x :: l, i => by
    rw [Q4t, h, cond_false]
    exact Q19d p0 p1 h l (i + 1)
theorem Q1ri (p0 : Val) (p1 : BA) : Q33 p0 p1 = ((match (Q4t p0 p1 p0.fields 0) with
  | .k0 => (Val.mk 0 0 eB [] [])
  | .k1 y0_0 => y0_0)) := by
  unfold Q33 prt
  cases h : (p0.kind == 5) with
  | true => exact (Q1ej p0 p1 h _ _).symm
  | false => exact (Q19d p0 p1 h _ _).symm
def Q1qr (p0 : Val) (p1 : BA) : En := .call 55 [.agg (Val.cells p0), .str p1] []
def Q1jv (p0 : Val) (p1 : BA) : Rs := .ret (.agg (Val.cells (Q33 p0 p1))) []
def Qx4 (p0 : Val) : Prop := Val.Sm 1000000000 p0
theorem Q1dc (p0 : Val) (p1 : BA) (H : Qx4 p0) : (Qa4 p0 p1) ∧ True := by
  exact ⟨⟨Nat.le_trans H.all.2.1 (Nat.le_of_ble_eq_true rfl), trivial⟩, trivial⟩
theorem Qd7 (p0 : Val) (p1 : BA) (H : Qx4 p0) : Qi G (Q1qr p0 p1) (Q1jv p0 p1) := by
 unfold Q1jv
 rw [Q1ri]
 have hl0 := Qlu p0 p1 ((Q1dc p0 p1 H).1) p0.fields 0 (by simp)
 cases hr0 : (Q4t p0 p1 p0.fields 0) with
 | k0 =>
  rw [hr0] at hl0
  obtain ⟨z0, zo0, hl0⟩ := hl0
  exact Qm (fn := Ir.K2i) rfl VOK.nil [] [aN hl0] (by kernel_rfl)
 | k1 y0_0 =>
  rw [hr0] at hl0
  obtain ⟨z0, zo0, hl0⟩ := hl0
  exact Qm (fn := Ir.K2i) rfl VOK.nil [] [aN hl0] (by kernel_rfl)
def Q1u (p0 : Val) : Bool := isM p0
theorem Q1sv (p0 : Val) : Q1u p0 = (bif (p0.kind == 5) then
    true
  else
    (p0.kind == 0)) := by
  unfold Q1u isM
  cases (p0.kind == 5) <;> rfl
def Q1rm (p0 : Val) : En := .call 50 [.agg (Val.cells p0)] []
def Q1iu (p0 : Val) : Rs := .ret (.bool (Q1u p0)) []
theorem Q4g (p0 : Val) : Qi G (Q1rm p0) (Q1iu p0) := by
 unfold Q1iu
 rw [Q1sv]
 cases h0 : (p0.kind == 5) with
 | true =>
  exact Qm (fn := Ir.K2h) rfl VOK.nil [hB 4 h0] [] (by kernel_rfl)
 | false =>
  exact Qm (fn := Ir.K2h) rfl VOK.nil [hB 4 h0] [] (by kernel_rfl)
def Q5 (p0 : Val) (p1 : BA) : Int × Bool := dN p0 p1
theorem Q1os (p0 : Val) (p1 : BA) : Q5 p0 p1 = (bif ((Q33 p0 p1).kind == 2) then
    ((Q33 p0 p1).n, true)
  else
    (0, ((Q33 p0 p1).kind == 0))) := by
  rfl
def Q1ou (p0 : Val) (p1 : BA) : En := .call 47 [.agg (Val.cells p0), .str p1] []
def Q1ic (p0 : Val) (p1 : BA) : Rs := .ret (.tup [.int .i64 (Q5 p0 p1).1, .bool (Q5 p0 p1).2]) []
def Qai (p0 : Val) : Prop := Val.Sm 1000000000 p0
theorem Q146 (p0 : Val) (_p1 : BA) (H : Qai p0) : (Qx4 p0) ∧ True := by
  exact ⟨H, trivial⟩
theorem Q2m (p0 : Val) (p1 : BA) (H : Qai p0) : Qi G (Q1ou p0 p1) (Q1ic p0 p1) := by
 unfold Q1ic
 rw [Q1os]
 cases h0 : ((Q33 p0 p1).kind == 2) with
 | true =>
  exact Qm (fn := Ir.K2g) rfl VOK.nil [hB 10 h0] [aN (Qd7 p0 p1 (Q146 p0 p1 H).1)] (by kernel_rfl)
 | false =>
  exact Qm (fn := Ir.K2g) rfl VOK.nil [hB 10 h0] [aN (Qd7 p0 p1 (Q146 p0 p1 H).1)] (by kernel_rfl)
def Qj (p0 : Val) (p1 : BA) : ByteArray × Bool := dS p0 p1
theorem Q1ma (p0 : Val) (p1 : BA) : Qj p0 p1 = (bif ((Q33 p0 p1).kind == 3) then
    ((Q33 p0 p1).s, true)
  else
    (eB, ((Q33 p0 p1).kind == 0))) := by
  rfl
def Q1n8 (p0 : Val) (p1 : BA) : En := .call 54 [.agg (Val.cells p0), .str p1] []
def Q1ln (p0 : Val) (p1 : BA) : Rs := .ret (.tup [.str (Qj p0 p1).1, .bool (Qj p0 p1).2]) []
def Qdv (p0 : Val) : Prop := Val.Sm 1000000000 p0
theorem Q13y (p0 : Val) (_p1 : BA) (H : Qdv p0) : (Qx4 p0) ∧ True := by
  exact ⟨H, trivial⟩
theorem Q3f (p0 : Val) (p1 : BA) (H : Qdv p0) : Qi G (Q1n8 p0 p1) (Q1ln p0 p1) := by
 unfold Q1ln
 rw [Q1ma]
 cases h0 : ((Q33 p0 p1).kind == 3) with
 | true =>
  exact Qm (fn := Ir.K2p) rfl VOK.nil [hB 10 h0] [aN (Qd7 p0 p1 (Q13y p0 p1 H).1)] (by kernel_rfl)
 | false =>
  exact Qm (fn := Ir.K2p) rfl VOK.nil [hB 10 h0] [aN (Qd7 p0 p1 (Q13y p0 p1 H).1)] (by kernel_rfl)
def Qn (p0 : Val) (p1 : BA) : Bool × Bool := dB p0 p1
theorem Q1nf (p0 : Val) (p1 : BA) : Qn p0 p1 = (bif ((Q33 p0 p1).kind == 1) then
    ((!((Q33 p0 p1).n == 0)), true)
  else
    (false, ((Q33 p0 p1).kind == 0))) := by
  rfl
def Q1p0 (p0 : Val) (p1 : BA) : En := .call 46 [.agg (Val.cells p0), .str p1] []
def Q1i3 (p0 : Val) (p1 : BA) : Rs := .ret (.tup [.bool (Qn p0 p1).1, .bool (Qn p0 p1).2]) []
def Qnc (p0 : Val) : Prop := Val.Sm 1000000000 p0
theorem Q11o (p0 : Val) (_p1 : BA) (H : Qnc p0) : (Qx4 p0) ∧ True := by
  exact ⟨H, trivial⟩
theorem Q3j (p0 : Val) (p1 : BA) (H : Qnc p0) : Qi G (Q1p0 p0 p1) (Q1i3 p0 p1) := by
 unfold Q1i3
 rw [Q1nf]
 cases h0 : ((Q33 p0 p1).kind == 1) with
 | true =>
  exact Qm (fn := Ir.K2v) rfl VOK.nil [hB 10 h0] [aN (Qd7 p0 p1 (Q11o p0 p1 H).1)] (by kernel_rfl)
 | false =>
  exact Qm (fn := Ir.K2v) rfl VOK.nil [hB 10 h0] [aN (Qd7 p0 p1 (Q11o p0 p1 H).1)] (by kernel_rfl)
def Qb (p0 : Val) (p1 : BA) : List Val × Bool := dL p0 p1
theorem Q1np (p0 : Val) (p1 : BA) : Qb p0 p1 = (bif ((Q33 p0 p1).kind == 4) then
    ((Q33 p0 p1).list, true)
  else
    ([], ((Q33 p0 p1).kind == 0))) := by
  rfl
def Q1td (p0 : Val) (p1 : BA) : En := .call 53 [.agg (Val.cells p0), .str p1] []
def Q1jn (p0 : Val) (p1 : BA) : Rs := .ret (.tup [.sl (Val.rows (Qb p0 p1).1), .bool (Qb p0 p1).2]) []
def Qbn (p0 : Val) : Prop := Val.Sm 1000000000 p0
theorem Q12o (p0 : Val) (_p1 : BA) (H : Qbn p0) : (Qx4 p0) ∧ True := by
  exact ⟨H, trivial⟩
theorem Qaj (p0 : Val) (p1 : BA) (H : Qbn p0) : Qi G (Q1td p0 p1) (Q1jn p0 p1) := by
 unfold Q1jn
 rw [Q1np]
 cases h0 : ((Q33 p0 p1).kind == 4) with
 | true =>
  exact Qm (fn := Ir.K29) rfl VOK.nil [hB 10 h0] [aN (Qd7 p0 p1 (Q12o p0 p1 H).1)] (by kernel_rfl)
 | false =>
  exact Qm (fn := Ir.K29) rfl VOK.nil [hB 10 h0] [aN (Qd7 p0 p1 (Q12o p0 p1 H).1)] (by kernel_rfl)
def Q2q (p0 : Val) (p1 : BA) : Resources × Bool := dT Resources.dec p0 p1
theorem Q1qc (p0 : Val) (p1 : BA) : Q2q p0 p1 = (((Resources.mk (Q5 (Q33 p0 p1) Q4d).1 (Q5 (Q33 p0 p1) Q39).1 (Q5 (Q33 p0 p1) Q4e).1), ((((Q1u (Q33 p0 p1)) && (Q5 (Q33 p0 p1) Q4d).2) && (Q5 (Q33 p0 p1) Q4e).2) && (Q5 (Q33 p0 p1) Q39).2))) := by
  rfl
def Q1s6 (p0 : Val) (p1 : BA) : En := .call 45 [.agg (Val.cells p0), .str p1] []
def Q1ia (p0 : Val) (p1 : BA) : Rs := .ret (.tup [.agg (Resources.cells (Q2q p0 p1).1), .bool (Q2q p0 p1).2]) []
def Q1c2 (p0 : Val) : Prop := Val.Sm 1000000000 p0
theorem Qfi (p0 : Val) (p1 : BA) (H : Q1c2 p0) : (Qx4 p0) ∧ (Qai (Q33 p0 p1)) ∧ True := by
  repeat' with_reducible apply And.intro
  all_goals first | exact True.intro | exact H | exact Q2h H _
theorem Q83 (p0 : Val) (p1 : BA) (H : Q1c2 p0) : Qi G (Q1s6 p0 p1) (Q1ia p0 p1) := by
 unfold Q1ia
 rw [Q1qc]
 exact Qm (fn := Ir.K3k) rfl VOK.nil [hP 36 (Q45 (Q1u (Q33 p0 p1)) (.bool (Q5 (Q33 p0 p1) Q4d).2)), hP 0 (Q43 (Q1u (Q33 p0 p1)) (Q5 (Q33 p0 p1) Q4d).2), hP 1 (Q45 ((Q1u (Q33 p0 p1)) && (Q5 (Q33 p0 p1) Q4d).2) (.bool (Q5 (Q33 p0 p1) Q4e).2)), hP 0 (Q43 ((Q1u (Q33 p0 p1)) && (Q5 (Q33 p0 p1) Q4d).2) (Q5 (Q33 p0 p1) Q4e).2), hP 1 (Q45 (((Q1u (Q33 p0 p1)) && (Q5 (Q33 p0 p1) Q4d).2) && (Q5 (Q33 p0 p1) Q4e).2) (.bool (Q5 (Q33 p0 p1) Q39).2)), hP 0 (Q43 (((Q1u (Q33 p0 p1)) && (Q5 (Q33 p0 p1) Q4d).2) && (Q5 (Q33 p0 p1) Q4e).2) (Q5 (Q33 p0 p1) Q39).2)] [aN (Qd7 p0 p1 (Qfi p0 p1 H).1), aN (Q2m (Q33 p0 p1) Q4d (Qfi p0 p1 H).2.1), aN (Q2m (Q33 p0 p1) Q4e (Qfi p0 p1 H).2.1), aN (Q2m (Q33 p0 p1) Q39 (Qfi p0 p1 H).2.1), aN (Q4g (Q33 p0 p1))] (by kernel_rfl)
def Q7f (p0 : Val) : Probe × Bool := Probe.dec p0
theorem Q1p8 (p0 : Val) : Q7f p0 = (((Probe.mk (Q5 p0 Q2i).1 (Q5 p0 Q2g).1 (Q5 p0 Q2e).1 (Q5 p0 Q2c).1), (((((Q1u p0) && (Q5 p0 Q2i).2) && (Q5 p0 Q2c).2) && (Q5 p0 Q2g).2) && (Q5 p0 Q2e).2))) := by
  rfl
def Q1t2 (p0 : Val) : En := .call 158 [.agg (Val.cells p0)] []
def Q1i7 (p0 : Val) : Rs := .ret (.tup [.agg (Probe.cells (Q7f p0).1), .bool (Q7f p0).2]) []
def Q1gf (p0 : Val) : Prop := Val.Sm 1000000000 p0
theorem Qgg (p0 : Val) (H : Q1gf p0) : (Qai p0) ∧ True := by
  repeat' with_reducible apply And.intro
  all_goals first | exact True.intro | exact H | exact Q2h H _
theorem Q1mp (p0 : Val) (H : Q1gf p0) : Qi G (Q1t2 p0) (Q1i7 p0) := by
 unfold Q1i7
 rw [Q1p8]
 exact Qm (fn := Ir.K3i) rfl VOK.nil [hP 39 (Q45 (Q1u p0) (.bool (Q5 p0 Q2i).2)), hP 0 (Q43 (Q1u p0) (Q5 p0 Q2i).2), hP 1 (Q45 ((Q1u p0) && (Q5 p0 Q2i).2) (.bool (Q5 p0 Q2c).2)), hP 0 (Q43 ((Q1u p0) && (Q5 p0 Q2i).2) (Q5 p0 Q2c).2), hP 1 (Q45 (((Q1u p0) && (Q5 p0 Q2i).2) && (Q5 p0 Q2c).2) (.bool (Q5 p0 Q2g).2)), hP 0 (Q43 (((Q1u p0) && (Q5 p0 Q2i).2) && (Q5 p0 Q2c).2) (Q5 p0 Q2g).2), hP 1 (Q45 ((((Q1u p0) && (Q5 p0 Q2i).2) && (Q5 p0 Q2c).2) && (Q5 p0 Q2g).2) (.bool (Q5 p0 Q2e).2)), hP 0 (Q43 ((((Q1u p0) && (Q5 p0 Q2i).2) && (Q5 p0 Q2c).2) && (Q5 p0 Q2g).2) (Q5 p0 Q2e).2)] [aN (Q2m p0 Q2i (Qgg p0 H).1), aN (Q2m p0 Q2c (Qgg p0 H).1), aN (Q2m p0 Q2g (Qgg p0 H).1), aN (Q2m p0 Q2e (Qgg p0 H).1), aN (Q4g p0)] (by kernel_rfl)
def Q5l (p0 : Val) (p1 : BA) : List Val → Nat → (List Probe) → Bool → (List Probe) × Bool
 | [], _i0, v0_1, v0_2 =>
  (v0_1, v0_2)
 | x0 :: r0, i0, v0_1, v0_2 =>
  Q5l p0 p1 r0 (i0 + 1) (v0_1 ++ [(Q7f x0).1]) (v0_2 && (Q7f x0).2)
def Qyg (p0 : Val) (p1 : BA) (i0 : Nat) (v0_1 : List Probe) (v0_2 : Bool) : List PV :=
  nuns 6 ++ [.sl (Val.rows (Qb p0 p1).1), .bool v0_2, .ms 0 4 0 (List.length v0_1), .int .i64 (i0 : Int)] ++ nuns 32
def Qiy (_p0 : Val) (_p1 : BA) (_i0 : Nat) (v0_1 : List Probe) (_v0_2 : Bool) : List Ob :=
  [⟨4, 0, true, (Probe.rows v0_1).flatten⟩]
def Qew (p0 : Val) (p1 : BA) (i0 : Nat) (v0_1 : List Probe) (v0_2 : Bool) : En := .loop 0 Ir.Qlm Ir.Q1ed (Qyg p0 p1 i0 v0_1 v0_2) (Qiy p0 p1 i0 v0_1 v0_2)
def Qrr (_p0 : Val) (_p1 : BA) (q0 : List Probe) (q1 : Bool) (z : Nat → PV) (_zo : Nat → List PV) : St :=
  ⟨zr z 0 7 ++ [.bool q1, .ms 0 4 0 (List.length q0)] ++ zr z 9 33, [(0, ⟨4, 0, true, (Probe.rows q0).flatten⟩)], 257⟩
theorem Q13o (p0 : Val) (p1 : BA) (i0 : Nat) (v0_1 : List Probe) (v0_2 : Bool) : VOK (Go.Pv.look (number 0 (Qiy p0 p1 i0 v0_1 v0_2))) [(0, Probe.rows v0_1)] := (VOK.cons (show Seen _ _ from Q42 (ob := ⟨4, 0, true, (Probe.rows v0_1).flatten⟩) (Probe.Qp v0_1 4 rfl)) VOK.nil)
def Qgb (p0 : Val) (p1 : BA) (e : En) (q : (List Probe) × Bool) : Prop := ∃ z zo, Qi G e (.st (.exit 0) (Qrr p0 p1 q.1 q.2 z zo))
theorem Qse (p0 : Val) (p1 : BA) {e e' : En} (h : ∀ r, Qi G e r → Qi G e' r) : ∀ q, Qgb p0 p1 e q → Qgb p0 p1 e' q
  | _, ⟨z, zo, hz⟩ => ⟨z, zo, h _ hz⟩
def Qbe (p0 : Val) (p1 : BA) : Prop := (List.length (Qb p0 p1).1 ≤ 137438953472) ∧ (∀ x0 ∈ (Qb p0 p1).1, Q1gf x0) ∧ True
def Qpf (p0 : Val) (p1 : BA) (i0 : Nat) (_v0_1 : List Probe) (_v0_2 : Bool) : List PV :=
  nuns 6 ++ [.sl (Val.rows (Qb p0 p1).1), .un, .un, .int .i64 (i0 : Int)] ++ nuns 8 ++ [.int .i64 (i0 : Int), .sl (Val.rows (Qb p0 p1).1), .int .i64 ((List.length (Qb p0 p1).1) : Int), .bool false]
def Qhr (_p0 : Val) (_p1 : BA) (_i0 : Nat) (_v0_1 : List Probe) (_v0_2 : Bool) : List (Nat × List PV) :=
  []
theorem Q14f (p0 : Val) (p1 : BA) (_H : Qbe p0 p1) (i0 : Nat) (v0_1 : List Probe) (v0_2 : Bool) (_ho0_0 : List.length v0_1 ≤ i0) (hc0 : (decide ((i0 : Int) < ((List.length (Qb p0 p1).1) : Int))) = false) : Qgb p0 p1 (Qew p0 p1 i0 v0_1 v0_2) (v0_1, v0_2) := by
 exact ⟨(envF (Qpf p0 p1 i0 v0_1 v0_2)), (zoF (Qhr p0 p1 i0 v0_1 v0_2)), Q10 (Q13o p0 p1 i0 v0_1 v0_2) (x := ((.exit 0), Qrr p0 p1 v0_1 v0_2 (envF (Qpf p0 p1 i0 v0_1 v0_2)) (zoF (Qhr p0 p1 i0 v0_1 v0_2)))) [hP 2 (Qz (Val.rows (Qb p0 p1).1) (List.length (Qb p0 p1).1) (Val.Q9 (Qb p0 p1).1)), hB 0 hc0] [] (by kernel_rfl)⟩
theorem Q186 (p0 : Val) (p1 : BA) (H : Qbe p0 p1) (x0 : Val) (i0 : Nat) (v0_1 : List Probe) (v0_2 : Bool) (hx0 : (Qb p0 p1).1[i0]? = some x0) (hi0 : i0 < List.length (Qb p0 p1).1) (ho0_0 : List.length v0_1 ≤ i0) (hc0 : (decide ((i0 : Int) < ((List.length (Qb p0 p1).1) : Int))) = true) {r : Rs} (hr : Qi G (Qew p0 p1 (i0 + 1) (v0_1 ++ [(Q7f x0).1]) (v0_2 && (Q7f x0).2)) r) : Qi G (Qew p0 p1 i0 v0_1 v0_2) r := by
 have hB0 := H.1
 exact Qw (Q13o p0 p1 i0 v0_1 v0_2) (y := (Qyg p0 p1 (i0 + 1) (v0_1 ++ [(Q7f x0).1]) (v0_2 && (Q7f x0).2), Qiy p0 p1 (i0 + 1) (v0_1 ++ [(Q7f x0).1]) (v0_2 && (Q7f x0).2))) [hP 2 (Qz (Val.rows (Qb p0 p1).1) (List.length (Qb p0 p1).1) (Val.Q9 (Qb p0 p1).1)), hB 0 hc0, hP 2 (Q15 5 (Val.rows (Qb p0 p1).1) i0 _ (Val.Qe hx0) rfl), hV 11 [(1153, Probe.rows (v0_1 ++ [(Q7f x0).1]))] (Q3g 0 1089 1153 4 32 0 0 true (Probe.rows v0_1) (Probe.rows (v0_1 ++ [(Q7f x0).1])) (Probe.cells (Q7f x0).1) (List.length v0_1) (List.length (v0_1 ++ [(Q7f x0).1])) rfl (Probe.Q9 v0_1).symm (Probe.Q9 (v0_1 ++ [(Q7f x0).1])).symm (Probe.Q1n v0_1 (Q7f x0).1) (Probe.Q16 v0_1) rfl (by omega)), hS 0 true (Probe.Qp (v0_1 ++ [(Q7f x0).1]) 4 rfl), hP 3 (Q45 v0_2 (.bool (Q7f x0).2)), hP 0 (Q43 v0_2 (Q7f x0).2), hP 2 (Q25 i0 (by omega))] [aN (Q1mp x0 (H.2.1 x0 (Q13 hx0)))] (by kernel_rfl) hr
theorem Qv0 (p0 : Val) (p1 : BA) (H : Qbe p0 p1) : ∀ (r0 : List Val) (i0 : Nat) (v0_1 : List Probe) (v0_2 : Bool), List.drop i0 (Qb p0 p1).1 = r0 → List.length v0_1 ≤ i0 → Qgb p0 p1 (Qew p0 p1 i0 v0_1 v0_2) (Q5l p0 p1 r0 i0 v0_1 v0_2)
 | [], i0, v0_1, v0_2, hd, ho0_0 => by
  have hc0 : (decide ((i0 : Int) < ((List.length (Qb p0 p1).1) : Int))) = false := by have := Q1v hd; simp; omega
  rw [Q5l]
  exact Q14f p0 p1 H i0 v0_1 v0_2 ho0_0 hc0
 | x0 :: r0, i0, v0_1, v0_2, hd, ho0_0 => by
  obtain ⟨hx0, hi0, hd'⟩ := Q1s hd
  have hc0 : (decide ((i0 : Int) < ((List.length (Qb p0 p1).1) : Int))) = true := by simp; omega
  rw [Q5l]
  exact Qse p0 p1 (fun r hr => Q186 p0 p1 H x0 i0 v0_1 v0_2 hx0 hi0 ho0_0 hc0 hr) _ (Qv0 p0 p1 H r0 (i0 + 1) (v0_1 ++ [(Q7f x0).1]) (v0_2 && (Q7f x0).2) hd' (by first | omega | (simp; omega)))
def Q2k (p0 : Val) (p1 : BA) : List Probe × Bool := dE Probe.dec p0 p1
theorem Qu0 (p0 : Val) (p1 : BA) : ∀ (l : List Val) (i : Nat) (a : List Probe) (b : Bool), Q5l p0 p1 l i a b = (a ++ l.map (fun x => (Probe.dec x).1), b && l.all fun x => (Probe.dec x).2)
  | [], _, a, b => by rw [Q5l]; simp
  | x :: l, i, a, b => by
    rw [Q5l]
    cases b with
    | false => exact (Qu0 p0 p1 l (i + 1) (a ++ [(Probe.dec x).1]) false).trans (by simp only [List.append_assoc, List.singleton_append, List.map_cons, List.all_cons, Bool.false_and])
    | true => exact (Qu0 p0 p1 l (i + 1) (a ++ [(Probe.dec x).1]) (Probe.dec x).2).trans (by simp only [List.append_assoc, List.singleton_append, List.map_cons, List.all_cons, Bool.true_and])
theorem Q1qd (p0 : Val) (p1 : BA) : Q2k p0 p1 = (((Q5l p0 p1 (Qb p0 p1).1 0 [] (Qb p0 p1).2).1, (Q5l p0 p1 (Qb p0 p1).1 0 [] (Qb p0 p1).2).2)) := by
  rw [Qu0]
  rfl
def Q1pg (p0 : Val) (p1 : BA) : En := .call 154 [.agg (Val.cells p0), .str p1] []
def Q1j1 (p0 : Val) (p1 : BA) : Rs := .ret (.tup [.sl (Probe.rows (Q2k p0 p1).1), .bool (Q2k p0 p1).2]) []
def Q1gt (p0 : Val) : Prop := Val.Sm 1000000000 p0
theorem Q10p (p0 : Val) (p1 : BA) (H : Q1gt p0) : (Qbn p0) ∧ (Qbe p0 p1) ∧ True := by
  have hl := Q6h (Q2h H p1)
  have g : ∀ x ∈ (dL p0 p1).1, Val.Sm sB x := hl.2
  refine ⟨H, ?_, trivial⟩
  unfold Qbe
  refine ⟨Nat.le_trans hl.1 (Nat.le_of_ble_eq_true rfl), ?_⟩
  repeat' with_reducible apply And.intro
  all_goals first | exact True.intro | exact g
theorem Q6r (p0 : Val) (p1 : BA) (H : Q1gt p0) : Qi G (Q1pg p0 p1) (Q1j1 p0 p1) := by
 unfold Q1j1
 rw [Q1qd]
 have hl0 := Qv0 p0 p1 ((Q10p p0 p1 H).2.1) (Qb p0 p1).1 0 [] (Qb p0 p1).2 (by simp) (by simp)
 obtain ⟨z0, zo0, hl0⟩ := hl0
 exact Qm (fn := Ir.K3j) rfl VOK.nil [hS 0 true (Probe.Qp (Q5l p0 p1 (Qb p0 p1).1 0 [] (Qb p0 p1).2).1 4 rfl), hQ (Probe.Q9 (Q5l p0 p1 (Qb p0 p1).1 0 [] (Qb p0 p1).2).1).symm] [aN (Qaj p0 p1 (Q10p p0 p1 H).1), aV [(0, Probe.rows (Q5l p0 p1 (Qb p0 p1).1 0 [] (Qb p0 p1).2).1)] hl0] (by kernel_rfl)
def Q7a (p0 : Val) : Container × Bool := Container.dec p0
theorem Q1qs (p0 : Val) : Q7a p0 = (bif (Q1u p0) then
    bif (Qj p0 Q1m).2 then
      bif (Q2q p0 Q1r).2 then
        bif (Q2k p0 Q1z).2 then
          bif (Qj p0 Qf).2 then
            bif (Q2k p0 Qa).2 then
              bif (Q2q p0 Q19).2 then
                ((Container.mk (Qj p0 Qf).1 (Qj p0 Q1m).1 (Q2q p0 Q19).1 (Q2q p0 Q1r).1 (Q2k p0 Q1z).1 (Q2k p0 Qa).1 (Q2k p0 Q1g).1), (Q2k p0 Q1g).2)
              else
                ((Container.mk (Qj p0 Qf).1 (Qj p0 Q1m).1 (Q2q p0 Q19).1 (Q2q p0 Q1r).1 (Q2k p0 Q1z).1 (Q2k p0 Qa).1 (Q2k p0 Q1g).1), false)
            else
              ((Container.mk (Qj p0 Qf).1 (Qj p0 Q1m).1 (Q2q p0 Q19).1 (Q2q p0 Q1r).1 (Q2k p0 Q1z).1 (Q2k p0 Qa).1 (Q2k p0 Q1g).1), false)
          else
            ((Container.mk (Qj p0 Qf).1 (Qj p0 Q1m).1 (Q2q p0 Q19).1 (Q2q p0 Q1r).1 (Q2k p0 Q1z).1 (Q2k p0 Qa).1 (Q2k p0 Q1g).1), false)
        else
          ((Container.mk (Qj p0 Qf).1 (Qj p0 Q1m).1 (Q2q p0 Q19).1 (Q2q p0 Q1r).1 (Q2k p0 Q1z).1 (Q2k p0 Qa).1 (Q2k p0 Q1g).1), false)
      else
        ((Container.mk (Qj p0 Qf).1 (Qj p0 Q1m).1 (Q2q p0 Q19).1 (Q2q p0 Q1r).1 (Q2k p0 Q1z).1 (Q2k p0 Qa).1 (Q2k p0 Q1g).1), false)
    else
      ((Container.mk (Qj p0 Qf).1 (Qj p0 Q1m).1 (Q2q p0 Q19).1 (Q2q p0 Q1r).1 (Q2k p0 Q1z).1 (Q2k p0 Qa).1 (Q2k p0 Q1g).1), false)
  else
    ((Container.mk (Qj p0 Qf).1 (Qj p0 Q1m).1 (Q2q p0 Q19).1 (Q2q p0 Q1r).1 (Q2k p0 Q1z).1 (Q2k p0 Qa).1 (Q2k p0 Q1g).1), false)) := by
  simp only [Q19k]
  refine Prod.ext rfl ?_
  simp only [Q7a, Container.dec, Q1u, Qj, Q2q, Q2k, Bool.and_assoc]
def Q1bz (p0 : Val) : En := .call 143 [.agg (Val.cells p0)] []
def Q1le (p0 : Val) : Rs := .ret (.tup [.agg (Container.cells (Q7a p0).1), .bool (Q7a p0).2]) []
def Q158 (p0 : Val) : Prop := Val.Sm 1000000000 p0
theorem Q1x (p0 : Val) (H : Q158 p0) : (Qdv p0) ∧ (Q1c2 p0) ∧ (Q1gt p0) ∧ True := by
  repeat' with_reducible apply And.intro
  all_goals first | exact True.intro | exact H | exact Q2h H _
theorem Q1hd (p0 : Val) (H : Q158 p0) (h0 : (Q1u p0) = true) (h1 : (Qj p0 Q1m).2 = true) : Qi G (Q1bz p0) (.ret (.tup [.agg (Container.cells (bif (Q2q p0 Q1r).2 then
   bif (Q2k p0 Q1z).2 then
     bif (Qj p0 Qf).2 then
       bif (Q2k p0 Qa).2 then
        bif (Q2q p0 Q19).2 then
         ((Container.mk (Qj p0 Qf).1 (Qj p0 Q1m).1 (Q2q p0 Q19).1 (Q2q p0 Q1r).1 (Q2k p0 Q1z).1 (Q2k p0 Qa).1 (Q2k p0 Q1g).1), (Q2k p0 Q1g).2)
        else
         ((Container.mk (Qj p0 Qf).1 (Qj p0 Q1m).1 (Q2q p0 Q19).1 (Q2q p0 Q1r).1 (Q2k p0 Q1z).1 (Q2k p0 Qa).1 (Q2k p0 Q1g).1), false)
       else
        ((Container.mk (Qj p0 Qf).1 (Qj p0 Q1m).1 (Q2q p0 Q19).1 (Q2q p0 Q1r).1 (Q2k p0 Q1z).1 (Q2k p0 Qa).1 (Q2k p0 Q1g).1), false)
     else
       ((Container.mk (Qj p0 Qf).1 (Qj p0 Q1m).1 (Q2q p0 Q19).1 (Q2q p0 Q1r).1 (Q2k p0 Q1z).1 (Q2k p0 Qa).1 (Q2k p0 Q1g).1), false)
   else
     ((Container.mk (Qj p0 Qf).1 (Qj p0 Q1m).1 (Q2q p0 Q19).1 (Q2q p0 Q1r).1 (Q2k p0 Q1z).1 (Q2k p0 Qa).1 (Q2k p0 Q1g).1), false)
 else
   ((Container.mk (Qj p0 Qf).1 (Qj p0 Q1m).1 (Q2q p0 Q19).1 (Q2q p0 Q1r).1 (Q2k p0 Q1z).1 (Q2k p0 Qa).1 (Q2k p0 Q1g).1), false)).1), .bool (bif (Q2q p0 Q1r).2 then
   bif (Q2k p0 Q1z).2 then
     bif (Qj p0 Qf).2 then
       bif (Q2k p0 Qa).2 then
        bif (Q2q p0 Q19).2 then
         ((Container.mk (Qj p0 Qf).1 (Qj p0 Q1m).1 (Q2q p0 Q19).1 (Q2q p0 Q1r).1 (Q2k p0 Q1z).1 (Q2k p0 Qa).1 (Q2k p0 Q1g).1), (Q2k p0 Q1g).2)
        else
         ((Container.mk (Qj p0 Qf).1 (Qj p0 Q1m).1 (Q2q p0 Q19).1 (Q2q p0 Q1r).1 (Q2k p0 Q1z).1 (Q2k p0 Qa).1 (Q2k p0 Q1g).1), false)
       else
        ((Container.mk (Qj p0 Qf).1 (Qj p0 Q1m).1 (Q2q p0 Q19).1 (Q2q p0 Q1r).1 (Q2k p0 Q1z).1 (Q2k p0 Qa).1 (Q2k p0 Q1g).1), false)
     else
       ((Container.mk (Qj p0 Qf).1 (Qj p0 Q1m).1 (Q2q p0 Q19).1 (Q2q p0 Q1r).1 (Q2k p0 Q1z).1 (Q2k p0 Qa).1 (Q2k p0 Q1g).1), false)
   else
     ((Container.mk (Qj p0 Qf).1 (Qj p0 Q1m).1 (Q2q p0 Q19).1 (Q2q p0 Q1r).1 (Q2k p0 Q1z).1 (Q2k p0 Qa).1 (Q2k p0 Q1g).1), false)
 else
   ((Container.mk (Qj p0 Qf).1 (Qj p0 Q1m).1 (Q2q p0 Q19).1 (Q2q p0 Q1r).1 (Q2k p0 Q1z).1 (Q2k p0 Qa).1 (Q2k p0 Q1g).1), false)).2]) []) := by
 cases h2 : (Q2q p0 Q1r).2 with
 | true =>
  cases h3 : (Q2k p0 Q1z).2 with
  | true =>
   cases h4 : (Qj p0 Qf).2 with
   | true =>
    cases h5 : (Q2k p0 Qa).2 with
    | true =>
     cases h6 : (Q2q p0 Q19).2 with
     | true =>
      exact Qm (fn := Ir.K3d) rfl VOK.nil [hP 107 (decR (Qj p0 Q1m).2 true [448] h1), hP 3 (decR (Q2q p0 Q1r).2 true [448] h2), hP 3 (decR (Q2k p0 Q1z).2 true [448] h3), hP 3 (decR (Qj p0 Qf).2 true [448] h4), hP 3 (decR (Q2k p0 Qa).2 true [448] h5), hP 3 (decR (Q2q p0 Q19).2 true [448] h6)] [aN (Q3f p0 Q1m (Q1x p0 H).1), aN (Q83 p0 Q1r (Q1x p0 H).2.1), aN (Q6r p0 Q1z (Q1x p0 H).2.2.1), aN (Q3f p0 Qf (Q1x p0 H).1), aN (Q6r p0 Qa (Q1x p0 H).2.2.1), aN (Q83 p0 Q19 (Q1x p0 H).2.1), aN (Q6r p0 Q1g (Q1x p0 H).2.2.1), aB (Q4g p0) h0] (by kernel_rfl)
     | false =>
      exact Qm (fn := Ir.K3d) rfl VOK.nil [hP 107 (decR (Qj p0 Q1m).2 true [448] h1), hP 3 (decR (Q2q p0 Q1r).2 true [448] h2), hP 3 (decR (Q2k p0 Q1z).2 true [448] h3), hP 3 (decR (Qj p0 Qf).2 true [448] h4), hP 3 (decR (Q2k p0 Qa).2 true [448] h5), hP 3 (decR (Q2q p0 Q19).2 false [448] h6)] [aN (Q3f p0 Q1m (Q1x p0 H).1), aN (Q83 p0 Q1r (Q1x p0 H).2.1), aN (Q6r p0 Q1z (Q1x p0 H).2.2.1), aN (Q3f p0 Qf (Q1x p0 H).1), aN (Q6r p0 Qa (Q1x p0 H).2.2.1), aN (Q83 p0 Q19 (Q1x p0 H).2.1), aN (Q6r p0 Q1g (Q1x p0 H).2.2.1), aB (Q4g p0) h0] (by kernel_rfl)
    | false =>
     exact Qm (fn := Ir.K3d) rfl VOK.nil [hP 107 (decR (Qj p0 Q1m).2 true [448] h1), hP 3 (decR (Q2q p0 Q1r).2 true [448] h2), hP 3 (decR (Q2k p0 Q1z).2 true [448] h3), hP 3 (decR (Qj p0 Qf).2 true [448] h4), hP 3 (decR (Q2k p0 Qa).2 false [448] h5)] [aN (Q3f p0 Q1m (Q1x p0 H).1), aN (Q83 p0 Q1r (Q1x p0 H).2.1), aN (Q6r p0 Q1z (Q1x p0 H).2.2.1), aN (Q3f p0 Qf (Q1x p0 H).1), aN (Q6r p0 Qa (Q1x p0 H).2.2.1), aN (Q83 p0 Q19 (Q1x p0 H).2.1), aN (Q6r p0 Q1g (Q1x p0 H).2.2.1), aB (Q4g p0) h0] (by kernel_rfl)
   | false =>
    exact Qm (fn := Ir.K3d) rfl VOK.nil [hP 107 (decR (Qj p0 Q1m).2 true [448] h1), hP 3 (decR (Q2q p0 Q1r).2 true [448] h2), hP 3 (decR (Q2k p0 Q1z).2 true [448] h3), hP 3 (decR (Qj p0 Qf).2 false [448] h4)] [aN (Q3f p0 Q1m (Q1x p0 H).1), aN (Q83 p0 Q1r (Q1x p0 H).2.1), aN (Q6r p0 Q1z (Q1x p0 H).2.2.1), aN (Q3f p0 Qf (Q1x p0 H).1), aN (Q6r p0 Qa (Q1x p0 H).2.2.1), aN (Q83 p0 Q19 (Q1x p0 H).2.1), aN (Q6r p0 Q1g (Q1x p0 H).2.2.1), aB (Q4g p0) h0] (by kernel_rfl)
  | false =>
   exact Qm (fn := Ir.K3d) rfl VOK.nil [hP 107 (decR (Qj p0 Q1m).2 true [448] h1), hP 3 (decR (Q2q p0 Q1r).2 true [448] h2), hP 3 (decR (Q2k p0 Q1z).2 false [448] h3)] [aN (Q3f p0 Q1m (Q1x p0 H).1), aN (Q83 p0 Q1r (Q1x p0 H).2.1), aN (Q6r p0 Q1z (Q1x p0 H).2.2.1), aN (Q3f p0 Qf (Q1x p0 H).1), aN (Q6r p0 Qa (Q1x p0 H).2.2.1), aN (Q83 p0 Q19 (Q1x p0 H).2.1), aN (Q6r p0 Q1g (Q1x p0 H).2.2.1), aB (Q4g p0) h0] (by kernel_rfl)
 | false =>
  exact Qm (fn := Ir.K3d) rfl VOK.nil [hP 107 (decR (Qj p0 Q1m).2 true [448] h1), hP 3 (decR (Q2q p0 Q1r).2 false [448] h2)] [aN (Q3f p0 Q1m (Q1x p0 H).1), aN (Q83 p0 Q1r (Q1x p0 H).2.1), aN (Q6r p0 Q1z (Q1x p0 H).2.2.1), aN (Q3f p0 Qf (Q1x p0 H).1), aN (Q6r p0 Qa (Q1x p0 H).2.2.1), aN (Q83 p0 Q19 (Q1x p0 H).2.1), aN (Q6r p0 Q1g (Q1x p0 H).2.2.1), aB (Q4g p0) h0] (by kernel_rfl)
theorem Q1fg (p0 : Val) (H : Q158 p0) (h0 : (Q1u p0) = true) (h1 : (Qj p0 Q1m).2 = false) : Qi G (Q1bz p0) (.ret (.tup [.agg (Container.cells (((Container.mk (Qj p0 Qf).1 (Qj p0 Q1m).1 (Q2q p0 Q19).1 (Q2q p0 Q1r).1 (Q2k p0 Q1z).1 (Q2k p0 Qa).1 (Q2k p0 Q1g).1), false)).1), .bool (((Container.mk (Qj p0 Qf).1 (Qj p0 Q1m).1 (Q2q p0 Q19).1 (Q2q p0 Q1r).1 (Q2k p0 Q1z).1 (Q2k p0 Qa).1 (Q2k p0 Q1g).1), false)).2]) []) := by
 exact Qm (fn := Ir.K3d) rfl VOK.nil [hP 107 (decR (Qj p0 Q1m).2 false [448] h1)] [aN (Q3f p0 Q1m (Q1x p0 H).1), aN (Q83 p0 Q1r (Q1x p0 H).2.1), aN (Q6r p0 Q1z (Q1x p0 H).2.2.1), aN (Q3f p0 Qf (Q1x p0 H).1), aN (Q6r p0 Qa (Q1x p0 H).2.2.1), aN (Q83 p0 Q19 (Q1x p0 H).2.1), aN (Q6r p0 Q1g (Q1x p0 H).2.2.1), aB (Q4g p0) h0] (by kernel_rfl)
theorem Q1h9 (p0 : Val) (H : Q158 p0) (h0 : (Q1u p0) = false) : Qi G (Q1bz p0) (.ret (.tup [.agg (Container.cells (((Container.mk (Qj p0 Qf).1 (Qj p0 Q1m).1 (Q2q p0 Q19).1 (Q2q p0 Q1r).1 (Q2k p0 Q1z).1 (Q2k p0 Qa).1 (Q2k p0 Q1g).1), false)).1), .bool (((Container.mk (Qj p0 Qf).1 (Qj p0 Q1m).1 (Q2q p0 Q19).1 (Q2q p0 Q1r).1 (Q2k p0 Q1z).1 (Q2k p0 Qa).1 (Q2k p0 Q1g).1), false)).2]) []) := by
 exact Qm (fn := Ir.K3d) rfl VOK.nil [] [aN (Q3f p0 Q1m (Q1x p0 H).1), aN (Q83 p0 Q1r (Q1x p0 H).2.1), aN (Q6r p0 Q1z (Q1x p0 H).2.2.1), aN (Q3f p0 Qf (Q1x p0 H).1), aN (Q6r p0 Qa (Q1x p0 H).2.2.1), aN (Q83 p0 Q19 (Q1x p0 H).2.1), aN (Q6r p0 Q1g (Q1x p0 H).2.2.1), aB (Q4g p0) h0] (by kernel_rfl)
theorem Q1sh (p0 : Val) (H : Q158 p0) : Qi G (Q1bz p0) (Q1le p0) := by
 unfold Q1le
 rw [Q1qs]
 cases h0 : (Q1u p0) with
 | true =>
  cases h1 : (Qj p0 Q1m).2 with
  | true =>
   exact Q1hd p0 H h0 h1
  | false =>
   exact Q1fg p0 H h0 h1
 | false =>
  exact Q1h9 p0 H h0
def Q58 (p0 : Val) : List Val → Nat → (List Container) → Bool → (List Container) × Bool
 | [], _i0, v0_1, v0_2 =>
  (v0_1, v0_2)
 | x0 :: r0, i0, v0_1, v0_2 =>
  Q58 p0 r0 (i0 + 1) (v0_1 ++ [(Q7a x0).1]) (v0_2 && (Q7a x0).2)
def Qyr (p0 : Val) (i0 : Nat) (v0_1 : List Container) (v0_2 : Bool) : List PV :=
  [.un, .un, .un, .un, .sl (Val.rows (Qb p0 Q0).1), .bool v0_2, .ms 0 11 0 (List.length v0_1), .int .i64 (i0 : Int)] ++ nuns 31
def Qm5 (_p0 : Val) (_i0 : Nat) (v0_1 : List Container) (_v0_2 : Bool) : List Ob :=
  [⟨11, 0, true, (Container.rows v0_1).flatten⟩]
def Qgq (p0 : Val) (i0 : Nat) (v0_1 : List Container) (v0_2 : Bool) : En := .loop 0 Ir.Qhp Ir.Q1eb (Qyr p0 i0 v0_1 v0_2) (Qm5 p0 i0 v0_1 v0_2)
def Qnz (_p0 : Val) (q0 : List Container) (q1 : Bool) (z : Nat → PV) (_zo : Nat → List PV) : St :=
  ⟨zr z 0 5 ++ [.bool q1, .ms 0 11 0 (List.length q0)] ++ zr z 7 32, [(0, ⟨11, 0, true, (Container.rows q0).flatten⟩)], 257⟩
theorem Q11v (p0 : Val) (i0 : Nat) (v0_1 : List Container) (v0_2 : Bool) : VOK (Go.Pv.look (number 0 (Qm5 p0 i0 v0_1 v0_2))) [(0, Container.rows v0_1)] := (VOK.cons (show Seen _ _ from Q42 (ob := ⟨11, 0, true, (Container.rows v0_1).flatten⟩) (Container.Qp v0_1 11 rfl)) VOK.nil)
def Qgm (p0 : Val) (e : En) (q : (List Container) × Bool) : Prop := ∃ z zo, Qi G e (.st (.exit 0) (Qnz p0 q.1 q.2 z zo))
theorem Qtt (p0 : Val) {e e' : En} (h : ∀ r, Qi G e r → Qi G e' r) : ∀ q, Qgm p0 e q → Qgm p0 e' q
  | _, ⟨z, zo, hz⟩ => ⟨z, zo, h _ hz⟩
def Qcx (p0 : Val) : Prop := (List.length (Qb p0 Q0).1 ≤ 137438953472) ∧ (∀ x0 ∈ (Qb p0 Q0).1, Q158 x0) ∧ True
def Qow (p0 : Val) (i0 : Nat) (_v0_1 : List Container) (_v0_2 : Bool) : List PV :=
  [.un, .un, .un, .un, .sl (Val.rows (Qb p0 Q0).1), .un, .un, .int .i64 (i0 : Int)] ++ nuns 7 ++ [.int .i64 (i0 : Int), .sl (Val.rows (Qb p0 Q0).1), .int .i64 ((List.length (Qb p0 Q0).1) : Int), .bool false]
def Qhy (_p0 : Val) (_i0 : Nat) (_v0_1 : List Container) (_v0_2 : Bool) : List (Nat × List PV) :=
  []
theorem Q189 (p0 : Val) (_H : Qcx p0) (i0 : Nat) (v0_1 : List Container) (v0_2 : Bool) (_ho0_0 : List.length v0_1 ≤ i0) (hc0 : (decide ((i0 : Int) < ((List.length (Qb p0 Q0).1) : Int))) = false) : Qgm p0 (Qgq p0 i0 v0_1 v0_2) (v0_1, v0_2) := by
 exact ⟨(envF (Qow p0 i0 v0_1 v0_2)), (zoF (Qhy p0 i0 v0_1 v0_2)), Q10 (Q11v p0 i0 v0_1 v0_2) (x := ((.exit 0), Qnz p0 v0_1 v0_2 (envF (Qow p0 i0 v0_1 v0_2)) (zoF (Qhy p0 i0 v0_1 v0_2)))) [hP 2 (Qz (Val.rows (Qb p0 Q0).1) (List.length (Qb p0 Q0).1) (Val.Q9 (Qb p0 Q0).1)), hB 0 hc0] [] (by kernel_rfl)⟩
theorem Q15i (p0 : Val) (H : Qcx p0) (x0 : Val) (i0 : Nat) (v0_1 : List Container) (v0_2 : Bool) (hx0 : (Qb p0 Q0).1[i0]? = some x0) (hi0 : i0 < List.length (Qb p0 Q0).1) (ho0_0 : List.length v0_1 ≤ i0) (hc0 : (decide ((i0 : Int) < ((List.length (Qb p0 Q0).1) : Int))) = true) {r : Rs} (hr : Qi G (Qgq p0 (i0 + 1) (v0_1 ++ [(Q7a x0).1]) (v0_2 && (Q7a x0).2)) r) : Qi G (Qgq p0 i0 v0_1 v0_2) r := by
 have hB0 := H.1
 exact Qw (Q11v p0 i0 v0_1 v0_2) (y := (Qyr p0 (i0 + 1) (v0_1 ++ [(Q7a x0).1]) (v0_2 && (Q7a x0).2), Qm5 p0 (i0 + 1) (v0_1 ++ [(Q7a x0).1]) (v0_2 && (Q7a x0).2))) [hP 2 (Qz (Val.rows (Qb p0 Q0).1) (List.length (Qb p0 Q0).1) (Val.Q9 (Qb p0 Q0).1)), hB 0 hc0, hP 2 (Q15 5 (Val.rows (Qb p0 Q0).1) i0 _ (Val.Qe hx0) rfl), hV 11 [(1153, Container.rows (v0_1 ++ [(Q7a x0).1]))] (Q3g 0 1089 1153 11 152 0 0 true (Container.rows v0_1) (Container.rows (v0_1 ++ [(Q7a x0).1])) (Container.cells (Q7a x0).1) (List.length v0_1) (List.length (v0_1 ++ [(Q7a x0).1])) rfl (Container.Q9 v0_1).symm (Container.Q9 (v0_1 ++ [(Q7a x0).1])).symm (Container.Q1n v0_1 (Q7a x0).1) (Container.Q16 v0_1) rfl (by omega)), hS 0 true (Container.Qp (v0_1 ++ [(Q7a x0).1]) 11 rfl), hP 3 (Q45 v0_2 (.bool (Q7a x0).2)), hP 0 (Q43 v0_2 (Q7a x0).2), hP 2 (Q25 i0 (by omega))] [aN (Q1sh x0 (H.2.1 x0 (Q13 hx0)))] (by kernel_rfl) hr
theorem Qxm (p0 : Val) (H : Qcx p0) : ∀ (r0 : List Val) (i0 : Nat) (v0_1 : List Container) (v0_2 : Bool), List.drop i0 (Qb p0 Q0).1 = r0 → List.length v0_1 ≤ i0 → Qgm p0 (Qgq p0 i0 v0_1 v0_2) (Q58 p0 r0 i0 v0_1 v0_2)
 | [], i0, v0_1, v0_2, hd, ho0_0 => by
  have hc0 : (decide ((i0 : Int) < ((List.length (Qb p0 Q0).1) : Int))) = false := by have := Q1v hd; simp; omega
  rw [Q58]
  exact Q189 p0 H i0 v0_1 v0_2 ho0_0 hc0
 | x0 :: r0, i0, v0_1, v0_2, hd, ho0_0 => by
  obtain ⟨hx0, hi0, hd'⟩ := Q1s hd
  have hc0 : (decide ((i0 : Int) < ((List.length (Qb p0 Q0).1) : Int))) = true := by simp; omega
  rw [Q58]
  exact Qtt p0 (fun r hr => Q15i p0 H x0 i0 v0_1 v0_2 hx0 hi0 ho0_0 hc0 hr) _ (Qxm p0 H r0 (i0 + 1) (v0_1 ++ [(Q7a x0).1]) (v0_2 && (Q7a x0).2) hd' (by first | omega | (simp; omega)))
def Qc5 (p0 : Val) : List Container × Bool := dE Container.dec p0 Q0
theorem Quf (p0 : Val) : ∀ (l : List Val) (i : Nat) (a : List Container) (b : Bool), Q58 p0 l i a b = (a ++ l.map (fun x => (Container.dec x).1), b && l.all fun x => (Container.dec x).2)
  | [], _, a, b => by rw [Q58]; simp
  | x :: l, i, a, b => by
    rw [Q58]
    cases b with
    | false => exact (Quf p0 l (i + 1) (a ++ [(Container.dec x).1]) false).trans (by simp only [List.append_assoc, List.singleton_append, List.map_cons, List.all_cons, Bool.false_and])
    | true => exact (Quf p0 l (i + 1) (a ++ [(Container.dec x).1]) (Container.dec x).2).trans (by simp only [List.append_assoc, List.singleton_append, List.map_cons, List.all_cons, Bool.true_and])
theorem Q1st (p0 : Val) : Qc5 p0 = (((Q58 p0 (Qb p0 Q0).1 0 [] (Qb p0 Q0).2).1, (Q58 p0 (Qb p0 Q0).1 0 [] (Qb p0 Q0).2).2)) := by
  rw [Quf]
  rfl
def Q1m6 (p0 : Val) : En := .call 99 [.agg (Val.cells p0)] []
def Q1ll (p0 : Val) : Rs := .ret (.tup [.sl (Container.rows (Qc5 p0).1), .bool (Qc5 p0).2]) []
def Q1gb (p0 : Val) : Prop := Val.Sm 1000000000 p0
theorem Q13i (p0 : Val) (H : Q1gb p0) : (Qbn p0) ∧ (Qcx p0) ∧ True := by
  have hl := Q6h (Q2h H Q0)
  have g : ∀ x ∈ (dL p0 Q0).1, Val.Sm sB x := hl.2
  refine ⟨H, ?_, trivial⟩
  unfold Qcx
  refine ⟨Nat.le_trans hl.1 (Nat.le_of_ble_eq_true rfl), ?_⟩
  repeat' with_reducible apply And.intro
  all_goals first | exact True.intro | exact g
theorem Q1kh (p0 : Val) (H : Q1gb p0) : Qi G (Q1m6 p0) (Q1ll p0) := by
 unfold Q1ll
 rw [Q1st]
 have hl0 := Qxm p0 ((Q13i p0 H).2.1) (Qb p0 Q0).1 0 [] (Qb p0 Q0).2 (by simp) (by simp)
 obtain ⟨z0, zo0, hl0⟩ := hl0
 exact Qm (fn := Ir.K3e) rfl VOK.nil [hS 0 true (Container.Qp (Q58 p0 (Qb p0 Q0).1 0 [] (Qb p0 Q0).2).1 11 rfl), hQ (Container.Q9 (Q58 p0 (Qb p0 Q0).1 0 [] (Qb p0 Q0).2).1).symm] [aN (Qaj p0 Q0 (Q13i p0 H).1), aV [(0, Container.rows (Q58 p0 (Qb p0 Q0).1 0 [] (Qb p0 Q0).2).1)] hl0] (by kernel_rfl)
def Q3d (p0 : Val) (p1 : BA) : List Val → Nat → (List ByteArray) → Bool → Nat → (List ByteArray) × Bool × Nat
 | [], _i0, v0_1, v0_2, v0_3 =>
  (v0_1, v0_2, v0_3)
 | x0 :: r0, i0, v0_1, v0_2, v0_3 =>
  bif (v0_2 == true) then
   bif (x0.kind == 3) then
    bif (x0.kind == 0) then
     Q3d p0 p1 r0 (i0 + 1) (List.set (List.take v0_3 v0_1 ++ [x0.s]) i0 eB) true (List.length (List.take v0_3 v0_1 ++ [x0.s]))
    else
     Q3d p0 p1 r0 (i0 + 1) (List.take v0_3 v0_1 ++ [x0.s]) true (List.length (List.take v0_3 v0_1 ++ [x0.s]))
   else
    bif (x0.kind == 0) then
     Q3d p0 p1 r0 (i0 + 1) (List.set (List.take v0_3 v0_1 ++ [x0.s]) i0 eB) true (List.length (List.take v0_3 v0_1 ++ [x0.s]))
    else
     Q3d p0 p1 r0 (i0 + 1) (List.take v0_3 v0_1 ++ [x0.s]) false (List.length (List.take v0_3 v0_1 ++ [x0.s]))
  else
   bif (x0.kind == 0) then
    Q3d p0 p1 r0 (i0 + 1) (List.set (List.take v0_3 v0_1 ++ [x0.s]) i0 eB) false (List.length (List.take v0_3 v0_1 ++ [x0.s]))
   else
    Q3d p0 p1 r0 (i0 + 1) (List.take v0_3 v0_1 ++ [x0.s]) false (List.length (List.take v0_3 v0_1 ++ [x0.s]))
def Q7d (p0 : Val) (p1 : BA) (i0 : Nat) (_v0_1 : List ByteArray) (v0_2 : Bool) (v0_3 : Nat) : List PV :=
  nuns 6 ++ [.sl (Val.rows (Qb p0 p1).1), .bool v0_2, .ms 0 1 0 v0_3, .int .i64 (i0 : Int)] ++ nuns 48
def Q6d (_p0 : Val) (_p1 : BA) (_i0 : Nat) (v0_1 : List ByteArray) (_v0_2 : Bool) (_v0_3 : Nat) : List Ob :=
  [⟨1, 0, true, (Qv v0_1).flatten⟩]
def Q4c (p0 : Val) (p1 : BA) (i0 : Nat) (v0_1 : List ByteArray) (v0_2 : Bool) (v0_3 : Nat) : En := .loop 0 Ir.Qly Ir.Q1f9 (Q7d p0 p1 i0 v0_1 v0_2 v0_3) (Q6d p0 p1 i0 v0_1 v0_2 v0_3)
def Qrd (_p0 : Val) (_p1 : BA) (q0 : List ByteArray) (q1 : Bool) (q2 : Nat) (z : Nat → PV) (_zo : Nat → List PV) : St :=
  ⟨zr z 0 7 ++ [.bool q1, .ms 0 1 0 q2] ++ zr z 9 49, [(0, ⟨1, 0, true, (Qv q0).flatten⟩)], 257⟩
theorem Q8h (p0 : Val) (p1 : BA) (i0 : Nat) (v0_1 : List ByteArray) (v0_2 : Bool) (v0_3 : Nat) : VOK (Go.Pv.look (number 0 (Q6d p0 p1 i0 v0_1 v0_2 v0_3))) [(0, Qv v0_1)] := (VOK.cons (show Seen _ _ from Q42 (ob := ⟨1, 0, true, (Qv v0_1).flatten⟩) (Q2w v0_1 1 rfl)) VOK.nil)
def Qh3 (p0 : Val) (p1 : BA) (e : En) (q : (List ByteArray) × Bool × Nat) : Prop := ∃ z zo, Qi G e (.st (.exit 0) (Qrd p0 p1 q.1 q.2.1 q.2.2 z zo))
theorem Q4l (p0 : Val) (p1 : BA) {e e' : En} (h : ∀ r, Qi G e r → Qi G e' r) : ∀ q, Qh3 p0 p1 e q → Qh3 p0 p1 e' q
  | _, ⟨z, zo, hz⟩ => ⟨z, zo, h _ hz⟩
def Q67 (p0 : Val) (p1 : BA) : Prop := (List.length (Qb p0 p1).1 ≤ 137438953472) ∧ (∀ (i0 : Nat) (v0_1 : List ByteArray) (v0_2 : Bool) (v0_3 : Nat) (x0 : Val), (Qb p0 p1).1[i0]? = some x0 → List.length v0_1 ≤ i0 → v0_3 = i0 → List.length (v0_1 : List ByteArray) = i0 → (v0_2 == true) = true → (x0.kind == 3) = true → (x0.kind == 0) = true → (List.length (List.take v0_3 v0_1 ++ [x0.s])) = (i0 + 1)) ∧ (∀ (i0 : Nat) (v0_1 : List ByteArray) (v0_2 : Bool) (v0_3 : Nat) (x0 : Val), (Qb p0 p1).1[i0]? = some x0 → List.length v0_1 ≤ i0 → v0_3 = i0 → List.length (v0_1 : List ByteArray) = i0 → (v0_2 == true) = true → (x0.kind == 3) = true → (x0.kind == 0) = true → List.length ((List.set (List.take v0_3 v0_1 ++ [x0.s]) i0 eB) : List ByteArray) = (i0 + 1)) ∧ (∀ (i0 : Nat) (v0_1 : List ByteArray) (v0_2 : Bool) (v0_3 : Nat) (x0 : Val), (Qb p0 p1).1[i0]? = some x0 → List.length v0_1 ≤ i0 → v0_3 = i0 → List.length (v0_1 : List ByteArray) = i0 → (v0_2 == true) = true → (x0.kind == 3) = true → (x0.kind == 0) = false → (List.length (List.take v0_3 v0_1 ++ [x0.s])) = (i0 + 1)) ∧ (∀ (i0 : Nat) (v0_1 : List ByteArray) (v0_2 : Bool) (v0_3 : Nat) (x0 : Val), (Qb p0 p1).1[i0]? = some x0 → List.length v0_1 ≤ i0 → v0_3 = i0 → List.length (v0_1 : List ByteArray) = i0 → (v0_2 == true) = true → (x0.kind == 3) = true → (x0.kind == 0) = false → List.length ((List.take v0_3 v0_1 ++ [x0.s]) : List ByteArray) = (i0 + 1)) ∧ (∀ (i0 : Nat) (v0_1 : List ByteArray) (v0_2 : Bool) (v0_3 : Nat) (x0 : Val), (Qb p0 p1).1[i0]? = some x0 → List.length v0_1 ≤ i0 → v0_3 = i0 → List.length (v0_1 : List ByteArray) = i0 → (v0_2 == true) = true → (x0.kind == 3) = false → (x0.kind == 0) = true → (List.length (List.take v0_3 v0_1 ++ [x0.s])) = (i0 + 1)) ∧ (∀ (i0 : Nat) (v0_1 : List ByteArray) (v0_2 : Bool) (v0_3 : Nat) (x0 : Val), (Qb p0 p1).1[i0]? = some x0 → List.length v0_1 ≤ i0 → v0_3 = i0 → List.length (v0_1 : List ByteArray) = i0 → (v0_2 == true) = true → (x0.kind == 3) = false → (x0.kind == 0) = true → List.length ((List.set (List.take v0_3 v0_1 ++ [x0.s]) i0 eB) : List ByteArray) = (i0 + 1)) ∧ (∀ (i0 : Nat) (v0_1 : List ByteArray) (v0_2 : Bool) (v0_3 : Nat) (x0 : Val), (Qb p0 p1).1[i0]? = some x0 → List.length v0_1 ≤ i0 → v0_3 = i0 → List.length (v0_1 : List ByteArray) = i0 → (v0_2 == true) = true → (x0.kind == 3) = false → (x0.kind == 0) = false → (List.length (List.take v0_3 v0_1 ++ [x0.s])) = (i0 + 1)) ∧ (∀ (i0 : Nat) (v0_1 : List ByteArray) (v0_2 : Bool) (v0_3 : Nat) (x0 : Val), (Qb p0 p1).1[i0]? = some x0 → List.length v0_1 ≤ i0 → v0_3 = i0 → List.length (v0_1 : List ByteArray) = i0 → (v0_2 == true) = true → (x0.kind == 3) = false → (x0.kind == 0) = false → List.length ((List.take v0_3 v0_1 ++ [x0.s]) : List ByteArray) = (i0 + 1)) ∧ (∀ (i0 : Nat) (v0_1 : List ByteArray) (v0_2 : Bool) (v0_3 : Nat) (x0 : Val), (Qb p0 p1).1[i0]? = some x0 → List.length v0_1 ≤ i0 → v0_3 = i0 → List.length (v0_1 : List ByteArray) = i0 → (v0_2 == true) = false → (x0.kind == 0) = true → (List.length (List.take v0_3 v0_1 ++ [x0.s])) = (i0 + 1)) ∧ (∀ (i0 : Nat) (v0_1 : List ByteArray) (v0_2 : Bool) (v0_3 : Nat) (x0 : Val), (Qb p0 p1).1[i0]? = some x0 → List.length v0_1 ≤ i0 → v0_3 = i0 → List.length (v0_1 : List ByteArray) = i0 → (v0_2 == true) = false → (x0.kind == 0) = true → List.length ((List.set (List.take v0_3 v0_1 ++ [x0.s]) i0 eB) : List ByteArray) = (i0 + 1)) ∧ (∀ (i0 : Nat) (v0_1 : List ByteArray) (v0_2 : Bool) (v0_3 : Nat) (x0 : Val), (Qb p0 p1).1[i0]? = some x0 → List.length v0_1 ≤ i0 → v0_3 = i0 → List.length (v0_1 : List ByteArray) = i0 → (v0_2 == true) = false → (x0.kind == 0) = false → (List.length (List.take v0_3 v0_1 ++ [x0.s])) = (i0 + 1)) ∧ (∀ (i0 : Nat) (v0_1 : List ByteArray) (v0_2 : Bool) (v0_3 : Nat) (x0 : Val), (Qb p0 p1).1[i0]? = some x0 → List.length v0_1 ≤ i0 → v0_3 = i0 → List.length (v0_1 : List ByteArray) = i0 → (v0_2 == true) = false → (x0.kind == 0) = false → List.length ((List.take v0_3 v0_1 ++ [x0.s]) : List ByteArray) = (i0 + 1)) ∧ True
def Qqu (p0 : Val) (p1 : BA) (i0 : Nat) (_v0_1 : List ByteArray) (_v0_2 : Bool) (_v0_3 : Nat) : List PV :=
  nuns 6 ++ [.sl (Val.rows (Qb p0 p1).1), .un, .un, .int .i64 (i0 : Int)] ++ nuns 6 ++ [.int .i64 (i0 : Int), .sl (Val.rows (Qb p0 p1).1), .int .i64 ((List.length (Qb p0 p1).1) : Int), .bool false]
def Ql3 (_p0 : Val) (_p1 : BA) (_i0 : Nat) (_v0_1 : List ByteArray) (_v0_2 : Bool) (_v0_3 : Nat) : List (Nat × List PV) :=
  []
theorem Q16n (p0 : Val) (p1 : BA) (_H : Q67 p0 p1) (i0 : Nat) (v0_1 : List ByteArray) (v0_2 : Bool) (v0_3 : Nat) (_ho0_0 : List.length v0_1 ≤ i0) (_ho0_1 : v0_3 = i0) (_ho0_2 : List.length (v0_1 : List ByteArray) = i0) (hc0 : (decide ((i0 : Int) < ((List.length (Qb p0 p1).1) : Int))) = false) : Qh3 p0 p1 (Q4c p0 p1 i0 v0_1 v0_2 v0_3) (v0_1, v0_2, v0_3) := by
 exact ⟨(envF (Qqu p0 p1 i0 v0_1 v0_2 v0_3)), (zoF (Ql3 p0 p1 i0 v0_1 v0_2 v0_3)), Q10 (Q8h p0 p1 i0 v0_1 v0_2 v0_3) (x := ((.exit 0), Qrd p0 p1 v0_1 v0_2 v0_3 (envF (Qqu p0 p1 i0 v0_1 v0_2 v0_3)) (zoF (Ql3 p0 p1 i0 v0_1 v0_2 v0_3)))) [hP 2 (Qz (Val.rows (Qb p0 p1).1) (List.length (Qb p0 p1).1) (Val.Q9 (Qb p0 p1).1)), hB 0 hc0] [] (by kernel_rfl)⟩
theorem Q197 (p0 : Val) (p1 : BA) (H : Q67 p0 p1) (x0 : Val) (i0 : Nat) (v0_1 : List ByteArray) (v0_2 : Bool) (v0_3 : Nat) (hx0 : (Qb p0 p1).1[i0]? = some x0) (_hi0 : i0 < List.length (Qb p0 p1).1) (_ho0_0 : List.length v0_1 ≤ i0) (_ho0_1 : v0_3 = i0) (_ho0_2 : List.length (v0_1 : List ByteArray) = i0) (hc0 : (decide ((i0 : Int) < ((List.length (Qb p0 p1).1) : Int))) = true) (h0 : (v0_2 == true) = true) (h1 : (x0.kind == 3) = true) (h2 : (x0.kind == 0) = true) {r : Rs} (hr : Qi G (Q4c p0 p1 (i0 + 1) (List.set (List.take v0_3 v0_1 ++ [x0.s]) i0 eB) true (List.length (List.take v0_3 v0_1 ++ [x0.s]))) r) : Qi G (Q4c p0 p1 i0 v0_1 v0_2 v0_3) r := by
 have hB0 := H.1; have e1 := eq_of_beq h1; have e2 := eq_of_beq h2
 exact Qw (Q8h p0 p1 i0 v0_1 v0_2 v0_3) (y := (Q7d p0 p1 (i0 + 1) (List.set (List.take v0_3 v0_1 ++ [x0.s]) i0 eB) true (List.length (List.take v0_3 v0_1 ++ [x0.s])), Q6d p0 p1 (i0 + 1) (List.set (List.take v0_3 v0_1 ++ [x0.s]) i0 eB) true (List.length (List.take v0_3 v0_1 ++ [x0.s])))) [hP 2 (Qz (Val.rows (Qb p0 p1).1) (List.length (Qb p0 p1).1) (Val.Q9 (Qb p0 p1).1)), hB 0 hc0, hP 3 (Q15 5 (Val.rows (Qb p0 p1).1) i0 _ (Val.Qe hx0) rfl), hV 3 [(705, Qv (List.take v0_3 v0_1 ++ [x0.s]))] (Qqn 0 641 705 1 16 0 true (Qv v0_1) (Qv (List.take v0_3 v0_1 ++ [x0.s])) [.str x0.s] v0_3 (List.length (List.take v0_3 v0_1 ++ [x0.s])) rfl (by rw [Q1q]; exact (by omega)) (Q1q (List.take v0_3 v0_1 ++ [x0.s])).symm (by rw [Q60, Q65]) (Q3o v0_1) rfl (by omega)), hS 0 true (Q2w (List.take v0_3 v0_1 ++ [x0.s]) 1 rfl), hB 1 (beqT h0), hP 3 (Q15 5 (Val.rows (Qb p0 p1).1) i0 _ (Val.Qe hx0) rfl), hB 2 h1, hP 12 (Q15 5 (Val.rows (Qb p0 p1).1) i0 _ (Val.Qe hx0) rfl), hB 2 h2, hP 2 (Qcv 705 1 (List.length (List.take v0_3 v0_1 ++ [x0.s])) (i0 : Int) i0 (by omega) (by omega) (by try simp only [List.length_append, List.length_cons, List.length_nil, List.length_take]; omega)), hV 0 [(705, Qv (List.set (List.take v0_3 v0_1 ++ [x0.s]) i0 eB))] (Q180 705 1 true ((Qv (List.take v0_3 v0_1 ++ [x0.s])).flatten) (Qv (List.take v0_3 v0_1 ++ [x0.s])) (Qv (List.set (List.take v0_3 v0_1 ++ [x0.s]) i0 eB)) 1 i0 0 (i0 * 1) _ (.str eB) rfl rfl (Q3s (Q3q (List.take v0_3 v0_1 ++ [x0.s]) i0 eB (by try simp only [List.length_append, List.length_cons, List.length_nil, List.length_take]; omega))) (Q3o (List.take v0_3 v0_1 ++ [x0.s])) (by decide) rfl rfl (Qdu (List.take v0_3 v0_1 ++ [x0.s]) i0 eB)), hS 0 true (Q2w (List.set (List.take v0_3 v0_1 ++ [x0.s]) i0 eB) 1 rfl), hP 1 (Q25 i0 (by omega))] [] (by kernel_rfl) hr
theorem Q17x (p0 : Val) (p1 : BA) (H : Q67 p0 p1) (x0 : Val) (i0 : Nat) (v0_1 : List ByteArray) (v0_2 : Bool) (v0_3 : Nat) (hx0 : (Qb p0 p1).1[i0]? = some x0) (hi0 : i0 < List.length (Qb p0 p1).1) (_ho0_0 : List.length v0_1 ≤ i0) (ho0_1 : v0_3 = i0) (ho0_2 : List.length (v0_1 : List ByteArray) = i0) (hc0 : (decide ((i0 : Int) < ((List.length (Qb p0 p1).1) : Int))) = true) (h0 : (v0_2 == true) = true) (h1 : (x0.kind == 3) = true) (h2 : (x0.kind == 0) = false) {r : Rs} (hr : Qi G (Q4c p0 p1 (i0 + 1) (List.take v0_3 v0_1 ++ [x0.s]) true (List.length (List.take v0_3 v0_1 ++ [x0.s]))) r) : Qi G (Q4c p0 p1 i0 v0_1 v0_2 v0_3) r := by
 have hB0 := H.1; have e1 := eq_of_beq h1; have e2 := beq_eq_false_iff_ne.1 h2
 exact Qw (Q8h p0 p1 i0 v0_1 v0_2 v0_3) (y := (Q7d p0 p1 (i0 + 1) (List.take v0_3 v0_1 ++ [x0.s]) true (List.length (List.take v0_3 v0_1 ++ [x0.s])), Q6d p0 p1 (i0 + 1) (List.take v0_3 v0_1 ++ [x0.s]) true (List.length (List.take v0_3 v0_1 ++ [x0.s])))) [hP 2 (Qz (Val.rows (Qb p0 p1).1) (List.length (Qb p0 p1).1) (Val.Q9 (Qb p0 p1).1)), hB 0 hc0, hP 3 (Q15 5 (Val.rows (Qb p0 p1).1) i0 _ (Val.Qe hx0) rfl), hV 3 [(705, Qv (List.take v0_3 v0_1 ++ [x0.s]))] (Qqn 0 641 705 1 16 0 true (Qv v0_1) (Qv (List.take v0_3 v0_1 ++ [x0.s])) [.str x0.s] v0_3 (List.length (List.take v0_3 v0_1 ++ [x0.s])) rfl (by rw [Q1q]; exact (by omega)) (Q1q (List.take v0_3 v0_1 ++ [x0.s])).symm (by rw [Q60, Q65]) (Q3o v0_1) rfl (by omega)), hS 0 true (Q2w (List.take v0_3 v0_1 ++ [x0.s]) 1 rfl), hB 1 (beqT h0), hP 3 (Q15 5 (Val.rows (Qb p0 p1).1) i0 _ (Val.Qe hx0) rfl), hB 2 h1, hP 12 (Q15 5 (Val.rows (Qb p0 p1).1) i0 _ (Val.Qe hx0) rfl), hB 2 h2, hP 1 (Q25 i0 (by omega))] [] (by kernel_rfl) hr
theorem Q14t (p0 : Val) (p1 : BA) (H : Q67 p0 p1) (x0 : Val) (i0 : Nat) (v0_1 : List ByteArray) (v0_2 : Bool) (v0_3 : Nat) (hx0 : (Qb p0 p1).1[i0]? = some x0) (hi0 : i0 < List.length (Qb p0 p1).1) (_ho0_0 : List.length v0_1 ≤ i0) (ho0_1 : v0_3 = i0) (ho0_2 : List.length (v0_1 : List ByteArray) = i0) (hc0 : (decide ((i0 : Int) < ((List.length (Qb p0 p1).1) : Int))) = true) (h0 : (v0_2 == true) = true) (h1 : (x0.kind == 3) = false) (h2 : (x0.kind == 0) = true) {r : Rs} (hr : Qi G (Q4c p0 p1 (i0 + 1) (List.set (List.take v0_3 v0_1 ++ [x0.s]) i0 eB) true (List.length (List.take v0_3 v0_1 ++ [x0.s]))) r) : Qi G (Q4c p0 p1 i0 v0_1 v0_2 v0_3) r := by
 have hB0 := H.1; have e1 := beq_eq_false_iff_ne.1 h1; have e2 := eq_of_beq h2
 exact Qw (Q8h p0 p1 i0 v0_1 v0_2 v0_3) (y := (Q7d p0 p1 (i0 + 1) (List.set (List.take v0_3 v0_1 ++ [x0.s]) i0 eB) true (List.length (List.take v0_3 v0_1 ++ [x0.s])), Q6d p0 p1 (i0 + 1) (List.set (List.take v0_3 v0_1 ++ [x0.s]) i0 eB) true (List.length (List.take v0_3 v0_1 ++ [x0.s])))) [hP 2 (Qz (Val.rows (Qb p0 p1).1) (List.length (Qb p0 p1).1) (Val.Q9 (Qb p0 p1).1)), hB 0 hc0, hP 3 (Q15 5 (Val.rows (Qb p0 p1).1) i0 _ (Val.Qe hx0) rfl), hV 3 [(705, Qv (List.take v0_3 v0_1 ++ [x0.s]))] (Qqn 0 641 705 1 16 0 true (Qv v0_1) (Qv (List.take v0_3 v0_1 ++ [x0.s])) [.str x0.s] v0_3 (List.length (List.take v0_3 v0_1 ++ [x0.s])) rfl (by rw [Q1q]; exact (by omega)) (Q1q (List.take v0_3 v0_1 ++ [x0.s])).symm (by rw [Q60, Q65]) (Q3o v0_1) rfl (by omega)), hS 0 true (Q2w (List.take v0_3 v0_1 ++ [x0.s]) 1 rfl), hB 1 (beqT h0), hP 3 (Q15 5 (Val.rows (Qb p0 p1).1) i0 _ (Val.Qe hx0) rfl), hB 2 h1, hP 3 (Q15 5 (Val.rows (Qb p0 p1).1) i0 _ (Val.Qe hx0) rfl), hB 2 h2, hP 5 (Q15 5 (Val.rows (Qb p0 p1).1) i0 _ (Val.Qe hx0) rfl), hB 2 h2, hP 2 (Qcv 705 1 (List.length (List.take v0_3 v0_1 ++ [x0.s])) (i0 : Int) i0 (by omega) (by omega) (by try simp only [List.length_append, List.length_cons, List.length_nil, List.length_take]; omega)), hV 0 [(705, Qv (List.set (List.take v0_3 v0_1 ++ [x0.s]) i0 eB))] (Q180 705 1 true ((Qv (List.take v0_3 v0_1 ++ [x0.s])).flatten) (Qv (List.take v0_3 v0_1 ++ [x0.s])) (Qv (List.set (List.take v0_3 v0_1 ++ [x0.s]) i0 eB)) 1 i0 0 (i0 * 1) _ (.str eB) rfl rfl (Q3s (Q3q (List.take v0_3 v0_1 ++ [x0.s]) i0 eB (by try simp only [List.length_append, List.length_cons, List.length_nil, List.length_take]; omega))) (Q3o (List.take v0_3 v0_1 ++ [x0.s])) (by decide) rfl rfl (Qdu (List.take v0_3 v0_1 ++ [x0.s]) i0 eB)), hS 0 true (Q2w (List.set (List.take v0_3 v0_1 ++ [x0.s]) i0 eB) 1 rfl), hP 1 (Q25 i0 (by omega))] [] (by kernel_rfl) hr
theorem Q18u (p0 : Val) (p1 : BA) (H : Q67 p0 p1) (x0 : Val) (i0 : Nat) (v0_1 : List ByteArray) (v0_2 : Bool) (v0_3 : Nat) (hx0 : (Qb p0 p1).1[i0]? = some x0) (hi0 : i0 < List.length (Qb p0 p1).1) (_ho0_0 : List.length v0_1 ≤ i0) (ho0_1 : v0_3 = i0) (ho0_2 : List.length (v0_1 : List ByteArray) = i0) (hc0 : (decide ((i0 : Int) < ((List.length (Qb p0 p1).1) : Int))) = true) (h0 : (v0_2 == true) = true) (h1 : (x0.kind == 3) = false) (h2 : (x0.kind == 0) = false) {r : Rs} (hr : Qi G (Q4c p0 p1 (i0 + 1) (List.take v0_3 v0_1 ++ [x0.s]) false (List.length (List.take v0_3 v0_1 ++ [x0.s]))) r) : Qi G (Q4c p0 p1 i0 v0_1 v0_2 v0_3) r := by
 have hB0 := H.1; have e1 := beq_eq_false_iff_ne.1 h1; have e2 := beq_eq_false_iff_ne.1 h2
 exact Qw (Q8h p0 p1 i0 v0_1 v0_2 v0_3) (y := (Q7d p0 p1 (i0 + 1) (List.take v0_3 v0_1 ++ [x0.s]) false (List.length (List.take v0_3 v0_1 ++ [x0.s])), Q6d p0 p1 (i0 + 1) (List.take v0_3 v0_1 ++ [x0.s]) false (List.length (List.take v0_3 v0_1 ++ [x0.s])))) [hP 2 (Qz (Val.rows (Qb p0 p1).1) (List.length (Qb p0 p1).1) (Val.Q9 (Qb p0 p1).1)), hB 0 hc0, hP 3 (Q15 5 (Val.rows (Qb p0 p1).1) i0 _ (Val.Qe hx0) rfl), hV 3 [(705, Qv (List.take v0_3 v0_1 ++ [x0.s]))] (Qqn 0 641 705 1 16 0 true (Qv v0_1) (Qv (List.take v0_3 v0_1 ++ [x0.s])) [.str x0.s] v0_3 (List.length (List.take v0_3 v0_1 ++ [x0.s])) rfl (by rw [Q1q]; exact (by omega)) (Q1q (List.take v0_3 v0_1 ++ [x0.s])).symm (by rw [Q60, Q65]) (Q3o v0_1) rfl (by omega)), hS 0 true (Q2w (List.take v0_3 v0_1 ++ [x0.s]) 1 rfl), hB 1 (beqT h0), hP 3 (Q15 5 (Val.rows (Qb p0 p1).1) i0 _ (Val.Qe hx0) rfl), hB 2 h1, hP 3 (Q15 5 (Val.rows (Qb p0 p1).1) i0 _ (Val.Qe hx0) rfl), hB 2 h2, hP 5 (Q15 5 (Val.rows (Qb p0 p1).1) i0 _ (Val.Qe hx0) rfl), hB 2 h2, hP 1 (Q25 i0 (by omega))] [] (by kernel_rfl) hr
theorem Q17r (p0 : Val) (p1 : BA) (H : Q67 p0 p1) (x0 : Val) (i0 : Nat) (v0_1 : List ByteArray) (v0_2 : Bool) (v0_3 : Nat) (hx0 : (Qb p0 p1).1[i0]? = some x0) (hi0 : i0 < List.length (Qb p0 p1).1) (_ho0_0 : List.length v0_1 ≤ i0) (ho0_1 : v0_3 = i0) (ho0_2 : List.length (v0_1 : List ByteArray) = i0) (hc0 : (decide ((i0 : Int) < ((List.length (Qb p0 p1).1) : Int))) = true) (h0 : (v0_2 == true) = false) (h1 : (x0.kind == 0) = true) {r : Rs} (hr : Qi G (Q4c p0 p1 (i0 + 1) (List.set (List.take v0_3 v0_1 ++ [x0.s]) i0 eB) false (List.length (List.take v0_3 v0_1 ++ [x0.s]))) r) : Qi G (Q4c p0 p1 i0 v0_1 v0_2 v0_3) r := by
 have hB0 := H.1; have e1 := eq_of_beq h1
 exact Qw (Q8h p0 p1 i0 v0_1 v0_2 v0_3) (y := (Q7d p0 p1 (i0 + 1) (List.set (List.take v0_3 v0_1 ++ [x0.s]) i0 eB) false (List.length (List.take v0_3 v0_1 ++ [x0.s])), Q6d p0 p1 (i0 + 1) (List.set (List.take v0_3 v0_1 ++ [x0.s]) i0 eB) false (List.length (List.take v0_3 v0_1 ++ [x0.s])))) [hP 2 (Qz (Val.rows (Qb p0 p1).1) (List.length (Qb p0 p1).1) (Val.Q9 (Qb p0 p1).1)), hB 0 hc0, hP 3 (Q15 5 (Val.rows (Qb p0 p1).1) i0 _ (Val.Qe hx0) rfl), hV 3 [(705, Qv (List.take v0_3 v0_1 ++ [x0.s]))] (Qqn 0 641 705 1 16 0 true (Qv v0_1) (Qv (List.take v0_3 v0_1 ++ [x0.s])) [.str x0.s] v0_3 (List.length (List.take v0_3 v0_1 ++ [x0.s])) rfl (by rw [Q1q]; exact (by omega)) (Q1q (List.take v0_3 v0_1 ++ [x0.s])).symm (by rw [Q60, Q65]) (Q3o v0_1) rfl (by omega)), hS 0 true (Q2w (List.take v0_3 v0_1 ++ [x0.s]) 1 rfl), hB 1 (beqT h0), hP 19 (Q15 5 (Val.rows (Qb p0 p1).1) i0 _ (Val.Qe hx0) rfl), hB 2 h1, hP 2 (Qcv 705 1 (List.length (List.take v0_3 v0_1 ++ [x0.s])) (i0 : Int) i0 (by omega) (by omega) (by try simp only [List.length_append, List.length_cons, List.length_nil, List.length_take]; omega)), hV 0 [(705, Qv (List.set (List.take v0_3 v0_1 ++ [x0.s]) i0 eB))] (Q180 705 1 true ((Qv (List.take v0_3 v0_1 ++ [x0.s])).flatten) (Qv (List.take v0_3 v0_1 ++ [x0.s])) (Qv (List.set (List.take v0_3 v0_1 ++ [x0.s]) i0 eB)) 1 i0 0 (i0 * 1) _ (.str eB) rfl rfl (Q3s (Q3q (List.take v0_3 v0_1 ++ [x0.s]) i0 eB (by try simp only [List.length_append, List.length_cons, List.length_nil, List.length_take]; omega))) (Q3o (List.take v0_3 v0_1 ++ [x0.s])) (by decide) rfl rfl (Qdu (List.take v0_3 v0_1 ++ [x0.s]) i0 eB)), hS 0 true (Q2w (List.set (List.take v0_3 v0_1 ++ [x0.s]) i0 eB) 1 rfl), hP 1 (Q25 i0 (by omega))] [] (by kernel_rfl) hr
theorem Q17w (p0 : Val) (p1 : BA) (H : Q67 p0 p1) (x0 : Val) (i0 : Nat) (v0_1 : List ByteArray) (v0_2 : Bool) (v0_3 : Nat) (hx0 : (Qb p0 p1).1[i0]? = some x0) (hi0 : i0 < List.length (Qb p0 p1).1) (_ho0_0 : List.length v0_1 ≤ i0) (ho0_1 : v0_3 = i0) (ho0_2 : List.length (v0_1 : List ByteArray) = i0) (hc0 : (decide ((i0 : Int) < ((List.length (Qb p0 p1).1) : Int))) = true) (h0 : (v0_2 == true) = false) (h1 : (x0.kind == 0) = false) {r : Rs} (hr : Qi G (Q4c p0 p1 (i0 + 1) (List.take v0_3 v0_1 ++ [x0.s]) false (List.length (List.take v0_3 v0_1 ++ [x0.s]))) r) : Qi G (Q4c p0 p1 i0 v0_1 v0_2 v0_3) r := by
 have hB0 := H.1; have e1 := beq_eq_false_iff_ne.1 h1
 exact Qw (Q8h p0 p1 i0 v0_1 v0_2 v0_3) (y := (Q7d p0 p1 (i0 + 1) (List.take v0_3 v0_1 ++ [x0.s]) false (List.length (List.take v0_3 v0_1 ++ [x0.s])), Q6d p0 p1 (i0 + 1) (List.take v0_3 v0_1 ++ [x0.s]) false (List.length (List.take v0_3 v0_1 ++ [x0.s])))) [hP 2 (Qz (Val.rows (Qb p0 p1).1) (List.length (Qb p0 p1).1) (Val.Q9 (Qb p0 p1).1)), hB 0 hc0, hP 3 (Q15 5 (Val.rows (Qb p0 p1).1) i0 _ (Val.Qe hx0) rfl), hV 3 [(705, Qv (List.take v0_3 v0_1 ++ [x0.s]))] (Qqn 0 641 705 1 16 0 true (Qv v0_1) (Qv (List.take v0_3 v0_1 ++ [x0.s])) [.str x0.s] v0_3 (List.length (List.take v0_3 v0_1 ++ [x0.s])) rfl (by rw [Q1q]; exact (by omega)) (Q1q (List.take v0_3 v0_1 ++ [x0.s])).symm (by rw [Q60, Q65]) (Q3o v0_1) rfl (by omega)), hS 0 true (Q2w (List.take v0_3 v0_1 ++ [x0.s]) 1 rfl), hB 1 (beqT h0), hP 19 (Q15 5 (Val.rows (Qb p0 p1).1) i0 _ (Val.Qe hx0) rfl), hB 2 h1, hP 1 (Q25 i0 (by omega))] [] (by kernel_rfl) hr
theorem Q75 (p0 : Val) (p1 : BA) (H : Q67 p0 p1) : ∀ (r0 : List Val) (i0 : Nat) (v0_1 : List ByteArray) (v0_2 : Bool) (v0_3 : Nat), List.drop i0 (Qb p0 p1).1 = r0 → List.length v0_1 ≤ i0 → v0_3 = i0 → List.length (v0_1 : List ByteArray) = i0 → Qh3 p0 p1 (Q4c p0 p1 i0 v0_1 v0_2 v0_3) (Q3d p0 p1 r0 i0 v0_1 v0_2 v0_3)
 | [], i0, v0_1, v0_2, v0_3, hd, ho0_0, ho0_1, ho0_2 => by
  have hc0 : (decide ((i0 : Int) < ((List.length (Qb p0 p1).1) : Int))) = false := by have := Q1v hd; simp; omega
  rw [Q3d]
  exact Q16n p0 p1 H i0 v0_1 v0_2 v0_3 ho0_0 ho0_1 ho0_2 hc0
 | x0 :: r0, i0, v0_1, v0_2, v0_3, hd, ho0_0, ho0_1, ho0_2 => by
  obtain ⟨hx0, hi0, hd'⟩ := Q1s hd
  have hc0 : (decide ((i0 : Int) < ((List.length (Qb p0 p1).1) : Int))) = true := by simp; omega
  rw [Q3d]
  cases h0 : (v0_2 == true) with
  | true =>
   cases h1 : (x0.kind == 3) with
   | true =>
    have e1 := eq_of_beq h1
    cases h2 : (x0.kind == 0) with
    | true =>
     have e2 := eq_of_beq h2
     exact Q4l p0 p1 (fun r hr => Q197 p0 p1 H x0 i0 v0_1 v0_2 v0_3 hx0 hi0 ho0_0 ho0_1 ho0_2 hc0 h0 h1 h2 hr) _ (Q75 p0 p1 H r0 (i0 + 1) (List.set (List.take v0_3 v0_1 ++ [x0.s]) i0 eB) true (List.length (List.take v0_3 v0_1 ++ [x0.s])) hd' (by first | omega | (simp; omega)) ((H.2.1 i0 v0_1 v0_2 v0_3 x0 hx0 ho0_0 ho0_1 ho0_2) h0 h1 h2) ((H.2.2.1 i0 v0_1 v0_2 v0_3 x0 hx0 ho0_0 ho0_1 ho0_2) h0 h1 h2))
    | false =>
     have e2 := beq_eq_false_iff_ne.1 h2
     exact Q4l p0 p1 (fun r hr => Q17x p0 p1 H x0 i0 v0_1 v0_2 v0_3 hx0 hi0 ho0_0 ho0_1 ho0_2 hc0 h0 h1 h2 hr) _ (Q75 p0 p1 H r0 (i0 + 1) (List.take v0_3 v0_1 ++ [x0.s]) true (List.length (List.take v0_3 v0_1 ++ [x0.s])) hd' (by first | omega | (simp; omega)) ((H.2.2.2.1 i0 v0_1 v0_2 v0_3 x0 hx0 ho0_0 ho0_1 ho0_2) h0 h1 h2) ((H.2.2.2.2.1 i0 v0_1 v0_2 v0_3 x0 hx0 ho0_0 ho0_1 ho0_2) h0 h1 h2))
   | false =>
    have e1 := beq_eq_false_iff_ne.1 h1
    cases h2 : (x0.kind == 0) with
    | true =>
     have e2 := eq_of_beq h2
     exact Q4l p0 p1 (fun r hr => Q14t p0 p1 H x0 i0 v0_1 v0_2 v0_3 hx0 hi0 ho0_0 ho0_1 ho0_2 hc0 h0 h1 h2 hr) _ (Q75 p0 p1 H r0 (i0 + 1) (List.set (List.take v0_3 v0_1 ++ [x0.s]) i0 eB) true (List.length (List.take v0_3 v0_1 ++ [x0.s])) hd' (by first | omega | (simp; omega)) ((H.2.2.2.2.2.1 i0 v0_1 v0_2 v0_3 x0 hx0 ho0_0 ho0_1 ho0_2) h0 h1 h2) ((H.2.2.2.2.2.2.1 i0 v0_1 v0_2 v0_3 x0 hx0 ho0_0 ho0_1 ho0_2) h0 h1 h2))
    | false =>
     have e2 := beq_eq_false_iff_ne.1 h2
     exact Q4l p0 p1 (fun r hr => Q18u p0 p1 H x0 i0 v0_1 v0_2 v0_3 hx0 hi0 ho0_0 ho0_1 ho0_2 hc0 h0 h1 h2 hr) _ (Q75 p0 p1 H r0 (i0 + 1) (List.take v0_3 v0_1 ++ [x0.s]) false (List.length (List.take v0_3 v0_1 ++ [x0.s])) hd' (by first | omega | (simp; omega)) ((H.2.2.2.2.2.2.2.1 i0 v0_1 v0_2 v0_3 x0 hx0 ho0_0 ho0_1 ho0_2) h0 h1 h2) ((H.2.2.2.2.2.2.2.2.1 i0 v0_1 v0_2 v0_3 x0 hx0 ho0_0 ho0_1 ho0_2) h0 h1 h2))
  | false =>
   cases h1 : (x0.kind == 0) with
   | true =>
    have e1 := eq_of_beq h1
    exact Q4l p0 p1 (fun r hr => Q17r p0 p1 H x0 i0 v0_1 v0_2 v0_3 hx0 hi0 ho0_0 ho0_1 ho0_2 hc0 h0 h1 hr) _ (Q75 p0 p1 H r0 (i0 + 1) (List.set (List.take v0_3 v0_1 ++ [x0.s]) i0 eB) false (List.length (List.take v0_3 v0_1 ++ [x0.s])) hd' (by first | omega | (simp; omega)) ((H.2.2.2.2.2.2.2.2.2.1 i0 v0_1 v0_2 v0_3 x0 hx0 ho0_0 ho0_1 ho0_2) h0 h1) ((H.2.2.2.2.2.2.2.2.2.2.1 i0 v0_1 v0_2 v0_3 x0 hx0 ho0_0 ho0_1 ho0_2) h0 h1))
   | false =>
    have e1 := beq_eq_false_iff_ne.1 h1
    exact Q4l p0 p1 (fun r hr => Q17w p0 p1 H x0 i0 v0_1 v0_2 v0_3 hx0 hi0 ho0_0 ho0_1 ho0_2 hc0 h0 h1 hr) _ (Q75 p0 p1 H r0 (i0 + 1) (List.take v0_3 v0_1 ++ [x0.s]) false (List.length (List.take v0_3 v0_1 ++ [x0.s])) hd' (by first | omega | (simp; omega)) ((H.2.2.2.2.2.2.2.2.2.2.2.1 i0 v0_1 v0_2 v0_3 x0 hx0 ho0_0 ho0_1 ho0_2) h0 h1) ((H.2.2.2.2.2.2.2.2.2.2.2.2.1 i0 v0_1 v0_2 v0_3 x0 hx0 ho0_0 ho0_1 ho0_2) h0 h1))
def Q4r (p0 : Val) (p1 : BA) : List ByteArray × Bool := dE rS p0 p1
theorem Q1g0 {x : Val} (h3 : (x.kind == 3) = true) (h0 : (x.kind == 0) = true) : False := by
  have a := eq_of_beq h3
  have b := eq_of_beq h0
  omega
theorem Qkp (p0 : Val) (p1 : BA) : ∀ (l : List Val) (i : Nat) (a : List ByteArray) (b : Bool) (n : Nat), a.length = i → n = i → Q3d p0 p1 l i a b n = (a ++ l.map (fun x => (rS x).1), b && l.all (fun x => (rS x).2), i + l.length)
  | [], i, a, b, n, ha, hn => by rw [Q3d, hn]; simp
  | x :: l, i, a, b, n, ha, hn => by
    have ht : List.take n a = a := by rw [hn, ← ha, List.take_length]
    have hs : List.set (a ++ [x.s]) i eB = a ++ [⟨#[]⟩] := by rw [List.set_append_right _ _ (by omega), ← ha, Nat.sub_self]; rfl
    have hl : (a ++ [x.s]).length = i + 1 := by rw [List.length_append, ha]; rfl
    have hl' : (a ++ [eB]).length = i + 1 := by rw [List.length_append, ha]; rfl
    have step : ∀ (y : BA) (c : Bool), (a ++ [y]).length = i + 1 → (rS x) = (y, c) → Q3d p0 p1 l (i + 1) (a ++ [y]) (b && c) (i + 1) = (a ++ (x :: l).map (fun x => (rS x).1), b && (x :: l).all (fun x => (rS x).2), i + (x :: l).length) := by
      intro y c hy he
      rw [Qkp p0 p1 l (i + 1) (a ++ [y]) (b && c) (i + 1) hy rfl, List.map_cons, List.all_cons, he]
      simp only [List.append_assoc, List.singleton_append, Bool.and_assoc, List.length_cons, Nat.add_assoc, Nat.add_comm 1]
    rw [Q3d, ht, hs, hl]
    cases h3 : (x.kind == 3) with
    | true =>
      cases h0 : (x.kind == 0) with
      | true => exact (Q1g0 h3 h0).elim
      | false =>
        have := step x.s true hl (by unfold rS; rw [h3, h0]; rfl)
        cases b <;> exact this
    | false =>
      cases h0 : (x.kind == 0) with
      | true =>
        have := step ⟨#[]⟩ true hl' (by unfold rS; rw [h3, h0]; rfl)
        cases b <;> exact this
      | false =>
        have := step x.s false hl (by unfold rS; rw [h3, h0]; rfl)
        cases b <;> exact this
theorem Q1ml (p0 : Val) (p1 : BA) : Q4r p0 p1 = (((Q3d p0 p1 (Qb p0 p1).1 0 [] (Qb p0 p1).2 0).1, (Q3d p0 p1 (Qb p0 p1).1 0 [] (Qb p0 p1).2 0).2.1)) := by
  rw [Qkp p0 p1 _ 0 [] _ 0 rfl rfl]
  rfl
def Q1nk (p0 : Val) (p1 : BA) : En := .call 144 [.agg (Val.cells p0), .str p1] []
def Q1hw (p0 : Val) (p1 : BA) : Rs := .ret (.tup [.sl (Qv (Q4r p0 p1).1), .bool (Q4r p0 p1).2]) []
def Q1fm (p0 : Val) : Prop := Val.Sm 1000000000 p0
theorem Qct (p0 : Val) (p1 : BA) (H : Q1fm p0) : (Qbn p0) ∧ (Q67 p0 p1) ∧ (0 = 0) ∧ (List.length ([] : List ByteArray) = 0) ∧ ((Q3d p0 p1 (Qb p0 p1).1 0 [] (Qb p0 p1).2 0).2.2 = List.length (Q3d p0 p1 (Qb p0 p1).1 0 [] (Qb p0 p1).2 0).1) ∧ True := by
  have hl := Q6h (Q2h H p1)
  refine ⟨H, ?_, rfl, rfl, ?_, trivial⟩
  · unfold Q67
    refine ⟨Nat.le_trans hl.1 (Nat.le_of_ble_eq_true rfl), ?_⟩
    repeat' with_reducible apply And.intro
    all_goals first | exact True.intro | (intro i0 v0_1 v0_2 v0_3 x0 hx h1 h2 h3 h4 h5 h6; simp [h2, h3]) | (intro i0 v0_1 v0_2 v0_3 x0 hx h1 h2 h3 h4 h5; simp [h2, h3])
  · rw [Qkp p0 p1 _ 0 [] _ 0 rfl rfl]
    simp
theorem Q1jw (p0 : Val) (p1 : BA) (H : Q1fm p0) : Qi G (Q1nk p0 p1) (Q1hw p0 p1) := by
 unfold Q1hw
 rw [Q1ml]
 have hl0 := Q75 p0 p1 ((Qct p0 p1 H).2.1) (Qb p0 p1).1 0 [] (Qb p0 p1).2 0 (by simp) (by simp) ((Qct p0 p1 H).2.2.1) ((Qct p0 p1 H).2.2.2.1)
 obtain ⟨z0, zo0, hl0⟩ := hl0
 exact Qm (fn := Ir.K2q) rfl VOK.nil [hS 0 true (Q2w (Q3d p0 p1 (Qb p0 p1).1 0 [] (Qb p0 p1).2 0).1 1 rfl), hQ (((Qct p0 p1 H).2.2.2.2.1).trans (Q1q (Q3d p0 p1 (Qb p0 p1).1 0 [] (Qb p0 p1).2 0).1).symm)] [aN (Qaj p0 p1 (Qct p0 p1 H).1), aV [(0, Qv (Q3d p0 p1 (Qb p0 p1).1 0 [] (Qb p0 p1).2 0).1)] hl0] (by kernel_rfl)
def Q4k (p0 : Val) (p1 : BA) : List Val → Nat → (List Requirement) → Bool → (List Requirement) × Bool
 | [], _i0, v0_1, v0_2 =>
  (v0_1, v0_2)
 | x0 :: r0, i0, v0_1, v0_2 =>
  bif (v0_2 == true) then
   Q4k p0 p1 r0 (i0 + 1) (v0_1 ++ [(Requirement.mk (Qj x0 Qs).1 (Q5 x0 Q31).1 (Q4r x0 Q1p).1)]) ((((Q1u x0) && (Qj x0 Qs).2) && (Q5 x0 Q31).2) && (Q4r x0 Q1p).2)
  else
   Q4k p0 p1 r0 (i0 + 1) (v0_1 ++ [(Requirement.mk (Qj x0 Qs).1 (Q5 x0 Q31).1 (Q4r x0 Q1p).1)]) false
def Qjp (p0 : Val) (p1 : BA) (i0 : Nat) (v0_1 : List Requirement) (v0_2 : Bool) : List PV :=
  nuns 6 ++ [.sl (Val.rows (Qb p0 p1).1), .bool v0_2, .ms 0 3 0 (List.length v0_1), .int .i64 (i0 : Int)] ++ nuns 68
def Qcf (_p0 : Val) (_p1 : BA) (_i0 : Nat) (v0_1 : List Requirement) (_v0_2 : Bool) : List Ob :=
  [⟨3, 0, true, (Requirement.rows v0_1).flatten⟩]
def Q9l (p0 : Val) (p1 : BA) (i0 : Nat) (v0_1 : List Requirement) (v0_2 : Bool) : En := .loop 0 Ir.Qlk Ir.Q1e0 (Qjp p0 p1 i0 v0_1 v0_2) (Qcf p0 p1 i0 v0_1 v0_2)
def Qok (_p0 : Val) (_p1 : BA) (q0 : List Requirement) (q1 : Bool) (z : Nat → PV) (_zo : Nat → List PV) : St :=
  ⟨zr z 0 7 ++ [.bool q1, .ms 0 3 0 (List.length q0)] ++ zr z 9 69, [(0, ⟨3, 0, true, (Requirement.rows q0).flatten⟩)], 257⟩
theorem Qsj (p0 : Val) (p1 : BA) (i0 : Nat) (v0_1 : List Requirement) (v0_2 : Bool) : VOK (Go.Pv.look (number 0 (Qcf p0 p1 i0 v0_1 v0_2))) [(0, Requirement.rows v0_1)] := (VOK.cons (show Seen _ _ from Q42 (ob := ⟨3, 0, true, (Requirement.rows v0_1).flatten⟩) (Requirement.Qp v0_1 3 rfl)) VOK.nil)
def Qf9 (p0 : Val) (p1 : BA) (e : En) (q : (List Requirement) × Bool) : Prop := ∃ z zo, Qi G e (.st (.exit 0) (Qok p0 p1 q.1 q.2 z zo))
theorem Qcr (p0 : Val) (p1 : BA) {e e' : En} (h : ∀ r, Qi G e r → Qi G e' r) : ∀ q, Qf9 p0 p1 e q → Qf9 p0 p1 e' q
  | _, ⟨z, zo, hz⟩ => ⟨z, zo, h _ hz⟩
def Q9n (p0 : Val) (p1 : BA) : Prop := (List.length (Qb p0 p1).1 ≤ 137438953472) ∧ (∀ x0 ∈ (Qb p0 p1).1, Qdv x0) ∧ (∀ x0 ∈ (Qb p0 p1).1, Qai x0) ∧ (∀ x0 ∈ (Qb p0 p1).1, Q1fm x0) ∧ True
def Qqi (p0 : Val) (p1 : BA) (i0 : Nat) (_v0_1 : List Requirement) (_v0_2 : Bool) : List PV :=
  nuns 6 ++ [.sl (Val.rows (Qb p0 p1).1), .un, .un, .int .i64 (i0 : Int)] ++ nuns 12 ++ [.int .i64 (i0 : Int), .sl (Val.rows (Qb p0 p1).1), .int .i64 ((List.length (Qb p0 p1).1) : Int), .bool false]
def Qjd (_p0 : Val) (_p1 : BA) (_i0 : Nat) (_v0_1 : List Requirement) (_v0_2 : Bool) : List (Nat × List PV) :=
  []
theorem Q18e (p0 : Val) (p1 : BA) (_H : Q9n p0 p1) (i0 : Nat) (v0_1 : List Requirement) (v0_2 : Bool) (_ho0_0 : List.length v0_1 ≤ i0) (hc0 : (decide ((i0 : Int) < ((List.length (Qb p0 p1).1) : Int))) = false) : Qf9 p0 p1 (Q9l p0 p1 i0 v0_1 v0_2) (v0_1, v0_2) := by
 exact ⟨(envF (Qqi p0 p1 i0 v0_1 v0_2)), (zoF (Qjd p0 p1 i0 v0_1 v0_2)), Q10 (Qsj p0 p1 i0 v0_1 v0_2) (x := ((.exit 0), Qok p0 p1 v0_1 v0_2 (envF (Qqi p0 p1 i0 v0_1 v0_2)) (zoF (Qjd p0 p1 i0 v0_1 v0_2)))) [hP 2 (Qz (Val.rows (Qb p0 p1).1) (List.length (Qb p0 p1).1) (Val.Q9 (Qb p0 p1).1)), hB 0 hc0] [] (by kernel_rfl)⟩
theorem Q18y (p0 : Val) (p1 : BA) (H : Q9n p0 p1) (x0 : Val) (i0 : Nat) (v0_1 : List Requirement) (v0_2 : Bool) (hx0 : (Qb p0 p1).1[i0]? = some x0) (hi0 : i0 < List.length (Qb p0 p1).1) (ho0_0 : List.length v0_1 ≤ i0) (hc0 : (decide ((i0 : Int) < ((List.length (Qb p0 p1).1) : Int))) = true) (h0 : (v0_2 == true) = true) {r : Rs} (hr : Qi G (Q9l p0 p1 (i0 + 1) (v0_1 ++ [(Requirement.mk (Qj x0 Qs).1 (Q5 x0 Q31).1 (Q4r x0 Q1p).1)]) ((((Q1u x0) && (Qj x0 Qs).2) && (Q5 x0 Q31).2) && (Q4r x0 Q1p).2)) r) : Qi G (Q9l p0 p1 i0 v0_1 v0_2) r := by
 have hB0 := H.1
 exact Qw (Qsj p0 p1 i0 v0_1 v0_2) (y := (Qjp p0 p1 (i0 + 1) (v0_1 ++ [(Requirement.mk (Qj x0 Qs).1 (Q5 x0 Q31).1 (Q4r x0 Q1p).1)]) ((((Q1u x0) && (Qj x0 Qs).2) && (Q5 x0 Q31).2) && (Q4r x0 Q1p).2), Qcf p0 p1 (i0 + 1) (v0_1 ++ [(Requirement.mk (Qj x0 Qs).1 (Q5 x0 Q31).1 (Q4r x0 Q1p).1)]) ((((Q1u x0) && (Qj x0 Qs).2) && (Q5 x0 Q31).2) && (Q4r x0 Q1p).2))) [hP 2 (Qz (Val.rows (Qb p0 p1).1) (List.length (Qb p0 p1).1) (Val.Q9 (Qb p0 p1).1)), hB 0 hc0, hP 2 (Q15 5 (Val.rows (Qb p0 p1).1) i0 _ (Val.Qe hx0) rfl), hP 9 (Q15 5 (Val.rows (Qb p0 p1).1) i0 _ (Val.Qe hx0) rfl), hP 9 (Q15 5 (Val.rows (Qb p0 p1).1) i0 _ (Val.Qe hx0) rfl), hV 13 [(2561, Requirement.rows (v0_1 ++ [(Requirement.mk (Qj x0 Qs).1 (Q5 x0 Q31).1 (Q4r x0 Q1p).1)]))] (Q3g 0 2497 2561 3 48 0 0 true (Requirement.rows v0_1) (Requirement.rows (v0_1 ++ [(Requirement.mk (Qj x0 Qs).1 (Q5 x0 Q31).1 (Q4r x0 Q1p).1)])) (Requirement.cells (Requirement.mk (Qj x0 Qs).1 (Q5 x0 Q31).1 (Q4r x0 Q1p).1)) (List.length v0_1) (List.length (v0_1 ++ [(Requirement.mk (Qj x0 Qs).1 (Q5 x0 Q31).1 (Q4r x0 Q1p).1)])) rfl (Requirement.Q9 v0_1).symm (Requirement.Q9 (v0_1 ++ [(Requirement.mk (Qj x0 Qs).1 (Q5 x0 Q31).1 (Q4r x0 Q1p).1)])).symm (Requirement.Q1n v0_1 (Requirement.mk (Qj x0 Qs).1 (Q5 x0 Q31).1 (Q4r x0 Q1p).1)) (Requirement.Q16 v0_1) rfl (by omega)), hS 0 true (Requirement.Qp (v0_1 ++ [(Requirement.mk (Qj x0 Qs).1 (Q5 x0 Q31).1 (Q4r x0 Q1p).1)]) 3 rfl), hB 1 (beqT h0), hP 3 (Q15 5 (Val.rows (Qb p0 p1).1) i0 _ (Val.Qe hx0) rfl), hP 4 (Q45 (Q1u x0) (.bool (Qj x0 Qs).2)), hP 0 (Q43 (Q1u x0) (Qj x0 Qs).2), hP 1 (Q45 ((Q1u x0) && (Qj x0 Qs).2) (.bool (Q5 x0 Q31).2)), hP 0 (Q43 ((Q1u x0) && (Qj x0 Qs).2) (Q5 x0 Q31).2), hP 1 (Q45 (((Q1u x0) && (Qj x0 Qs).2) && (Q5 x0 Q31).2) (.bool (Q4r x0 Q1p).2)), hP 0 (Q43 (((Q1u x0) && (Qj x0 Qs).2) && (Q5 x0 Q31).2) (Q4r x0 Q1p).2), hP 2 (Q25 i0 (by omega))] [aN (Q3f x0 Qs (H.2.1 x0 (Q13 hx0))), aN (Q2m x0 Q31 (H.2.2.1 x0 (Q13 hx0))), aN (Q1jw x0 Q1p (H.2.2.2.1 x0 (Q13 hx0))), aN (Q4g x0)] (by kernel_rfl) hr
theorem Q17g (p0 : Val) (p1 : BA) (H : Q9n p0 p1) (x0 : Val) (i0 : Nat) (v0_1 : List Requirement) (v0_2 : Bool) (hx0 : (Qb p0 p1).1[i0]? = some x0) (hi0 : i0 < List.length (Qb p0 p1).1) (ho0_0 : List.length v0_1 ≤ i0) (hc0 : (decide ((i0 : Int) < ((List.length (Qb p0 p1).1) : Int))) = true) (h0 : (v0_2 == true) = false) {r : Rs} (hr : Qi G (Q9l p0 p1 (i0 + 1) (v0_1 ++ [(Requirement.mk (Qj x0 Qs).1 (Q5 x0 Q31).1 (Q4r x0 Q1p).1)]) false) r) : Qi G (Q9l p0 p1 i0 v0_1 v0_2) r := by
 have hB0 := H.1
 exact Qw (Qsj p0 p1 i0 v0_1 v0_2) (y := (Qjp p0 p1 (i0 + 1) (v0_1 ++ [(Requirement.mk (Qj x0 Qs).1 (Q5 x0 Q31).1 (Q4r x0 Q1p).1)]) false, Qcf p0 p1 (i0 + 1) (v0_1 ++ [(Requirement.mk (Qj x0 Qs).1 (Q5 x0 Q31).1 (Q4r x0 Q1p).1)]) false)) [hP 2 (Qz (Val.rows (Qb p0 p1).1) (List.length (Qb p0 p1).1) (Val.Q9 (Qb p0 p1).1)), hB 0 hc0, hP 2 (Q15 5 (Val.rows (Qb p0 p1).1) i0 _ (Val.Qe hx0) rfl), hP 9 (Q15 5 (Val.rows (Qb p0 p1).1) i0 _ (Val.Qe hx0) rfl), hP 9 (Q15 5 (Val.rows (Qb p0 p1).1) i0 _ (Val.Qe hx0) rfl), hV 13 [(2561, Requirement.rows (v0_1 ++ [(Requirement.mk (Qj x0 Qs).1 (Q5 x0 Q31).1 (Q4r x0 Q1p).1)]))] (Q3g 0 2497 2561 3 48 0 0 true (Requirement.rows v0_1) (Requirement.rows (v0_1 ++ [(Requirement.mk (Qj x0 Qs).1 (Q5 x0 Q31).1 (Q4r x0 Q1p).1)])) (Requirement.cells (Requirement.mk (Qj x0 Qs).1 (Q5 x0 Q31).1 (Q4r x0 Q1p).1)) (List.length v0_1) (List.length (v0_1 ++ [(Requirement.mk (Qj x0 Qs).1 (Q5 x0 Q31).1 (Q4r x0 Q1p).1)])) rfl (Requirement.Q9 v0_1).symm (Requirement.Q9 (v0_1 ++ [(Requirement.mk (Qj x0 Qs).1 (Q5 x0 Q31).1 (Q4r x0 Q1p).1)])).symm (Requirement.Q1n v0_1 (Requirement.mk (Qj x0 Qs).1 (Q5 x0 Q31).1 (Q4r x0 Q1p).1)) (Requirement.Q16 v0_1) rfl (by omega)), hS 0 true (Requirement.Qp (v0_1 ++ [(Requirement.mk (Qj x0 Qs).1 (Q5 x0 Q31).1 (Q4r x0 Q1p).1)]) 3 rfl), hB 1 (beqT h0), hP 18 (Q25 i0 (by omega))] [aN (Q3f x0 Qs (H.2.1 x0 (Q13 hx0))), aN (Q2m x0 Q31 (H.2.2.1 x0 (Q13 hx0))), aN (Q1jw x0 Q1p (H.2.2.2.1 x0 (Q13 hx0)))] (by kernel_rfl) hr
theorem Qhe (p0 : Val) (p1 : BA) (H : Q9n p0 p1) : ∀ (r0 : List Val) (i0 : Nat) (v0_1 : List Requirement) (v0_2 : Bool), List.drop i0 (Qb p0 p1).1 = r0 → List.length v0_1 ≤ i0 → Qf9 p0 p1 (Q9l p0 p1 i0 v0_1 v0_2) (Q4k p0 p1 r0 i0 v0_1 v0_2)
 | [], i0, v0_1, v0_2, hd, ho0_0 => by
  have hc0 : (decide ((i0 : Int) < ((List.length (Qb p0 p1).1) : Int))) = false := by have := Q1v hd; simp; omega
  rw [Q4k]
  exact Q18e p0 p1 H i0 v0_1 v0_2 ho0_0 hc0
 | x0 :: r0, i0, v0_1, v0_2, hd, ho0_0 => by
  obtain ⟨hx0, hi0, hd'⟩ := Q1s hd
  have hc0 : (decide ((i0 : Int) < ((List.length (Qb p0 p1).1) : Int))) = true := by simp; omega
  rw [Q4k]
  cases h0 : (v0_2 == true) with
  | true =>
   exact Qcr p0 p1 (fun r hr => Q18y p0 p1 H x0 i0 v0_1 v0_2 hx0 hi0 ho0_0 hc0 h0 hr) _ (Qhe p0 p1 H r0 (i0 + 1) (v0_1 ++ [(Requirement.mk (Qj x0 Qs).1 (Q5 x0 Q31).1 (Q4r x0 Q1p).1)]) ((((Q1u x0) && (Qj x0 Qs).2) && (Q5 x0 Q31).2) && (Q4r x0 Q1p).2) hd' (by first | omega | (simp; omega)))
  | false =>
   exact Qcr p0 p1 (fun r hr => Q17g p0 p1 H x0 i0 v0_1 v0_2 hx0 hi0 ho0_0 hc0 h0 hr) _ (Qhe p0 p1 H r0 (i0 + 1) (v0_1 ++ [(Requirement.mk (Qj x0 Qs).1 (Q5 x0 Q31).1 (Q4r x0 Q1p).1)]) false hd' (by first | omega | (simp; omega)))
def Q28 (p0 : Val) (p1 : BA) : List Requirement × Bool := dE Requirement.rdec p0 p1
theorem Qs2 (p0 : Val) (p1 : BA) : ∀ (l : List Val) (i : Nat) (a : List Requirement) (b : Bool), Q4k p0 p1 l i a b = (a ++ l.map (fun x => (Requirement.rdec x).1), b && l.all fun x => (Requirement.rdec x).2)
  | [], _, a, b => by rw [Q4k]; simp
  | x :: l, i, a, b => by
    rw [Q4k]
    cases b with
    | false => exact (Qs2 p0 p1 l (i + 1) (a ++ [(Requirement.rdec x).1]) false).trans (by simp only [List.append_assoc, List.singleton_append, List.map_cons, List.all_cons, Bool.false_and])
    | true => exact (Qs2 p0 p1 l (i + 1) (a ++ [(Requirement.rdec x).1]) (Requirement.rdec x).2).trans (by simp only [List.append_assoc, List.singleton_append, List.map_cons, List.all_cons, Bool.true_and])
theorem Q1rk (p0 : Val) (p1 : BA) : Q28 p0 p1 = (((Q4k p0 p1 (Qb p0 p1).1 0 [] (Qb p0 p1).2).1, (Q4k p0 p1 (Qb p0 p1).1 0 [] (Qb p0 p1).2).2)) := by
  rw [Qs2]
  rfl
def Q1oz (p0 : Val) (p1 : BA) : En := .call 100 [.agg (Val.cells p0), .str p1] []
def Q1id (p0 : Val) (p1 : BA) : Rs := .ret (.tup [.sl (Requirement.rows (Q28 p0 p1).1), .bool (Q28 p0 p1).2]) []
def Q14s (p0 : Val) : Prop := Val.Sm 1000000000 p0
theorem Q11b (p0 : Val) (p1 : BA) (H : Q14s p0) : (Qbn p0) ∧ (Q9n p0 p1) ∧ True := by
  have hl := Q6h (Q2h H p1)
  have g : ∀ x ∈ (dL p0 p1).1, Val.Sm sB x := hl.2
  refine ⟨H, ?_, trivial⟩
  unfold Q9n
  refine ⟨Nat.le_trans hl.1 (Nat.le_of_ble_eq_true rfl), ?_⟩
  repeat' with_reducible apply And.intro
  all_goals first | exact True.intro | exact g
theorem Qvp (p0 : Val) (p1 : BA) (H : Q14s p0) : Qi G (Q1oz p0 p1) (Q1id p0 p1) := by
 unfold Q1id
 rw [Q1rk]
 have hl0 := Qhe p0 p1 ((Q11b p0 p1 H).2.1) (Qb p0 p1).1 0 [] (Qb p0 p1).2 (by simp) (by simp)
 obtain ⟨z0, zo0, hl0⟩ := hl0
 exact Qm (fn := Ir.K2o) rfl VOK.nil [hS 0 true (Requirement.Qp (Q4k p0 p1 (Qb p0 p1).1 0 [] (Qb p0 p1).2).1 3 rfl), hQ (Requirement.Q9 (Q4k p0 p1 (Qb p0 p1).1 0 [] (Qb p0 p1).2).1).symm] [aN (Qaj p0 p1 (Q11b p0 p1 H).1), aV [(0, Requirement.rows (Q4k p0 p1 (Qb p0 p1).1 0 [] (Qb p0 p1).2).1)] hl0] (by kernel_rfl)
def Q4q (p0 : Val) : List Val → Nat → (List NodeTerm) → Bool → (List NodeTerm) × Bool
 | [], _i0, v0_1, v0_2 =>
  (v0_1, v0_2)
 | x0 :: r0, i0, v0_1, v0_2 =>
  bif (v0_2 == true) then
   Q4q p0 r0 (i0 + 1) (v0_1 ++ [(NodeTerm.mk (Qn x0 Q7).1 (Q28 x0 Q8).1 (Q5 x0 Qx).1)]) ((((Q1u x0) && (Qn x0 Q7).2) && (Q28 x0 Q8).2) && (Q5 x0 Qx).2)
  else
   Q4q p0 r0 (i0 + 1) (v0_1 ++ [(NodeTerm.mk (Qn x0 Q7).1 (Q28 x0 Q8).1 (Q5 x0 Qx).1)]) false
def Qka (p0 : Val) (i0 : Nat) (v0_1 : List NodeTerm) (v0_2 : Bool) : List PV :=
  [.un, .un, .un, .un, .sl (Val.rows (Qb p0 Q12).1), .bool v0_2, .ms 0 3 0 (List.length v0_1), .int .i64 (i0 : Int)] ++ nuns 67
def Qbb (_p0 : Val) (_i0 : Nat) (v0_1 : List NodeTerm) (_v0_2 : Bool) : List Ob :=
  [⟨3, 0, true, (NodeTerm.rows v0_1).flatten⟩]
def Q9t (p0 : Val) (i0 : Nat) (v0_1 : List NodeTerm) (v0_2 : Bool) : En := .loop 0 Ir.Qkm Ir.Q1e2 (Qka p0 i0 v0_1 v0_2) (Qbb p0 i0 v0_1 v0_2)
def Qo5 (_p0 : Val) (q0 : List NodeTerm) (q1 : Bool) (z : Nat → PV) (_zo : Nat → List PV) : St :=
  ⟨zr z 0 5 ++ [.bool q1, .ms 0 3 0 (List.length q0)] ++ zr z 7 68, [(0, ⟨3, 0, true, (NodeTerm.rows q0).flatten⟩)], 257⟩
theorem Qs4 (p0 : Val) (i0 : Nat) (v0_1 : List NodeTerm) (v0_2 : Bool) : VOK (Go.Pv.look (number 0 (Qbb p0 i0 v0_1 v0_2))) [(0, NodeTerm.rows v0_1)] := (VOK.cons (show Seen _ _ from Q42 (ob := ⟨3, 0, true, (NodeTerm.rows v0_1).flatten⟩) (NodeTerm.Qp v0_1 3 rfl)) VOK.nil)
def Qfk (p0 : Val) (e : En) (q : (List NodeTerm) × Bool) : Prop := ∃ z zo, Qi G e (.st (.exit 0) (Qo5 p0 q.1 q.2 z zo))
theorem Qb6 (p0 : Val) {e e' : En} (h : ∀ r, Qi G e r → Qi G e' r) : ∀ q, Qfk p0 e q → Qfk p0 e' q
  | _, ⟨z, zo, hz⟩ => ⟨z, zo, h _ hz⟩
def Q9s (p0 : Val) : Prop := (List.length (Qb p0 Q12).1 ≤ 137438953472) ∧ (∀ x0 ∈ (Qb p0 Q12).1, Qnc x0) ∧ (∀ x0 ∈ (Qb p0 Q12).1, Q14s x0) ∧ (∀ x0 ∈ (Qb p0 Q12).1, Qai x0) ∧ True
def Qqh (p0 : Val) (i0 : Nat) (_v0_1 : List NodeTerm) (_v0_2 : Bool) : List PV :=
  [.un, .un, .un, .un, .sl (Val.rows (Qb p0 Q12).1), .un, .un, .int .i64 (i0 : Int)] ++ nuns 11 ++ [.int .i64 (i0 : Int), .sl (Val.rows (Qb p0 Q12).1), .int .i64 ((List.length (Qb p0 Q12).1) : Int), .bool false]
def Qk3 (_p0 : Val) (_i0 : Nat) (_v0_1 : List NodeTerm) (_v0_2 : Bool) : List (Nat × List PV) :=
  []
theorem Q14r (p0 : Val) (_H : Q9s p0) (i0 : Nat) (v0_1 : List NodeTerm) (v0_2 : Bool) (_ho0_0 : List.length v0_1 ≤ i0) (hc0 : (decide ((i0 : Int) < ((List.length (Qb p0 Q12).1) : Int))) = false) : Qfk p0 (Q9t p0 i0 v0_1 v0_2) (v0_1, v0_2) := by
 exact ⟨(envF (Qqh p0 i0 v0_1 v0_2)), (zoF (Qk3 p0 i0 v0_1 v0_2)), Q10 (Qs4 p0 i0 v0_1 v0_2) (x := ((.exit 0), Qo5 p0 v0_1 v0_2 (envF (Qqh p0 i0 v0_1 v0_2)) (zoF (Qk3 p0 i0 v0_1 v0_2)))) [hP 2 (Qz (Val.rows (Qb p0 Q12).1) (List.length (Qb p0 Q12).1) (Val.Q9 (Qb p0 Q12).1)), hB 0 hc0] [] (by kernel_rfl)⟩
theorem Q17s (p0 : Val) (H : Q9s p0) (x0 : Val) (i0 : Nat) (v0_1 : List NodeTerm) (v0_2 : Bool) (hx0 : (Qb p0 Q12).1[i0]? = some x0) (hi0 : i0 < List.length (Qb p0 Q12).1) (ho0_0 : List.length v0_1 ≤ i0) (hc0 : (decide ((i0 : Int) < ((List.length (Qb p0 Q12).1) : Int))) = true) (h0 : (v0_2 == true) = true) {r : Rs} (hr : Qi G (Q9t p0 (i0 + 1) (v0_1 ++ [(NodeTerm.mk (Qn x0 Q7).1 (Q28 x0 Q8).1 (Q5 x0 Qx).1)]) ((((Q1u x0) && (Qn x0 Q7).2) && (Q28 x0 Q8).2) && (Q5 x0 Qx).2)) r) : Qi G (Q9t p0 i0 v0_1 v0_2) r := by
 have hB0 := H.1
 exact Qw (Qs4 p0 i0 v0_1 v0_2) (y := (Qka p0 (i0 + 1) (v0_1 ++ [(NodeTerm.mk (Qn x0 Q7).1 (Q28 x0 Q8).1 (Q5 x0 Qx).1)]) ((((Q1u x0) && (Qn x0 Q7).2) && (Q28 x0 Q8).2) && (Q5 x0 Qx).2), Qbb p0 (i0 + 1) (v0_1 ++ [(NodeTerm.mk (Qn x0 Q7).1 (Q28 x0 Q8).1 (Q5 x0 Qx).1)]) ((((Q1u x0) && (Qn x0 Q7).2) && (Q28 x0 Q8).2) && (Q5 x0 Qx).2))) [hP 2 (Qz (Val.rows (Qb p0 Q12).1) (List.length (Qb p0 Q12).1) (Val.Q9 (Qb p0 Q12).1)), hB 0 hc0, hP 2 (Q15 5 (Val.rows (Qb p0 Q12).1) i0 _ (Val.Qe hx0) rfl), hP 9 (Q15 5 (Val.rows (Qb p0 Q12).1) i0 _ (Val.Qe hx0) rfl), hP 9 (Q15 5 (Val.rows (Qb p0 Q12).1) i0 _ (Val.Qe hx0) rfl), hV 13 [(2561, NodeTerm.rows (v0_1 ++ [(NodeTerm.mk (Qn x0 Q7).1 (Q28 x0 Q8).1 (Q5 x0 Qx).1)]))] (Q3g 0 2497 2561 3 40 0 0 true (NodeTerm.rows v0_1) (NodeTerm.rows (v0_1 ++ [(NodeTerm.mk (Qn x0 Q7).1 (Q28 x0 Q8).1 (Q5 x0 Qx).1)])) (NodeTerm.cells (NodeTerm.mk (Qn x0 Q7).1 (Q28 x0 Q8).1 (Q5 x0 Qx).1)) (List.length v0_1) (List.length (v0_1 ++ [(NodeTerm.mk (Qn x0 Q7).1 (Q28 x0 Q8).1 (Q5 x0 Qx).1)])) rfl (NodeTerm.Q9 v0_1).symm (NodeTerm.Q9 (v0_1 ++ [(NodeTerm.mk (Qn x0 Q7).1 (Q28 x0 Q8).1 (Q5 x0 Qx).1)])).symm (NodeTerm.Q1n v0_1 (NodeTerm.mk (Qn x0 Q7).1 (Q28 x0 Q8).1 (Q5 x0 Qx).1)) (NodeTerm.Q16 v0_1) rfl (by omega)), hS 0 true (NodeTerm.Qp (v0_1 ++ [(NodeTerm.mk (Qn x0 Q7).1 (Q28 x0 Q8).1 (Q5 x0 Qx).1)]) 3 rfl), hB 1 (beqT h0), hP 3 (Q15 5 (Val.rows (Qb p0 Q12).1) i0 _ (Val.Qe hx0) rfl), hP 4 (Q45 (Q1u x0) (.bool (Qn x0 Q7).2)), hP 0 (Q43 (Q1u x0) (Qn x0 Q7).2), hP 1 (Q45 ((Q1u x0) && (Qn x0 Q7).2) (.bool (Q28 x0 Q8).2)), hP 0 (Q43 ((Q1u x0) && (Qn x0 Q7).2) (Q28 x0 Q8).2), hP 1 (Q45 (((Q1u x0) && (Qn x0 Q7).2) && (Q28 x0 Q8).2) (.bool (Q5 x0 Qx).2)), hP 0 (Q43 (((Q1u x0) && (Qn x0 Q7).2) && (Q28 x0 Q8).2) (Q5 x0 Qx).2), hP 2 (Q25 i0 (by omega))] [aN (Q3j x0 Q7 (H.2.1 x0 (Q13 hx0))), aN (Qvp x0 Q8 (H.2.2.1 x0 (Q13 hx0))), aN (Q2m x0 Qx (H.2.2.2.1 x0 (Q13 hx0))), aN (Q4g x0)] (by kernel_rfl) hr
theorem Q152 (p0 : Val) (H : Q9s p0) (x0 : Val) (i0 : Nat) (v0_1 : List NodeTerm) (v0_2 : Bool) (hx0 : (Qb p0 Q12).1[i0]? = some x0) (hi0 : i0 < List.length (Qb p0 Q12).1) (ho0_0 : List.length v0_1 ≤ i0) (hc0 : (decide ((i0 : Int) < ((List.length (Qb p0 Q12).1) : Int))) = true) (h0 : (v0_2 == true) = false) {r : Rs} (hr : Qi G (Q9t p0 (i0 + 1) (v0_1 ++ [(NodeTerm.mk (Qn x0 Q7).1 (Q28 x0 Q8).1 (Q5 x0 Qx).1)]) false) r) : Qi G (Q9t p0 i0 v0_1 v0_2) r := by
 have hB0 := H.1
 exact Qw (Qs4 p0 i0 v0_1 v0_2) (y := (Qka p0 (i0 + 1) (v0_1 ++ [(NodeTerm.mk (Qn x0 Q7).1 (Q28 x0 Q8).1 (Q5 x0 Qx).1)]) false, Qbb p0 (i0 + 1) (v0_1 ++ [(NodeTerm.mk (Qn x0 Q7).1 (Q28 x0 Q8).1 (Q5 x0 Qx).1)]) false)) [hP 2 (Qz (Val.rows (Qb p0 Q12).1) (List.length (Qb p0 Q12).1) (Val.Q9 (Qb p0 Q12).1)), hB 0 hc0, hP 2 (Q15 5 (Val.rows (Qb p0 Q12).1) i0 _ (Val.Qe hx0) rfl), hP 9 (Q15 5 (Val.rows (Qb p0 Q12).1) i0 _ (Val.Qe hx0) rfl), hP 9 (Q15 5 (Val.rows (Qb p0 Q12).1) i0 _ (Val.Qe hx0) rfl), hV 13 [(2561, NodeTerm.rows (v0_1 ++ [(NodeTerm.mk (Qn x0 Q7).1 (Q28 x0 Q8).1 (Q5 x0 Qx).1)]))] (Q3g 0 2497 2561 3 40 0 0 true (NodeTerm.rows v0_1) (NodeTerm.rows (v0_1 ++ [(NodeTerm.mk (Qn x0 Q7).1 (Q28 x0 Q8).1 (Q5 x0 Qx).1)])) (NodeTerm.cells (NodeTerm.mk (Qn x0 Q7).1 (Q28 x0 Q8).1 (Q5 x0 Qx).1)) (List.length v0_1) (List.length (v0_1 ++ [(NodeTerm.mk (Qn x0 Q7).1 (Q28 x0 Q8).1 (Q5 x0 Qx).1)])) rfl (NodeTerm.Q9 v0_1).symm (NodeTerm.Q9 (v0_1 ++ [(NodeTerm.mk (Qn x0 Q7).1 (Q28 x0 Q8).1 (Q5 x0 Qx).1)])).symm (NodeTerm.Q1n v0_1 (NodeTerm.mk (Qn x0 Q7).1 (Q28 x0 Q8).1 (Q5 x0 Qx).1)) (NodeTerm.Q16 v0_1) rfl (by omega)), hS 0 true (NodeTerm.Qp (v0_1 ++ [(NodeTerm.mk (Qn x0 Q7).1 (Q28 x0 Q8).1 (Q5 x0 Qx).1)]) 3 rfl), hB 1 (beqT h0), hP 18 (Q25 i0 (by omega))] [aN (Q3j x0 Q7 (H.2.1 x0 (Q13 hx0))), aN (Qvp x0 Q8 (H.2.2.1 x0 (Q13 hx0))), aN (Q2m x0 Qx (H.2.2.2.1 x0 (Q13 hx0)))] (by kernel_rfl) hr
theorem Qjy (p0 : Val) (H : Q9s p0) : ∀ (r0 : List Val) (i0 : Nat) (v0_1 : List NodeTerm) (v0_2 : Bool), List.drop i0 (Qb p0 Q12).1 = r0 → List.length v0_1 ≤ i0 → Qfk p0 (Q9t p0 i0 v0_1 v0_2) (Q4q p0 r0 i0 v0_1 v0_2)
 | [], i0, v0_1, v0_2, hd, ho0_0 => by
  have hc0 : (decide ((i0 : Int) < ((List.length (Qb p0 Q12).1) : Int))) = false := by have := Q1v hd; simp; omega
  rw [Q4q]
  exact Q14r p0 H i0 v0_1 v0_2 ho0_0 hc0
 | x0 :: r0, i0, v0_1, v0_2, hd, ho0_0 => by
  obtain ⟨hx0, hi0, hd'⟩ := Q1s hd
  have hc0 : (decide ((i0 : Int) < ((List.length (Qb p0 Q12).1) : Int))) = true := by simp; omega
  rw [Q4q]
  cases h0 : (v0_2 == true) with
  | true =>
   exact Qb6 p0 (fun r hr => Q17s p0 H x0 i0 v0_1 v0_2 hx0 hi0 ho0_0 hc0 h0 hr) _ (Qjy p0 H r0 (i0 + 1) (v0_1 ++ [(NodeTerm.mk (Qn x0 Q7).1 (Q28 x0 Q8).1 (Q5 x0 Qx).1)]) ((((Q1u x0) && (Qn x0 Q7).2) && (Q28 x0 Q8).2) && (Q5 x0 Qx).2) hd' (by first | omega | (simp; omega)))
  | false =>
   exact Qb6 p0 (fun r hr => Q152 p0 H x0 i0 v0_1 v0_2 hx0 hi0 ho0_0 hc0 h0 hr) _ (Qjy p0 H r0 (i0 + 1) (v0_1 ++ [(NodeTerm.mk (Qn x0 Q7).1 (Q28 x0 Q8).1 (Q5 x0 Qx).1)]) false hd' (by first | omega | (simp; omega)))
def Qch (p0 : Val) : List NodeTerm × Bool := dE NodeTerm.rdec p0 Q12
theorem Qu3 (p0 : Val) : ∀ (l : List Val) (i : Nat) (a : List NodeTerm) (b : Bool), Q4q p0 l i a b = (a ++ l.map (fun x => (NodeTerm.rdec x).1), b && l.all fun x => (NodeTerm.rdec x).2)
  | [], _, a, b => by rw [Q4q]; simp
  | x :: l, i, a, b => by
    rw [Q4q]
    cases b with
    | false => exact (Qu3 p0 l (i + 1) (a ++ [(NodeTerm.rdec x).1]) false).trans (by simp only [List.append_assoc, List.singleton_append, List.map_cons, List.all_cons, Bool.false_and])
    | true => exact (Qu3 p0 l (i + 1) (a ++ [(NodeTerm.rdec x).1]) (NodeTerm.rdec x).2).trans (by simp only [List.append_assoc, List.singleton_append, List.map_cons, List.all_cons, Bool.true_and])
theorem Q1m9 (p0 : Val) : Qch p0 = (((Q4q p0 (Qb p0 Q12).1 0 [] (Qb p0 Q12).2).1, (Q4q p0 (Qb p0 Q12).1 0 [] (Qb p0 Q12).2).2)) := by
  rw [Qu3]
  rfl
def Q1oe (p0 : Val) : En := .call 101 [.agg (Val.cells p0)] []
def Q1ku (p0 : Val) : Rs := .ret (.tup [.sl (NodeTerm.rows (Qch p0).1), .bool (Qch p0).2]) []
def Q1h4 (p0 : Val) : Prop := Val.Sm 1000000000 p0
theorem Q11z (p0 : Val) (H : Q1h4 p0) : (Qbn p0) ∧ (Q9s p0) ∧ True := by
  have hl := Q6h (Q2h H Q12)
  have g : ∀ x ∈ (dL p0 Q12).1, Val.Sm sB x := hl.2
  refine ⟨H, ?_, trivial⟩
  unfold Q9s
  refine ⟨Nat.le_trans hl.1 (Nat.le_of_ble_eq_true rfl), ?_⟩
  repeat' with_reducible apply And.intro
  all_goals first | exact True.intro | exact g
theorem Q1l0 (p0 : Val) (H : Q1h4 p0) : Qi G (Q1oe p0) (Q1ku p0) := by
 unfold Q1ku
 rw [Q1m9]
 have hl0 := Qjy p0 ((Q11z p0 H).2.1) (Qb p0 Q12).1 0 [] (Qb p0 Q12).2 (by simp) (by simp)
 obtain ⟨z0, zo0, hl0⟩ := hl0
 exact Qm (fn := Ir.K3g) rfl VOK.nil [hS 0 true (NodeTerm.Qp (Q4q p0 (Qb p0 Q12).1 0 [] (Qb p0 Q12).2).1 3 rfl), hQ (NodeTerm.Q9 (Q4q p0 (Qb p0 Q12).1 0 [] (Qb p0 Q12).2).1).symm] [aN (Qaj p0 Q12 (Q11z p0 H).1), aV [(0, NodeTerm.rows (Q4q p0 (Qb p0 Q12).1 0 [] (Qb p0 Q12).2).1)] hl0] (by kernel_rfl)
def Q4u (p0 : Val) : List Val → Nat → (List PodTerm) → Bool → (List PodTerm) × Bool
 | [], _i0, v0_1, v0_2 =>
  (v0_1, v0_2)
 | x0 :: r0, i0, v0_1, v0_2 =>
  bif (v0_2 == true) then
   Q4u p0 r0 (i0 + 1) (v0_1 ++ [(PodTerm.mk (Qn x0 Q7).1 (Qn x0 Q1w).1 (Q28 x0 Q8).1 (Qj x0 Ql).1 (Q5 x0 Qx).1)]) ((((((Q1u x0) && (Qn x0 Q1w).2) && (Qn x0 Q7).2) && (Q28 x0 Q8).2) && (Qj x0 Ql).2) && (Q5 x0 Qx).2)
  else
   Q4u p0 r0 (i0 + 1) (v0_1 ++ [(PodTerm.mk (Qn x0 Q7).1 (Qn x0 Q1w).1 (Q28 x0 Q8).1 (Qj x0 Ql).1 (Q5 x0 Qx).1)]) false
def Qm8 (p0 : Val) (i0 : Nat) (v0_1 : List PodTerm) (v0_2 : Bool) : List PV :=
  [.un, .un, .un, .un, .sl (Val.rows (Qb p0 Q14).1), .bool v0_2, .ms 0 5 0 (List.length v0_1), .int .i64 (i0 : Int)] ++ nuns 95
def Qd2 (_p0 : Val) (_i0 : Nat) (v0_1 : List PodTerm) (_v0_2 : Bool) : List Ob :=
  [⟨5, 0, true, (PodTerm.rows v0_1).flatten⟩]
def Qa8 (p0 : Val) (i0 : Nat) (v0_1 : List PodTerm) (v0_2 : Bool) : En := .loop 0 Ir.Qmn Ir.Q1ez (Qm8 p0 i0 v0_1 v0_2) (Qd2 p0 i0 v0_1 v0_2)
def Qrc (_p0 : Val) (q0 : List PodTerm) (q1 : Bool) (z : Nat → PV) (_zo : Nat → List PV) : St :=
  ⟨zr z 0 5 ++ [.bool q1, .ms 0 5 0 (List.length q0)] ++ zr z 7 96, [(0, ⟨5, 0, true, (PodTerm.rows q0).flatten⟩)], 257⟩
theorem Qrz (p0 : Val) (i0 : Nat) (v0_1 : List PodTerm) (v0_2 : Bool) : VOK (Go.Pv.look (number 0 (Qd2 p0 i0 v0_1 v0_2))) [(0, PodTerm.rows v0_1)] := (VOK.cons (show Seen _ _ from Q42 (ob := ⟨5, 0, true, (PodTerm.rows v0_1).flatten⟩) (PodTerm.Qp v0_1 5 rfl)) VOK.nil)
def Qfc (p0 : Val) (e : En) (q : (List PodTerm) × Bool) : Prop := ∃ z zo, Qi G e (.st (.exit 0) (Qrc p0 q.1 q.2 z zo))
theorem Qdc (p0 : Val) {e e' : En} (h : ∀ r, Qi G e r → Qi G e' r) : ∀ q, Qfc p0 e q → Qfc p0 e' q
  | _, ⟨z, zo, hz⟩ => ⟨z, zo, h _ hz⟩
def Q9y (p0 : Val) : Prop := (List.length (Qb p0 Q14).1 ≤ 137438953472) ∧ (∀ x0 ∈ (Qb p0 Q14).1, Qnc x0) ∧ (∀ x0 ∈ (Qb p0 Q14).1, Q14s x0) ∧ (∀ x0 ∈ (Qb p0 Q14).1, Qdv x0) ∧ (∀ x0 ∈ (Qb p0 Q14).1, Qai x0) ∧ True
def Qnx (p0 : Val) (i0 : Nat) (_v0_1 : List PodTerm) (_v0_2 : Bool) : List PV :=
  [.un, .un, .un, .un, .sl (Val.rows (Qb p0 Q14).1), .un, .un, .int .i64 (i0 : Int)] ++ nuns 15 ++ [.int .i64 (i0 : Int), .sl (Val.rows (Qb p0 Q14).1), .int .i64 ((List.length (Qb p0 Q14).1) : Int), .bool false]
def Qjt (_p0 : Val) (_i0 : Nat) (_v0_1 : List PodTerm) (_v0_2 : Bool) : List (Nat × List PV) :=
  []
theorem Q16j (p0 : Val) (_H : Q9y p0) (i0 : Nat) (v0_1 : List PodTerm) (v0_2 : Bool) (_ho0_0 : List.length v0_1 ≤ i0) (hc0 : (decide ((i0 : Int) < ((List.length (Qb p0 Q14).1) : Int))) = false) : Qfc p0 (Qa8 p0 i0 v0_1 v0_2) (v0_1, v0_2) := by
 exact ⟨(envF (Qnx p0 i0 v0_1 v0_2)), (zoF (Qjt p0 i0 v0_1 v0_2)), Q10 (Qrz p0 i0 v0_1 v0_2) (x := ((.exit 0), Qrc p0 v0_1 v0_2 (envF (Qnx p0 i0 v0_1 v0_2)) (zoF (Qjt p0 i0 v0_1 v0_2)))) [hP 2 (Qz (Val.rows (Qb p0 Q14).1) (List.length (Qb p0 Q14).1) (Val.Q9 (Qb p0 Q14).1)), hB 0 hc0] [] (by kernel_rfl)⟩
theorem Q16r (p0 : Val) (H : Q9y p0) (x0 : Val) (i0 : Nat) (v0_1 : List PodTerm) (v0_2 : Bool) (hx0 : (Qb p0 Q14).1[i0]? = some x0) (hi0 : i0 < List.length (Qb p0 Q14).1) (ho0_0 : List.length v0_1 ≤ i0) (hc0 : (decide ((i0 : Int) < ((List.length (Qb p0 Q14).1) : Int))) = true) (h0 : (v0_2 == true) = true) {r : Rs} (hr : Qi G (Qa8 p0 (i0 + 1) (v0_1 ++ [(PodTerm.mk (Qn x0 Q7).1 (Qn x0 Q1w).1 (Q28 x0 Q8).1 (Qj x0 Ql).1 (Q5 x0 Qx).1)]) ((((((Q1u x0) && (Qn x0 Q1w).2) && (Qn x0 Q7).2) && (Q28 x0 Q8).2) && (Qj x0 Ql).2) && (Q5 x0 Qx).2)) r) : Qi G (Qa8 p0 i0 v0_1 v0_2) r := by
 have hB0 := H.1
 exact Qw (Qrz p0 i0 v0_1 v0_2) (y := (Qm8 p0 (i0 + 1) (v0_1 ++ [(PodTerm.mk (Qn x0 Q7).1 (Qn x0 Q1w).1 (Q28 x0 Q8).1 (Qj x0 Ql).1 (Q5 x0 Qx).1)]) ((((((Q1u x0) && (Qn x0 Q1w).2) && (Qn x0 Q7).2) && (Q28 x0 Q8).2) && (Qj x0 Ql).2) && (Q5 x0 Qx).2), Qd2 p0 (i0 + 1) (v0_1 ++ [(PodTerm.mk (Qn x0 Q7).1 (Qn x0 Q1w).1 (Q28 x0 Q8).1 (Qj x0 Ql).1 (Q5 x0 Qx).1)]) ((((((Q1u x0) && (Qn x0 Q1w).2) && (Qn x0 Q7).2) && (Q28 x0 Q8).2) && (Qj x0 Ql).2) && (Q5 x0 Qx).2))) [hP 2 (Qz (Val.rows (Qb p0 Q14).1) (List.length (Qb p0 Q14).1) (Val.Q9 (Qb p0 Q14).1)), hB 0 hc0, hP 2 (Q15 5 (Val.rows (Qb p0 Q14).1) i0 _ (Val.Qe hx0) rfl), hP 9 (Q15 5 (Val.rows (Qb p0 Q14).1) i0 _ (Val.Qe hx0) rfl), hP 9 (Q15 5 (Val.rows (Qb p0 Q14).1) i0 _ (Val.Qe hx0) rfl), hP 9 (Q15 5 (Val.rows (Qb p0 Q14).1) i0 _ (Val.Qe hx0) rfl), hP 9 (Q15 5 (Val.rows (Qb p0 Q14).1) i0 _ (Val.Qe hx0) rfl), hV 15 [(3969, PodTerm.rows (v0_1 ++ [(PodTerm.mk (Qn x0 Q7).1 (Qn x0 Q1w).1 (Q28 x0 Q8).1 (Qj x0 Ql).1 (Q5 x0 Qx).1)]))] (Q3g 0 3905 3969 5 56 0 0 true (PodTerm.rows v0_1) (PodTerm.rows (v0_1 ++ [(PodTerm.mk (Qn x0 Q7).1 (Qn x0 Q1w).1 (Q28 x0 Q8).1 (Qj x0 Ql).1 (Q5 x0 Qx).1)])) (PodTerm.cells (PodTerm.mk (Qn x0 Q7).1 (Qn x0 Q1w).1 (Q28 x0 Q8).1 (Qj x0 Ql).1 (Q5 x0 Qx).1)) (List.length v0_1) (List.length (v0_1 ++ [(PodTerm.mk (Qn x0 Q7).1 (Qn x0 Q1w).1 (Q28 x0 Q8).1 (Qj x0 Ql).1 (Q5 x0 Qx).1)])) rfl (PodTerm.Q9 v0_1).symm (PodTerm.Q9 (v0_1 ++ [(PodTerm.mk (Qn x0 Q7).1 (Qn x0 Q1w).1 (Q28 x0 Q8).1 (Qj x0 Ql).1 (Q5 x0 Qx).1)])).symm (PodTerm.Q1n v0_1 (PodTerm.mk (Qn x0 Q7).1 (Qn x0 Q1w).1 (Q28 x0 Q8).1 (Qj x0 Ql).1 (Q5 x0 Qx).1)) (PodTerm.Q16 v0_1) rfl (by omega)), hS 0 true (PodTerm.Qp (v0_1 ++ [(PodTerm.mk (Qn x0 Q7).1 (Qn x0 Q1w).1 (Q28 x0 Q8).1 (Qj x0 Ql).1 (Q5 x0 Qx).1)]) 5 rfl), hB 1 (beqT h0), hP 3 (Q15 5 (Val.rows (Qb p0 Q14).1) i0 _ (Val.Qe hx0) rfl), hP 4 (Q45 (Q1u x0) (.bool (Qn x0 Q1w).2)), hP 0 (Q43 (Q1u x0) (Qn x0 Q1w).2), hP 1 (Q45 ((Q1u x0) && (Qn x0 Q1w).2) (.bool (Qn x0 Q7).2)), hP 0 (Q43 ((Q1u x0) && (Qn x0 Q1w).2) (Qn x0 Q7).2), hP 1 (Q45 (((Q1u x0) && (Qn x0 Q1w).2) && (Qn x0 Q7).2) (.bool (Q28 x0 Q8).2)), hP 0 (Q43 (((Q1u x0) && (Qn x0 Q1w).2) && (Qn x0 Q7).2) (Q28 x0 Q8).2), hP 1 (Q45 ((((Q1u x0) && (Qn x0 Q1w).2) && (Qn x0 Q7).2) && (Q28 x0 Q8).2) (.bool (Qj x0 Ql).2)), hP 0 (Q43 ((((Q1u x0) && (Qn x0 Q1w).2) && (Qn x0 Q7).2) && (Q28 x0 Q8).2) (Qj x0 Ql).2), hP 1 (Q45 (((((Q1u x0) && (Qn x0 Q1w).2) && (Qn x0 Q7).2) && (Q28 x0 Q8).2) && (Qj x0 Ql).2) (.bool (Q5 x0 Qx).2)), hP 0 (Q43 (((((Q1u x0) && (Qn x0 Q1w).2) && (Qn x0 Q7).2) && (Q28 x0 Q8).2) && (Qj x0 Ql).2) (Q5 x0 Qx).2), hP 2 (Q25 i0 (by omega))] [aN (Q3j x0 Q1w (H.2.1 x0 (Q13 hx0))), aN (Q3j x0 Q7 (H.2.1 x0 (Q13 hx0))), aN (Qvp x0 Q8 (H.2.2.1 x0 (Q13 hx0))), aN (Q3f x0 Ql (H.2.2.2.1 x0 (Q13 hx0))), aN (Q2m x0 Qx (H.2.2.2.2.1 x0 (Q13 hx0))), aN (Q4g x0)] (by kernel_rfl) hr
theorem Q18o (p0 : Val) (H : Q9y p0) (x0 : Val) (i0 : Nat) (v0_1 : List PodTerm) (v0_2 : Bool) (hx0 : (Qb p0 Q14).1[i0]? = some x0) (hi0 : i0 < List.length (Qb p0 Q14).1) (ho0_0 : List.length v0_1 ≤ i0) (hc0 : (decide ((i0 : Int) < ((List.length (Qb p0 Q14).1) : Int))) = true) (h0 : (v0_2 == true) = false) {r : Rs} (hr : Qi G (Qa8 p0 (i0 + 1) (v0_1 ++ [(PodTerm.mk (Qn x0 Q7).1 (Qn x0 Q1w).1 (Q28 x0 Q8).1 (Qj x0 Ql).1 (Q5 x0 Qx).1)]) false) r) : Qi G (Qa8 p0 i0 v0_1 v0_2) r := by
 have hB0 := H.1
 exact Qw (Qrz p0 i0 v0_1 v0_2) (y := (Qm8 p0 (i0 + 1) (v0_1 ++ [(PodTerm.mk (Qn x0 Q7).1 (Qn x0 Q1w).1 (Q28 x0 Q8).1 (Qj x0 Ql).1 (Q5 x0 Qx).1)]) false, Qd2 p0 (i0 + 1) (v0_1 ++ [(PodTerm.mk (Qn x0 Q7).1 (Qn x0 Q1w).1 (Q28 x0 Q8).1 (Qj x0 Ql).1 (Q5 x0 Qx).1)]) false)) [hP 2 (Qz (Val.rows (Qb p0 Q14).1) (List.length (Qb p0 Q14).1) (Val.Q9 (Qb p0 Q14).1)), hB 0 hc0, hP 2 (Q15 5 (Val.rows (Qb p0 Q14).1) i0 _ (Val.Qe hx0) rfl), hP 9 (Q15 5 (Val.rows (Qb p0 Q14).1) i0 _ (Val.Qe hx0) rfl), hP 9 (Q15 5 (Val.rows (Qb p0 Q14).1) i0 _ (Val.Qe hx0) rfl), hP 9 (Q15 5 (Val.rows (Qb p0 Q14).1) i0 _ (Val.Qe hx0) rfl), hP 9 (Q15 5 (Val.rows (Qb p0 Q14).1) i0 _ (Val.Qe hx0) rfl), hV 15 [(3969, PodTerm.rows (v0_1 ++ [(PodTerm.mk (Qn x0 Q7).1 (Qn x0 Q1w).1 (Q28 x0 Q8).1 (Qj x0 Ql).1 (Q5 x0 Qx).1)]))] (Q3g 0 3905 3969 5 56 0 0 true (PodTerm.rows v0_1) (PodTerm.rows (v0_1 ++ [(PodTerm.mk (Qn x0 Q7).1 (Qn x0 Q1w).1 (Q28 x0 Q8).1 (Qj x0 Ql).1 (Q5 x0 Qx).1)])) (PodTerm.cells (PodTerm.mk (Qn x0 Q7).1 (Qn x0 Q1w).1 (Q28 x0 Q8).1 (Qj x0 Ql).1 (Q5 x0 Qx).1)) (List.length v0_1) (List.length (v0_1 ++ [(PodTerm.mk (Qn x0 Q7).1 (Qn x0 Q1w).1 (Q28 x0 Q8).1 (Qj x0 Ql).1 (Q5 x0 Qx).1)])) rfl (PodTerm.Q9 v0_1).symm (PodTerm.Q9 (v0_1 ++ [(PodTerm.mk (Qn x0 Q7).1 (Qn x0 Q1w).1 (Q28 x0 Q8).1 (Qj x0 Ql).1 (Q5 x0 Qx).1)])).symm (PodTerm.Q1n v0_1 (PodTerm.mk (Qn x0 Q7).1 (Qn x0 Q1w).1 (Q28 x0 Q8).1 (Qj x0 Ql).1 (Q5 x0 Qx).1)) (PodTerm.Q16 v0_1) rfl (by omega)), hS 0 true (PodTerm.Qp (v0_1 ++ [(PodTerm.mk (Qn x0 Q7).1 (Qn x0 Q1w).1 (Q28 x0 Q8).1 (Qj x0 Ql).1 (Q5 x0 Qx).1)]) 5 rfl), hB 1 (beqT h0), hP 24 (Q25 i0 (by omega))] [aN (Q3j x0 Q1w (H.2.1 x0 (Q13 hx0))), aN (Q3j x0 Q7 (H.2.1 x0 (Q13 hx0))), aN (Qvp x0 Q8 (H.2.2.1 x0 (Q13 hx0))), aN (Q3f x0 Ql (H.2.2.2.1 x0 (Q13 hx0))), aN (Q2m x0 Qx (H.2.2.2.2.1 x0 (Q13 hx0)))] (by kernel_rfl) hr
theorem Qlo (p0 : Val) (H : Q9y p0) : ∀ (r0 : List Val) (i0 : Nat) (v0_1 : List PodTerm) (v0_2 : Bool), List.drop i0 (Qb p0 Q14).1 = r0 → List.length v0_1 ≤ i0 → Qfc p0 (Qa8 p0 i0 v0_1 v0_2) (Q4u p0 r0 i0 v0_1 v0_2)
 | [], i0, v0_1, v0_2, hd, ho0_0 => by
  have hc0 : (decide ((i0 : Int) < ((List.length (Qb p0 Q14).1) : Int))) = false := by have := Q1v hd; simp; omega
  rw [Q4u]
  exact Q16j p0 H i0 v0_1 v0_2 ho0_0 hc0
 | x0 :: r0, i0, v0_1, v0_2, hd, ho0_0 => by
  obtain ⟨hx0, hi0, hd'⟩ := Q1s hd
  have hc0 : (decide ((i0 : Int) < ((List.length (Qb p0 Q14).1) : Int))) = true := by simp; omega
  rw [Q4u]
  cases h0 : (v0_2 == true) with
  | true =>
   exact Qdc p0 (fun r hr => Q16r p0 H x0 i0 v0_1 v0_2 hx0 hi0 ho0_0 hc0 h0 hr) _ (Qlo p0 H r0 (i0 + 1) (v0_1 ++ [(PodTerm.mk (Qn x0 Q7).1 (Qn x0 Q1w).1 (Q28 x0 Q8).1 (Qj x0 Ql).1 (Q5 x0 Qx).1)]) ((((((Q1u x0) && (Qn x0 Q1w).2) && (Qn x0 Q7).2) && (Q28 x0 Q8).2) && (Qj x0 Ql).2) && (Q5 x0 Qx).2) hd' (by first | omega | (simp; omega)))
  | false =>
   exact Qdc p0 (fun r hr => Q18o p0 H x0 i0 v0_1 v0_2 hx0 hi0 ho0_0 hc0 h0 hr) _ (Qlo p0 H r0 (i0 + 1) (v0_1 ++ [(PodTerm.mk (Qn x0 Q7).1 (Qn x0 Q1w).1 (Q28 x0 Q8).1 (Qj x0 Ql).1 (Q5 x0 Qx).1)]) false hd' (by first | omega | (simp; omega)))
def Qdb (p0 : Val) : List PodTerm × Bool := dE PodTerm.rdec p0 Q14
theorem Qud (p0 : Val) : ∀ (l : List Val) (i : Nat) (a : List PodTerm) (b : Bool), Q4u p0 l i a b = (a ++ l.map (fun x => (PodTerm.rdec x).1), b && l.all fun x => (PodTerm.rdec x).2)
  | [], _, a, b => by rw [Q4u]; simp
  | x :: l, i, a, b => by
    rw [Q4u]
    cases b with
    | false => exact (Qud p0 l (i + 1) (a ++ [(PodTerm.rdec x).1]) false).trans (by simp only [List.append_assoc, List.singleton_append, List.map_cons, List.all_cons, Bool.false_and])
    | true => exact (Qud p0 l (i + 1) (a ++ [(PodTerm.rdec x).1]) (PodTerm.rdec x).2).trans (by simp only [List.append_assoc, List.singleton_append, List.map_cons, List.all_cons, Bool.true_and])
theorem Q1qh (p0 : Val) : Qdb p0 = (((Q4u p0 (Qb p0 Q14).1 0 [] (Qb p0 Q14).2).1, (Q4u p0 (Qb p0 Q14).1 0 [] (Qb p0 Q14).2).2)) := by
  rw [Qud]
  rfl
def Q1pj (p0 : Val) : En := .call 102 [.agg (Val.cells p0)] []
def Q1ji (p0 : Val) : Rs := .ret (.tup [.sl (PodTerm.rows (Qdb p0).1), .bool (Qdb p0).2]) []
def Q1fx (p0 : Val) : Prop := Val.Sm 1000000000 p0
theorem Q12j (p0 : Val) (H : Q1fx p0) : (Qbn p0) ∧ (Q9y p0) ∧ True := by
  have hl := Q6h (Q2h H Q14)
  have g : ∀ x ∈ (dL p0 Q14).1, Val.Sm sB x := hl.2
  refine ⟨H, ?_, trivial⟩
  unfold Q9y
  refine ⟨Nat.le_trans hl.1 (Nat.le_of_ble_eq_true rfl), ?_⟩
  repeat' with_reducible apply And.intro
  all_goals first | exact True.intro | exact g
theorem Q1k9 (p0 : Val) (H : Q1fx p0) : Qi G (Q1pj p0) (Q1ji p0) := by
 unfold Q1ji
 rw [Q1qh]
 have hl0 := Qlo p0 ((Q12j p0 H).2.1) (Qb p0 Q14).1 0 [] (Qb p0 Q14).2 (by simp) (by simp)
 obtain ⟨z0, zo0, hl0⟩ := hl0
 exact Qm (fn := Ir.K3h) rfl VOK.nil [hS 0 true (PodTerm.Qp (Q4u p0 (Qb p0 Q14).1 0 [] (Qb p0 Q14).2).1 5 rfl), hQ (PodTerm.Q9 (Q4u p0 (Qb p0 Q14).1 0 [] (Qb p0 Q14).2).1).symm] [aN (Qaj p0 Q14 (Q12j p0 H).1), aV [(0, PodTerm.rows (Q4u p0 (Qb p0 Q14).1 0 [] (Qb p0 Q14).2).1)] hl0] (by kernel_rfl)
def Q4s (p0 : Val) : List Val → Nat → (List SpreadRule) → Bool → (List SpreadRule) × Bool
 | [], _i0, v0_1, v0_2 =>
  (v0_1, v0_2)
 | x0 :: r0, i0, v0_1, v0_2 =>
  bif (v0_2 == true) then
   Q4s p0 r0 (i0 + 1) (v0_1 ++ [(SpreadRule.mk (Q5 x0 Q17).1 (Qj x0 Ql).1 (Q28 x0 Q8).1 (Qn x0 Q7).1)]) (((((Q1u x0) && (Q5 x0 Q17).2) && (Qn x0 Q7).2) && (Q28 x0 Q8).2) && (Qj x0 Ql).2)
  else
   Q4s p0 r0 (i0 + 1) (v0_1 ++ [(SpreadRule.mk (Q5 x0 Q17).1 (Qj x0 Ql).1 (Q28 x0 Q8).1 (Qn x0 Q7).1)]) false
def Qm2 (p0 : Val) (i0 : Nat) (v0_1 : List SpreadRule) (v0_2 : Bool) : List PV :=
  [.un, .un, .un, .un, .sl (Val.rows (Qb p0 Q1d).1), .bool v0_2, .ms 0 4 0 (List.length v0_1), .int .i64 (i0 : Int)] ++ nuns 81
def Qbz (_p0 : Val) (_i0 : Nat) (v0_1 : List SpreadRule) (_v0_2 : Bool) : List Ob :=
  [⟨4, 0, true, (SpreadRule.rows v0_1).flatten⟩]
def Qaa (p0 : Val) (i0 : Nat) (v0_1 : List SpreadRule) (v0_2 : Bool) : En := .loop 0 Ir.Qls Ir.Q1e1 (Qm2 p0 i0 v0_1 v0_2) (Qbz p0 i0 v0_1 v0_2)
def Qr6 (_p0 : Val) (q0 : List SpreadRule) (q1 : Bool) (z : Nat → PV) (_zo : Nat → List PV) : St :=
  ⟨zr z 0 5 ++ [.bool q1, .ms 0 4 0 (List.length q0)] ++ zr z 7 82, [(0, ⟨4, 0, true, (SpreadRule.rows q0).flatten⟩)], 257⟩
theorem Qt9 (p0 : Val) (i0 : Nat) (v0_1 : List SpreadRule) (v0_2 : Bool) : VOK (Go.Pv.look (number 0 (Qbz p0 i0 v0_1 v0_2))) [(0, SpreadRule.rows v0_1)] := (VOK.cons (show Seen _ _ from Q42 (ob := ⟨4, 0, true, (SpreadRule.rows v0_1).flatten⟩) (SpreadRule.Qp v0_1 4 rfl)) VOK.nil)
def Qg0 (p0 : Val) (e : En) (q : (List SpreadRule) × Bool) : Prop := ∃ z zo, Qi G e (.st (.exit 0) (Qr6 p0 q.1 q.2 z zo))
theorem Qbp (p0 : Val) {e e' : En} (h : ∀ r, Qi G e r → Qi G e' r) : ∀ q, Qg0 p0 e q → Qg0 p0 e' q
  | _, ⟨z, zo, hz⟩ => ⟨z, zo, h _ hz⟩
def Q9m (p0 : Val) : Prop := (List.length (Qb p0 Q1d).1 ≤ 137438953472) ∧ (∀ x0 ∈ (Qb p0 Q1d).1, Qai x0) ∧ (∀ x0 ∈ (Qb p0 Q1d).1, Qnc x0) ∧ (∀ x0 ∈ (Qb p0 Q1d).1, Q14s x0) ∧ (∀ x0 ∈ (Qb p0 Q1d).1, Qdv x0) ∧ True
def Qpd (p0 : Val) (i0 : Nat) (_v0_1 : List SpreadRule) (_v0_2 : Bool) : List PV :=
  [.un, .un, .un, .un, .sl (Val.rows (Qb p0 Q1d).1), .un, .un, .int .i64 (i0 : Int)] ++ nuns 13 ++ [.int .i64 (i0 : Int), .sl (Val.rows (Qb p0 Q1d).1), .int .i64 ((List.length (Qb p0 Q1d).1) : Int), .bool false]
def Qjf (_p0 : Val) (_i0 : Nat) (_v0_1 : List SpreadRule) (_v0_2 : Bool) : List (Nat × List PV) :=
  []
theorem Q16q (p0 : Val) (_H : Q9m p0) (i0 : Nat) (v0_1 : List SpreadRule) (v0_2 : Bool) (_ho0_0 : List.length v0_1 ≤ i0) (hc0 : (decide ((i0 : Int) < ((List.length (Qb p0 Q1d).1) : Int))) = false) : Qg0 p0 (Qaa p0 i0 v0_1 v0_2) (v0_1, v0_2) := by
 exact ⟨(envF (Qpd p0 i0 v0_1 v0_2)), (zoF (Qjf p0 i0 v0_1 v0_2)), Q10 (Qt9 p0 i0 v0_1 v0_2) (x := ((.exit 0), Qr6 p0 v0_1 v0_2 (envF (Qpd p0 i0 v0_1 v0_2)) (zoF (Qjf p0 i0 v0_1 v0_2)))) [hP 2 (Qz (Val.rows (Qb p0 Q1d).1) (List.length (Qb p0 Q1d).1) (Val.Q9 (Qb p0 Q1d).1)), hB 0 hc0] [] (by kernel_rfl)⟩
theorem Q179 (p0 : Val) (H : Q9m p0) (x0 : Val) (i0 : Nat) (v0_1 : List SpreadRule) (v0_2 : Bool) (hx0 : (Qb p0 Q1d).1[i0]? = some x0) (hi0 : i0 < List.length (Qb p0 Q1d).1) (ho0_0 : List.length v0_1 ≤ i0) (hc0 : (decide ((i0 : Int) < ((List.length (Qb p0 Q1d).1) : Int))) = true) (h0 : (v0_2 == true) = true) {r : Rs} (hr : Qi G (Qaa p0 (i0 + 1) (v0_1 ++ [(SpreadRule.mk (Q5 x0 Q17).1 (Qj x0 Ql).1 (Q28 x0 Q8).1 (Qn x0 Q7).1)]) (((((Q1u x0) && (Q5 x0 Q17).2) && (Qn x0 Q7).2) && (Q28 x0 Q8).2) && (Qj x0 Ql).2)) r) : Qi G (Qaa p0 i0 v0_1 v0_2) r := by
 have hB0 := H.1
 exact Qw (Qt9 p0 i0 v0_1 v0_2) (y := (Qm2 p0 (i0 + 1) (v0_1 ++ [(SpreadRule.mk (Q5 x0 Q17).1 (Qj x0 Ql).1 (Q28 x0 Q8).1 (Qn x0 Q7).1)]) (((((Q1u x0) && (Q5 x0 Q17).2) && (Qn x0 Q7).2) && (Q28 x0 Q8).2) && (Qj x0 Ql).2), Qbz p0 (i0 + 1) (v0_1 ++ [(SpreadRule.mk (Q5 x0 Q17).1 (Qj x0 Ql).1 (Q28 x0 Q8).1 (Qn x0 Q7).1)]) (((((Q1u x0) && (Q5 x0 Q17).2) && (Qn x0 Q7).2) && (Q28 x0 Q8).2) && (Qj x0 Ql).2))) [hP 2 (Qz (Val.rows (Qb p0 Q1d).1) (List.length (Qb p0 Q1d).1) (Val.Q9 (Qb p0 Q1d).1)), hB 0 hc0, hP 2 (Q15 5 (Val.rows (Qb p0 Q1d).1) i0 _ (Val.Qe hx0) rfl), hP 9 (Q15 5 (Val.rows (Qb p0 Q1d).1) i0 _ (Val.Qe hx0) rfl), hP 9 (Q15 5 (Val.rows (Qb p0 Q1d).1) i0 _ (Val.Qe hx0) rfl), hP 9 (Q15 5 (Val.rows (Qb p0 Q1d).1) i0 _ (Val.Qe hx0) rfl), hV 14 [(3265, SpreadRule.rows (v0_1 ++ [(SpreadRule.mk (Q5 x0 Q17).1 (Qj x0 Ql).1 (Q28 x0 Q8).1 (Qn x0 Q7).1)]))] (Q3g 0 3201 3265 4 56 0 0 true (SpreadRule.rows v0_1) (SpreadRule.rows (v0_1 ++ [(SpreadRule.mk (Q5 x0 Q17).1 (Qj x0 Ql).1 (Q28 x0 Q8).1 (Qn x0 Q7).1)])) (SpreadRule.cells (SpreadRule.mk (Q5 x0 Q17).1 (Qj x0 Ql).1 (Q28 x0 Q8).1 (Qn x0 Q7).1)) (List.length v0_1) (List.length (v0_1 ++ [(SpreadRule.mk (Q5 x0 Q17).1 (Qj x0 Ql).1 (Q28 x0 Q8).1 (Qn x0 Q7).1)])) rfl (SpreadRule.Q9 v0_1).symm (SpreadRule.Q9 (v0_1 ++ [(SpreadRule.mk (Q5 x0 Q17).1 (Qj x0 Ql).1 (Q28 x0 Q8).1 (Qn x0 Q7).1)])).symm (SpreadRule.Q1n v0_1 (SpreadRule.mk (Q5 x0 Q17).1 (Qj x0 Ql).1 (Q28 x0 Q8).1 (Qn x0 Q7).1)) (SpreadRule.Q16 v0_1) rfl (by omega)), hS 0 true (SpreadRule.Qp (v0_1 ++ [(SpreadRule.mk (Q5 x0 Q17).1 (Qj x0 Ql).1 (Q28 x0 Q8).1 (Qn x0 Q7).1)]) 4 rfl), hB 1 (beqT h0), hP 3 (Q15 5 (Val.rows (Qb p0 Q1d).1) i0 _ (Val.Qe hx0) rfl), hP 4 (Q45 (Q1u x0) (.bool (Q5 x0 Q17).2)), hP 0 (Q43 (Q1u x0) (Q5 x0 Q17).2), hP 1 (Q45 ((Q1u x0) && (Q5 x0 Q17).2) (.bool (Qn x0 Q7).2)), hP 0 (Q43 ((Q1u x0) && (Q5 x0 Q17).2) (Qn x0 Q7).2), hP 1 (Q45 (((Q1u x0) && (Q5 x0 Q17).2) && (Qn x0 Q7).2) (.bool (Q28 x0 Q8).2)), hP 0 (Q43 (((Q1u x0) && (Q5 x0 Q17).2) && (Qn x0 Q7).2) (Q28 x0 Q8).2), hP 1 (Q45 ((((Q1u x0) && (Q5 x0 Q17).2) && (Qn x0 Q7).2) && (Q28 x0 Q8).2) (.bool (Qj x0 Ql).2)), hP 0 (Q43 ((((Q1u x0) && (Q5 x0 Q17).2) && (Qn x0 Q7).2) && (Q28 x0 Q8).2) (Qj x0 Ql).2), hP 2 (Q25 i0 (by omega))] [aN (Q2m x0 Q17 (H.2.1 x0 (Q13 hx0))), aN (Q3j x0 Q7 (H.2.2.1 x0 (Q13 hx0))), aN (Qvp x0 Q8 (H.2.2.2.1 x0 (Q13 hx0))), aN (Q3f x0 Ql (H.2.2.2.2.1 x0 (Q13 hx0))), aN (Q4g x0)] (by kernel_rfl) hr
theorem Q16y (p0 : Val) (H : Q9m p0) (x0 : Val) (i0 : Nat) (v0_1 : List SpreadRule) (v0_2 : Bool) (hx0 : (Qb p0 Q1d).1[i0]? = some x0) (hi0 : i0 < List.length (Qb p0 Q1d).1) (ho0_0 : List.length v0_1 ≤ i0) (hc0 : (decide ((i0 : Int) < ((List.length (Qb p0 Q1d).1) : Int))) = true) (h0 : (v0_2 == true) = false) {r : Rs} (hr : Qi G (Qaa p0 (i0 + 1) (v0_1 ++ [(SpreadRule.mk (Q5 x0 Q17).1 (Qj x0 Ql).1 (Q28 x0 Q8).1 (Qn x0 Q7).1)]) false) r) : Qi G (Qaa p0 i0 v0_1 v0_2) r := by
 have hB0 := H.1
 exact Qw (Qt9 p0 i0 v0_1 v0_2) (y := (Qm2 p0 (i0 + 1) (v0_1 ++ [(SpreadRule.mk (Q5 x0 Q17).1 (Qj x0 Ql).1 (Q28 x0 Q8).1 (Qn x0 Q7).1)]) false, Qbz p0 (i0 + 1) (v0_1 ++ [(SpreadRule.mk (Q5 x0 Q17).1 (Qj x0 Ql).1 (Q28 x0 Q8).1 (Qn x0 Q7).1)]) false)) [hP 2 (Qz (Val.rows (Qb p0 Q1d).1) (List.length (Qb p0 Q1d).1) (Val.Q9 (Qb p0 Q1d).1)), hB 0 hc0, hP 2 (Q15 5 (Val.rows (Qb p0 Q1d).1) i0 _ (Val.Qe hx0) rfl), hP 9 (Q15 5 (Val.rows (Qb p0 Q1d).1) i0 _ (Val.Qe hx0) rfl), hP 9 (Q15 5 (Val.rows (Qb p0 Q1d).1) i0 _ (Val.Qe hx0) rfl), hP 9 (Q15 5 (Val.rows (Qb p0 Q1d).1) i0 _ (Val.Qe hx0) rfl), hV 14 [(3265, SpreadRule.rows (v0_1 ++ [(SpreadRule.mk (Q5 x0 Q17).1 (Qj x0 Ql).1 (Q28 x0 Q8).1 (Qn x0 Q7).1)]))] (Q3g 0 3201 3265 4 56 0 0 true (SpreadRule.rows v0_1) (SpreadRule.rows (v0_1 ++ [(SpreadRule.mk (Q5 x0 Q17).1 (Qj x0 Ql).1 (Q28 x0 Q8).1 (Qn x0 Q7).1)])) (SpreadRule.cells (SpreadRule.mk (Q5 x0 Q17).1 (Qj x0 Ql).1 (Q28 x0 Q8).1 (Qn x0 Q7).1)) (List.length v0_1) (List.length (v0_1 ++ [(SpreadRule.mk (Q5 x0 Q17).1 (Qj x0 Ql).1 (Q28 x0 Q8).1 (Qn x0 Q7).1)])) rfl (SpreadRule.Q9 v0_1).symm (SpreadRule.Q9 (v0_1 ++ [(SpreadRule.mk (Q5 x0 Q17).1 (Qj x0 Ql).1 (Q28 x0 Q8).1 (Qn x0 Q7).1)])).symm (SpreadRule.Q1n v0_1 (SpreadRule.mk (Q5 x0 Q17).1 (Qj x0 Ql).1 (Q28 x0 Q8).1 (Qn x0 Q7).1)) (SpreadRule.Q16 v0_1) rfl (by omega)), hS 0 true (SpreadRule.Qp (v0_1 ++ [(SpreadRule.mk (Q5 x0 Q17).1 (Qj x0 Ql).1 (Q28 x0 Q8).1 (Qn x0 Q7).1)]) 4 rfl), hB 1 (beqT h0), hP 21 (Q25 i0 (by omega))] [aN (Q2m x0 Q17 (H.2.1 x0 (Q13 hx0))), aN (Q3j x0 Q7 (H.2.2.1 x0 (Q13 hx0))), aN (Qvp x0 Q8 (H.2.2.2.1 x0 (Q13 hx0))), aN (Q3f x0 Ql (H.2.2.2.2.1 x0 (Q13 hx0)))] (by kernel_rfl) hr
theorem Qk8 (p0 : Val) (H : Q9m p0) : ∀ (r0 : List Val) (i0 : Nat) (v0_1 : List SpreadRule) (v0_2 : Bool), List.drop i0 (Qb p0 Q1d).1 = r0 → List.length v0_1 ≤ i0 → Qg0 p0 (Qaa p0 i0 v0_1 v0_2) (Q4s p0 r0 i0 v0_1 v0_2)
 | [], i0, v0_1, v0_2, hd, ho0_0 => by
  have hc0 : (decide ((i0 : Int) < ((List.length (Qb p0 Q1d).1) : Int))) = false := by have := Q1v hd; simp; omega
  rw [Q4s]
  exact Q16q p0 H i0 v0_1 v0_2 ho0_0 hc0
 | x0 :: r0, i0, v0_1, v0_2, hd, ho0_0 => by
  obtain ⟨hx0, hi0, hd'⟩ := Q1s hd
  have hc0 : (decide ((i0 : Int) < ((List.length (Qb p0 Q1d).1) : Int))) = true := by simp; omega
  rw [Q4s]
  cases h0 : (v0_2 == true) with
  | true =>
   exact Qbp p0 (fun r hr => Q179 p0 H x0 i0 v0_1 v0_2 hx0 hi0 ho0_0 hc0 h0 hr) _ (Qk8 p0 H r0 (i0 + 1) (v0_1 ++ [(SpreadRule.mk (Q5 x0 Q17).1 (Qj x0 Ql).1 (Q28 x0 Q8).1 (Qn x0 Q7).1)]) (((((Q1u x0) && (Q5 x0 Q17).2) && (Qn x0 Q7).2) && (Q28 x0 Q8).2) && (Qj x0 Ql).2) hd' (by first | omega | (simp; omega)))
  | false =>
   exact Qbp p0 (fun r hr => Q16y p0 H x0 i0 v0_1 v0_2 hx0 hi0 ho0_0 hc0 h0 hr) _ (Qk8 p0 H r0 (i0 + 1) (v0_1 ++ [(SpreadRule.mk (Q5 x0 Q17).1 (Qj x0 Ql).1 (Q28 x0 Q8).1 (Qn x0 Q7).1)]) false hd' (by first | omega | (simp; omega)))
def Qc9 (p0 : Val) : List SpreadRule × Bool := dE SpreadRule.rdec p0 Q1d
theorem Qs0 (p0 : Val) : ∀ (l : List Val) (i : Nat) (a : List SpreadRule) (b : Bool), Q4s p0 l i a b = (a ++ l.map (fun x => (SpreadRule.rdec x).1), b && l.all fun x => (SpreadRule.rdec x).2)
  | [], _, a, b => by rw [Q4s]; simp
  | x :: l, i, a, b => by
    rw [Q4s]
    cases b with
    | false => exact (Qs0 p0 l (i + 1) (a ++ [(SpreadRule.rdec x).1]) false).trans (by simp only [List.append_assoc, List.singleton_append, List.map_cons, List.all_cons, Bool.false_and])
    | true => exact (Qs0 p0 l (i + 1) (a ++ [(SpreadRule.rdec x).1]) (SpreadRule.rdec x).2).trans (by simp only [List.append_assoc, List.singleton_append, List.map_cons, List.all_cons, Bool.true_and])
theorem Q1ql (p0 : Val) : Qc9 p0 = (((Q4s p0 (Qb p0 Q1d).1 0 [] (Qb p0 Q1d).2).1, (Q4s p0 (Qb p0 Q1d).1 0 [] (Qb p0 Q1d).2).2)) := by
  rw [Qs0]
  rfl
def Q1nl (p0 : Val) : En := .call 103 [.agg (Val.cells p0)] []
def Q1ih (p0 : Val) : Rs := .ret (.tup [.sl (SpreadRule.rows (Qc9 p0).1), .bool (Qc9 p0).2]) []
def Q1gv (p0 : Val) : Prop := Val.Sm 1000000000 p0
theorem Q144 (p0 : Val) (H : Q1gv p0) : (Qbn p0) ∧ (Q9m p0) ∧ True := by
  have hl := Q6h (Q2h H Q1d)
  have g : ∀ x ∈ (dL p0 Q1d).1, Val.Sm sB x := hl.2
  refine ⟨H, ?_, trivial⟩
  unfold Q9m
  refine ⟨Nat.le_trans hl.1 (Nat.le_of_ble_eq_true rfl), ?_⟩
  repeat' with_reducible apply And.intro
  all_goals first | exact True.intro | exact g
theorem Q1kr (p0 : Val) (H : Q1gv p0) : Qi G (Q1nl p0) (Q1ih p0) := by
 unfold Q1ih
 rw [Q1ql]
 have hl0 := Qk8 p0 ((Q144 p0 H).2.1) (Qb p0 Q1d).1 0 [] (Qb p0 Q1d).2 (by simp) (by simp)
 obtain ⟨z0, zo0, hl0⟩ := hl0
 exact Qm (fn := Ir.K3l) rfl VOK.nil [hS 0 true (SpreadRule.Qp (Q4s p0 (Qb p0 Q1d).1 0 [] (Qb p0 Q1d).2).1 4 rfl), hQ (SpreadRule.Q9 (Q4s p0 (Qb p0 Q1d).1 0 [] (Qb p0 Q1d).2).1).symm] [aN (Qaj p0 Q1d (Q144 p0 H).1), aV [(0, SpreadRule.rows (Q4s p0 (Qb p0 Q1d).1 0 [] (Qb p0 Q1d).2).1)] hl0] (by kernel_rfl)
def Q4p (p0 : Val) : List Val → Nat → (List Toleration) → Bool → (List Toleration) × Bool
 | [], _i0, v0_1, v0_2 =>
  (v0_1, v0_2)
 | x0 :: r0, i0, v0_1, v0_2 =>
  bif (v0_2 == true) then
   Q4p p0 r0 (i0 + 1) (v0_1 ++ [(Toleration.mk (Qj x0 Qs).1 (Qj x0 Qo).1 (Qn x0 Q1j).1 (Q5 x0 Qr).1 (Q5 x0 Q1h).1)]) ((((((Q1u x0) && (Q5 x0 Qr).2) && (Qn x0 Q1j).2) && (Qj x0 Qs).2) && (Q5 x0 Q1h).2) && (Qj x0 Qo).2)
  else
   Q4p p0 r0 (i0 + 1) (v0_1 ++ [(Toleration.mk (Qj x0 Qs).1 (Qj x0 Qo).1 (Qn x0 Q1j).1 (Q5 x0 Qr).1 (Q5 x0 Q1h).1)]) false
def Qlp (p0 : Val) (i0 : Nat) (v0_1 : List Toleration) (v0_2 : Bool) : List PV :=
  [.un, .un, .un, .un, .sl (Val.rows (Qb p0 Qu).1), .bool v0_2, .ms 0 5 0 (List.length v0_1), .int .i64 (i0 : Int)] ++ nuns 95
def Qbr (_p0 : Val) (_i0 : Nat) (v0_1 : List Toleration) (_v0_2 : Bool) : List Ob :=
  [⟨5, 0, true, (Toleration.rows v0_1).flatten⟩]
def Q9u (p0 : Val) (i0 : Nat) (v0_1 : List Toleration) (v0_2 : Bool) : En := .loop 0 Ir.Qm4 Ir.Q1e6 (Qlp p0 i0 v0_1 v0_2) (Qbr p0 i0 v0_1 v0_2)
def Qnk (_p0 : Val) (q0 : List Toleration) (q1 : Bool) (z : Nat → PV) (_zo : Nat → List PV) : St :=
  ⟨zr z 0 5 ++ [.bool q1, .ms 0 5 0 (List.length q0)] ++ zr z 7 96, [(0, ⟨5, 0, true, (Toleration.rows q0).flatten⟩)], 257⟩
theorem Qtu (p0 : Val) (i0 : Nat) (v0_1 : List Toleration) (v0_2 : Bool) : VOK (Go.Pv.look (number 0 (Qbr p0 i0 v0_1 v0_2))) [(0, Toleration.rows v0_1)] := (VOK.cons (show Seen _ _ from Q42 (ob := ⟨5, 0, true, (Toleration.rows v0_1).flatten⟩) (Toleration.Qp v0_1 5 rfl)) VOK.nil)
def Qfa (p0 : Val) (e : En) (q : (List Toleration) × Bool) : Prop := ∃ z zo, Qi G e (.st (.exit 0) (Qnk p0 q.1 q.2 z zo))
theorem Qdd (p0 : Val) {e e' : En} (h : ∀ r, Qi G e r → Qi G e' r) : ∀ q, Qfa p0 e q → Qfa p0 e' q
  | _, ⟨z, zo, hz⟩ => ⟨z, zo, h _ hz⟩
def Qae (p0 : Val) : Prop := (List.length (Qb p0 Qu).1 ≤ 137438953472) ∧ (∀ x0 ∈ (Qb p0 Qu).1, Qai x0) ∧ (∀ x0 ∈ (Qb p0 Qu).1, Qnc x0) ∧ (∀ x0 ∈ (Qb p0 Qu).1, Qdv x0) ∧ True
def Qoe (p0 : Val) (i0 : Nat) (_v0_1 : List Toleration) (_v0_2 : Bool) : List PV :=
  [.un, .un, .un, .un, .sl (Val.rows (Qb p0 Qu).1), .un, .un, .int .i64 (i0 : Int)] ++ nuns 15 ++ [.int .i64 (i0 : Int), .sl (Val.rows (Qb p0 Qu).1), .int .i64 ((List.length (Qb p0 Qu).1) : Int), .bool false]
def Qkh (_p0 : Val) (_i0 : Nat) (_v0_1 : List Toleration) (_v0_2 : Bool) : List (Nat × List PV) :=
  []
theorem Q15e (p0 : Val) (_H : Qae p0) (i0 : Nat) (v0_1 : List Toleration) (v0_2 : Bool) (_ho0_0 : List.length v0_1 ≤ i0) (hc0 : (decide ((i0 : Int) < ((List.length (Qb p0 Qu).1) : Int))) = false) : Qfa p0 (Q9u p0 i0 v0_1 v0_2) (v0_1, v0_2) := by
 exact ⟨(envF (Qoe p0 i0 v0_1 v0_2)), (zoF (Qkh p0 i0 v0_1 v0_2)), Q10 (Qtu p0 i0 v0_1 v0_2) (x := ((.exit 0), Qnk p0 v0_1 v0_2 (envF (Qoe p0 i0 v0_1 v0_2)) (zoF (Qkh p0 i0 v0_1 v0_2)))) [hP 2 (Qz (Val.rows (Qb p0 Qu).1) (List.length (Qb p0 Qu).1) (Val.Q9 (Qb p0 Qu).1)), hB 0 hc0] [] (by kernel_rfl)⟩
theorem Q17e (p0 : Val) (H : Qae p0) (x0 : Val) (i0 : Nat) (v0_1 : List Toleration) (v0_2 : Bool) (hx0 : (Qb p0 Qu).1[i0]? = some x0) (hi0 : i0 < List.length (Qb p0 Qu).1) (ho0_0 : List.length v0_1 ≤ i0) (hc0 : (decide ((i0 : Int) < ((List.length (Qb p0 Qu).1) : Int))) = true) (h0 : (v0_2 == true) = true) {r : Rs} (hr : Qi G (Q9u p0 (i0 + 1) (v0_1 ++ [(Toleration.mk (Qj x0 Qs).1 (Qj x0 Qo).1 (Qn x0 Q1j).1 (Q5 x0 Qr).1 (Q5 x0 Q1h).1)]) ((((((Q1u x0) && (Q5 x0 Qr).2) && (Qn x0 Q1j).2) && (Qj x0 Qs).2) && (Q5 x0 Q1h).2) && (Qj x0 Qo).2)) r) : Qi G (Q9u p0 i0 v0_1 v0_2) r := by
 have hB0 := H.1
 exact Qw (Qtu p0 i0 v0_1 v0_2) (y := (Qlp p0 (i0 + 1) (v0_1 ++ [(Toleration.mk (Qj x0 Qs).1 (Qj x0 Qo).1 (Qn x0 Q1j).1 (Q5 x0 Qr).1 (Q5 x0 Q1h).1)]) ((((((Q1u x0) && (Q5 x0 Qr).2) && (Qn x0 Q1j).2) && (Qj x0 Qs).2) && (Q5 x0 Q1h).2) && (Qj x0 Qo).2), Qbr p0 (i0 + 1) (v0_1 ++ [(Toleration.mk (Qj x0 Qs).1 (Qj x0 Qo).1 (Qn x0 Q1j).1 (Q5 x0 Qr).1 (Q5 x0 Q1h).1)]) ((((((Q1u x0) && (Q5 x0 Qr).2) && (Qn x0 Q1j).2) && (Qj x0 Qs).2) && (Q5 x0 Q1h).2) && (Qj x0 Qo).2))) [hP 2 (Qz (Val.rows (Qb p0 Qu).1) (List.length (Qb p0 Qu).1) (Val.Q9 (Qb p0 Qu).1)), hB 0 hc0, hP 2 (Q15 5 (Val.rows (Qb p0 Qu).1) i0 _ (Val.Qe hx0) rfl), hP 9 (Q15 5 (Val.rows (Qb p0 Qu).1) i0 _ (Val.Qe hx0) rfl), hP 9 (Q15 5 (Val.rows (Qb p0 Qu).1) i0 _ (Val.Qe hx0) rfl), hP 9 (Q15 5 (Val.rows (Qb p0 Qu).1) i0 _ (Val.Qe hx0) rfl), hP 9 (Q15 5 (Val.rows (Qb p0 Qu).1) i0 _ (Val.Qe hx0) rfl), hV 15 [(3969, Toleration.rows (v0_1 ++ [(Toleration.mk (Qj x0 Qs).1 (Qj x0 Qo).1 (Qn x0 Q1j).1 (Q5 x0 Qr).1 (Q5 x0 Q1h).1)]))] (Q3g 0 3905 3969 5 56 0 0 true (Toleration.rows v0_1) (Toleration.rows (v0_1 ++ [(Toleration.mk (Qj x0 Qs).1 (Qj x0 Qo).1 (Qn x0 Q1j).1 (Q5 x0 Qr).1 (Q5 x0 Q1h).1)])) (Toleration.cells (Toleration.mk (Qj x0 Qs).1 (Qj x0 Qo).1 (Qn x0 Q1j).1 (Q5 x0 Qr).1 (Q5 x0 Q1h).1)) (List.length v0_1) (List.length (v0_1 ++ [(Toleration.mk (Qj x0 Qs).1 (Qj x0 Qo).1 (Qn x0 Q1j).1 (Q5 x0 Qr).1 (Q5 x0 Q1h).1)])) rfl (Toleration.Q9 v0_1).symm (Toleration.Q9 (v0_1 ++ [(Toleration.mk (Qj x0 Qs).1 (Qj x0 Qo).1 (Qn x0 Q1j).1 (Q5 x0 Qr).1 (Q5 x0 Q1h).1)])).symm (Toleration.Q1n v0_1 (Toleration.mk (Qj x0 Qs).1 (Qj x0 Qo).1 (Qn x0 Q1j).1 (Q5 x0 Qr).1 (Q5 x0 Q1h).1)) (Toleration.Q16 v0_1) rfl (by omega)), hS 0 true (Toleration.Qp (v0_1 ++ [(Toleration.mk (Qj x0 Qs).1 (Qj x0 Qo).1 (Qn x0 Q1j).1 (Q5 x0 Qr).1 (Q5 x0 Q1h).1)]) 5 rfl), hB 1 (beqT h0), hP 3 (Q15 5 (Val.rows (Qb p0 Qu).1) i0 _ (Val.Qe hx0) rfl), hP 4 (Q45 (Q1u x0) (.bool (Q5 x0 Qr).2)), hP 0 (Q43 (Q1u x0) (Q5 x0 Qr).2), hP 1 (Q45 ((Q1u x0) && (Q5 x0 Qr).2) (.bool (Qn x0 Q1j).2)), hP 0 (Q43 ((Q1u x0) && (Q5 x0 Qr).2) (Qn x0 Q1j).2), hP 1 (Q45 (((Q1u x0) && (Q5 x0 Qr).2) && (Qn x0 Q1j).2) (.bool (Qj x0 Qs).2)), hP 0 (Q43 (((Q1u x0) && (Q5 x0 Qr).2) && (Qn x0 Q1j).2) (Qj x0 Qs).2), hP 1 (Q45 ((((Q1u x0) && (Q5 x0 Qr).2) && (Qn x0 Q1j).2) && (Qj x0 Qs).2) (.bool (Q5 x0 Q1h).2)), hP 0 (Q43 ((((Q1u x0) && (Q5 x0 Qr).2) && (Qn x0 Q1j).2) && (Qj x0 Qs).2) (Q5 x0 Q1h).2), hP 1 (Q45 (((((Q1u x0) && (Q5 x0 Qr).2) && (Qn x0 Q1j).2) && (Qj x0 Qs).2) && (Q5 x0 Q1h).2) (.bool (Qj x0 Qo).2)), hP 0 (Q43 (((((Q1u x0) && (Q5 x0 Qr).2) && (Qn x0 Q1j).2) && (Qj x0 Qs).2) && (Q5 x0 Q1h).2) (Qj x0 Qo).2), hP 2 (Q25 i0 (by omega))] [aN (Q2m x0 Qr (H.2.1 x0 (Q13 hx0))), aN (Q3j x0 Q1j (H.2.2.1 x0 (Q13 hx0))), aN (Q3f x0 Qs (H.2.2.2.1 x0 (Q13 hx0))), aN (Q2m x0 Q1h (H.2.1 x0 (Q13 hx0))), aN (Q3f x0 Qo (H.2.2.2.1 x0 (Q13 hx0))), aN (Q4g x0)] (by kernel_rfl) hr
theorem Q16a (p0 : Val) (H : Qae p0) (x0 : Val) (i0 : Nat) (v0_1 : List Toleration) (v0_2 : Bool) (hx0 : (Qb p0 Qu).1[i0]? = some x0) (hi0 : i0 < List.length (Qb p0 Qu).1) (ho0_0 : List.length v0_1 ≤ i0) (hc0 : (decide ((i0 : Int) < ((List.length (Qb p0 Qu).1) : Int))) = true) (h0 : (v0_2 == true) = false) {r : Rs} (hr : Qi G (Q9u p0 (i0 + 1) (v0_1 ++ [(Toleration.mk (Qj x0 Qs).1 (Qj x0 Qo).1 (Qn x0 Q1j).1 (Q5 x0 Qr).1 (Q5 x0 Q1h).1)]) false) r) : Qi G (Q9u p0 i0 v0_1 v0_2) r := by
 have hB0 := H.1
 exact Qw (Qtu p0 i0 v0_1 v0_2) (y := (Qlp p0 (i0 + 1) (v0_1 ++ [(Toleration.mk (Qj x0 Qs).1 (Qj x0 Qo).1 (Qn x0 Q1j).1 (Q5 x0 Qr).1 (Q5 x0 Q1h).1)]) false, Qbr p0 (i0 + 1) (v0_1 ++ [(Toleration.mk (Qj x0 Qs).1 (Qj x0 Qo).1 (Qn x0 Q1j).1 (Q5 x0 Qr).1 (Q5 x0 Q1h).1)]) false)) [hP 2 (Qz (Val.rows (Qb p0 Qu).1) (List.length (Qb p0 Qu).1) (Val.Q9 (Qb p0 Qu).1)), hB 0 hc0, hP 2 (Q15 5 (Val.rows (Qb p0 Qu).1) i0 _ (Val.Qe hx0) rfl), hP 9 (Q15 5 (Val.rows (Qb p0 Qu).1) i0 _ (Val.Qe hx0) rfl), hP 9 (Q15 5 (Val.rows (Qb p0 Qu).1) i0 _ (Val.Qe hx0) rfl), hP 9 (Q15 5 (Val.rows (Qb p0 Qu).1) i0 _ (Val.Qe hx0) rfl), hP 9 (Q15 5 (Val.rows (Qb p0 Qu).1) i0 _ (Val.Qe hx0) rfl), hV 15 [(3969, Toleration.rows (v0_1 ++ [(Toleration.mk (Qj x0 Qs).1 (Qj x0 Qo).1 (Qn x0 Q1j).1 (Q5 x0 Qr).1 (Q5 x0 Q1h).1)]))] (Q3g 0 3905 3969 5 56 0 0 true (Toleration.rows v0_1) (Toleration.rows (v0_1 ++ [(Toleration.mk (Qj x0 Qs).1 (Qj x0 Qo).1 (Qn x0 Q1j).1 (Q5 x0 Qr).1 (Q5 x0 Q1h).1)])) (Toleration.cells (Toleration.mk (Qj x0 Qs).1 (Qj x0 Qo).1 (Qn x0 Q1j).1 (Q5 x0 Qr).1 (Q5 x0 Q1h).1)) (List.length v0_1) (List.length (v0_1 ++ [(Toleration.mk (Qj x0 Qs).1 (Qj x0 Qo).1 (Qn x0 Q1j).1 (Q5 x0 Qr).1 (Q5 x0 Q1h).1)])) rfl (Toleration.Q9 v0_1).symm (Toleration.Q9 (v0_1 ++ [(Toleration.mk (Qj x0 Qs).1 (Qj x0 Qo).1 (Qn x0 Q1j).1 (Q5 x0 Qr).1 (Q5 x0 Q1h).1)])).symm (Toleration.Q1n v0_1 (Toleration.mk (Qj x0 Qs).1 (Qj x0 Qo).1 (Qn x0 Q1j).1 (Q5 x0 Qr).1 (Q5 x0 Q1h).1)) (Toleration.Q16 v0_1) rfl (by omega)), hS 0 true (Toleration.Qp (v0_1 ++ [(Toleration.mk (Qj x0 Qs).1 (Qj x0 Qo).1 (Qn x0 Q1j).1 (Q5 x0 Qr).1 (Q5 x0 Q1h).1)]) 5 rfl), hB 1 (beqT h0), hP 24 (Q25 i0 (by omega))] [aN (Q2m x0 Qr (H.2.1 x0 (Q13 hx0))), aN (Q3j x0 Q1j (H.2.2.1 x0 (Q13 hx0))), aN (Q3f x0 Qs (H.2.2.2.1 x0 (Q13 hx0))), aN (Q2m x0 Q1h (H.2.1 x0 (Q13 hx0))), aN (Q3f x0 Qo (H.2.2.2.1 x0 (Q13 hx0)))] (by kernel_rfl) hr
theorem Qkj (p0 : Val) (H : Qae p0) : ∀ (r0 : List Val) (i0 : Nat) (v0_1 : List Toleration) (v0_2 : Bool), List.drop i0 (Qb p0 Qu).1 = r0 → List.length v0_1 ≤ i0 → Qfa p0 (Q9u p0 i0 v0_1 v0_2) (Q4p p0 r0 i0 v0_1 v0_2)
 | [], i0, v0_1, v0_2, hd, ho0_0 => by
  have hc0 : (decide ((i0 : Int) < ((List.length (Qb p0 Qu).1) : Int))) = false := by have := Q1v hd; simp; omega
  rw [Q4p]
  exact Q15e p0 H i0 v0_1 v0_2 ho0_0 hc0
 | x0 :: r0, i0, v0_1, v0_2, hd, ho0_0 => by
  obtain ⟨hx0, hi0, hd'⟩ := Q1s hd
  have hc0 : (decide ((i0 : Int) < ((List.length (Qb p0 Qu).1) : Int))) = true := by simp; omega
  rw [Q4p]
  cases h0 : (v0_2 == true) with
  | true =>
   exact Qdd p0 (fun r hr => Q17e p0 H x0 i0 v0_1 v0_2 hx0 hi0 ho0_0 hc0 h0 hr) _ (Qkj p0 H r0 (i0 + 1) (v0_1 ++ [(Toleration.mk (Qj x0 Qs).1 (Qj x0 Qo).1 (Qn x0 Q1j).1 (Q5 x0 Qr).1 (Q5 x0 Q1h).1)]) ((((((Q1u x0) && (Q5 x0 Qr).2) && (Qn x0 Q1j).2) && (Qj x0 Qs).2) && (Q5 x0 Q1h).2) && (Qj x0 Qo).2) hd' (by first | omega | (simp; omega)))
  | false =>
   exact Qdd p0 (fun r hr => Q16a p0 H x0 i0 v0_1 v0_2 hx0 hi0 ho0_0 hc0 h0 hr) _ (Qkj p0 H r0 (i0 + 1) (v0_1 ++ [(Toleration.mk (Qj x0 Qs).1 (Qj x0 Qo).1 (Qn x0 Q1j).1 (Q5 x0 Qr).1 (Q5 x0 Q1h).1)]) false hd' (by first | omega | (simp; omega)))
def Qda (p0 : Val) : List Toleration × Bool := dE Toleration.dec p0 Qu
theorem Qsu (p0 : Val) : ∀ (l : List Val) (i : Nat) (a : List Toleration) (b : Bool), Q4p p0 l i a b = (a ++ l.map (fun x => (Toleration.dec x).1), b && l.all fun x => (Toleration.dec x).2)
  | [], _, a, b => by rw [Q4p]; simp
  | x :: l, i, a, b => by
    rw [Q4p]
    cases b with
    | false => exact (Qsu p0 l (i + 1) (a ++ [(Toleration.dec x).1]) false).trans (by simp only [List.append_assoc, List.singleton_append, List.map_cons, List.all_cons, Bool.false_and])
    | true => exact (Qsu p0 l (i + 1) (a ++ [(Toleration.dec x).1]) (Toleration.dec x).2).trans (by simp only [List.append_assoc, List.singleton_append, List.map_cons, List.all_cons, Bool.true_and])
theorem Q1nv (p0 : Val) : Qda p0 = (((Q4p p0 (Qb p0 Qu).1 0 [] (Qb p0 Qu).2).1, (Q4p p0 (Qb p0 Qu).1 0 [] (Qb p0 Qu).2).2)) := by
  rw [Qsu]
  rfl
def Q1so (p0 : Val) : En := .call 104 [.agg (Val.cells p0)] []
def Q1l8 (p0 : Val) : Rs := .ret (.tup [.sl (Toleration.rows (Qda p0).1), .bool (Qda p0).2]) []
def Q1gp (p0 : Val) : Prop := Val.Sm 1000000000 p0
theorem Q10f (p0 : Val) (H : Q1gp p0) : (Qbn p0) ∧ (Qae p0) ∧ True := by
  have hl := Q6h (Q2h H Qu)
  have g : ∀ x ∈ (dL p0 Qu).1, Val.Sm sB x := hl.2
  refine ⟨H, ?_, trivial⟩
  unfold Qae
  refine ⟨Nat.le_trans hl.1 (Nat.le_of_ble_eq_true rfl), ?_⟩
  repeat' with_reducible apply And.intro
  all_goals first | exact True.intro | exact g
theorem Q1j0 (p0 : Val) (H : Q1gp p0) : Qi G (Q1so p0) (Q1l8 p0) := by
 unfold Q1l8
 rw [Q1nv]
 have hl0 := Qkj p0 ((Q10f p0 H).2.1) (Qb p0 Qu).1 0 [] (Qb p0 Qu).2 (by simp) (by simp)
 obtain ⟨z0, zo0, hl0⟩ := hl0
 exact Qm (fn := Ir.K3p) rfl VOK.nil [hS 0 true (Toleration.Qp (Q4p p0 (Qb p0 Qu).1 0 [] (Qb p0 Qu).2).1 5 rfl), hQ (Toleration.Q9 (Q4p p0 (Qb p0 Qu).1 0 [] (Qb p0 Qu).2).1).symm] [aN (Qaj p0 Qu (Q10f p0 H).1), aV [(0, Toleration.rows (Q4p p0 (Qb p0 Qu).1 0 [] (Qb p0 Qu).2).1)] hl0] (by kernel_rfl)
def Q3x (p0 : Val) : List Bool := [(Qc5 p0).2, (Q5 p0 Q2y).2, (Qj p0 Q30).2, (Q28 p0 Q1f).2, (Qch p0).2, (Qdb p0).2, (Q5 p0 Q24).2, (Q5 p0 Q2j).2, (Qc9 p0).2, (Qda p0).2]
inductive Q11a where
  | k0
  | k1
def Q6j (p0 : Val) : List Bool → Nat → Q11a
 | [], _i0 =>
  (.k0)
 | x0 :: r0, i0 =>
  bif (x0 == true) then
   Q6j p0 r0 (i0 + 1)
  else
   (.k1)
def Qwp (_p0 : Val) (i0 : Nat) : List PV :=
  [.un, .bx 0 0, .bx 1 0, .un, .bx 2 0, .bx 3 0] ++ nuns 20 ++ [.int .i64 (i0 : Int)] ++ nuns 104
def Qv8 (p0 : Val) (_i0 : Nat) : List Ob :=
  [⟨5, 0, true, [.int .i64 p0.kind, .int .i64 p0.n, .str p0.s, .sl (Val.rows p0.list), .sl (Fld.rows p0.fields)]⟩, ⟨10, 0, true, [.str eB, .int .i64 0, .int .i64 0, .int .i64 0, .ms 4 11 0 0, .ms 5 3 0 0, .ms 6 3 0 0, .ms 7 5 0 0, .ms 8 4 0 0, .ms 9 5 0 0]⟩, ⟨10, 0, true, [.str (Qj p0 Q30).1, .int .i64 (Q5 p0 Q24).1, .int .i64 (Q5 p0 Q2j).1, .int .i64 (Q5 p0 Q2y).1, .sl (Container.rows (Qc5 p0).1), .sl (Requirement.rows (Q28 p0 Q1f).1), .sl (NodeTerm.rows (Qch p0).1), .sl (PodTerm.rows (Qdb p0).1), .sl (SpreadRule.rows (Qc9 p0).1), .sl (Toleration.rows (Qda p0).1)]⟩, ⟨10, 0, true, [.bool (Qc5 p0).2, .bool (Q5 p0 Q2y).2, .bool (Qj p0 Q30).2, .bool (Q28 p0 Q1f).2, .bool (Qch p0).2, .bool (Qdb p0).2, .bool (Q5 p0 Q24).2, .bool (Q5 p0 Q2j).2, .bool (Qc9 p0).2, .bool (Qda p0).2]⟩, ⟨11, 0, true, []⟩, ⟨3, 0, true, []⟩, ⟨3, 0, true, []⟩, ⟨5, 0, true, []⟩, ⟨4, 0, true, []⟩, ⟨5, 0, true, []⟩]
def Qc1 (p0 : Val) (i0 : Nat) : En := .loop 0 Ir.Qji Ir.Q1e4 (Qwp p0 i0) (Qv8 p0 i0)
def Qoz (p0 : Val) (z : Nat → PV) (_zo : Nat → List PV) : St :=
  ⟨[z 0, .bx 0 0, .bx 1 0, z 3, .bx 2 0] ++ zr z 5 126, [(0, ⟨5, 0, true, [.int .i64 p0.kind, .int .i64 p0.n, .str p0.s, .sl (Val.rows p0.list), .sl (Fld.rows p0.fields)]⟩), (1, ⟨10, 0, true, [.str eB, .int .i64 0, .int .i64 0, .int .i64 0, .ms 4 11 0 0, .ms 5 3 0 0, .ms 6 3 0 0, .ms 7 5 0 0, .ms 8 4 0 0, .ms 9 5 0 0]⟩), (2, ⟨10, 0, true, [.str (Qj p0 Q30).1, .int .i64 (Q5 p0 Q24).1, .int .i64 (Q5 p0 Q2j).1, .int .i64 (Q5 p0 Q2y).1, .sl (Container.rows (Qc5 p0).1), .sl (Requirement.rows (Q28 p0 Q1f).1), .sl (NodeTerm.rows (Qch p0).1), .sl (PodTerm.rows (Qdb p0).1), .sl (SpreadRule.rows (Qc9 p0).1), .sl (Toleration.rows (Qda p0).1)]⟩), (3, ⟨10, 0, true, [.bool (Qc5 p0).2, .bool (Q5 p0 Q2y).2, .bool (Qj p0 Q30).2, .bool (Q28 p0 Q1f).2, .bool (Qch p0).2, .bool (Qdb p0).2, .bool (Q5 p0 Q24).2, .bool (Q5 p0 Q2j).2, .bool (Qc9 p0).2, .bool (Qda p0).2]⟩), (4, ⟨11, 0, true, []⟩), (5, ⟨3, 0, true, []⟩), (6, ⟨3, 0, true, []⟩), (7, ⟨5, 0, true, []⟩), (8, ⟨4, 0, true, []⟩), (9, ⟨5, 0, true, []⟩)], 138⟩
def Qo1 (_p0 : Val) (z : Nat → PV) (zo : Nat → List PV) : St :=
  ⟨[z 0, z 1, .bx 1 0, .bool false] ++ zr z 4 127, [(0, ⟨5, 0, true, zo 0⟩), (1, ⟨10, 0, true, [.str eB, .int .i64 0, .int .i64 0, .int .i64 0, .ns 11, .ns 3, .ns 3, .ns 5, .ns 4, .ns 5]⟩), (2, ⟨10, 0, true, zo 2⟩), (3, ⟨10, 0, true, zo 3⟩), (4, ⟨11, 0, true, zo 4⟩), (5, ⟨3, 0, true, zo 5⟩), (6, ⟨3, 0, true, zo 6⟩), (7, ⟨5, 0, true, zo 7⟩), (8, ⟨4, 0, true, zo 8⟩), (9, ⟨5, 0, true, zo 9⟩)], 586⟩
def Qdf (p0 : Val) (e : En) : Q11a → Prop
  | .k0 => ∃ z zo, Qi G e (.st (.exit 0) (Qoz p0 z zo))
  | .k1 => ∃ z zo, Qi G e (.st .ret (Qo1 p0 z zo))
theorem Qsh (p0 : Val) {e e' : En} (h : ∀ r, Qi G e r → Qi G e' r) : ∀ q, Qdf p0 e q → Qdf p0 e' q
  | .k0, ⟨z, zo, hz⟩ => ⟨z, zo, h _ hz⟩
  | .k1, ⟨z, zo, hz⟩ => ⟨z, zo, h _ hz⟩
def Qbq (p0 : Val) : Prop := (List.length (Q3x p0) ≤ 4611686018427387904) ∧ True
def Qq6 (_p0 : Val) (i0 : Nat) : List PV :=
  nuns 5 ++ [.bx 3 0] ++ nuns 20 ++ [.int .i64 (i0 : Int)] ++ nuns 92 ++ [.int .i64 (i0 : Int), .bool false]
def Qjx (_p0 : Val) (_i0 : Nat) : List (Nat × List PV) :=
  []
theorem Q17d (p0 : Val) (_H : Qbq p0) (i0 : Nat) (hc0 : (decide ((i0 : Int) < 10)) = false) : Qdf p0 (Qc1 p0 i0) (.k0) := by
 exact ⟨(envF (Qq6 p0 i0)), (zoF (Qjx p0 i0)), Q10 VOK.nil (x := ((.exit 0), Qoz p0 (envF (Qq6 p0 i0)) (zoF (Qjx p0 i0)))) [hB 1 hc0] [] (by kernel_rfl)⟩
theorem Q15r (p0 : Val) (H : Qbq p0) (x0 : Bool) (i0 : Nat) (hx0 : (Q3x p0)[i0]? = some x0) (hi0 : i0 < List.length (Q3x p0)) (hc0 : (decide ((i0 : Int) < 10)) = true) (h0 : (x0 == true) = true) {r : Rs} (hr : Qi G (Qc1 p0 (i0 + 1)) r) : Qi G (Qc1 p0 i0) r := by
 have hB0 := H.1
 exact Qw VOK.nil (y := (Qwp p0 (i0 + 1), Qv8 p0 (i0 + 1))) [hB 1 hc0, hP 1 (Qqz 10 1 3 0 i0 (Nat.lt_of_lt_of_eq hi0 rfl)), hP 0 (Qnm 3 10 0 true [.bool (Qc5 p0).2, .bool (Q5 p0 Q2y).2, .bool (Qj p0 Q30).2, .bool (Q28 p0 Q1f).2, .bool (Qch p0).2, .bool (Qdb p0).2, .bool (Q5 p0 Q24).2, .bool (Q5 p0 Q2j).2, .bool (Qc9 p0).2, .bool (Qda p0).2] (Q3x p0) i0 x0 true hx0 (beqT h0)), hP 2 (Q25 i0 (by omega))] [] (by kernel_rfl) hr
def Qoa (_p0 : Val) (i0 : Nat) (_x0 : Bool) : List PV :=
  [.un, .bx 0 0, .un, .un, .bx 2 0, .bx 3 0] ++ nuns 20 ++ [.int .i64 (i0 : Int)] ++ nuns 92 ++ [.int .i64 (i0 : Int), .bool true, .un, .un, .int .i64 (i0 : Int), .bx 3 (0 + i0 * 1), .bool false, .bool true, .agg [.str eB, .int .i64 0, .int .i64 0, .int .i64 0, .ns 11, .ns 3, .ns 3, .ns 5, .ns 4, .ns 5]]
def Qk5 (p0 : Val) (_i0 : Nat) (_x0 : Bool) : List (Nat × List PV) :=
  [(0, [.int .i64 p0.kind, .int .i64 p0.n, .str p0.s, .sl (Val.rows p0.list), .sl (Fld.rows p0.fields)]), (2, [.str (Qj p0 Q30).1, .int .i64 (Q5 p0 Q24).1, .int .i64 (Q5 p0 Q2j).1, .int .i64 (Q5 p0 Q2y).1, .sl (Container.rows (Qc5 p0).1), .sl (Requirement.rows (Q28 p0 Q1f).1), .sl (NodeTerm.rows (Qch p0).1), .sl (PodTerm.rows (Qdb p0).1), .sl (SpreadRule.rows (Qc9 p0).1), .sl (Toleration.rows (Qda p0).1)]), (3, [.bool (Qc5 p0).2, .bool (Q5 p0 Q2y).2, .bool (Qj p0 Q30).2, .bool (Q28 p0 Q1f).2, .bool (Qch p0).2, .bool (Qdb p0).2, .bool (Q5 p0 Q24).2, .bool (Q5 p0 Q2j).2, .bool (Qc9 p0).2, .bool (Qda p0).2]), (4, []), (5, []), (6, []), (7, []), (8, []), (9, [])]
theorem Q15h (p0 : Val) (_H : Qbq p0) (x0 : Bool) (i0 : Nat) (hx0 : (Q3x p0)[i0]? = some x0) (hi0 : i0 < List.length (Q3x p0)) (hc0 : (decide ((i0 : Int) < 10)) = true) (h0 : (x0 == true) = false) : Qdf p0 (Qc1 p0 i0) (.k1) := by
 exact ⟨(envF (Qoa p0 i0 x0)), (zoF (Qk5 p0 i0 x0)), Q10 VOK.nil (x := (.ret, Qo1 p0 (envF (Qoa p0 i0 x0)) (zoF (Qk5 p0 i0 x0)))) [hB 1 hc0, hP 1 (Qqz 10 1 3 0 i0 (Nat.lt_of_lt_of_eq hi0 rfl)), hP 0 (Qnm 3 10 0 true [.bool (Qc5 p0).2, .bool (Q5 p0 Q2y).2, .bool (Qj p0 Q30).2, .bool (Q28 p0 Q1f).2, .bool (Qch p0).2, .bool (Qdb p0).2, .bool (Q5 p0 Q24).2, .bool (Q5 p0 Q2j).2, .bool (Qc9 p0).2, .bool (Qda p0).2] (Q3x p0) i0 x0 false hx0 (beqT h0))] [] (by kernel_rfl)⟩
theorem Qvb (p0 : Val) (H : Qbq p0) : ∀ (r0 : List Bool) (i0 : Nat), List.drop i0 (Q3x p0) = r0 → Qdf p0 (Qc1 p0 i0) (Q6j p0 r0 i0)
 | [], i0, hd => by
  have hc0 : (decide ((i0 : Int) < 10)) = false := by have hL := (show List.length (Q3x p0) = 10 from rfl); have := Q1v hd; simp; omega
  rw [Q6j]
  exact Q17d p0 H i0 hc0
 | x0 :: r0, i0, hd => by
  obtain ⟨hx0, hi0, hd'⟩ := Q1s hd
  have hc0 : (decide ((i0 : Int) < 10)) = true := by have hL := (show List.length (Q3x p0) = 10 from rfl); simp; omega
  rw [Q6j]
  cases h0 : (x0 == true) with
  | true =>
   exact Qsh p0 (fun r hr => Q15r p0 H x0 i0 hx0 hi0 hc0 h0 hr) _ (Qvb p0 H r0 (i0 + 1) hd')
  | false =>
   exact Q15h p0 H x0 i0 hx0 hi0 hc0 h0
def Qay (p0 : Val) : PodSpec × Bool := bif (PodSpec.dec p0).2 then ((PodSpec.dec p0).1, true) else ((PodSpec.mk eB 0 0 0 [] [] [] [] [] []), false)
theorem Q11w (p0 : Val) : ∀ (l : List Bool) (i : Nat), Q6j p0 l i = bif l.all id then .k0 else .k1
  | [], _ => by rw [Q6j]; rfl
  | x :: l, i => by
    rw [Q6j]
    cases x with
    | true => exact Q11w p0 l (i + 1)
    | false => rfl
theorem Q1nw (p0 : Val) : Qay p0 = ((match (Q6j p0 (Q3x p0) 0) with
  | .k0 => ((PodSpec.mk (Qj p0 Q30).1 (Q5 p0 Q24).1 (Q5 p0 Q2j).1 (Q5 p0 Q2y).1 (Qc5 p0).1 (Q28 p0 Q1f).1 (Qch p0).1 (Qdb p0).1 (Qc9 p0).1 (Qda p0).1), (Q1u p0))
  | .k1 => ((PodSpec.mk eB 0 0 0 [] [] [] [] [] []), false))) := by
  rw [Q11w]
  have e : (PodSpec.rdec p0).2 = (isM p0 && (Q3x p0).all id) := by
    simp only [PodSpec.rdec, Q3x, List.all_cons, List.all_nil, id, Bool.true_and, Q5, Qj, Qc5, Q28, Qch, Qdb, Qc9, Qda, Bool.and_assoc, Bool.and_left_comm, Bool.and_comm]
  have ag : (PodSpec.rdec p0).2 = (PodSpec.dec p0).2 ∧ ((PodSpec.dec p0).2 = true → (PodSpec.rdec p0).1 = (PodSpec.dec p0).1) := PodSpec.agr p0
  unfold Qay
  rw [← ag.1, e]
  cases h : (Q3x p0).all id with
  | false => rw [Bool.and_false]; rfl
  | true =>
    cases hm : isM p0 with
    | true =>
      have hv := ag.2 (by rw [← ag.1, e, h, hm]; rfl)
      exact Prod.ext hv.symm hm.symm
    | false =>
      have hz : (PodSpec.rdec p0).1 = (PodSpec.mk eB 0 0 0 [] [] [] [] [] []) := by
        unfold PodSpec.rdec
        simp only [dN, dS, dE, Q4a (Q1f2 hm)]
        rfl
      exact Prod.ext hz.symm hm.symm
def Q1r5 (p0 : Val) : En := .call 34 [.agg (Val.cells p0)] []
def Q1j6 (p0 : Val) : Rs := .ret (.tup [.agg (PodSpec.cells (Qay p0).1), .bool (Qay p0).2]) []
def Q1c9 (p0 : Val) : Prop := Val.Sm 1000000000 p0
theorem Q38 (p0 : Val) (H : Q1c9 p0) : (Q1gb p0) ∧ (Qai p0) ∧ (Qdv p0) ∧ (Q14s p0) ∧ (Q1h4 p0) ∧ (Q1fx p0) ∧ (Q1gv p0) ∧ (Q1gp p0) ∧ (Qbq p0) ∧ True := by
  repeat' with_reducible apply And.intro
  all_goals first | exact True.intro | exact H | exact ⟨Nat.le_of_ble_eq_true rfl, trivial⟩ | exact Q2h H _
theorem Qtv (p0 : Val) (H : Q1c9 p0) : Qi G (Q1r5 p0) (Q1j6 p0) := by
 unfold Q1j6
 rw [Q1nw]
 have hl0 := Qvb p0 ((Q38 p0 H).2.2.2.2.2.2.2.2.1) (Q3x p0) 0 (by simp)
 cases hr0 : (Q6j p0 (Q3x p0) 0) with
 | k0 =>
  rw [hr0] at hl0
  obtain ⟨z0, zo0, hl0⟩ := hl0
  exact Qm (fn := Ir.K2t) rfl VOK.nil [] [aN (Q1kh p0 (Q38 p0 H).1), aN (Q2m p0 Q2y (Q38 p0 H).2.1), aN (Q3f p0 Q30 (Q38 p0 H).2.2.1), aN (Qvp p0 Q1f (Q38 p0 H).2.2.2.1), aN (Q1l0 p0 (Q38 p0 H).2.2.2.2.1), aN (Q1k9 p0 (Q38 p0 H).2.2.2.2.2.1), aN (Q2m p0 Q24 (Q38 p0 H).2.1), aN (Q2m p0 Q2j (Q38 p0 H).2.1), aN (Q1kr p0 (Q38 p0 H).2.2.2.2.2.2.1), aN (Q1j0 p0 (Q38 p0 H).2.2.2.2.2.2.2.1), aN hl0, aN (Q4g p0)] (by kernel_rfl)
 | k1 =>
  rw [hr0] at hl0
  obtain ⟨z0, zo0, hl0⟩ := hl0
  exact Qm (fn := Ir.K2t) rfl VOK.nil [] [aN (Q1kh p0 (Q38 p0 H).1), aN (Q2m p0 Q2y (Q38 p0 H).2.1), aN (Q3f p0 Q30 (Q38 p0 H).2.2.1), aN (Qvp p0 Q1f (Q38 p0 H).2.2.2.1), aN (Q1l0 p0 (Q38 p0 H).2.2.2.2.1), aN (Q1k9 p0 (Q38 p0 H).2.2.2.2.2.1), aN (Q2m p0 Q24 (Q38 p0 H).2.1), aN (Q2m p0 Q2j (Q38 p0 H).2.1), aN (Q1kr p0 (Q38 p0 H).2.2.2.2.2.2.1), aN (Q1j0 p0 (Q38 p0 H).2.2.2.2.2.2.2.1), aN hl0] (by kernel_rfl)
end Go.Proofs.YtiflaadeikaghaaGreat
end

