/- Texts of the claim, merged by a program; what the statement does not reach is left out. -/
import Derived.Test.YtiflaadeikaghaaGreatBPodcodecDecodes6

section
/- Equality of metadata and objects; what is small (printed by a program). -/
namespace Go.Proofs.YtiflaadeikaghaaGreat
open Go.Pv
inductive Q137 where
  | k0
  | k1
def Q6l (p0 : List Label) (p1 : List Label) : List Label → Nat → Q137
 | [], _i0 =>
  (.k0)
 | x0 :: r0, i0 =>
  bif ((sEq x0.key (List.getD p1 i0 (Label.mk eB eB)).key) && ((sEq x0.value (List.getD p1 i0 (Label.mk eB eB)).value) && true)) then
   Q6l p0 p1 r0 (i0 + 1)
  else
   (.k1)
def Qxr (p0 : List Label) (p1 : List Label) (i0 : Nat) : List PV :=
  [.sl (Label.rows p0), .sl (Label.rows p1), .un, .un, .un, .int .i64 (i0 : Int)] ++ nuns 20
def Qyz (_p0 : List Label) (_p1 : List Label) (_i0 : Nat) : List Ob :=
  []
def Qcs (p0 : List Label) (p1 : List Label) (i0 : Nat) : En := .loop 0 Ir.Qmc Ir.Q1do (Qxr p0 p1 i0) (Qyz p0 p1 i0)
def Qrp (_p0 : List Label) (_p1 : List Label) (z : Nat → PV) (_zo : Nat → List PV) : St :=
  ⟨zr z 0 26, [], 256⟩
def Qpk (_p0 : List Label) (_p1 : List Label) (z : Nat → PV) (_zo : Nat → List PV) : St :=
  ⟨[z 0, z 1, z 2, z 3, .bool false] ++ zr z 5 21, [], 896⟩
def Qd5 (p0 : List Label) (p1 : List Label) (e : En) : Q137 → Prop
  | .k0 => ∃ z zo, Qi G e (.st (.exit 0) (Qrp p0 p1 z zo))
  | .k1 => ∃ z zo, Qi G e (.st .ret (Qpk p0 p1 z zo))
theorem Qss (p0 : List Label) (p1 : List Label) {e e' : En} (h : ∀ r, Qi G e r → Qi G e' r) : ∀ q, Qd5 p0 p1 e q → Qd5 p0 p1 e' q
  | .k0, ⟨z, zo, hz⟩ => ⟨z, zo, h _ hz⟩
  | .k1, ⟨z, zo, hz⟩ => ⟨z, zo, h _ hz⟩
def Qby (p0 : List Label) (p1 : List Label) : Prop := (List.length p0 ≤ 4611686018427387904) ∧ (∀ (i0 : Nat) (x0 : Label), p0[i0]? = some x0 → i0 < List.length p1) ∧ True
def Qp4 (p0 : List Label) (p1 : List Label) (i0 : Nat) : List PV :=
  [.sl (Label.rows p0), .sl (Label.rows p1), .un, .un, .un, .int .i64 (i0 : Int)] ++ nuns 5 ++ [.int .i64 (i0 : Int), .sl (Label.rows p0), .int .i64 ((List.length p0) : Int), .bool false]
def Qlq (_p0 : List Label) (_p1 : List Label) (_i0 : Nat) : List (Nat × List PV) :=
  []
theorem Q166 (p0 : List Label) (p1 : List Label) (_H : Qby p0 p1) (i0 : Nat) (hc0 : (decide ((i0 : Int) < ((List.length p0) : Int))) = false) : Qd5 p0 p1 (Qcs p0 p1 i0) (.k0) := by
 exact ⟨(envF (Qp4 p0 p1 i0)), (zoF (Qlq p0 p1 i0)), Q10 VOK.nil (x := ((.exit 0), Qrp p0 p1 (envF (Qp4 p0 p1 i0)) (zoF (Qlq p0 p1 i0)))) [hP 2 (Qz (Label.rows p0) (List.length p0) (Label.Q9 p0)), hB 0 hc0] [] (by kernel_rfl)⟩
theorem Q17m (p0 : List Label) (p1 : List Label) (H : Qby p0 p1) (x0 : Label) (i0 : Nat) (hx0 : p0[i0]? = some x0) (hi0 : i0 < List.length p0) (hc0 : (decide ((i0 : Int) < ((List.length p0) : Int))) = true) (h0 : ((sEq x0.key (List.getD p1 i0 (Label.mk eB eB)).key) && ((sEq x0.value (List.getD p1 i0 (Label.mk eB eB)).value) && true)) = true) {r : Rs} (hr : Qi G (Qcs p0 p1 (i0 + 1)) r) : Qi G (Qcs p0 p1 i0) r := by
 have hB0 := H.1
 exact Qw VOK.nil (y := (Qxr p0 p1 (i0 + 1), Qyz p0 p1 (i0 + 1))) [hP 2 (Qz (Label.rows p0) (List.length p0) (Label.Q9 p0)), hB 0 hc0, hP 2 (Q15 2 (Label.rows p0) i0 _ (Label.Qe hx0) rfl), hP 3 (Q15 2 (Label.rows p1) i0 _ (Label.Qe (Q3q p1 i0 (Label.mk eB eB) ((H.2.1 i0 x0 hx0)))) rfl), hP 1 (dec (!((sEq x0.key (List.getD p1 i0 (Label.mk eB eB)).key) && ((sEq x0.value (List.getD p1 i0 (Label.mk eB eB)).value) && true))) false (by rw [h0]; rfl)), hP 1 (Q25 i0 (by omega))] [] (by kernel_rfl) hr
def Qnr (p0 : List Label) (p1 : List Label) (i0 : Nat) (x0 : Label) : List PV :=
  [.sl (Label.rows p0), .sl (Label.rows p1), .un, .un, .un, .int .i64 (i0 : Int)] ++ nuns 5 ++ [.int .i64 (i0 : Int), .sl (Label.rows p0), .int .i64 ((List.length p0) : Int), .bool true, .un, .un, .sl (Label.rows p0), .int .i64 (i0 : Int), .rf [.str x0.key, .str x0.value], .agg [.str x0.key, .str x0.value], .sl (Label.rows p1), .int .i64 (i0 : Int), .rf [.str (List.getD p1 i0 (Label.mk eB eB)).key, .str (List.getD p1 i0 (Label.mk eB eB)).value], .agg [.str (List.getD p1 i0 (Label.mk eB eB)).key, .str (List.getD p1 i0 (Label.mk eB eB)).value], .bool true]
def Qi4 (_p0 : List Label) (_p1 : List Label) (_i0 : Nat) (_x0 : Label) : List (Nat × List PV) :=
  []
theorem Q18h (p0 : List Label) (p1 : List Label) (H : Qby p0 p1) (x0 : Label) (i0 : Nat) (hx0 : p0[i0]? = some x0) (_hi0 : i0 < List.length p0) (hc0 : (decide ((i0 : Int) < ((List.length p0) : Int))) = true) (h0 : ((sEq x0.key (List.getD p1 i0 (Label.mk eB eB)).key) && ((sEq x0.value (List.getD p1 i0 (Label.mk eB eB)).value) && true)) = false) : Qd5 p0 p1 (Qcs p0 p1 i0) (.k1) := by
 exact ⟨(envF (Qnr p0 p1 i0 x0)), (zoF (Qi4 p0 p1 i0 x0)), Q10 VOK.nil (x := (.ret, Qpk p0 p1 (envF (Qnr p0 p1 i0 x0)) (zoF (Qi4 p0 p1 i0 x0)))) [hP 2 (Qz (Label.rows p0) (List.length p0) (Label.Q9 p0)), hB 0 hc0, hP 2 (Q15 2 (Label.rows p0) i0 _ (Label.Qe hx0) rfl), hP 3 (Q15 2 (Label.rows p1) i0 _ (Label.Qe (Q3q p1 i0 (Label.mk eB eB) ((H.2.1 i0 x0 hx0)))) rfl), hP 1 (dec (!((sEq x0.key (List.getD p1 i0 (Label.mk eB eB)).key) && ((sEq x0.value (List.getD p1 i0 (Label.mk eB eB)).value) && true))) true (by rw [h0]; rfl))] [] (by kernel_rfl)⟩
theorem Qyc (p0 : List Label) (p1 : List Label) (H : Qby p0 p1) : ∀ (r0 : List Label) (i0 : Nat), List.drop i0 p0 = r0 → Qd5 p0 p1 (Qcs p0 p1 i0) (Q6l p0 p1 r0 i0)
 | [], i0, hd => by
  have hc0 : (decide ((i0 : Int) < ((List.length p0) : Int))) = false := by have := Q1v hd; simp; omega
  rw [Q6l]
  exact Q166 p0 p1 H i0 hc0
 | x0 :: r0, i0, hd => by
  obtain ⟨hx0, hi0, hd'⟩ := Q1s hd
  have hc0 : (decide ((i0 : Int) < ((List.length p0) : Int))) = true := by simp; omega
  rw [Q6l]
  cases h0 : ((sEq x0.key (List.getD p1 i0 (Label.mk eB eB)).key) && ((sEq x0.value (List.getD p1 i0 (Label.mk eB eB)).value) && true)) with
  | true =>
   exact Qss p0 p1 (fun r hr => Q17m p0 p1 H x0 i0 hx0 hi0 hc0 h0 hr) _ (Qyc p0 p1 H r0 (i0 + 1) hd')
  | false =>
   exact Q18h p0 p1 H x0 i0 hx0 hi0 hc0 h0
def Qdp (p0 : List Label) (p1 : List Label) : Bool :=
 bif (((List.length p0) : Int) == ((List.length p1) : Int)) then
  (match (Q6l p0 p1 p0 0) with
  | .k0 => true
  | .k1 => false)
 else
  false
def Q1te (p0 : List Label) (p1 : List Label) : En := .call 122 [.sl (Label.rows p0), .sl (Label.rows p1)] []
def Q1jq (p0 : List Label) (p1 : List Label) : Rs := .ret (.bool (Qdp p0 p1)) []
def Q1jx (p0 : List Label) (p1 : List Label) : Prop := ((((List.length p0) : Int) == ((List.length p1) : Int)) = true → Qby p0 p1) ∧ True
theorem Qzh (p0 : List Label) (p1 : List Label) (H : Q1jx p0 p1) : Qi G (Q1te p0 p1) (Q1jq p0 p1) := by
 unfold Q1jq Qdp
 cases h0 : (((List.length p0) : Int) == ((List.length p1) : Int)) with
 | true =>
  have hl1 := Qyc p0 p1 (H.1 h0) p0 0 (by simp)
  cases hr1 : (Q6l p0 p1 p0 0) with
  | k0 =>
   rw [hr1] at hl1
   obtain ⟨z1, zo1, hl1⟩ := hl1
   exact Qm (fn := Ir.K24) rfl VOK.nil [hP 2 (Qz (Label.rows p0) (List.length p0) (Label.Q9 p0)), hP 1 (Qz (Label.rows p1) (List.length p1) (Label.Q9 p1)), hP 0 (dec (!(((List.length p0) : Int) == ((List.length p1) : Int))) false (by rw [h0]; rfl))] [aN hl1] (by kernel_rfl)
  | k1 =>
   rw [hr1] at hl1
   obtain ⟨z1, zo1, hl1⟩ := hl1
   exact Qm (fn := Ir.K24) rfl VOK.nil [hP 2 (Qz (Label.rows p0) (List.length p0) (Label.Q9 p0)), hP 1 (Qz (Label.rows p1) (List.length p1) (Label.Q9 p1)), hP 0 (dec (!(((List.length p0) : Int) == ((List.length p1) : Int))) false (by rw [h0]; rfl))] [aN hl1] (by kernel_rfl)
 | false =>
  exact Qm (fn := Ir.K24) rfl VOK.nil [hP 2 (Qz (Label.rows p0) (List.length p0) (Label.Q9 p0)), hP 1 (Qz (Label.rows p1) (List.length p1) (Label.Q9 p1)), hP 0 (dec (!(((List.length p0) : Int) == ((List.length p1) : Int))) true (by rw [h0]; rfl))] [] (by kernel_rfl)
inductive Q12c where
  | k0
  | k1
def Q6n (p0 : List ByteArray) (p1 : List ByteArray) : List ByteArray → Nat → Q12c
 | [], _i0 =>
  (.k0)
 | x0 :: r0, i0 =>
  bif (sEq x0 (List.getD p1 i0 eB)) then
   Q6n p0 p1 r0 (i0 + 1)
  else
   (.k1)
def Qwv (p0 : List ByteArray) (p1 : List ByteArray) (i0 : Nat) : List PV :=
  [.sl (Qv p0), .sl (Qv p1), .un, .un, .un, .int .i64 (i0 : Int)] ++ nuns 20
def Qup (_p0 : List ByteArray) (_p1 : List ByteArray) (_i0 : Nat) : List Ob :=
  []
def Qc0 (p0 : List ByteArray) (p1 : List ByteArray) (i0 : Nat) : En := .loop 0 Ir.Qj5 Ir.Q1em (Qwv p0 p1 i0) (Qup p0 p1 i0)
def Qq1 (_p0 : List ByteArray) (_p1 : List ByteArray) (z : Nat → PV) (_zo : Nat → List PV) : St :=
  ⟨zr z 0 26, [], 256⟩
def Qqp (_p0 : List ByteArray) (_p1 : List ByteArray) (z : Nat → PV) (_zo : Nat → List PV) : St :=
  ⟨[z 0, z 1, z 2, z 3, .bool false] ++ zr z 5 21, [], 896⟩
def Qbj (p0 : List ByteArray) (p1 : List ByteArray) (e : En) : Q12c → Prop
  | .k0 => ∃ z zo, Qi G e (.st (.exit 0) (Qq1 p0 p1 z zo))
  | .k1 => ∃ z zo, Qi G e (.st .ret (Qqp p0 p1 z zo))
theorem Qts (p0 : List ByteArray) (p1 : List ByteArray) {e e' : En} (h : ∀ r, Qi G e r → Qi G e' r) : ∀ q, Qbj p0 p1 e q → Qbj p0 p1 e' q
  | .k0, ⟨z, zo, hz⟩ => ⟨z, zo, h _ hz⟩
  | .k1, ⟨z, zo, hz⟩ => ⟨z, zo, h _ hz⟩
def Qcu (p0 : List ByteArray) (p1 : List ByteArray) : Prop := (List.length p0 ≤ 4611686018427387904) ∧ (∀ (i0 : Nat) (x0 : BA), p0[i0]? = some x0 → i0 < List.length p1) ∧ True
def Qo2 (p0 : List ByteArray) (p1 : List ByteArray) (i0 : Nat) : List PV :=
  [.sl (Qv p0), .sl (Qv p1), .un, .un, .un, .int .i64 (i0 : Int)] ++ nuns 5 ++ [.int .i64 (i0 : Int), .sl (Qv p0), .int .i64 ((List.length p0) : Int), .bool false]
def Qm9 (_p0 : List ByteArray) (_p1 : List ByteArray) (_i0 : Nat) : List (Nat × List PV) :=
  []
theorem Q18l (p0 : List ByteArray) (p1 : List ByteArray) (_H : Qcu p0 p1) (i0 : Nat) (hc0 : (decide ((i0 : Int) < ((List.length p0) : Int))) = false) : Qbj p0 p1 (Qc0 p0 p1 i0) (.k0) := by
 exact ⟨(envF (Qo2 p0 p1 i0)), (zoF (Qm9 p0 p1 i0)), Q10 VOK.nil (x := ((.exit 0), Qq1 p0 p1 (envF (Qo2 p0 p1 i0)) (zoF (Qm9 p0 p1 i0)))) [hP 2 (Qz (Qv p0) (List.length p0) (Q1q p0)), hB 0 hc0] [] (by kernel_rfl)⟩
theorem Q18r (p0 : List ByteArray) (p1 : List ByteArray) (H : Qcu p0 p1) (x0 : BA) (i0 : Nat) (hx0 : p0[i0]? = some x0) (hi0 : i0 < List.length p0) (hc0 : (decide ((i0 : Int) < ((List.length p0) : Int))) = true) (h0 : (sEq x0 (List.getD p1 i0 eB)) = true) {r : Rs} (hr : Qi G (Qc0 p0 p1 (i0 + 1)) r) : Qi G (Qc0 p0 p1 i0) r := by
 have hB0 := H.1
 exact Qw VOK.nil (y := (Qwv p0 p1 (i0 + 1), Qup p0 p1 (i0 + 1))) [hP 2 (Qz (Qv p0) (List.length p0) (Q1q p0)), hB 0 hc0, hP 2 (Q15 1 (Qv p0) i0 _ (Q3s hx0) rfl), hP 3 (Q15 1 (Qv p1) i0 _ (Q3s (Q3q p1 i0 eB ((H.2.1 i0 x0 hx0)))) rfl), hP 1 (dec (!(sEq x0 (List.getD p1 i0 eB))) false (by rw [h0]; rfl)), hP 1 (Q25 i0 (by omega))] [] (by kernel_rfl) hr
def Qov (p0 : List ByteArray) (p1 : List ByteArray) (i0 : Nat) (x0 : BA) : List PV :=
  [.sl (Qv p0), .sl (Qv p1), .un, .un, .un, .int .i64 (i0 : Int)] ++ nuns 5 ++ [.int .i64 (i0 : Int), .sl (Qv p0), .int .i64 ((List.length p0) : Int), .bool true, .un, .un, .sl (Qv p0), .int .i64 (i0 : Int), .rf [.str x0], .str x0, .sl (Qv p1), .int .i64 (i0 : Int), .rf [.str (List.getD p1 i0 eB)], .str (List.getD p1 i0 eB), .bool true]
def Qmy (_p0 : List ByteArray) (_p1 : List ByteArray) (_i0 : Nat) (_x0 : BA) : List (Nat × List PV) :=
  []
theorem Q157 (p0 : List ByteArray) (p1 : List ByteArray) (H : Qcu p0 p1) (x0 : BA) (i0 : Nat) (hx0 : p0[i0]? = some x0) (_hi0 : i0 < List.length p0) (hc0 : (decide ((i0 : Int) < ((List.length p0) : Int))) = true) (h0 : (sEq x0 (List.getD p1 i0 eB)) = false) : Qbj p0 p1 (Qc0 p0 p1 i0) (.k1) := by
 exact ⟨(envF (Qov p0 p1 i0 x0)), (zoF (Qmy p0 p1 i0 x0)), Q10 VOK.nil (x := (.ret, Qqp p0 p1 (envF (Qov p0 p1 i0 x0)) (zoF (Qmy p0 p1 i0 x0)))) [hP 2 (Qz (Qv p0) (List.length p0) (Q1q p0)), hB 0 hc0, hP 2 (Q15 1 (Qv p0) i0 _ (Q3s hx0) rfl), hP 3 (Q15 1 (Qv p1) i0 _ (Q3s (Q3q p1 i0 eB ((H.2.1 i0 x0 hx0)))) rfl), hP 1 (dec (!(sEq x0 (List.getD p1 i0 eB))) true (by rw [h0]; rfl))] [] (by kernel_rfl)⟩
theorem Quw (p0 : List ByteArray) (p1 : List ByteArray) (H : Qcu p0 p1) : ∀ (r0 : List ByteArray) (i0 : Nat), List.drop i0 p0 = r0 → Qbj p0 p1 (Qc0 p0 p1 i0) (Q6n p0 p1 r0 i0)
 | [], i0, hd => by
  have hc0 : (decide ((i0 : Int) < ((List.length p0) : Int))) = false := by have := Q1v hd; simp; omega
  rw [Q6n]
  exact Q18l p0 p1 H i0 hc0
 | x0 :: r0, i0, hd => by
  obtain ⟨hx0, hi0, hd'⟩ := Q1s hd
  have hc0 : (decide ((i0 : Int) < ((List.length p0) : Int))) = true := by simp; omega
  rw [Q6n]
  cases h0 : (sEq x0 (List.getD p1 i0 eB)) with
  | true =>
   exact Qts p0 p1 (fun r hr => Q18r p0 p1 H x0 i0 hx0 hi0 hc0 h0 hr) _ (Quw p0 p1 H r0 (i0 + 1) hd')
  | false =>
   exact Q157 p0 p1 H x0 i0 hx0 hi0 hc0 h0
def Qak (p0 : List ByteArray) (p1 : List ByteArray) : Bool :=
 bif (((List.length p0) : Int) == ((List.length p1) : Int)) then
  (match (Q6n p0 p1 p0 0) with
  | .k0 => true
  | .k1 => false)
 else
  false
def Q1q4 (p0 : List ByteArray) (p1 : List ByteArray) : En := .call 123 [.sl (Qv p0), .sl (Qv p1)] []
def Q1je (p0 : List ByteArray) (p1 : List ByteArray) : Rs := .ret (.bool (Qak p0 p1)) []
def Q1g6 (p0 : List ByteArray) (p1 : List ByteArray) : Prop := ((((List.length p0) : Int) == ((List.length p1) : Int)) = true → Qcu p0 p1) ∧ True
theorem Qx8 (p0 : List ByteArray) (p1 : List ByteArray) (H : Q1g6 p0 p1) : Qi G (Q1q4 p0 p1) (Q1je p0 p1) := by
 unfold Q1je Qak
 cases h0 : (((List.length p0) : Int) == ((List.length p1) : Int)) with
 | true =>
  have hl1 := Quw p0 p1 (H.1 h0) p0 0 (by simp)
  cases hr1 : (Q6n p0 p1 p0 0) with
  | k0 =>
   rw [hr1] at hl1
   obtain ⟨z1, zo1, hl1⟩ := hl1
   exact Qm (fn := Ir.K25) rfl VOK.nil [hP 2 (Qz (Qv p0) (List.length p0) (Q1q p0)), hP 1 (Qz (Qv p1) (List.length p1) (Q1q p1)), hP 0 (dec (!(((List.length p0) : Int) == ((List.length p1) : Int))) false (by rw [h0]; rfl))] [aN hl1] (by kernel_rfl)
  | k1 =>
   rw [hr1] at hl1
   obtain ⟨z1, zo1, hl1⟩ := hl1
   exact Qm (fn := Ir.K25) rfl VOK.nil [hP 2 (Qz (Qv p0) (List.length p0) (Q1q p0)), hP 1 (Qz (Qv p1) (List.length p1) (Q1q p1)), hP 0 (dec (!(((List.length p0) : Int) == ((List.length p1) : Int))) false (by rw [h0]; rfl))] [aN hl1] (by kernel_rfl)
 | false =>
  exact Qm (fn := Ir.K25) rfl VOK.nil [hP 2 (Qz (Qv p0) (List.length p0) (Q1q p0)), hP 1 (Qz (Qv p1) (List.length p1) (Q1q p1)), hP 0 (dec (!(((List.length p0) : Int) == ((List.length p1) : Int))) true (by rw [h0]; rfl))] [] (by kernel_rfl)
inductive Q13b where
  | k0
  | k1
def Q6o (p0 : Meta) (p1 : Meta) : List Owner → Nat → Q13b
 | [], _i0 =>
  (.k0)
 | x0 :: r0, i0 =>
  bif ((sEq x0.kind (List.getD p1.owners i0 (Owner.mk eB eB 0 false false)).kind) && ((sEq x0.name (List.getD p1.owners i0 (Owner.mk eB eB 0 false false)).name) && ((x0.uid == (List.getD p1.owners i0 (Owner.mk eB eB 0 false false)).uid) && ((x0.controller == (List.getD p1.owners i0 (Owner.mk eB eB 0 false false)).controller) && ((x0.block == (List.getD p1.owners i0 (Owner.mk eB eB 0 false false)).block) && true))))) then
   Q6o p0 p1 r0 (i0 + 1)
  else
   (.k1)
def Qxv (_p0 : Meta) (_p1 : Meta) (i0 : Nat) : List PV :=
  [.un, .un, .bx 0 0, .bx 1 0, .un, .int .i64 (i0 : Int)] ++ nuns 148
def Qwz (p0 : Meta) (p1 : Meta) (_i0 : Nat) : List Ob :=
  [⟨13, 0, true, [.str p0.kind, .str p0.namespace_, .str p0.name, .int .i64 p0.uid, .int .i64 p0.version, .int .i64 p0.generation, .int .i64 p0.created, .bool p0.deleting, .int .i64 p0.deleteAt, .sl (Label.rows p0.labels), .sl (Owner.rows p0.owners), .sl (Qv p0.finalizers), .sl (Manager.rows p0.managers)]⟩, ⟨13, 0, true, [.str p1.kind, .str p1.namespace_, .str p1.name, .int .i64 p1.uid, .int .i64 p1.version, .int .i64 p1.generation, .int .i64 p1.created, .bool p1.deleting, .int .i64 p1.deleteAt, .sl (Label.rows p1.labels), .sl (Owner.rows p1.owners), .sl (Qv p1.finalizers), .sl (Manager.rows p1.managers)]⟩]
def Q7r (p0 : Meta) (p1 : Meta) (i0 : Nat) : En := .loop 0 Ir.Qid Ir.Q1ec (Qxv p0 p1 i0) (Qwz p0 p1 i0)
def Qa1 (p0 : Meta) (p1 : Meta) (z : Nat → PV) (_zo : Nat → List PV) : St :=
  ⟨[z 0, z 1, .bx 0 0, .bx 1 0] ++ zr z 4 150, [(0, ⟨13, 0, true, [.str p0.kind, .str p0.namespace_, .str p0.name, .int .i64 p0.uid, .int .i64 p0.version, .int .i64 p0.generation, .int .i64 p0.created, .bool p0.deleting, .int .i64 p0.deleteAt, .sl (Label.rows p0.labels), .sl (Owner.rows p0.owners), .sl (Qv p0.finalizers), .sl (Manager.rows p0.managers)]⟩), (1, ⟨13, 0, true, [.str p1.kind, .str p1.namespace_, .str p1.name, .int .i64 p1.uid, .int .i64 p1.version, .int .i64 p1.generation, .int .i64 p1.created, .bool p1.deleting, .int .i64 p1.deleteAt, .sl (Label.rows p1.labels), .sl (Owner.rows p1.owners), .sl (Qv p1.finalizers), .sl (Manager.rows p1.managers)]⟩)], 322⟩
def Qe2 (_p0 : Meta) (_p1 : Meta) (z : Nat → PV) (zo : Nat → List PV) : St :=
  ⟨[z 0, z 1, z 2, z 3, .bool false] ++ zr z 5 149, [(0, ⟨13, 0, true, zo 0⟩), (1, ⟨13, 0, true, zo 1⟩)], 1090⟩
def Qbv (p0 : Meta) (p1 : Meta) (e : En) : Q13b → Prop
  | .k0 => ∃ z zo, Qi G e (.st (.exit 0) (Qa1 p0 p1 z zo))
  | .k1 => ∃ z zo, Qi G e (.st .ret (Qe2 p0 p1 z zo))
theorem Qs1 (p0 : Meta) (p1 : Meta) {e e' : En} (h : ∀ r, Qi G e r → Qi G e' r) : ∀ q, Qbv p0 p1 e q → Qbv p0 p1 e' q
  | .k0, ⟨z, zo, hz⟩ => ⟨z, zo, h _ hz⟩
  | .k1, ⟨z, zo, hz⟩ => ⟨z, zo, h _ hz⟩
def Qc6 (p0 : Meta) (p1 : Meta) : Prop := (List.length p0.owners ≤ 4611686018427387904) ∧ (∀ (i0 : Nat) (x0 : Owner), p0.owners[i0]? = some x0 → i0 < List.length p1.owners) ∧ True
def Qqf (p0 : Meta) (_p1 : Meta) (i0 : Nat) : List PV :=
  nuns 5 ++ [.int .i64 (i0 : Int)] ++ nuns 94 ++ [.int .i64 (i0 : Int), .bx 0 10, .sl (Owner.rows p0.owners), .int .i64 ((List.length p0.owners) : Int), .bool false]
def Qn8 (_p0 : Meta) (_p1 : Meta) (_i0 : Nat) : List (Nat × List PV) :=
  []
theorem Q15f (p0 : Meta) (p1 : Meta) (_H : Qc6 p0 p1) (i0 : Nat) (hc0 : (decide ((i0 : Int) < ((List.length p0.owners) : Int))) = false) : Qbv p0 p1 (Q7r p0 p1 i0) (.k0) := by
 exact ⟨(envF (Qqf p0 p1 i0)), (zoF (Qn8 p0 p1 i0)), Q10 VOK.nil (x := ((.exit 0), Qa1 p0 p1 (envF (Qqf p0 p1 i0)) (zoF (Qn8 p0 p1 i0)))) [hP 3 (Qz (Owner.rows p0.owners) (List.length p0.owners) (Owner.Q9 p0.owners)), hB 0 hc0] [] (by kernel_rfl)⟩
theorem Q15k (p0 : Meta) (p1 : Meta) (H : Qc6 p0 p1) (x0 : Owner) (i0 : Nat) (hx0 : p0.owners[i0]? = some x0) (hi0 : i0 < List.length p0.owners) (hc0 : (decide ((i0 : Int) < ((List.length p0.owners) : Int))) = true) (h0 : ((sEq x0.kind (List.getD p1.owners i0 (Owner.mk eB eB 0 false false)).kind) && ((sEq x0.name (List.getD p1.owners i0 (Owner.mk eB eB 0 false false)).name) && ((x0.uid == (List.getD p1.owners i0 (Owner.mk eB eB 0 false false)).uid) && ((x0.controller == (List.getD p1.owners i0 (Owner.mk eB eB 0 false false)).controller) && ((x0.block == (List.getD p1.owners i0 (Owner.mk eB eB 0 false false)).block) && true))))) = true) {r : Rs} (hr : Qi G (Q7r p0 p1 (i0 + 1)) r) : Qi G (Q7r p0 p1 i0) r := by
 have hB0 := H.1
 exact Qw VOK.nil (y := (Qxv p0 p1 (i0 + 1), Qwz p0 p1 (i0 + 1))) [hP 3 (Qz (Owner.rows p0.owners) (List.length p0.owners) (Owner.Q9 p0.owners)), hB 0 hc0, hP 3 (Q15 5 (Owner.rows p0.owners) i0 _ (Owner.Qe hx0) rfl), hP 4 (Q15 5 (Owner.rows p1.owners) i0 _ (Owner.Qe (Q3q p1.owners i0 (Owner.mk eB eB 0 false false) ((H.2.1 i0 x0 hx0)))) rfl), hP 1 (dec (!((sEq x0.kind (List.getD p1.owners i0 (Owner.mk eB eB 0 false false)).kind) && ((sEq x0.name (List.getD p1.owners i0 (Owner.mk eB eB 0 false false)).name) && ((x0.uid == (List.getD p1.owners i0 (Owner.mk eB eB 0 false false)).uid) && ((x0.controller == (List.getD p1.owners i0 (Owner.mk eB eB 0 false false)).controller) && ((x0.block == (List.getD p1.owners i0 (Owner.mk eB eB 0 false false)).block) && true)))))) false (by rw [h0]; rfl)), hP 1 (Q25 i0 (by omega))] [] (by kernel_rfl) hr
def Qr8 (p0 : Meta) (p1 : Meta) (i0 : Nat) (x0 : Owner) : List PV :=
  [.un, .un, .bx 0 0, .bx 1 0, .un, .int .i64 (i0 : Int)] ++ nuns 94 ++ [.int .i64 (i0 : Int), .bx 0 10, .sl (Owner.rows p0.owners), .int .i64 ((List.length p0.owners) : Int), .bool true, .un, .un, .bx 0 10, .sl (Owner.rows p0.owners), .int .i64 (i0 : Int), .rf [.str x0.kind, .str x0.name, .int .i64 x0.uid, .bool x0.controller, .bool x0.block], .agg [.str x0.kind, .str x0.name, .int .i64 x0.uid, .bool x0.controller, .bool x0.block], .bx 1 10, .sl (Owner.rows p1.owners), .int .i64 (i0 : Int), .rf [.str (List.getD p1.owners i0 (Owner.mk eB eB 0 false false)).kind, .str (List.getD p1.owners i0 (Owner.mk eB eB 0 false false)).name, .int .i64 (List.getD p1.owners i0 (Owner.mk eB eB 0 false false)).uid, .bool (List.getD p1.owners i0 (Owner.mk eB eB 0 false false)).controller, .bool (List.getD p1.owners i0 (Owner.mk eB eB 0 false false)).block], .agg [.str (List.getD p1.owners i0 (Owner.mk eB eB 0 false false)).kind, .str (List.getD p1.owners i0 (Owner.mk eB eB 0 false false)).name, .int .i64 (List.getD p1.owners i0 (Owner.mk eB eB 0 false false)).uid, .bool (List.getD p1.owners i0 (Owner.mk eB eB 0 false false)).controller, .bool (List.getD p1.owners i0 (Owner.mk eB eB 0 false false)).block], .bool true]
def Qmh (p0 : Meta) (p1 : Meta) (_i0 : Nat) (_x0 : Owner) : List (Nat × List PV) :=
  [(0, [.str p0.kind, .str p0.namespace_, .str p0.name, .int .i64 p0.uid, .int .i64 p0.version, .int .i64 p0.generation, .int .i64 p0.created, .bool p0.deleting, .int .i64 p0.deleteAt, .sl (Label.rows p0.labels), .sl (Owner.rows p0.owners), .sl (Qv p0.finalizers), .sl (Manager.rows p0.managers)]), (1, [.str p1.kind, .str p1.namespace_, .str p1.name, .int .i64 p1.uid, .int .i64 p1.version, .int .i64 p1.generation, .int .i64 p1.created, .bool p1.deleting, .int .i64 p1.deleteAt, .sl (Label.rows p1.labels), .sl (Owner.rows p1.owners), .sl (Qv p1.finalizers), .sl (Manager.rows p1.managers)])]
theorem Q19a (p0 : Meta) (p1 : Meta) (H : Qc6 p0 p1) (x0 : Owner) (i0 : Nat) (hx0 : p0.owners[i0]? = some x0) (_hi0 : i0 < List.length p0.owners) (hc0 : (decide ((i0 : Int) < ((List.length p0.owners) : Int))) = true) (h0 : ((sEq x0.kind (List.getD p1.owners i0 (Owner.mk eB eB 0 false false)).kind) && ((sEq x0.name (List.getD p1.owners i0 (Owner.mk eB eB 0 false false)).name) && ((x0.uid == (List.getD p1.owners i0 (Owner.mk eB eB 0 false false)).uid) && ((x0.controller == (List.getD p1.owners i0 (Owner.mk eB eB 0 false false)).controller) && ((x0.block == (List.getD p1.owners i0 (Owner.mk eB eB 0 false false)).block) && true))))) = false) : Qbv p0 p1 (Q7r p0 p1 i0) (.k1) := by
 exact ⟨(envF (Qr8 p0 p1 i0 x0)), (zoF (Qmh p0 p1 i0 x0)), Q10 VOK.nil (x := (.ret, Qe2 p0 p1 (envF (Qr8 p0 p1 i0 x0)) (zoF (Qmh p0 p1 i0 x0)))) [hP 3 (Qz (Owner.rows p0.owners) (List.length p0.owners) (Owner.Q9 p0.owners)), hB 0 hc0, hP 3 (Q15 5 (Owner.rows p0.owners) i0 _ (Owner.Qe hx0) rfl), hP 4 (Q15 5 (Owner.rows p1.owners) i0 _ (Owner.Qe (Q3q p1.owners i0 (Owner.mk eB eB 0 false false) ((H.2.1 i0 x0 hx0)))) rfl), hP 1 (dec (!((sEq x0.kind (List.getD p1.owners i0 (Owner.mk eB eB 0 false false)).kind) && ((sEq x0.name (List.getD p1.owners i0 (Owner.mk eB eB 0 false false)).name) && ((x0.uid == (List.getD p1.owners i0 (Owner.mk eB eB 0 false false)).uid) && ((x0.controller == (List.getD p1.owners i0 (Owner.mk eB eB 0 false false)).controller) && ((x0.block == (List.getD p1.owners i0 (Owner.mk eB eB 0 false false)).block) && true)))))) true (by rw [h0]; rfl))] [] (by kernel_rfl)⟩
theorem Qwe (p0 : Meta) (p1 : Meta) (H : Qc6 p0 p1) : ∀ (r0 : List Owner) (i0 : Nat), List.drop i0 p0.owners = r0 → Qbv p0 p1 (Q7r p0 p1 i0) (Q6o p0 p1 r0 i0)
 | [], i0, hd => by
  have hc0 : (decide ((i0 : Int) < ((List.length p0.owners) : Int))) = false := by have := Q1v hd; simp; omega
  rw [Q6o]
  exact Q15f p0 p1 H i0 hc0
 | x0 :: r0, i0, hd => by
  obtain ⟨hx0, hi0, hd'⟩ := Q1s hd
  have hc0 : (decide ((i0 : Int) < ((List.length p0.owners) : Int))) = true := by simp; omega
  rw [Q6o]
  cases h0 : ((sEq x0.kind (List.getD p1.owners i0 (Owner.mk eB eB 0 false false)).kind) && ((sEq x0.name (List.getD p1.owners i0 (Owner.mk eB eB 0 false false)).name) && ((x0.uid == (List.getD p1.owners i0 (Owner.mk eB eB 0 false false)).uid) && ((x0.controller == (List.getD p1.owners i0 (Owner.mk eB eB 0 false false)).controller) && ((x0.block == (List.getD p1.owners i0 (Owner.mk eB eB 0 false false)).block) && true))))) with
  | true =>
   exact Qs1 p0 p1 (fun r hr => Q15k p0 p1 H x0 i0 hx0 hi0 hc0 h0 hr) _ (Qwe p0 p1 H r0 (i0 + 1) hd')
  | false =>
   exact Q19a p0 p1 H x0 i0 hx0 hi0 hc0 h0
inductive Q11n where
  | k0
  | k1
def Q6m (p0 : Meta) (p1 : Meta) : List Manager → Nat → Q11n
 | [], _i1 =>
  (.k0)
 | x1 :: r1, i1 =>
  bif (sEq x1.name (List.getD p1.managers i1 (Manager.mk eB [])).name) then
   bif (Qak x1.fields (List.getD p1.managers i1 (Manager.mk eB [])).fields) then
    Q6m p0 p1 r1 (i1 + 1)
   else
    (.k1)
  else
   (.k1)
def Qvo (_p0 : Meta) (_p1 : Meta) (i1 : Nat) : List PV :=
  [.un, .un, .bx 0 0, .bx 1 0, .un, .un, .int .i64 (i1 : Int)] ++ nuns 147
def Qvk (p0 : Meta) (p1 : Meta) (_i1 : Nat) : List Ob :=
  [⟨13, 0, true, [.str p0.kind, .str p0.namespace_, .str p0.name, .int .i64 p0.uid, .int .i64 p0.version, .int .i64 p0.generation, .int .i64 p0.created, .bool p0.deleting, .int .i64 p0.deleteAt, .sl (Label.rows p0.labels), .sl (Owner.rows p0.owners), .sl (Qv p0.finalizers), .sl (Manager.rows p0.managers)]⟩, ⟨13, 0, true, [.str p1.kind, .str p1.namespace_, .str p1.name, .int .i64 p1.uid, .int .i64 p1.version, .int .i64 p1.generation, .int .i64 p1.created, .bool p1.deleting, .int .i64 p1.deleteAt, .sl (Label.rows p1.labels), .sl (Owner.rows p1.owners), .sl (Qv p1.finalizers), .sl (Manager.rows p1.managers)]⟩]
def Q7l (p0 : Meta) (p1 : Meta) (i1 : Nat) : En := .loop 0 Ir.Qj8 Ir.Q1e3 (Qvo p0 p1 i1) (Qvk p0 p1 i1)
def Qdn (p0 : Meta) (p1 : Meta) (z : Nat → PV) (_zo : Nat → List PV) : St :=
  ⟨zr z 0 154, [(0, ⟨13, 0, true, [.str p0.kind, .str p0.namespace_, .str p0.name, .int .i64 p0.uid, .int .i64 p0.version, .int .i64 p0.generation, .int .i64 p0.created, .bool p0.deleting, .int .i64 p0.deleteAt, .sl (Label.rows p0.labels), .sl (Owner.rows p0.owners), .sl (Qv p0.finalizers), .sl (Manager.rows p0.managers)]⟩), (1, ⟨13, 0, true, [.str p1.kind, .str p1.namespace_, .str p1.name, .int .i64 p1.uid, .int .i64 p1.version, .int .i64 p1.generation, .int .i64 p1.created, .bool p1.deleting, .int .i64 p1.deleteAt, .sl (Label.rows p1.labels), .sl (Owner.rows p1.owners), .sl (Qv p1.finalizers), .sl (Manager.rows p1.managers)]⟩)], 322⟩
def Qa5 (_p0 : Meta) (_p1 : Meta) (z : Nat → PV) (zo : Nat → List PV) : St :=
  ⟨[z 0, z 1, z 2, z 3, .bool false] ++ zr z 5 149, [(0, ⟨13, 0, true, zo 0⟩), (1, ⟨13, 0, true, zo 1⟩)], 2242⟩
def Q9w (p0 : Meta) (p1 : Meta) (e : En) : Q11n → Prop
  | .k0 => ∃ z zo, Qi G e (.st (.exit 2) (Qdn p0 p1 z zo))
  | .k1 => ∃ z zo, Qi G e (.st .ret (Qa5 p0 p1 z zo))
theorem Qte (p0 : Meta) (p1 : Meta) {e e' : En} (h : ∀ r, Qi G e r → Qi G e' r) : ∀ q, Q9w p0 p1 e q → Q9w p0 p1 e' q
  | .k0, ⟨z, zo, hz⟩ => ⟨z, zo, h _ hz⟩
  | .k1, ⟨z, zo, hz⟩ => ⟨z, zo, h _ hz⟩
def Q9q (p0 : Meta) (p1 : Meta) : Prop := (List.length p0.managers ≤ 4611686018427387904) ∧ (∀ (i1 : Nat) (x1 : Manager), p0.managers[i1]? = some x1 → i1 < List.length p1.managers) ∧ (∀ (i1 : Nat) (x1 : Manager), p0.managers[i1]? = some x1 → Q1g6 x1.fields (List.getD p1.managers i1 (Manager.mk eB [])).fields) ∧ True
def Qpa (p0 : Meta) (_p1 : Meta) (i1 : Nat) : List PV :=
  [.un, .un, .bx 0 0, .bx 1 0, .un, .un, .int .i64 (i1 : Int)] ++ nuns 111 ++ [.int .i64 (i1 : Int), .bx 0 12, .sl (Manager.rows p0.managers), .int .i64 ((List.length p0.managers) : Int), .bool false]
def Qhl (_p0 : Meta) (_p1 : Meta) (_i1 : Nat) : List (Nat × List PV) :=
  []
theorem Q16o (p0 : Meta) (p1 : Meta) (_H : Q9q p0 p1) (i1 : Nat) (hc1 : (decide ((i1 : Int) < ((List.length p0.managers) : Int))) = false) : Q9w p0 p1 (Q7l p0 p1 i1) (.k0) := by
 exact ⟨(envF (Qpa p0 p1 i1)), (zoF (Qhl p0 p1 i1)), Q10 VOK.nil (x := ((.exit 2), Qdn p0 p1 (envF (Qpa p0 p1 i1)) (zoF (Qhl p0 p1 i1)))) [hP 3 (Qz (Manager.rows p0.managers) (List.length p0.managers) (Manager.Q9 p0.managers)), hB 0 hc1] [] (by kernel_rfl)⟩
theorem Q15w (p0 : Meta) (p1 : Meta) (H : Q9q p0 p1) (x1 : Manager) (i1 : Nat) (hx1 : p0.managers[i1]? = some x1) (hi1 : i1 < List.length p0.managers) (hc1 : (decide ((i1 : Int) < ((List.length p0.managers) : Int))) = true) (h0 : (sEq x1.name (List.getD p1.managers i1 (Manager.mk eB [])).name) = true) (h1 : (Qak x1.fields (List.getD p1.managers i1 (Manager.mk eB [])).fields) = true) {r : Rs} (hr : Qi G (Q7l p0 p1 (i1 + 1)) r) : Qi G (Q7l p0 p1 i1) r := by
 have hB0 := H.1
 exact Qw VOK.nil (y := (Qvo p0 p1 (i1 + 1), Qvk p0 p1 (i1 + 1))) [hP 3 (Qz (Manager.rows p0.managers) (List.length p0.managers) (Manager.Q9 p0.managers)), hB 0 hc1, hP 3 (Q15 2 (Manager.rows p0.managers) i1 _ (Manager.Qe hx1) rfl), hP 5 (Q15 2 (Manager.rows p1.managers) i1 _ (Manager.Qe (Q3q p1.managers i1 (Manager.mk eB []) ((H.2.1 i1 x1 hx1)))) rfl), hP 2 (dec (!(sEq x1.name (List.getD p1.managers i1 (Manager.mk eB [])).name)) false (by rw [h0]; rfl)), hP 4 (Q15 2 (Manager.rows p0.managers) i1 _ (Manager.Qe hx1) rfl), hP 5 (Q15 2 (Manager.rows p1.managers) i1 _ (Manager.Qe (Q3q p1.managers i1 (Manager.mk eB []) ((H.2.1 i1 x1 hx1)))) rfl), hP 6 (Q25 i1 (by omega))] [aB (Qx8 x1.fields (List.getD p1.managers i1 (Manager.mk eB [])).fields (H.2.2.1 i1 x1 hx1)) h1] (by kernel_rfl) hr
def Qoh (p0 : Meta) (p1 : Meta) (i1 : Nat) (x1 : Manager) : List PV :=
  [.un, .un, .bx 0 0, .bx 1 0, .un, .un, .int .i64 (i1 : Int)] ++ nuns 111 ++ [.int .i64 (i1 : Int), .bx 0 12, .sl (Manager.rows p0.managers), .int .i64 ((List.length p0.managers) : Int), .bool true, .un, .un, .bx 0 12, .sl (Manager.rows p0.managers), .int .i64 (i1 : Int), .rf [.str x1.name, .sl (Qv x1.fields)], .rf [.str x1.name, .sl (Qv x1.fields)], .str x1.name, .bx 1 12, .sl (Manager.rows p1.managers), .int .i64 (i1 : Int), .rf [.str (List.getD p1.managers i1 (Manager.mk eB [])).name, .sl (Qv (List.getD p1.managers i1 (Manager.mk eB [])).fields)], .rf [.str (List.getD p1.managers i1 (Manager.mk eB [])).name, .sl (Qv (List.getD p1.managers i1 (Manager.mk eB [])).fields)], .str (List.getD p1.managers i1 (Manager.mk eB [])).name, .bool false, .bool false, .bx 0 12, .sl (Manager.rows p0.managers), .int .i64 (i1 : Int), .rf [.str x1.name, .sl (Qv x1.fields)], .rf [.sl (Qv x1.fields)], .sl (Qv x1.fields), .bx 1 12, .sl (Manager.rows p1.managers), .int .i64 (i1 : Int), .rf [.str (List.getD p1.managers i1 (Manager.mk eB [])).name, .sl (Qv (List.getD p1.managers i1 (Manager.mk eB [])).fields)], .rf [.sl (Qv (List.getD p1.managers i1 (Manager.mk eB [])).fields)], .sl (Qv (List.getD p1.managers i1 (Manager.mk eB [])).fields), .bool false, .bool true, .bool true]
def Qlr (p0 : Meta) (p1 : Meta) (_i1 : Nat) (_x1 : Manager) : List (Nat × List PV) :=
  [(0, [.str p0.kind, .str p0.namespace_, .str p0.name, .int .i64 p0.uid, .int .i64 p0.version, .int .i64 p0.generation, .int .i64 p0.created, .bool p0.deleting, .int .i64 p0.deleteAt, .sl (Label.rows p0.labels), .sl (Owner.rows p0.owners), .sl (Qv p0.finalizers), .sl (Manager.rows p0.managers)]), (1, [.str p1.kind, .str p1.namespace_, .str p1.name, .int .i64 p1.uid, .int .i64 p1.version, .int .i64 p1.generation, .int .i64 p1.created, .bool p1.deleting, .int .i64 p1.deleteAt, .sl (Label.rows p1.labels), .sl (Owner.rows p1.owners), .sl (Qv p1.finalizers), .sl (Manager.rows p1.managers)])]
theorem Q18x (p0 : Meta) (p1 : Meta) (H : Q9q p0 p1) (x1 : Manager) (i1 : Nat) (hx1 : p0.managers[i1]? = some x1) (_hi1 : i1 < List.length p0.managers) (hc1 : (decide ((i1 : Int) < ((List.length p0.managers) : Int))) = true) (h0 : (sEq x1.name (List.getD p1.managers i1 (Manager.mk eB [])).name) = true) (h1 : (Qak x1.fields (List.getD p1.managers i1 (Manager.mk eB [])).fields) = false) : Q9w p0 p1 (Q7l p0 p1 i1) (.k1) := by
 exact ⟨(envF (Qoh p0 p1 i1 x1)), (zoF (Qlr p0 p1 i1 x1)), Q10 VOK.nil (x := (.ret, Qa5 p0 p1 (envF (Qoh p0 p1 i1 x1)) (zoF (Qlr p0 p1 i1 x1)))) [hP 3 (Qz (Manager.rows p0.managers) (List.length p0.managers) (Manager.Q9 p0.managers)), hB 0 hc1, hP 3 (Q15 2 (Manager.rows p0.managers) i1 _ (Manager.Qe hx1) rfl), hP 5 (Q15 2 (Manager.rows p1.managers) i1 _ (Manager.Qe (Q3q p1.managers i1 (Manager.mk eB []) ((H.2.1 i1 x1 hx1)))) rfl), hP 2 (dec (!(sEq x1.name (List.getD p1.managers i1 (Manager.mk eB [])).name)) false (by rw [h0]; rfl)), hP 4 (Q15 2 (Manager.rows p0.managers) i1 _ (Manager.Qe hx1) rfl), hP 5 (Q15 2 (Manager.rows p1.managers) i1 _ (Manager.Qe (Q3q p1.managers i1 (Manager.mk eB []) ((H.2.1 i1 x1 hx1)))) rfl)] [aB (Qx8 x1.fields (List.getD p1.managers i1 (Manager.mk eB [])).fields (H.2.2.1 i1 x1 hx1)) h1] (by kernel_rfl)⟩
def Qnh (p0 : Meta) (p1 : Meta) (i1 : Nat) (x1 : Manager) : List PV :=
  [.un, .un, .bx 0 0, .bx 1 0, .un, .un, .int .i64 (i1 : Int)] ++ nuns 111 ++ [.int .i64 (i1 : Int), .bx 0 12, .sl (Manager.rows p0.managers), .int .i64 ((List.length p0.managers) : Int), .bool true, .un, .un, .bx 0 12, .sl (Manager.rows p0.managers), .int .i64 (i1 : Int), .rf [.str x1.name, .sl (Qv x1.fields)], .rf [.str x1.name, .sl (Qv x1.fields)], .str x1.name, .bx 1 12, .sl (Manager.rows p1.managers), .int .i64 (i1 : Int), .rf [.str (List.getD p1.managers i1 (Manager.mk eB [])).name, .sl (Qv (List.getD p1.managers i1 (Manager.mk eB [])).fields)], .rf [.str (List.getD p1.managers i1 (Manager.mk eB [])).name, .sl (Qv (List.getD p1.managers i1 (Manager.mk eB [])).fields)], .str (List.getD p1.managers i1 (Manager.mk eB [])).name, .bool true, .bool true, .tup [], .tup [], .tup [], .tup [], .tup [], .tup [], .tup [], .tup [], .tup [], .tup [], .tup [], .tup [], .tup [], .tup [], .bool true]
def Qic (p0 : Meta) (p1 : Meta) (_i1 : Nat) (_x1 : Manager) : List (Nat × List PV) :=
  [(0, [.str p0.kind, .str p0.namespace_, .str p0.name, .int .i64 p0.uid, .int .i64 p0.version, .int .i64 p0.generation, .int .i64 p0.created, .bool p0.deleting, .int .i64 p0.deleteAt, .sl (Label.rows p0.labels), .sl (Owner.rows p0.owners), .sl (Qv p0.finalizers), .sl (Manager.rows p0.managers)]), (1, [.str p1.kind, .str p1.namespace_, .str p1.name, .int .i64 p1.uid, .int .i64 p1.version, .int .i64 p1.generation, .int .i64 p1.created, .bool p1.deleting, .int .i64 p1.deleteAt, .sl (Label.rows p1.labels), .sl (Owner.rows p1.owners), .sl (Qv p1.finalizers), .sl (Manager.rows p1.managers)])]
theorem Q17t (p0 : Meta) (p1 : Meta) (H : Q9q p0 p1) (x1 : Manager) (i1 : Nat) (hx1 : p0.managers[i1]? = some x1) (_hi1 : i1 < List.length p0.managers) (hc1 : (decide ((i1 : Int) < ((List.length p0.managers) : Int))) = true) (h0 : (sEq x1.name (List.getD p1.managers i1 (Manager.mk eB [])).name) = false) : Q9w p0 p1 (Q7l p0 p1 i1) (.k1) := by
 exact ⟨(envF (Qnh p0 p1 i1 x1)), (zoF (Qic p0 p1 i1 x1)), Q10 VOK.nil (x := (.ret, Qa5 p0 p1 (envF (Qnh p0 p1 i1 x1)) (zoF (Qic p0 p1 i1 x1)))) [hP 3 (Qz (Manager.rows p0.managers) (List.length p0.managers) (Manager.Q9 p0.managers)), hB 0 hc1, hP 3 (Q15 2 (Manager.rows p0.managers) i1 _ (Manager.Qe hx1) rfl), hP 5 (Q15 2 (Manager.rows p1.managers) i1 _ (Manager.Qe (Q3q p1.managers i1 (Manager.mk eB []) ((H.2.1 i1 x1 hx1)))) rfl), hP 2 (dec (!(sEq x1.name (List.getD p1.managers i1 (Manager.mk eB [])).name)) true (by rw [h0]; rfl))] [] (by kernel_rfl)⟩
theorem Qx7 (p0 : Meta) (p1 : Meta) (H : Q9q p0 p1) : ∀ (r1 : List Manager) (i1 : Nat), List.drop i1 p0.managers = r1 → Q9w p0 p1 (Q7l p0 p1 i1) (Q6m p0 p1 r1 i1)
 | [], i1, hd => by
  have hc1 : (decide ((i1 : Int) < ((List.length p0.managers) : Int))) = false := by have := Q1v hd; simp; omega
  rw [Q6m]
  exact Q16o p0 p1 H i1 hc1
 | x1 :: r1, i1, hd => by
  obtain ⟨hx1, hi1, hd'⟩ := Q1s hd
  have hc1 : (decide ((i1 : Int) < ((List.length p0.managers) : Int))) = true := by simp; omega
  rw [Q6m]
  cases h0 : (sEq x1.name (List.getD p1.managers i1 (Manager.mk eB [])).name) with
  | true =>
   cases h1 : (Qak x1.fields (List.getD p1.managers i1 (Manager.mk eB [])).fields) with
   | true =>
    exact Qte p0 p1 (fun r hr => Q15w p0 p1 H x1 i1 hx1 hi1 hc1 h0 h1 hr) _ (Qx7 p0 p1 H r1 (i1 + 1) hd')
   | false =>
    exact Q18x p0 p1 H x1 i1 hx1 hi1 hc1 h0 h1
  | false =>
   exact Q17t p0 p1 H x1 i1 hx1 hi1 hc1 h0
def Q171 (p0 : Meta) (p1 : Meta) : Bool :=
 bif (sEq p0.kind p1.kind) then
  bif (sEq p0.namespace_ p1.namespace_) then
   bif (sEq p0.name p1.name) then
    bif (p0.uid == p1.uid) then
     bif (p0.version == p1.version) then
      bif (p0.generation == p1.generation) then
       bif (p0.created == p1.created) then
        bif (p0.deleting == p1.deleting) then
         bif (p0.deleteAt == p1.deleteAt) then
          bif (Qdp p0.labels p1.labels) then
           bif (Qak p0.finalizers p1.finalizers) then
            bif (((List.length p0.owners) : Int) == ((List.length p1.owners) : Int)) then
             bif (((List.length p0.managers) : Int) == ((List.length p1.managers) : Int)) then
              (match (Q6o p0 p1 p0.owners 0) with
              | .k0 => (match (Q6m p0 p1 p0.managers 0) with
               | .k0 => true
               | .k1 => false)
              | .k1 => false)
             else
              false
            else
             false
           else
            false
          else
           false
         else
          false
        else
         false
       else
        false
      else
       false
     else
      false
    else
     false
   else
    false
  else
   false
 else
  false
def Q99 (p0 : Meta) (p1 : Meta) : En := .call 58 [.agg (Meta.cells p0), .agg (Meta.cells p1)] []
def Q1lj (p0 : Meta) (p1 : Meta) : Rs := .ret (.bool (Q171 p0 p1)) []
def Q7e (p0 : Meta) (p1 : Meta) : Prop := (Q1jx p0.labels p1.labels) ∧ (Q1g6 p0.finalizers p1.finalizers) ∧ ((((List.length p0.owners) : Int) == ((List.length p1.owners) : Int)) = true → (((List.length p0.managers) : Int) == ((List.length p1.managers) : Int)) = true → Qc6 p0 p1) ∧ ((((List.length p0.owners) : Int) == ((List.length p1.owners) : Int)) = true → (((List.length p0.managers) : Int) == ((List.length p1.managers) : Int)) = true → Q9q p0 p1) ∧ True
theorem Q1fb (p0 : Meta) (p1 : Meta) (H : Q7e p0 p1) (h0 : (sEq p0.kind p1.kind) = true) (h1 : (sEq p0.namespace_ p1.namespace_) = true) (h2 : (sEq p0.name p1.name) = true) (h3 : (p0.uid == p1.uid) = true) (h4 : (p0.version == p1.version) = true) (h5 : (p0.generation == p1.generation) = true) (h6 : (p0.created == p1.created) = true) (h7 : (p0.deleting == p1.deleting) = true) (h8 : (p0.deleteAt == p1.deleteAt) = true) (h9 : (Qdp p0.labels p1.labels) = true) (h10 : (Qak p0.finalizers p1.finalizers) = true) (h11 : (((List.length p0.owners) : Int) == ((List.length p1.owners) : Int)) = true) (h12 : (((List.length p0.managers) : Int) == ((List.length p1.managers) : Int)) = true) (z13 : Nat → PV) (zo13 : Nat → List PV) (hl13 : Qi G (Q7r p0 p1 0) (.st (.exit 0) (Qa1 p0 p1 z13 zo13))) (z14 : Nat → PV) (zo14 : Nat → List PV) (hl14 : Qi G (Q7l p0 p1 0) (.st (.exit 2) (Qdn p0 p1 z14 zo14))) : Qi G (Q99 p0 p1) (.ret (.bool (true)) []) := by
 exact Qm (fn := Ir.K2j) rfl VOK.nil [hP 7 (dec (!(sEq p0.kind p1.kind)) false (by rw [h0]; rfl)), hP 5 (dec (!(sEq p0.namespace_ p1.namespace_)) false (by rw [h1]; rfl)), hP 6 (dec (!(sEq p0.name p1.name)) false (by rw [h2]; rfl)), hP 6 (dec (!(p0.uid == p1.uid)) false (by rw [h3]; rfl)), hP 6 (dec (!(p0.version == p1.version)) false (by rw [h4]; rfl)), hP 6 (dec (!(p0.generation == p1.generation)) false (by rw [h5]; rfl)), hP 6 (dec (!(p0.created == p1.created)) false (by rw [h6]; rfl)), hP 6 (dec (!(p0.deleting == p1.deleting)) false (by rw [h7]; rfl)), hP 6 (dec (!(p0.deleteAt == p1.deleteAt)) false (by rw [h8]; rfl)), hP 18 (Qz (Owner.rows p0.owners) (List.length p0.owners) (Owner.Q9 p0.owners)), hP 2 (Qz (Owner.rows p1.owners) (List.length p1.owners) (Owner.Q9 p1.owners)), hP 0 (dec (!(((List.length p0.owners) : Int) == ((List.length p1.owners) : Int))) false (by rw [h11]; rfl)), hP 4 (Qz (Manager.rows p0.managers) (List.length p0.managers) (Manager.Q9 p0.managers)), hP 2 (Qz (Manager.rows p1.managers) (List.length p1.managers) (Manager.Q9 p1.managers)), hP 0 (dec (!(((List.length p0.managers) : Int) == ((List.length p1.managers) : Int))) false (by rw [h12]; rfl))] [aB (Qzh p0.labels p1.labels H.1) h9, aB (Qx8 p0.finalizers p1.finalizers H.2.1) h10, aN hl13, aN hl14] (by kernel_rfl)
theorem Q1ge (p0 : Meta) (p1 : Meta) (H : Q7e p0 p1) (h0 : (sEq p0.kind p1.kind) = true) (h1 : (sEq p0.namespace_ p1.namespace_) = true) (h2 : (sEq p0.name p1.name) = true) (h3 : (p0.uid == p1.uid) = true) (h4 : (p0.version == p1.version) = true) (h5 : (p0.generation == p1.generation) = true) (h6 : (p0.created == p1.created) = true) (h7 : (p0.deleting == p1.deleting) = true) (h8 : (p0.deleteAt == p1.deleteAt) = true) (h9 : (Qdp p0.labels p1.labels) = true) (h10 : (Qak p0.finalizers p1.finalizers) = true) (h11 : (((List.length p0.owners) : Int) == ((List.length p1.owners) : Int)) = true) (h12 : (((List.length p0.managers) : Int) == ((List.length p1.managers) : Int)) = true) (z13 : Nat → PV) (zo13 : Nat → List PV) (hl13 : Qi G (Q7r p0 p1 0) (.st (.exit 0) (Qa1 p0 p1 z13 zo13))) (z14 : Nat → PV) (zo14 : Nat → List PV) (hl14 : Qi G (Q7l p0 p1 0) (.st .ret (Qa5 p0 p1 z14 zo14))) : Qi G (Q99 p0 p1) (.ret (.bool (false)) []) := by
 exact Qm (fn := Ir.K2j) rfl VOK.nil [hP 7 (dec (!(sEq p0.kind p1.kind)) false (by rw [h0]; rfl)), hP 5 (dec (!(sEq p0.namespace_ p1.namespace_)) false (by rw [h1]; rfl)), hP 6 (dec (!(sEq p0.name p1.name)) false (by rw [h2]; rfl)), hP 6 (dec (!(p0.uid == p1.uid)) false (by rw [h3]; rfl)), hP 6 (dec (!(p0.version == p1.version)) false (by rw [h4]; rfl)), hP 6 (dec (!(p0.generation == p1.generation)) false (by rw [h5]; rfl)), hP 6 (dec (!(p0.created == p1.created)) false (by rw [h6]; rfl)), hP 6 (dec (!(p0.deleting == p1.deleting)) false (by rw [h7]; rfl)), hP 6 (dec (!(p0.deleteAt == p1.deleteAt)) false (by rw [h8]; rfl)), hP 18 (Qz (Owner.rows p0.owners) (List.length p0.owners) (Owner.Q9 p0.owners)), hP 2 (Qz (Owner.rows p1.owners) (List.length p1.owners) (Owner.Q9 p1.owners)), hP 0 (dec (!(((List.length p0.owners) : Int) == ((List.length p1.owners) : Int))) false (by rw [h11]; rfl)), hP 4 (Qz (Manager.rows p0.managers) (List.length p0.managers) (Manager.Q9 p0.managers)), hP 2 (Qz (Manager.rows p1.managers) (List.length p1.managers) (Manager.Q9 p1.managers)), hP 0 (dec (!(((List.length p0.managers) : Int) == ((List.length p1.managers) : Int))) false (by rw [h12]; rfl))] [aB (Qzh p0.labels p1.labels H.1) h9, aB (Qx8 p0.finalizers p1.finalizers H.2.1) h10, aN hl13, aN hl14] (by kernel_rfl)
theorem Q1fr (p0 : Meta) (p1 : Meta) (H : Q7e p0 p1) (h0 : (sEq p0.kind p1.kind) = true) (h1 : (sEq p0.namespace_ p1.namespace_) = true) (h2 : (sEq p0.name p1.name) = true) (h3 : (p0.uid == p1.uid) = true) (h4 : (p0.version == p1.version) = true) (h5 : (p0.generation == p1.generation) = true) (h6 : (p0.created == p1.created) = true) (h7 : (p0.deleting == p1.deleting) = true) (h8 : (p0.deleteAt == p1.deleteAt) = true) (h9 : (Qdp p0.labels p1.labels) = true) (h10 : (Qak p0.finalizers p1.finalizers) = true) (h11 : (((List.length p0.owners) : Int) == ((List.length p1.owners) : Int)) = true) (h12 : (((List.length p0.managers) : Int) == ((List.length p1.managers) : Int)) = true) (z13 : Nat → PV) (zo13 : Nat → List PV) (hl13 : Qi G (Q7r p0 p1 0) (.st .ret (Qe2 p0 p1 z13 zo13))) : Qi G (Q99 p0 p1) (.ret (.bool (false)) []) := by
 exact Qm (fn := Ir.K2j) rfl VOK.nil [hP 7 (dec (!(sEq p0.kind p1.kind)) false (by rw [h0]; rfl)), hP 5 (dec (!(sEq p0.namespace_ p1.namespace_)) false (by rw [h1]; rfl)), hP 6 (dec (!(sEq p0.name p1.name)) false (by rw [h2]; rfl)), hP 6 (dec (!(p0.uid == p1.uid)) false (by rw [h3]; rfl)), hP 6 (dec (!(p0.version == p1.version)) false (by rw [h4]; rfl)), hP 6 (dec (!(p0.generation == p1.generation)) false (by rw [h5]; rfl)), hP 6 (dec (!(p0.created == p1.created)) false (by rw [h6]; rfl)), hP 6 (dec (!(p0.deleting == p1.deleting)) false (by rw [h7]; rfl)), hP 6 (dec (!(p0.deleteAt == p1.deleteAt)) false (by rw [h8]; rfl)), hP 18 (Qz (Owner.rows p0.owners) (List.length p0.owners) (Owner.Q9 p0.owners)), hP 2 (Qz (Owner.rows p1.owners) (List.length p1.owners) (Owner.Q9 p1.owners)), hP 0 (dec (!(((List.length p0.owners) : Int) == ((List.length p1.owners) : Int))) false (by rw [h11]; rfl)), hP 4 (Qz (Manager.rows p0.managers) (List.length p0.managers) (Manager.Q9 p0.managers)), hP 2 (Qz (Manager.rows p1.managers) (List.length p1.managers) (Manager.Q9 p1.managers)), hP 0 (dec (!(((List.length p0.managers) : Int) == ((List.length p1.managers) : Int))) false (by rw [h12]; rfl))] [aB (Qzh p0.labels p1.labels H.1) h9, aB (Qx8 p0.finalizers p1.finalizers H.2.1) h10, aN hl13] (by kernel_rfl)
theorem Q1hv (p0 : Meta) (p1 : Meta) (H : Q7e p0 p1) (h0 : (sEq p0.kind p1.kind) = true) (h1 : (sEq p0.namespace_ p1.namespace_) = true) (h2 : (sEq p0.name p1.name) = true) (h3 : (p0.uid == p1.uid) = true) (h4 : (p0.version == p1.version) = true) (h5 : (p0.generation == p1.generation) = true) (h6 : (p0.created == p1.created) = true) (h7 : (p0.deleting == p1.deleting) = true) (h8 : (p0.deleteAt == p1.deleteAt) = true) (h9 : (Qdp p0.labels p1.labels) = true) (h10 : (Qak p0.finalizers p1.finalizers) = true) (h11 : (((List.length p0.owners) : Int) == ((List.length p1.owners) : Int)) = true) (h12 : (((List.length p0.managers) : Int) == ((List.length p1.managers) : Int)) = false) : Qi G (Q99 p0 p1) (.ret (.bool (false)) []) := by
 exact Qm (fn := Ir.K2j) rfl VOK.nil [hP 7 (dec (!(sEq p0.kind p1.kind)) false (by rw [h0]; rfl)), hP 5 (dec (!(sEq p0.namespace_ p1.namespace_)) false (by rw [h1]; rfl)), hP 6 (dec (!(sEq p0.name p1.name)) false (by rw [h2]; rfl)), hP 6 (dec (!(p0.uid == p1.uid)) false (by rw [h3]; rfl)), hP 6 (dec (!(p0.version == p1.version)) false (by rw [h4]; rfl)), hP 6 (dec (!(p0.generation == p1.generation)) false (by rw [h5]; rfl)), hP 6 (dec (!(p0.created == p1.created)) false (by rw [h6]; rfl)), hP 6 (dec (!(p0.deleting == p1.deleting)) false (by rw [h7]; rfl)), hP 6 (dec (!(p0.deleteAt == p1.deleteAt)) false (by rw [h8]; rfl)), hP 18 (Qz (Owner.rows p0.owners) (List.length p0.owners) (Owner.Q9 p0.owners)), hP 2 (Qz (Owner.rows p1.owners) (List.length p1.owners) (Owner.Q9 p1.owners)), hP 0 (dec (!(((List.length p0.owners) : Int) == ((List.length p1.owners) : Int))) false (by rw [h11]; rfl)), hP 4 (Qz (Manager.rows p0.managers) (List.length p0.managers) (Manager.Q9 p0.managers)), hP 2 (Qz (Manager.rows p1.managers) (List.length p1.managers) (Manager.Q9 p1.managers)), hP 0 (dec (!(((List.length p0.managers) : Int) == ((List.length p1.managers) : Int))) true (by rw [h12]; rfl))] [aB (Qzh p0.labels p1.labels H.1) h9, aB (Qx8 p0.finalizers p1.finalizers H.2.1) h10] (by kernel_rfl)
theorem Q1hi (p0 : Meta) (p1 : Meta) (H : Q7e p0 p1) (h0 : (sEq p0.kind p1.kind) = true) (h1 : (sEq p0.namespace_ p1.namespace_) = true) (h2 : (sEq p0.name p1.name) = true) (h3 : (p0.uid == p1.uid) = true) (h4 : (p0.version == p1.version) = true) (h5 : (p0.generation == p1.generation) = true) (h6 : (p0.created == p1.created) = true) (h7 : (p0.deleting == p1.deleting) = true) (h8 : (p0.deleteAt == p1.deleteAt) = true) (h9 : (Qdp p0.labels p1.labels) = true) (h10 : (Qak p0.finalizers p1.finalizers) = true) (h11 : (((List.length p0.owners) : Int) == ((List.length p1.owners) : Int)) = false) : Qi G (Q99 p0 p1) (.ret (.bool (false)) []) := by
 exact Qm (fn := Ir.K2j) rfl VOK.nil [hP 7 (dec (!(sEq p0.kind p1.kind)) false (by rw [h0]; rfl)), hP 5 (dec (!(sEq p0.namespace_ p1.namespace_)) false (by rw [h1]; rfl)), hP 6 (dec (!(sEq p0.name p1.name)) false (by rw [h2]; rfl)), hP 6 (dec (!(p0.uid == p1.uid)) false (by rw [h3]; rfl)), hP 6 (dec (!(p0.version == p1.version)) false (by rw [h4]; rfl)), hP 6 (dec (!(p0.generation == p1.generation)) false (by rw [h5]; rfl)), hP 6 (dec (!(p0.created == p1.created)) false (by rw [h6]; rfl)), hP 6 (dec (!(p0.deleting == p1.deleting)) false (by rw [h7]; rfl)), hP 6 (dec (!(p0.deleteAt == p1.deleteAt)) false (by rw [h8]; rfl)), hP 18 (Qz (Owner.rows p0.owners) (List.length p0.owners) (Owner.Q9 p0.owners)), hP 2 (Qz (Owner.rows p1.owners) (List.length p1.owners) (Owner.Q9 p1.owners)), hP 0 (dec (!(((List.length p0.owners) : Int) == ((List.length p1.owners) : Int))) true (by rw [h11]; rfl))] [aB (Qzh p0.labels p1.labels H.1) h9, aB (Qx8 p0.finalizers p1.finalizers H.2.1) h10] (by kernel_rfl)
theorem Q1hj (p0 : Meta) (p1 : Meta) (H : Q7e p0 p1) (h0 : (sEq p0.kind p1.kind) = true) (h1 : (sEq p0.namespace_ p1.namespace_) = true) (h2 : (sEq p0.name p1.name) = true) (h3 : (p0.uid == p1.uid) = true) (h4 : (p0.version == p1.version) = true) (h5 : (p0.generation == p1.generation) = true) (h6 : (p0.created == p1.created) = true) (h7 : (p0.deleting == p1.deleting) = true) (h8 : (p0.deleteAt == p1.deleteAt) = true) (h9 : (Qdp p0.labels p1.labels) = true) (h10 : (Qak p0.finalizers p1.finalizers) = false) : Qi G (Q99 p0 p1) (.ret (.bool (false)) []) := by
 exact Qm (fn := Ir.K2j) rfl VOK.nil [hP 7 (dec (!(sEq p0.kind p1.kind)) false (by rw [h0]; rfl)), hP 5 (dec (!(sEq p0.namespace_ p1.namespace_)) false (by rw [h1]; rfl)), hP 6 (dec (!(sEq p0.name p1.name)) false (by rw [h2]; rfl)), hP 6 (dec (!(p0.uid == p1.uid)) false (by rw [h3]; rfl)), hP 6 (dec (!(p0.version == p1.version)) false (by rw [h4]; rfl)), hP 6 (dec (!(p0.generation == p1.generation)) false (by rw [h5]; rfl)), hP 6 (dec (!(p0.created == p1.created)) false (by rw [h6]; rfl)), hP 6 (dec (!(p0.deleting == p1.deleting)) false (by rw [h7]; rfl)), hP 6 (dec (!(p0.deleteAt == p1.deleteAt)) false (by rw [h8]; rfl))] [aB (Qzh p0.labels p1.labels H.1) h9, aB (Qx8 p0.finalizers p1.finalizers H.2.1) h10] (by kernel_rfl)
theorem Q1fa (p0 : Meta) (p1 : Meta) (H : Q7e p0 p1) (h0 : (sEq p0.kind p1.kind) = true) (h1 : (sEq p0.namespace_ p1.namespace_) = true) (h2 : (sEq p0.name p1.name) = true) (h3 : (p0.uid == p1.uid) = true) (h4 : (p0.version == p1.version) = true) (h5 : (p0.generation == p1.generation) = true) (h6 : (p0.created == p1.created) = true) (h7 : (p0.deleting == p1.deleting) = true) (h8 : (p0.deleteAt == p1.deleteAt) = true) (h9 : (Qdp p0.labels p1.labels) = false) : Qi G (Q99 p0 p1) (.ret (.bool (false)) []) := by
 exact Qm (fn := Ir.K2j) rfl VOK.nil [hP 7 (dec (!(sEq p0.kind p1.kind)) false (by rw [h0]; rfl)), hP 5 (dec (!(sEq p0.namespace_ p1.namespace_)) false (by rw [h1]; rfl)), hP 6 (dec (!(sEq p0.name p1.name)) false (by rw [h2]; rfl)), hP 6 (dec (!(p0.uid == p1.uid)) false (by rw [h3]; rfl)), hP 6 (dec (!(p0.version == p1.version)) false (by rw [h4]; rfl)), hP 6 (dec (!(p0.generation == p1.generation)) false (by rw [h5]; rfl)), hP 6 (dec (!(p0.created == p1.created)) false (by rw [h6]; rfl)), hP 6 (dec (!(p0.deleting == p1.deleting)) false (by rw [h7]; rfl)), hP 6 (dec (!(p0.deleteAt == p1.deleteAt)) false (by rw [h8]; rfl))] [aB (Qzh p0.labels p1.labels H.1) h9] (by kernel_rfl)
theorem Q1g1 (p0 : Meta) (p1 : Meta) (_H : Q7e p0 p1) (h0 : (sEq p0.kind p1.kind) = true) (h1 : (sEq p0.namespace_ p1.namespace_) = true) (h2 : (sEq p0.name p1.name) = true) (h3 : (p0.uid == p1.uid) = true) (h4 : (p0.version == p1.version) = true) (h5 : (p0.generation == p1.generation) = true) (h6 : (p0.created == p1.created) = true) (h7 : (p0.deleting == p1.deleting) = true) (h8 : (p0.deleteAt == p1.deleteAt) = false) : Qi G (Q99 p0 p1) (.ret (.bool (false)) []) := by
 exact Qm (fn := Ir.K2j) rfl VOK.nil [hP 7 (dec (!(sEq p0.kind p1.kind)) false (by rw [h0]; rfl)), hP 5 (dec (!(sEq p0.namespace_ p1.namespace_)) false (by rw [h1]; rfl)), hP 6 (dec (!(sEq p0.name p1.name)) false (by rw [h2]; rfl)), hP 6 (dec (!(p0.uid == p1.uid)) false (by rw [h3]; rfl)), hP 6 (dec (!(p0.version == p1.version)) false (by rw [h4]; rfl)), hP 6 (dec (!(p0.generation == p1.generation)) false (by rw [h5]; rfl)), hP 6 (dec (!(p0.created == p1.created)) false (by rw [h6]; rfl)), hP 6 (dec (!(p0.deleting == p1.deleting)) false (by rw [h7]; rfl)), hP 6 (dec (!(p0.deleteAt == p1.deleteAt)) true (by rw [h8]; rfl))] [] (by kernel_rfl)
theorem Q1fy (p0 : Meta) (p1 : Meta) (_H : Q7e p0 p1) (h0 : (sEq p0.kind p1.kind) = true) (h1 : (sEq p0.namespace_ p1.namespace_) = true) (h2 : (sEq p0.name p1.name) = true) (h3 : (p0.uid == p1.uid) = true) (h4 : (p0.version == p1.version) = true) (h5 : (p0.generation == p1.generation) = true) (h6 : (p0.created == p1.created) = true) (h7 : (p0.deleting == p1.deleting) = false) : Qi G (Q99 p0 p1) (.ret (.bool (false)) []) := by
 exact Qm (fn := Ir.K2j) rfl VOK.nil [hP 7 (dec (!(sEq p0.kind p1.kind)) false (by rw [h0]; rfl)), hP 5 (dec (!(sEq p0.namespace_ p1.namespace_)) false (by rw [h1]; rfl)), hP 6 (dec (!(sEq p0.name p1.name)) false (by rw [h2]; rfl)), hP 6 (dec (!(p0.uid == p1.uid)) false (by rw [h3]; rfl)), hP 6 (dec (!(p0.version == p1.version)) false (by rw [h4]; rfl)), hP 6 (dec (!(p0.generation == p1.generation)) false (by rw [h5]; rfl)), hP 6 (dec (!(p0.created == p1.created)) false (by rw [h6]; rfl)), hP 6 (dec (!(p0.deleting == p1.deleting)) true (by rw [h7]; rfl))] [] (by kernel_rfl)
theorem Q1hq (p0 : Meta) (p1 : Meta) (_H : Q7e p0 p1) (h0 : (sEq p0.kind p1.kind) = true) (h1 : (sEq p0.namespace_ p1.namespace_) = true) (h2 : (sEq p0.name p1.name) = true) (h3 : (p0.uid == p1.uid) = true) (h4 : (p0.version == p1.version) = true) (h5 : (p0.generation == p1.generation) = true) (h6 : (p0.created == p1.created) = false) : Qi G (Q99 p0 p1) (.ret (.bool (false)) []) := by
 exact Qm (fn := Ir.K2j) rfl VOK.nil [hP 7 (dec (!(sEq p0.kind p1.kind)) false (by rw [h0]; rfl)), hP 5 (dec (!(sEq p0.namespace_ p1.namespace_)) false (by rw [h1]; rfl)), hP 6 (dec (!(sEq p0.name p1.name)) false (by rw [h2]; rfl)), hP 6 (dec (!(p0.uid == p1.uid)) false (by rw [h3]; rfl)), hP 6 (dec (!(p0.version == p1.version)) false (by rw [h4]; rfl)), hP 6 (dec (!(p0.generation == p1.generation)) false (by rw [h5]; rfl)), hP 6 (dec (!(p0.created == p1.created)) true (by rw [h6]; rfl))] [] (by kernel_rfl)
theorem Q1df (p0 : Meta) (p1 : Meta) (_H : Q7e p0 p1) (h0 : (sEq p0.kind p1.kind) = true) (h1 : (sEq p0.namespace_ p1.namespace_) = true) (h2 : (sEq p0.name p1.name) = true) (h3 : (p0.uid == p1.uid) = true) (h4 : (p0.version == p1.version) = true) (h5 : (p0.generation == p1.generation) = false) : Qi G (Q99 p0 p1) (.ret (.bool (false)) []) := by
 exact Qm (fn := Ir.K2j) rfl VOK.nil [hP 7 (dec (!(sEq p0.kind p1.kind)) false (by rw [h0]; rfl)), hP 5 (dec (!(sEq p0.namespace_ p1.namespace_)) false (by rw [h1]; rfl)), hP 6 (dec (!(sEq p0.name p1.name)) false (by rw [h2]; rfl)), hP 6 (dec (!(p0.uid == p1.uid)) false (by rw [h3]; rfl)), hP 6 (dec (!(p0.version == p1.version)) false (by rw [h4]; rfl)), hP 6 (dec (!(p0.generation == p1.generation)) true (by rw [h5]; rfl))] [] (by kernel_rfl)
theorem Q1d3 (p0 : Meta) (p1 : Meta) (_H : Q7e p0 p1) (h0 : (sEq p0.kind p1.kind) = true) (h1 : (sEq p0.namespace_ p1.namespace_) = true) (h2 : (sEq p0.name p1.name) = true) (h3 : (p0.uid == p1.uid) = true) (h4 : (p0.version == p1.version) = false) : Qi G (Q99 p0 p1) (.ret (.bool (false)) []) := by
 exact Qm (fn := Ir.K2j) rfl VOK.nil [hP 7 (dec (!(sEq p0.kind p1.kind)) false (by rw [h0]; rfl)), hP 5 (dec (!(sEq p0.namespace_ p1.namespace_)) false (by rw [h1]; rfl)), hP 6 (dec (!(sEq p0.name p1.name)) false (by rw [h2]; rfl)), hP 6 (dec (!(p0.uid == p1.uid)) false (by rw [h3]; rfl)), hP 6 (dec (!(p0.version == p1.version)) true (by rw [h4]; rfl))] [] (by kernel_rfl)
theorem Q1d2 (p0 : Meta) (p1 : Meta) (_H : Q7e p0 p1) (h0 : (sEq p0.kind p1.kind) = true) (h1 : (sEq p0.namespace_ p1.namespace_) = true) (h2 : (sEq p0.name p1.name) = true) (h3 : (p0.uid == p1.uid) = false) : Qi G (Q99 p0 p1) (.ret (.bool (false)) []) := by
 exact Qm (fn := Ir.K2j) rfl VOK.nil [hP 7 (dec (!(sEq p0.kind p1.kind)) false (by rw [h0]; rfl)), hP 5 (dec (!(sEq p0.namespace_ p1.namespace_)) false (by rw [h1]; rfl)), hP 6 (dec (!(sEq p0.name p1.name)) false (by rw [h2]; rfl)), hP 6 (dec (!(p0.uid == p1.uid)) true (by rw [h3]; rfl))] [] (by kernel_rfl)
theorem Q1cy (p0 : Meta) (p1 : Meta) (_H : Q7e p0 p1) (h0 : (sEq p0.kind p1.kind) = true) (h1 : (sEq p0.namespace_ p1.namespace_) = true) (h2 : (sEq p0.name p1.name) = false) : Qi G (Q99 p0 p1) (.ret (.bool (false)) []) := by
 exact Qm (fn := Ir.K2j) rfl VOK.nil [hP 7 (dec (!(sEq p0.kind p1.kind)) false (by rw [h0]; rfl)), hP 5 (dec (!(sEq p0.namespace_ p1.namespace_)) false (by rw [h1]; rfl)), hP 6 (dec (!(sEq p0.name p1.name)) true (by rw [h2]; rfl))] [] (by kernel_rfl)
theorem Q1cw (p0 : Meta) (p1 : Meta) (_H : Q7e p0 p1) (h0 : (sEq p0.kind p1.kind) = true) (h1 : (sEq p0.namespace_ p1.namespace_) = false) : Qi G (Q99 p0 p1) (.ret (.bool (false)) []) := by
 exact Qm (fn := Ir.K2j) rfl VOK.nil [hP 7 (dec (!(sEq p0.kind p1.kind)) false (by rw [h0]; rfl)), hP 5 (dec (!(sEq p0.namespace_ p1.namespace_)) true (by rw [h1]; rfl))] [] (by kernel_rfl)
theorem Q1d5 (p0 : Meta) (p1 : Meta) (_H : Q7e p0 p1) (h0 : (sEq p0.kind p1.kind) = false) : Qi G (Q99 p0 p1) (.ret (.bool (false)) []) := by
 exact Qm (fn := Ir.K2j) rfl VOK.nil [hP 7 (dec (!(sEq p0.kind p1.kind)) true (by rw [h0]; rfl))] [] (by kernel_rfl)
theorem Q1h8 (p0 : Meta) (p1 : Meta) (H : Q7e p0 p1) : Qi G (Q99 p0 p1) (Q1lj p0 p1) := by
 unfold Q1lj Q171
 cases h0 : (sEq p0.kind p1.kind) with
 | true =>
  cases h1 : (sEq p0.namespace_ p1.namespace_) with
  | true =>
   cases h2 : (sEq p0.name p1.name) with
   | true =>
    cases h3 : (p0.uid == p1.uid) with
    | true =>
     cases h4 : (p0.version == p1.version) with
     | true =>
      cases h5 : (p0.generation == p1.generation) with
      | true =>
       cases h6 : (p0.created == p1.created) with
       | true =>
        cases h7 : (p0.deleting == p1.deleting) with
        | true =>
         cases h8 : (p0.deleteAt == p1.deleteAt) with
         | true =>
          cases h9 : (Qdp p0.labels p1.labels) with
          | true =>
           cases h10 : (Qak p0.finalizers p1.finalizers) with
           | true =>
            cases h11 : (((List.length p0.owners) : Int) == ((List.length p1.owners) : Int)) with
            | true =>
             cases h12 : (((List.length p0.managers) : Int) == ((List.length p1.managers) : Int)) with
             | true =>
              have hl13 := Qwe p0 p1 (H.2.2.1 h11 h12) p0.owners 0 (by simp)
              cases hr13 : (Q6o p0 p1 p0.owners 0) with
              | k0 =>
               rw [hr13] at hl13
               obtain ⟨z13, zo13, hl13⟩ := hl13
               try dsimp only
               have hl14 := Qx7 p0 p1 (H.2.2.2.1 h11 h12) p0.managers 0 (by simp)
               cases hr14 : (Q6m p0 p1 p0.managers 0) with
               | k0 =>
                rw [hr14] at hl14
                obtain ⟨z14, zo14, hl14⟩ := hl14
                exact Q1fb p0 p1 H h0 h1 h2 h3 h4 h5 h6 h7 h8 h9 h10 h11 h12 z13 zo13 hl13 z14 zo14 hl14
               | k1 =>
                rw [hr14] at hl14
                obtain ⟨z14, zo14, hl14⟩ := hl14
                exact Q1ge p0 p1 H h0 h1 h2 h3 h4 h5 h6 h7 h8 h9 h10 h11 h12 z13 zo13 hl13 z14 zo14 hl14
              | k1 =>
               rw [hr13] at hl13
               obtain ⟨z13, zo13, hl13⟩ := hl13
               exact Q1fr p0 p1 H h0 h1 h2 h3 h4 h5 h6 h7 h8 h9 h10 h11 h12 z13 zo13 hl13
             | false =>
              exact Q1hv p0 p1 H h0 h1 h2 h3 h4 h5 h6 h7 h8 h9 h10 h11 h12
            | false =>
             exact Q1hi p0 p1 H h0 h1 h2 h3 h4 h5 h6 h7 h8 h9 h10 h11
           | false =>
            exact Q1hj p0 p1 H h0 h1 h2 h3 h4 h5 h6 h7 h8 h9 h10
          | false =>
           exact Q1fa p0 p1 H h0 h1 h2 h3 h4 h5 h6 h7 h8 h9
         | false =>
          exact Q1g1 p0 p1 H h0 h1 h2 h3 h4 h5 h6 h7 h8
        | false =>
         exact Q1fy p0 p1 H h0 h1 h2 h3 h4 h5 h6 h7
       | false =>
        exact Q1hq p0 p1 H h0 h1 h2 h3 h4 h5 h6
      | false =>
       exact Q1df p0 p1 H h0 h1 h2 h3 h4 h5
     | false =>
      exact Q1d3 p0 p1 H h0 h1 h2 h3 h4
    | false =>
     exact Q1d2 p0 p1 H h0 h1 h2 h3
   | false =>
    exact Q1cy p0 p1 H h0 h1 h2
  | false =>
   exact Q1cw p0 p1 H h0 h1
 | false =>
  exact Q1d5 p0 p1 H h0
def Q18p (p0 : Object) (p1 : Object) : Bool :=
 bif (Q171 p0.meta_ p1.meta_) then
  bif (Q82 p0.spec p1.spec) then
   (Q82 p0.status p1.status)
  else
   false
 else
  false
def Q1q2 (p0 : Object) (p1 : Object) : En := .call 24 [.agg (Object.cells p0), .agg (Object.cells p1)] []
def Q1l4 (p0 : Object) (p1 : Object) : Rs := .ret (.bool (Q18p p0 p1)) []
def Q174 (p0 : Object) (p1 : Object) : Prop := (Q7e p0.meta_ p1.meta_) ∧ (Q8c p0.spec) ∧ (Q8c p0.status) ∧ True
theorem Q1ko (p0 : Object) (p1 : Object) (H : Q174 p0 p1) : Qi G (Q1q2 p0 p1) (Q1l4 p0 p1) := by
 unfold Q1l4 Q18p
 cases h0 : (Q171 p0.meta_ p1.meta_) with
 | true =>
  cases h1 : (Q82 p0.spec p1.spec) with
  | true =>
   exact Qm (fn := Ir.K2l) rfl VOK.nil [] [aB (Q1h8 p0.meta_ p1.meta_ H.1) h0, aB (Q1bx p0.spec p1.spec H.2.1) h1, aN (Q1bx p0.status p1.status H.2.2.1)] (by kernel_rfl)
  | false =>
   exact Qm (fn := Ir.K2l) rfl VOK.nil [] [aB (Q1h8 p0.meta_ p1.meta_ H.1) h0, aB (Q1bx p0.spec p1.spec H.2.1) h1] (by kernel_rfl)
 | false =>
  exact Qm (fn := Ir.K2l) rfl VOK.nil [] [aB (Q1h8 p0.meta_ p1.meta_ H.1) h0] (by kernel_rfl)
inductive Q1bc where
  | k0
  | k1
def Qdq (p0 : Meta) : List Label → Nat → Q1bc
 | [], _i0 =>
  (.k0)
 | x0 :: r0, i0 =>
  bif (decide (400 < (w64 ((ByteArray.size x0.key : Int) + (ByteArray.size x0.value : Int))))) then
   (.k1)
  else
   Qdq p0 r0 (i0 + 1)
def Q130 (p0 : Meta) (i0 : Nat) : List PV :=
  [.un, .bx 0 0] ++ nuns 48 ++ [.sl (Label.rows p0.labels), .int .i64 ((List.length p0.labels) : Int), .int .i64 (i0 : Int)] ++ nuns 68
def Q131 (p0 : Meta) (_i0 : Nat) : List Ob :=
  [⟨13, 0, true, [.str p0.kind, .str p0.namespace_, .str p0.name, .int .i64 p0.uid, .int .i64 p0.version, .int .i64 p0.generation, .int .i64 p0.created, .bool p0.deleting, .int .i64 p0.deleteAt, .sl (Label.rows p0.labels), .sl (Owner.rows p0.owners), .sl (Qv p0.finalizers), .sl (Manager.rows p0.managers)]⟩]
def Q72 (p0 : Meta) (i0 : Nat) : En := .loop 0 Ir.Qnp Ir.Q1kz (Q130 p0 i0) (Q131 p0 i0)
def Q78 (p0 : Meta) (z : Nat → PV) (_zo : Nat → List PV) : St :=
  ⟨[z 0, .bx 0 0] ++ zr z 2 119, [(0, ⟨13, 0, true, [.str p0.kind, .str p0.namespace_, .str p0.name, .int .i64 p0.uid, .int .i64 p0.version, .int .i64 p0.generation, .int .i64 p0.created, .bool p0.deleting, .int .i64 p0.deleteAt, .sl (Label.rows p0.labels), .sl (Owner.rows p0.owners), .sl (Qv p0.finalizers), .sl (Manager.rows p0.managers)]⟩)], 65⟩
def Qhs (_p0 : Meta) (z : Nat → PV) (zo : Nat → List PV) : St :=
  ⟨[z 0, z 1, .bool false] ++ zr z 3 118, [(0, ⟨13, 0, true, zo 0⟩), (193, ⟨2, 0, true, zo 193⟩)], 897⟩
def Qjb (p0 : Meta) (e : En) : Q1bc → Prop
  | .k0 => ∃ z zo, Qi G e (.st (.exit 0) (Q78 p0 z zo))
  | .k1 => ∃ z zo, Qi G e (.st .ret (Qhs p0 z zo))
theorem Qxo (p0 : Meta) {e e' : En} (h : ∀ r, Qi G e r → Qi G e' r) : ∀ q, Qjb p0 e q → Qjb p0 e' q
  | .k0, ⟨z, zo, hz⟩ => ⟨z, zo, h _ hz⟩
  | .k1, ⟨z, zo, hz⟩ => ⟨z, zo, h _ hz⟩
def Qkg (p0 : Meta) : Prop := (List.length p0.labels ≤ 4611686018427387904) ∧ True
def Qwr (p0 : Meta) (i0 : Nat) : List PV :=
  nuns 50 ++ [.sl (Label.rows p0.labels), .int .i64 ((List.length p0.labels) : Int), .int .i64 (i0 : Int), .bool false]
def Qr2 (_p0 : Meta) (_i0 : Nat) : List (Nat × List PV) :=
  []
theorem Q1bi (p0 : Meta) (_H : Qkg p0) (i0 : Nat) (hc0 : (decide ((i0 : Int) < ((List.length p0.labels) : Int))) = false) : Qjb p0 (Q72 p0 i0) (.k0) := by
 exact ⟨(envF (Qwr p0 i0)), (zoF (Qr2 p0 i0)), Q10 VOK.nil (x := ((.exit 0), Q78 p0 (envF (Qwr p0 i0)) (zoF (Qr2 p0 i0)))) [hB 0 hc0] [] (by kernel_rfl)⟩
def Qwf (p0 : Meta) (i0 : Nat) (x0 : Label) : List PV :=
  [.un, .bx 0 0, .un, .un, .bx 193 0] ++ nuns 45 ++ [.sl (Label.rows p0.labels), .int .i64 ((List.length p0.labels) : Int), .int .i64 (i0 : Int), .bool true, .rf [.str x0.key, .str x0.value], .agg [.str x0.key, .str x0.value], .bx 193 0, .str x0.key, .int .i64 (ByteArray.size x0.key : Int), .bx 193 1, .str x0.value, .int .i64 (ByteArray.size x0.value : Int), .int .i64 (w64 ((ByteArray.size x0.key : Int) + (ByteArray.size x0.value : Int))), .bool true]
def Qqm (p0 : Meta) (_i0 : Nat) (x0 : Label) : List (Nat × List PV) :=
  [(0, [.str p0.kind, .str p0.namespace_, .str p0.name, .int .i64 p0.uid, .int .i64 p0.version, .int .i64 p0.generation, .int .i64 p0.created, .bool p0.deleting, .int .i64 p0.deleteAt, .sl (Label.rows p0.labels), .sl (Owner.rows p0.owners), .sl (Qv p0.finalizers), .sl (Manager.rows p0.managers)]), (193, [.str x0.key, .str x0.value])]
theorem Q1ba (p0 : Meta) (_H : Qkg p0) (x0 : Label) (i0 : Nat) (hx0 : p0.labels[i0]? = some x0) (_hi0 : i0 < List.length p0.labels) (hc0 : (decide ((i0 : Int) < ((List.length p0.labels) : Int))) = true) (h0 : (decide (400 < (w64 ((ByteArray.size x0.key : Int) + (ByteArray.size x0.value : Int))))) = true) : Qjb p0 (Q72 p0 i0) (.k1) := by
 exact ⟨(envF (Qwf p0 i0 x0)), (zoF (Qqm p0 i0 x0)), Q10 VOK.nil (x := (.ret, Qhs p0 (envF (Qwf p0 i0 x0)) (zoF (Qqm p0 i0 x0)))) [hB 0 hc0, hP 0 (Q15 2 (Label.rows p0.labels) i0 _ (Label.Qe hx0) rfl), hB 10 h0] [] (by kernel_rfl)⟩
theorem Q19t (p0 : Meta) (H : Qkg p0) (x0 : Label) (i0 : Nat) (hx0 : p0.labels[i0]? = some x0) (hi0 : i0 < List.length p0.labels) (hc0 : (decide ((i0 : Int) < ((List.length p0.labels) : Int))) = true) (h0 : (decide (400 < (w64 ((ByteArray.size x0.key : Int) + (ByteArray.size x0.value : Int))))) = false) {r : Rs} (hr : Qi G (Q72 p0 (i0 + 1)) r) : Qi G (Q72 p0 i0) r := by
 have hB0 := H.1; have e0 := of_decide_eq_false h0
 exact Qw VOK.nil (y := (Q130 p0 (i0 + 1), Q131 p0 (i0 + 1))) [hB 0 hc0, hP 0 (Q15 2 (Label.rows p0.labels) i0 _ (Label.Qe hx0) rfl), hB 10 h0, hP 0 (Q25 i0 (by omega))] [] (by kernel_rfl) hr
theorem Q13u (p0 : Meta) (H : Qkg p0) : ∀ (r0 : List Label) (i0 : Nat), List.drop i0 p0.labels = r0 → Qjb p0 (Q72 p0 i0) (Qdq p0 r0 i0)
 | [], i0, hd => by
  have hc0 : (decide ((i0 : Int) < ((List.length p0.labels) : Int))) = false := by have := Q1v hd; simp; omega
  rw [Qdq]
  exact Q1bi p0 H i0 hc0
 | x0 :: r0, i0, hd => by
  obtain ⟨hx0, hi0, hd'⟩ := Q1s hd
  have hc0 : (decide ((i0 : Int) < ((List.length p0.labels) : Int))) = true := by simp; omega
  rw [Qdq]
  cases h0 : (decide (400 < (w64 ((ByteArray.size x0.key : Int) + (ByteArray.size x0.value : Int))))) with
  | true =>
   exact Q1ba p0 H x0 i0 hx0 hi0 hc0 h0
  | false =>
   exact Qxo p0 (fun r hr => Q19t p0 H x0 i0 hx0 hi0 hc0 h0 hr) _ (Q13u p0 H r0 (i0 + 1) hd')
inductive Q1ak where
  | k0
  | k1
def Qe5 (p0 : Meta) : List Owner → Nat → Q1ak
 | [], _i1 =>
  (.k0)
 | x1 :: r1, i1 =>
  bif (decide (400 < (w64 ((ByteArray.size x1.kind : Int) + (ByteArray.size x1.name : Int))))) then
   (.k1)
  else
   Qe5 p0 r1 (i1 + 1)
def Q12v (p0 : Meta) (i1 : Nat) : List PV :=
  [.un, .bx 0 0] ++ nuns 64 ++ [.sl (Owner.rows p0.owners), .int .i64 ((List.length p0.owners) : Int), .int .i64 (i1 : Int)] ++ nuns 52
def Q10x (p0 : Meta) (_i1 : Nat) : List Ob :=
  [⟨13, 0, true, [.str p0.kind, .str p0.namespace_, .str p0.name, .int .i64 p0.uid, .int .i64 p0.version, .int .i64 p0.generation, .int .i64 p0.created, .bool p0.deleting, .int .i64 p0.deleteAt, .sl (Label.rows p0.labels), .sl (Owner.rows p0.owners), .sl (Qv p0.finalizers), .sl (Manager.rows p0.managers)]⟩]
def Q84 (p0 : Meta) (i1 : Nat) : En := .loop 0 Ir.Qqb Ir.Q1kx (Q12v p0 i1) (Q10x p0 i1)
def Q88 (p0 : Meta) (z : Nat → PV) (_zo : Nat → List PV) : St :=
  ⟨[z 0, .bx 0 0] ++ zr z 2 119, [(0, ⟨13, 0, true, [.str p0.kind, .str p0.namespace_, .str p0.name, .int .i64 p0.uid, .int .i64 p0.version, .int .i64 p0.generation, .int .i64 p0.created, .bool p0.deleting, .int .i64 p0.deleteAt, .sl (Label.rows p0.labels), .sl (Owner.rows p0.owners), .sl (Qv p0.finalizers), .sl (Manager.rows p0.managers)]⟩)], 65⟩
def Qle (_p0 : Meta) (z : Nat → PV) (zo : Nat → List PV) : St :=
  ⟨[z 0, z 1, .bool false] ++ zr z 3 118, [(0, ⟨13, 0, true, zo 0⟩), (193, ⟨5, 0, true, zo 193⟩)], 897⟩
def Qir (p0 : Meta) (e : En) : Q1ak → Prop
  | .k0 => ∃ z zo, Qi G e (.st (.exit 2) (Q88 p0 z zo))
  | .k1 => ∃ z zo, Qi G e (.st .ret (Qle p0 z zo))
theorem Qw6 (p0 : Meta) {e e' : En} (h : ∀ r, Qi G e r → Qi G e' r) : ∀ q, Qir p0 e q → Qir p0 e' q
  | .k0, ⟨z, zo, hz⟩ => ⟨z, zo, h _ hz⟩
  | .k1, ⟨z, zo, hz⟩ => ⟨z, zo, h _ hz⟩
def Qmm (p0 : Meta) : Prop := (List.length p0.owners ≤ 4611686018427387904) ∧ True
def Qv9 (p0 : Meta) (i1 : Nat) : List PV :=
  nuns 66 ++ [.sl (Owner.rows p0.owners), .int .i64 ((List.length p0.owners) : Int), .int .i64 (i1 : Int), .bool false]
def Qpq (_p0 : Meta) (_i1 : Nat) : List (Nat × List PV) :=
  []
theorem Q1ao (p0 : Meta) (_H : Qmm p0) (i1 : Nat) (hc1 : (decide ((i1 : Int) < ((List.length p0.owners) : Int))) = false) : Qir p0 (Q84 p0 i1) (.k0) := by
 exact ⟨(envF (Qv9 p0 i1)), (zoF (Qpq p0 i1)), Q10 VOK.nil (x := ((.exit 2), Q88 p0 (envF (Qv9 p0 i1)) (zoF (Qpq p0 i1)))) [hB 0 hc1] [] (by kernel_rfl)⟩
def Qug (p0 : Meta) (i1 : Nat) (x1 : Owner) : List PV :=
  [.un, .bx 0 0, .un, .un, .un, .un, .bx 193 0] ++ nuns 59 ++ [.sl (Owner.rows p0.owners), .int .i64 ((List.length p0.owners) : Int), .int .i64 (i1 : Int), .bool true, .rf [.str x1.kind, .str x1.name, .int .i64 x1.uid, .bool x1.controller, .bool x1.block], .agg [.str x1.kind, .str x1.name, .int .i64 x1.uid, .bool x1.controller, .bool x1.block], .bx 193 0, .str x1.kind, .int .i64 (ByteArray.size x1.kind : Int), .bx 193 1, .str x1.name, .int .i64 (ByteArray.size x1.name : Int), .int .i64 (w64 ((ByteArray.size x1.kind : Int) + (ByteArray.size x1.name : Int))), .bool true]
def Qnl (p0 : Meta) (_i1 : Nat) (x1 : Owner) : List (Nat × List PV) :=
  [(0, [.str p0.kind, .str p0.namespace_, .str p0.name, .int .i64 p0.uid, .int .i64 p0.version, .int .i64 p0.generation, .int .i64 p0.created, .bool p0.deleting, .int .i64 p0.deleteAt, .sl (Label.rows p0.labels), .sl (Owner.rows p0.owners), .sl (Qv p0.finalizers), .sl (Manager.rows p0.managers)]), (193, [.str x1.kind, .str x1.name, .int .i64 x1.uid, .bool x1.controller, .bool x1.block])]
theorem Q19v (p0 : Meta) (_H : Qmm p0) (x1 : Owner) (i1 : Nat) (hx1 : p0.owners[i1]? = some x1) (_hi1 : i1 < List.length p0.owners) (hc1 : (decide ((i1 : Int) < ((List.length p0.owners) : Int))) = true) (h0 : (decide (400 < (w64 ((ByteArray.size x1.kind : Int) + (ByteArray.size x1.name : Int))))) = true) : Qir p0 (Q84 p0 i1) (.k1) := by
 exact ⟨(envF (Qug p0 i1 x1)), (zoF (Qnl p0 i1 x1)), Q10 VOK.nil (x := (.ret, Qle p0 (envF (Qug p0 i1 x1)) (zoF (Qnl p0 i1 x1)))) [hB 0 hc1, hP 0 (Q15 5 (Owner.rows p0.owners) i1 _ (Owner.Qe hx1) rfl), hB 10 h0] [] (by kernel_rfl)⟩
theorem Q19h (p0 : Meta) (H : Qmm p0) (x1 : Owner) (i1 : Nat) (hx1 : p0.owners[i1]? = some x1) (hi1 : i1 < List.length p0.owners) (hc1 : (decide ((i1 : Int) < ((List.length p0.owners) : Int))) = true) (h0 : (decide (400 < (w64 ((ByteArray.size x1.kind : Int) + (ByteArray.size x1.name : Int))))) = false) {r : Rs} (hr : Qi G (Q84 p0 (i1 + 1)) r) : Qi G (Q84 p0 i1) r := by
 have hB0 := H.1; have e0 := of_decide_eq_false h0
 exact Qw VOK.nil (y := (Q12v p0 (i1 + 1), Q10x p0 (i1 + 1))) [hB 0 hc1, hP 0 (Q15 5 (Owner.rows p0.owners) i1 _ (Owner.Qe hx1) rfl), hB 10 h0, hP 0 (Q25 i1 (by omega))] [] (by kernel_rfl) hr
theorem Q13g (p0 : Meta) (H : Qmm p0) : ∀ (r1 : List Owner) (i1 : Nat), List.drop i1 p0.owners = r1 → Qir p0 (Q84 p0 i1) (Qe5 p0 r1 i1)
 | [], i1, hd => by
  have hc1 : (decide ((i1 : Int) < ((List.length p0.owners) : Int))) = false := by have := Q1v hd; simp; omega
  rw [Qe5]
  exact Q1ao p0 H i1 hc1
 | x1 :: r1, i1, hd => by
  obtain ⟨hx1, hi1, hd'⟩ := Q1s hd
  have hc1 : (decide ((i1 : Int) < ((List.length p0.owners) : Int))) = true := by simp; omega
  rw [Qe5]
  cases h0 : (decide (400 < (w64 ((ByteArray.size x1.kind : Int) + (ByteArray.size x1.name : Int))))) with
  | true =>
   exact Q19v p0 H x1 i1 hx1 hi1 hc1 h0
  | false =>
   exact Qw6 p0 (fun r hr => Q19h p0 H x1 i1 hx1 hi1 hc1 h0 hr) _ (Q13g p0 H r1 (i1 + 1) hd')
inductive Q1b0 where
  | k0
  | k1
def Qdo (p0 : Meta) : List ByteArray → Nat → Q1b0
 | [], _i2 =>
  (.k0)
 | x2 :: r2, i2 =>
  bif (decide (400 < (ByteArray.size x2 : Int))) then
   (.k1)
  else
   Qdo p0 r2 (i2 + 1)
def Q13p (p0 : Meta) (i2 : Nat) : List PV :=
  [.un, .bx 0 0] ++ nuns 80 ++ [.sl (Qv p0.finalizers), .int .i64 ((List.length p0.finalizers) : Int), .int .i64 (i2 : Int)] ++ nuns 36
def Q10s (p0 : Meta) (_i2 : Nat) : List Ob :=
  [⟨13, 0, true, [.str p0.kind, .str p0.namespace_, .str p0.name, .int .i64 p0.uid, .int .i64 p0.version, .int .i64 p0.generation, .int .i64 p0.created, .bool p0.deleting, .int .i64 p0.deleteAt, .sl (Label.rows p0.labels), .sl (Owner.rows p0.owners), .sl (Qv p0.finalizers), .sl (Manager.rows p0.managers)]⟩]
def Q8g (p0 : Meta) (i2 : Nat) : En := .loop 0 Ir.Qnv Ir.Q1lt (Q13p p0 i2) (Q10s p0 i2)
def Q93 (p0 : Meta) (z : Nat → PV) (_zo : Nat → List PV) : St :=
  ⟨[z 0, .bx 0 0] ++ zr z 2 119, [(0, ⟨13, 0, true, [.str p0.kind, .str p0.namespace_, .str p0.name, .int .i64 p0.uid, .int .i64 p0.version, .int .i64 p0.generation, .int .i64 p0.created, .bool p0.deleting, .int .i64 p0.deleteAt, .sl (Label.rows p0.labels), .sl (Owner.rows p0.owners), .sl (Qv p0.finalizers), .sl (Manager.rows p0.managers)]⟩)], 65⟩
def Qi9 (_p0 : Meta) (z : Nat → PV) (zo : Nat → List PV) : St :=
  ⟨[z 0, z 1, .bool false] ++ zr z 3 118, [(0, ⟨13, 0, true, zo 0⟩)], 513⟩
def Qif (p0 : Meta) (e : En) : Q1b0 → Prop
  | .k0 => ∃ z zo, Qi G e (.st (.exit 4) (Q93 p0 z zo))
  | .k1 => ∃ z zo, Qi G e (.st .ret (Qi9 p0 z zo))
theorem Qy2 (p0 : Meta) {e e' : En} (h : ∀ r, Qi G e r → Qi G e' r) : ∀ q, Qif p0 e q → Qif p0 e' q
  | .k0, ⟨z, zo, hz⟩ => ⟨z, zo, h _ hz⟩
  | .k1, ⟨z, zo, hz⟩ => ⟨z, zo, h _ hz⟩
def Qh7 (p0 : Meta) : Prop := (List.length p0.finalizers ≤ 4611686018427387904) ∧ True
def Qxp (p0 : Meta) (i2 : Nat) : List PV :=
  nuns 82 ++ [.sl (Qv p0.finalizers), .int .i64 ((List.length p0.finalizers) : Int), .int .i64 (i2 : Int), .bool false]
def Qp1 (_p0 : Meta) (_i2 : Nat) : List (Nat × List PV) :=
  []
theorem Q1aw (p0 : Meta) (_H : Qh7 p0) (i2 : Nat) (hc2 : (decide ((i2 : Int) < ((List.length p0.finalizers) : Int))) = false) : Qif p0 (Q8g p0 i2) (.k0) := by
 exact ⟨(envF (Qxp p0 i2)), (zoF (Qp1 p0 i2)), Q10 VOK.nil (x := ((.exit 4), Q93 p0 (envF (Qxp p0 i2)) (zoF (Qp1 p0 i2)))) [hB 0 hc2] [] (by kernel_rfl)⟩
def Qvw (p0 : Meta) (i2 : Nat) (x2 : BA) : List PV :=
  [.un, .bx 0 0] ++ nuns 6 ++ [.str x2] ++ nuns 73 ++ [.sl (Qv p0.finalizers), .int .i64 ((List.length p0.finalizers) : Int), .int .i64 (i2 : Int), .bool true, .rf [.str x2], .str x2, .str x2, .int .i64 (ByteArray.size x2 : Int), .bool true]
def Qql (p0 : Meta) (_i2 : Nat) (_x2 : BA) : List (Nat × List PV) :=
  [(0, [.str p0.kind, .str p0.namespace_, .str p0.name, .int .i64 p0.uid, .int .i64 p0.version, .int .i64 p0.generation, .int .i64 p0.created, .bool p0.deleting, .int .i64 p0.deleteAt, .sl (Label.rows p0.labels), .sl (Owner.rows p0.owners), .sl (Qv p0.finalizers), .sl (Manager.rows p0.managers)])]
theorem Q1a8 (p0 : Meta) (_H : Qh7 p0) (x2 : BA) (i2 : Nat) (hx2 : p0.finalizers[i2]? = some x2) (_hi2 : i2 < List.length p0.finalizers) (hc2 : (decide ((i2 : Int) < ((List.length p0.finalizers) : Int))) = true) (h0 : (decide (400 < (ByteArray.size x2 : Int))) = true) : Qif p0 (Q8g p0 i2) (.k1) := by
 exact ⟨(envF (Qvw p0 i2 x2)), (zoF (Qql p0 i2 x2)), Q10 VOK.nil (x := (.ret, Qi9 p0 (envF (Qvw p0 i2 x2)) (zoF (Qql p0 i2 x2)))) [hB 0 hc2, hP 0 (Q15 1 (Qv p0.finalizers) i2 _ (Q3s hx2) rfl), hB 4 h0] [] (by kernel_rfl)⟩
theorem Q1bs (p0 : Meta) (H : Qh7 p0) (x2 : BA) (i2 : Nat) (hx2 : p0.finalizers[i2]? = some x2) (hi2 : i2 < List.length p0.finalizers) (hc2 : (decide ((i2 : Int) < ((List.length p0.finalizers) : Int))) = true) (h0 : (decide (400 < (ByteArray.size x2 : Int))) = false) {r : Rs} (hr : Qi G (Q8g p0 (i2 + 1)) r) : Qi G (Q8g p0 i2) r := by
 have hB0 := H.1; have e0 := of_decide_eq_false h0
 exact Qw VOK.nil (y := (Q13p p0 (i2 + 1), Q10s p0 (i2 + 1))) [hB 0 hc2, hP 0 (Q15 1 (Qv p0.finalizers) i2 _ (Q3s hx2) rfl), hB 4 h0, hP 0 (Q25 i2 (by omega))] [] (by kernel_rfl) hr
theorem Q139 (p0 : Meta) (H : Qh7 p0) : ∀ (r2 : List ByteArray) (i2 : Nat), List.drop i2 p0.finalizers = r2 → Qif p0 (Q8g p0 i2) (Qdo p0 r2 i2)
 | [], i2, hd => by
  have hc2 : (decide ((i2 : Int) < ((List.length p0.finalizers) : Int))) = false := by have := Q1v hd; simp; omega
  rw [Qdo]
  exact Q1aw p0 H i2 hc2
 | x2 :: r2, i2, hd => by
  obtain ⟨hx2, hi2, hd'⟩ := Q1s hd
  have hc2 : (decide ((i2 : Int) < ((List.length p0.finalizers) : Int))) = true := by simp; omega
  rw [Qdo]
  cases h0 : (decide (400 < (ByteArray.size x2 : Int))) with
  | true =>
   exact Q1a8 p0 H x2 i2 hx2 hi2 hc2 h0
  | false =>
   exact Qy2 p0 (fun r hr => Q1bs p0 H x2 i2 hx2 hi2 hc2 h0 hr) _ (Q139 p0 H r2 (i2 + 1) hd')
inductive Q1ah where
  | k0
  | k1
def Qdi (p0 : Meta) (i3 : Nat) (x3 : Manager) : List ByteArray → Nat → Q1ah
 | [], _i4 =>
  (.k0)
 | x4 :: r4, i4 =>
  bif (decide (2000 < (ByteArray.size x4 : Int))) then
   (.k1)
  else
   Qdi p0 i3 x3 r4 (i4 + 1)
def Q13j (p0 : Meta) (i3 : Nat) (x3 : Manager) (i4 : Nat) : List PV :=
  nuns 93 ++ [.sl (Manager.rows p0.managers), .int .i64 ((List.length p0.managers) : Int), .int .i64 (i3 : Int)] ++ nuns 14 ++ [.sl (Qv x3.fields), .int .i64 ((List.length x3.fields) : Int), .int .i64 (i4 : Int)] ++ nuns 8
def Q10l (_p0 : Meta) (_i3 : Nat) (_x3 : Manager) (_i4 : Nat) : List Ob :=
  []
def Qaq (p0 : Meta) (i3 : Nat) (x3 : Manager) (i4 : Nat) : En := .loop 0 Ir.Qpb Ir.Q1ib (Q13j p0 i3 x3 i4) (Q10l p0 i3 x3 i4)
def Qki (p0 : Meta) (i3 : Nat) (_x3 : Manager) (z : Nat → PV) (_zo : Nat → List PV) : St :=
  ⟨zr z 0 93 ++ [.sl (Manager.rows p0.managers), .int .i64 ((List.length p0.managers) : Int), .int .i64 (i3 : Int)] ++ zr z 96 25, [], 64⟩
def Qkn (_p0 : Meta) (_i3 : Nat) (_x3 : Manager) (z : Nat → PV) (_zo : Nat → List PV) : St :=
  ⟨[z 0, z 1, .bool false] ++ zr z 3 118, [], 512⟩
def Qi0 (p0 : Meta) (i3 : Nat) (x3 : Manager) (e : En) : Q1ah → Prop
  | .k0 => ∃ z zo, Qi G e (.st (.exit 8) (Qki p0 i3 x3 z zo))
  | .k1 => ∃ z zo, Qi G e (.st .ret (Qkn p0 i3 x3 z zo))
theorem Qx3 (p0 : Meta) (i3 : Nat) (x3 : Manager) {e e' : En} (h : ∀ r, Qi G e r → Qi G e' r) : ∀ q, Qi0 p0 i3 x3 e q → Qi0 p0 i3 x3 e' q
  | .k0, ⟨z, zo, hz⟩ => ⟨z, zo, h _ hz⟩
  | .k1, ⟨z, zo, hz⟩ => ⟨z, zo, h _ hz⟩
def Qkk (_p0 : Meta) (_i3 : Nat) (x3 : Manager) : Prop := (List.length x3.fields ≤ 4611686018427387904) ∧ True
def Qwi (_p0 : Meta) (_i3 : Nat) (x3 : Manager) (i4 : Nat) : List PV :=
  nuns 110 ++ [.sl (Qv x3.fields), .int .i64 ((List.length x3.fields) : Int), .int .i64 (i4 : Int), .bool false]
def Qrs (_p0 : Meta) (_i3 : Nat) (_x3 : Manager) (_i4 : Nat) : List (Nat × List PV) :=
  []
theorem Q19n (p0 : Meta) (i3 : Nat) (x3 : Manager) (_H : Qkk p0 i3 x3) (i4 : Nat) (hc4 : (decide ((i4 : Int) < ((List.length x3.fields) : Int))) = false) : Qi0 p0 i3 x3 (Qaq p0 i3 x3 i4) (.k0) := by
 exact ⟨(envF (Qwi p0 i3 x3 i4)), (zoF (Qrs p0 i3 x3 i4)), Q10 VOK.nil (x := ((.exit 8), Qki p0 i3 x3 (envF (Qwi p0 i3 x3 i4)) (zoF (Qrs p0 i3 x3 i4)))) [hB 0 hc4] [] (by kernel_rfl)⟩
def Qyi (p0 : Meta) (i3 : Nat) (x3 : Manager) (i4 : Nat) (x4 : BA) : List PV :=
  nuns 12 ++ [.str x4] ++ nuns 80 ++ [.sl (Manager.rows p0.managers), .int .i64 ((List.length p0.managers) : Int), .int .i64 (i3 : Int)] ++ nuns 14 ++ [.sl (Qv x3.fields), .int .i64 ((List.length x3.fields) : Int), .int .i64 (i4 : Int), .bool true, .rf [.str x4], .str x4, .str x4, .int .i64 (ByteArray.size x4 : Int), .bool true]
def Qq3 (_p0 : Meta) (_i3 : Nat) (_x3 : Manager) (_i4 : Nat) (_x4 : BA) : List (Nat × List PV) :=
  []
theorem Q1b9 (p0 : Meta) (i3 : Nat) (x3 : Manager) (_H : Qkk p0 i3 x3) (x4 : BA) (i4 : Nat) (hx4 : x3.fields[i4]? = some x4) (_hi4 : i4 < List.length x3.fields) (hc4 : (decide ((i4 : Int) < ((List.length x3.fields) : Int))) = true) (h0 : (decide (2000 < (ByteArray.size x4 : Int))) = true) : Qi0 p0 i3 x3 (Qaq p0 i3 x3 i4) (.k1) := by
 exact ⟨(envF (Qyi p0 i3 x3 i4 x4)), (zoF (Qq3 p0 i3 x3 i4 x4)), Q10 VOK.nil (x := (.ret, Qkn p0 i3 x3 (envF (Qyi p0 i3 x3 i4 x4)) (zoF (Qq3 p0 i3 x3 i4 x4)))) [hB 0 hc4, hP 0 (Q15 1 (Qv x3.fields) i4 _ (Q3s hx4) rfl), hB 4 h0] [] (by kernel_rfl)⟩
theorem Q1a3 (p0 : Meta) (i3 : Nat) (x3 : Manager) (H : Qkk p0 i3 x3) (x4 : BA) (i4 : Nat) (hx4 : x3.fields[i4]? = some x4) (hi4 : i4 < List.length x3.fields) (hc4 : (decide ((i4 : Int) < ((List.length x3.fields) : Int))) = true) (h0 : (decide (2000 < (ByteArray.size x4 : Int))) = false) {r : Rs} (hr : Qi G (Qaq p0 i3 x3 (i4 + 1)) r) : Qi G (Qaq p0 i3 x3 i4) r := by
 have hB0 := H.1; have e0 := of_decide_eq_false h0
 exact Qw VOK.nil (y := (Q13j p0 i3 x3 (i4 + 1), Q10l p0 i3 x3 (i4 + 1))) [hB 0 hc4, hP 0 (Q15 1 (Qv x3.fields) i4 _ (Q3s hx4) rfl), hB 4 h0, hP 0 (Q25 i4 (by omega))] [] (by kernel_rfl) hr
theorem Q10t (p0 : Meta) (i3 : Nat) (x3 : Manager) (H : Qkk p0 i3 x3) : ∀ (r4 : List ByteArray) (i4 : Nat), List.drop i4 x3.fields = r4 → Qi0 p0 i3 x3 (Qaq p0 i3 x3 i4) (Qdi p0 i3 x3 r4 i4)
 | [], i4, hd => by
  have hc4 : (decide ((i4 : Int) < ((List.length x3.fields) : Int))) = false := by have := Q1v hd; simp; omega
  rw [Qdi]
  exact Q19n p0 i3 x3 H i4 hc4
 | x4 :: r4, i4, hd => by
  obtain ⟨hx4, hi4, hd'⟩ := Q1s hd
  have hc4 : (decide ((i4 : Int) < ((List.length x3.fields) : Int))) = true := by simp; omega
  rw [Qdi]
  cases h0 : (decide (2000 < (ByteArray.size x4 : Int))) with
  | true =>
   exact Q1b9 p0 i3 x3 H x4 i4 hx4 hi4 hc4 h0
  | false =>
   exact Qx3 p0 i3 x3 (fun r hr => Q1a3 p0 i3 x3 H x4 i4 hx4 hi4 hc4 h0 hr) _ (Q10t p0 i3 x3 H r4 (i4 + 1) hd')
inductive Q1ag where
  | k0
  | k1
  | k2
def Qdk (p0 : Meta) : List Manager → Nat → Q1ag
 | [], _i3 =>
  (.k0)
 | x3 :: r3, i3 =>
  bif (decide (400 < (ByteArray.size x3.name : Int))) then
   (.k1)
  else
   bif (decide (200 < ((List.length x3.fields) : Int))) then
    (.k1)
   else
    (match (Qdi p0 i3 x3 x3.fields 0) with
    | .k0 => Qdk p0 r3 (i3 + 1)
    | .k1 => (.k2))
def Q147 (p0 : Meta) (i3 : Nat) : List PV :=
  nuns 93 ++ [.sl (Manager.rows p0.managers), .int .i64 ((List.length p0.managers) : Int), .int .i64 (i3 : Int)] ++ nuns 25
def Q10c (_p0 : Meta) (_i3 : Nat) : List Ob :=
  []
def Q7z (p0 : Meta) (i3 : Nat) : En := .loop 0 Ir.Qpj Ir.Q1j9 (Q147 p0 i3) (Q10c p0 i3)
def Qn7 (_p0 : Meta) (z : Nat → PV) (_zo : Nat → List PV) : St :=
  ⟨zr z 0 121, [], 64⟩
def Qcc (_p0 : Meta) (z : Nat → PV) (zo : Nat → List PV) : St :=
  ⟨[z 0, z 1, .bool false] ++ zr z 3 118, [(192, ⟨2, 0, true, zo 192⟩)], 1024⟩
def Qhb (_p0 : Meta) (z : Nat → PV) (_zo : Nat → List PV) : St :=
  ⟨[z 0, z 1, .bool false] ++ zr z 3 118, [], 512⟩
def Qao (p0 : Meta) (e : En) : Q1ag → Prop
  | .k0 => ∃ z zo, Qi G e (.st (.exit 6) (Qn7 p0 z zo))
  | .k1 => ∃ z zo, Qi G e (.st .ret (Qcc p0 z zo))
  | .k2 => ∃ z zo, Qi G e (.st .ret (Qhb p0 z zo))
theorem Qwx (p0 : Meta) {e e' : En} (h : ∀ r, Qi G e r → Qi G e' r) : ∀ q, Qao p0 e q → Qao p0 e' q
  | .k0, ⟨z, zo, hz⟩ => ⟨z, zo, h _ hz⟩
  | .k1, ⟨z, zo, hz⟩ => ⟨z, zo, h _ hz⟩
  | .k2, ⟨z, zo, hz⟩ => ⟨z, zo, h _ hz⟩
def Qan (p0 : Meta) : Prop := (List.length p0.managers ≤ 4611686018427387904) ∧ (∀ (i3 : Nat) (x3 : Manager), p0.managers[i3]? = some x3 → Qkk p0 i3 x3) ∧ True
def Qxi (p0 : Meta) (i3 : Nat) : List PV :=
  nuns 93 ++ [.sl (Manager.rows p0.managers), .int .i64 ((List.length p0.managers) : Int), .int .i64 (i3 : Int), .bool false]
def Qo4 (_p0 : Meta) (_i3 : Nat) : List (Nat × List PV) :=
  []
theorem Q19w (p0 : Meta) (_H : Qan p0) (i3 : Nat) (hc3 : (decide ((i3 : Int) < ((List.length p0.managers) : Int))) = false) : Qao p0 (Q7z p0 i3) (.k0) := by
 exact ⟨(envF (Qxi p0 i3)), (zoF (Qo4 p0 i3)), Q10 VOK.nil (x := ((.exit 6), Qn7 p0 (envF (Qxi p0 i3)) (zoF (Qo4 p0 i3)))) [hB 0 hc3] [] (by kernel_rfl)⟩
def Qyk (p0 : Meta) (i3 : Nat) (x3 : Manager) : List PV :=
  nuns 10 ++ [.bx 192 0] ++ nuns 82 ++ [.sl (Manager.rows p0.managers), .int .i64 ((List.length p0.managers) : Int), .int .i64 (i3 : Int), .bool true, .rf [.str x3.name, .sl (Qv x3.fields)], .agg [.str x3.name, .sl (Qv x3.fields)], .bx 192 0, .str x3.name, .int .i64 (ByteArray.size x3.name : Int), .bool true, .bool true, .tup [], .tup [], .tup [], .tup [], .bool true]
def Qng (_p0 : Meta) (_i3 : Nat) (x3 : Manager) : List (Nat × List PV) :=
  [(192, [.str x3.name, .sl (Qv x3.fields)])]
theorem Q19x (p0 : Meta) (_H : Qan p0) (x3 : Manager) (i3 : Nat) (hx3 : p0.managers[i3]? = some x3) (_hi3 : i3 < List.length p0.managers) (hc3 : (decide ((i3 : Int) < ((List.length p0.managers) : Int))) = true) (h0 : (decide (400 < (ByteArray.size x3.name : Int))) = true) : Qao p0 (Q7z p0 i3) (.k1) := by
 exact ⟨(envF (Qyk p0 i3 x3)), (zoF (Qng p0 i3 x3)), Q10 VOK.nil (x := (.ret, Qcc p0 (envF (Qyk p0 i3 x3)) (zoF (Qng p0 i3 x3)))) [hB 0 hc3, hP 0 (Q15 2 (Manager.rows p0.managers) i3 _ (Manager.Qe hx3) rfl), hB 6 h0] [] (by kernel_rfl)⟩
def Qyt (p0 : Meta) (i3 : Nat) (x3 : Manager) : List PV :=
  nuns 10 ++ [.bx 192 0] ++ nuns 82 ++ [.sl (Manager.rows p0.managers), .int .i64 ((List.length p0.managers) : Int), .int .i64 (i3 : Int), .bool true, .rf [.str x3.name, .sl (Qv x3.fields)], .agg [.str x3.name, .sl (Qv x3.fields)], .bx 192 0, .str x3.name, .int .i64 (ByteArray.size x3.name : Int), .bool false, .bool false, .bx 192 1, .sl (Qv x3.fields), .int .i64 ((List.length x3.fields) : Int), .bool true, .bool true]
def Qnf (_p0 : Meta) (_i3 : Nat) (x3 : Manager) : List (Nat × List PV) :=
  [(192, [.str x3.name, .sl (Qv x3.fields)])]
theorem Q1bj (p0 : Meta) (_H : Qan p0) (x3 : Manager) (i3 : Nat) (hx3 : p0.managers[i3]? = some x3) (_hi3 : i3 < List.length p0.managers) (hc3 : (decide ((i3 : Int) < ((List.length p0.managers) : Int))) = true) (h0 : (decide (400 < (ByteArray.size x3.name : Int))) = false) (h1 : (decide (200 < ((List.length x3.fields) : Int))) = true) : Qao p0 (Q7z p0 i3) (.k1) := by
 exact ⟨(envF (Qyt p0 i3 x3)), (zoF (Qnf p0 i3 x3)), Q10 VOK.nil (x := (.ret, Qcc p0 (envF (Qyt p0 i3 x3)) (zoF (Qnf p0 i3 x3)))) [hB 0 hc3, hP 0 (Q15 2 (Manager.rows p0.managers) i3 _ (Manager.Qe hx3) rfl), hB 6 h0, hP 3 (Qz (Qv x3.fields) (List.length x3.fields) (Q1q x3.fields)), hB 0 h1] [] (by kernel_rfl)⟩
theorem Q1bg (p0 : Meta) (H : Qan p0) (x3 : Manager) (i3 : Nat) (hx3 : p0.managers[i3]? = some x3) (hi3 : i3 < List.length p0.managers) (hc3 : (decide ((i3 : Int) < ((List.length p0.managers) : Int))) = true) (h0 : (decide (400 < (ByteArray.size x3.name : Int))) = false) (h1 : (decide (200 < ((List.length x3.fields) : Int))) = false) (z2 : Nat → PV) (zo2 : Nat → List PV) (hl2 : Qi G (Qaq p0 i3 x3 0) (.st (.exit 8) (Qki p0 i3 x3 z2 zo2))) {r : Rs} (hr : Qi G (Q7z p0 (i3 + 1)) r) : Qi G (Q7z p0 i3) r := by
 have hB0 := H.1; have e0 := of_decide_eq_false h0; have e1 := of_decide_eq_false h1
 exact Qw VOK.nil (y := (Q147 p0 (i3 + 1), Q10c p0 (i3 + 1))) [hB 0 hc3, hP 0 (Q15 2 (Manager.rows p0.managers) i3 _ (Manager.Qe hx3) rfl), hB 6 h0, hP 3 (Qz (Qv x3.fields) (List.length x3.fields) (Q1q x3.fields)), hB 0 h1, hP 3 (Qz (Qv x3.fields) (List.length x3.fields) (Q1q x3.fields)), hP 1 (Q25 i3 (by omega))] [aN hl2] (by kernel_rfl) hr
def Qun (_p0 : Meta) (_i3 : Nat) (_x3 : Manager) (z2 : Nat → PV) (_zo2 : Nat → List PV) : List PV :=
  [(z2 0), (z2 1), .un, (z2 3), (z2 4), (z2 5), (z2 6), (z2 7), (z2 8), (z2 9), (z2 10), (z2 11), (z2 12), (z2 13), (z2 14), (z2 15), (z2 16), (z2 17), (z2 18), (z2 19), (z2 20), (z2 21), (z2 22), (z2 23), (z2 24), (z2 25), (z2 26), (z2 27), (z2 28), (z2 29), (z2 30), (z2 31), (z2 32), (z2 33), (z2 34), (z2 35), (z2 36), (z2 37), (z2 38), (z2 39), (z2 40), (z2 41), (z2 42), (z2 43), (z2 44), (z2 45), (z2 46), (z2 47), (z2 48), (z2 49), (z2 50), (z2 51), (z2 52), (z2 53), (z2 54), (z2 55), (z2 56), (z2 57), (z2 58), (z2 59), (z2 60), (z2 61), (z2 62), (z2 63), (z2 64), (z2 65), (z2 66), (z2 67), (z2 68), (z2 69), (z2 70), (z2 71), (z2 72), (z2 73), (z2 74), (z2 75), (z2 76), (z2 77), (z2 78), (z2 79), (z2 80), (z2 81), (z2 82), (z2 83), (z2 84), (z2 85), (z2 86), (z2 87), (z2 88), (z2 89), (z2 90), (z2 91), (z2 92), (z2 93), (z2 94), (z2 95), (z2 96), (z2 97), (z2 98), (z2 99), (z2 100), (z2 101), (z2 102), (z2 103), (z2 104), (z2 105), (z2 106), (z2 107), (z2 108), (z2 109), (z2 110), (z2 111), (z2 112), (z2 113), (z2 114), (z2 115), (z2 116), (z2 117), (z2 118), (z2 119), (z2 120)]
def Qns (_p0 : Meta) (_i3 : Nat) (_x3 : Manager) (_z2 : Nat → PV) (_zo2 : Nat → List PV) : List (Nat × List PV) :=
  []
theorem Q1b3 (p0 : Meta) (_H : Qan p0) (x3 : Manager) (i3 : Nat) (hx3 : p0.managers[i3]? = some x3) (_hi3 : i3 < List.length p0.managers) (hc3 : (decide ((i3 : Int) < ((List.length p0.managers) : Int))) = true) (h0 : (decide (400 < (ByteArray.size x3.name : Int))) = false) (h1 : (decide (200 < ((List.length x3.fields) : Int))) = false) (z2 : Nat → PV) (zo2 : Nat → List PV) (hl2 : Qi G (Qaq p0 i3 x3 0) (.st .ret (Qkn p0 i3 x3 z2 zo2))) : Qao p0 (Q7z p0 i3) (.k2) := by
 exact ⟨(envF (Qun p0 i3 x3 z2 zo2)), (zoF (Qns p0 i3 x3 z2 zo2)), Q10 VOK.nil (x := (.ret, Qhb p0 (envF (Qun p0 i3 x3 z2 zo2)) (zoF (Qns p0 i3 x3 z2 zo2)))) [hB 0 hc3, hP 0 (Q15 2 (Manager.rows p0.managers) i3 _ (Manager.Qe hx3) rfl), hB 6 h0, hP 3 (Qz (Qv x3.fields) (List.length x3.fields) (Q1q x3.fields)), hB 0 h1, hP 3 (Qz (Qv x3.fields) (List.length x3.fields) (Q1q x3.fields))] [aN hl2] (by kernel_rfl)⟩
theorem Q13q (p0 : Meta) (H : Qan p0) : ∀ (r3 : List Manager) (i3 : Nat), List.drop i3 p0.managers = r3 → Qao p0 (Q7z p0 i3) (Qdk p0 r3 i3)
 | [], i3, hd => by
  have hc3 : (decide ((i3 : Int) < ((List.length p0.managers) : Int))) = false := by have := Q1v hd; simp; omega
  rw [Qdk]
  exact Q19w p0 H i3 hc3
 | x3 :: r3, i3, hd => by
  obtain ⟨hx3, hi3, hd'⟩ := Q1s hd
  have hc3 : (decide ((i3 : Int) < ((List.length p0.managers) : Int))) = true := by simp; omega
  rw [Qdk]
  cases h0 : (decide (400 < (ByteArray.size x3.name : Int))) with
  | true =>
   exact Q19x p0 H x3 i3 hx3 hi3 hc3 h0
  | false =>
   cases h1 : (decide (200 < ((List.length x3.fields) : Int))) with
   | true =>
    exact Q1bj p0 H x3 i3 hx3 hi3 hc3 h0 h1
   | false =>
    have hl2 := Q10t p0 i3 x3 ((H.2.1 i3 x3 hx3)) x3.fields 0 (by simp)
    cases hr2 : (Qdi p0 i3 x3 x3.fields 0) with
    | k0 =>
     rw [hr2] at hl2
     obtain ⟨z2, zo2, hl2⟩ := hl2
     exact Qwx p0 (fun r hr => Q1bg p0 H x3 i3 hx3 hi3 hc3 h0 h1 z2 zo2 hl2 hr) _ (Q13q p0 H r3 (i3 + 1) hd')
    | k1 =>
     rw [hr2] at hl2
     obtain ⟨z2, zo2, hl2⟩ := hl2
     exact Q1b3 p0 H x3 i3 hx3 hi3 hc3 h0 h1 z2 zo2 hl2
def s_K5 (p0 : Meta) : Bool :=
 bif (decide (60 < ((List.length p0.labels) : Int))) then
  false
 else
  bif (decide (60 < ((List.length p0.owners) : Int))) then
   false
  else
   bif (decide (60 < ((List.length p0.finalizers) : Int))) then
    false
   else
    bif (decide (60 < ((List.length p0.managers) : Int))) then
     false
    else
     bif (decide (400 < (w64 ((w64 ((ByteArray.size p0.kind : Int) + (ByteArray.size p0.namespace_ : Int))) + (ByteArray.size p0.name : Int))))) then
      false
     else
      (match (Qdq p0 p0.labels 0) with
      | .k0 => (match (Qe5 p0 p0.owners 0) with
       | .k0 => (match (Qdo p0 p0.finalizers 0) with
        | .k0 => (match (Qdk p0 p0.managers 0) with
         | .k0 => true
         | .k1 => false
         | .k2 => false)
        | .k1 => false)
       | .k1 => false)
      | .k1 => false)
def c_K5 (p0 : Meta) : En := .call 8 [.agg (Meta.cells p0)] []
def a_K5 (p0 : Meta) : Rs := .ret (.bool (s_K5 p0)) []
def H_K5 (p0 : Meta) : Prop := (Qkg p0) ∧ (Qmm p0) ∧ (Qh7 p0) ∧ (Qan p0) ∧ True
theorem Q1kl (p0 : Meta) (_H : H_K5 p0) (h0 : (decide (60 < ((List.length p0.labels) : Int))) = true) : Qi G (c_K5 p0) (.ret (.bool (false)) []) := by
 exact Qm (fn := Ir.K5) rfl VOK.nil [hP 4 (Qz (Label.rows p0.labels) (List.length p0.labels) (Label.Q9 p0.labels)), hB 0 h0] [] (by kernel_rfl)
theorem Q1kk (p0 : Meta) (_H : H_K5 p0) (h0 : (decide (60 < ((List.length p0.labels) : Int))) = false) (h1 : (decide (60 < ((List.length p0.owners) : Int))) = true) : Qi G (c_K5 p0) (.ret (.bool (false)) []) := by
 exact Qm (fn := Ir.K5) rfl VOK.nil [hP 4 (Qz (Label.rows p0.labels) (List.length p0.labels) (Label.Q9 p0.labels)), hB 0 h0, hP 3 (Qz (Owner.rows p0.owners) (List.length p0.owners) (Owner.Q9 p0.owners)), hB 0 h1] [] (by kernel_rfl)
theorem Q1ir (p0 : Meta) (_H : H_K5 p0) (h0 : (decide (60 < ((List.length p0.labels) : Int))) = false) (h1 : (decide (60 < ((List.length p0.owners) : Int))) = false) (h2 : (decide (60 < ((List.length p0.finalizers) : Int))) = true) : Qi G (c_K5 p0) (.ret (.bool (false)) []) := by
 exact Qm (fn := Ir.K5) rfl VOK.nil [hP 4 (Qz (Label.rows p0.labels) (List.length p0.labels) (Label.Q9 p0.labels)), hB 0 h0, hP 3 (Qz (Owner.rows p0.owners) (List.length p0.owners) (Owner.Q9 p0.owners)), hB 0 h1, hP 4 (Qz (Qv p0.finalizers) (List.length p0.finalizers) (Q1q p0.finalizers)), hB 0 h2] [] (by kernel_rfl)
theorem Q1k6 (p0 : Meta) (_H : H_K5 p0) (h0 : (decide (60 < ((List.length p0.labels) : Int))) = false) (h1 : (decide (60 < ((List.length p0.owners) : Int))) = false) (h2 : (decide (60 < ((List.length p0.finalizers) : Int))) = false) (h3 : (decide (60 < ((List.length p0.managers) : Int))) = true) : Qi G (c_K5 p0) (.ret (.bool (false)) []) := by
 exact Qm (fn := Ir.K5) rfl VOK.nil [hP 4 (Qz (Label.rows p0.labels) (List.length p0.labels) (Label.Q9 p0.labels)), hB 0 h0, hP 3 (Qz (Owner.rows p0.owners) (List.length p0.owners) (Owner.Q9 p0.owners)), hB 0 h1, hP 4 (Qz (Qv p0.finalizers) (List.length p0.finalizers) (Q1q p0.finalizers)), hB 0 h2, hP 4 (Qz (Manager.rows p0.managers) (List.length p0.managers) (Manager.Q9 p0.managers)), hB 0 h3] [] (by kernel_rfl)
theorem Q1i1 (p0 : Meta) (_H : H_K5 p0) (h0 : (decide (60 < ((List.length p0.labels) : Int))) = false) (h1 : (decide (60 < ((List.length p0.owners) : Int))) = false) (h2 : (decide (60 < ((List.length p0.finalizers) : Int))) = false) (h3 : (decide (60 < ((List.length p0.managers) : Int))) = false) (h4 : (decide (400 < (w64 ((w64 ((ByteArray.size p0.kind : Int) + (ByteArray.size p0.namespace_ : Int))) + (ByteArray.size p0.name : Int))))) = true) : Qi G (c_K5 p0) (.ret (.bool (false)) []) := by
 exact Qm (fn := Ir.K5) rfl VOK.nil [hP 4 (Qz (Label.rows p0.labels) (List.length p0.labels) (Label.Q9 p0.labels)), hB 0 h0, hP 3 (Qz (Owner.rows p0.owners) (List.length p0.owners) (Owner.Q9 p0.owners)), hB 0 h1, hP 4 (Qz (Qv p0.finalizers) (List.length p0.finalizers) (Q1q p0.finalizers)), hB 0 h2, hP 4 (Qz (Manager.rows p0.managers) (List.length p0.managers) (Manager.Q9 p0.managers)), hB 0 h3, hB 13 h4] [] (by kernel_rfl)
theorem Q1iq (p0 : Meta) (_H : H_K5 p0) (h0 : (decide (60 < ((List.length p0.labels) : Int))) = false) (h1 : (decide (60 < ((List.length p0.owners) : Int))) = false) (h2 : (decide (60 < ((List.length p0.finalizers) : Int))) = false) (h3 : (decide (60 < ((List.length p0.managers) : Int))) = false) (h4 : (decide (400 < (w64 ((w64 ((ByteArray.size p0.kind : Int) + (ByteArray.size p0.namespace_ : Int))) + (ByteArray.size p0.name : Int))))) = false) (z5 : Nat → PV) (zo5 : Nat → List PV) (hl5 : Qi G (Q72 p0 0) (.st (.exit 0) (Q78 p0 z5 zo5))) (z6 : Nat → PV) (zo6 : Nat → List PV) (hl6 : Qi G (Q84 p0 0) (.st (.exit 2) (Q88 p0 z6 zo6))) (z7 : Nat → PV) (zo7 : Nat → List PV) (hl7 : Qi G (Q8g p0 0) (.st (.exit 4) (Q93 p0 z7 zo7))) (z8 : Nat → PV) (zo8 : Nat → List PV) (hl8 : Qi G (Q7z p0 0) (.st (.exit 6) (Qn7 p0 z8 zo8))) : Qi G (c_K5 p0) (.ret (.bool (true)) []) := by
 exact Qm (fn := Ir.K5) rfl VOK.nil [hP 4 (Qz (Label.rows p0.labels) (List.length p0.labels) (Label.Q9 p0.labels)), hB 0 h0, hP 3 (Qz (Owner.rows p0.owners) (List.length p0.owners) (Owner.Q9 p0.owners)), hB 0 h1, hP 4 (Qz (Qv p0.finalizers) (List.length p0.finalizers) (Q1q p0.finalizers)), hB 0 h2, hP 4 (Qz (Manager.rows p0.managers) (List.length p0.managers) (Manager.Q9 p0.managers)), hB 0 h3, hB 13 h4, hP 3 (Qz (Label.rows p0.labels) (List.length p0.labels) (Label.Q9 p0.labels)), hP 3 (Qz (Owner.rows p0.owners) (List.length p0.owners) (Owner.Q9 p0.owners)), hP 3 (Qz (Qv p0.finalizers) (List.length p0.finalizers) (Q1q p0.finalizers)), hP 3 (Qz (Manager.rows p0.managers) (List.length p0.managers) (Manager.Q9 p0.managers))] [aN hl5, aN hl6, aN hl7, aN hl8] (by kernel_rfl)
theorem Q1i6 (p0 : Meta) (_H : H_K5 p0) (h0 : (decide (60 < ((List.length p0.labels) : Int))) = false) (h1 : (decide (60 < ((List.length p0.owners) : Int))) = false) (h2 : (decide (60 < ((List.length p0.finalizers) : Int))) = false) (h3 : (decide (60 < ((List.length p0.managers) : Int))) = false) (h4 : (decide (400 < (w64 ((w64 ((ByteArray.size p0.kind : Int) + (ByteArray.size p0.namespace_ : Int))) + (ByteArray.size p0.name : Int))))) = false) (z5 : Nat → PV) (zo5 : Nat → List PV) (hl5 : Qi G (Q72 p0 0) (.st (.exit 0) (Q78 p0 z5 zo5))) (z6 : Nat → PV) (zo6 : Nat → List PV) (hl6 : Qi G (Q84 p0 0) (.st (.exit 2) (Q88 p0 z6 zo6))) (z7 : Nat → PV) (zo7 : Nat → List PV) (hl7 : Qi G (Q8g p0 0) (.st (.exit 4) (Q93 p0 z7 zo7))) (z8 : Nat → PV) (zo8 : Nat → List PV) (hl8 : Qi G (Q7z p0 0) (.st .ret (Qcc p0 z8 zo8))) : Qi G (c_K5 p0) (.ret (.bool (false)) []) := by
 exact Qm (fn := Ir.K5) rfl VOK.nil [hP 4 (Qz (Label.rows p0.labels) (List.length p0.labels) (Label.Q9 p0.labels)), hB 0 h0, hP 3 (Qz (Owner.rows p0.owners) (List.length p0.owners) (Owner.Q9 p0.owners)), hB 0 h1, hP 4 (Qz (Qv p0.finalizers) (List.length p0.finalizers) (Q1q p0.finalizers)), hB 0 h2, hP 4 (Qz (Manager.rows p0.managers) (List.length p0.managers) (Manager.Q9 p0.managers)), hB 0 h3, hB 13 h4, hP 3 (Qz (Label.rows p0.labels) (List.length p0.labels) (Label.Q9 p0.labels)), hP 3 (Qz (Owner.rows p0.owners) (List.length p0.owners) (Owner.Q9 p0.owners)), hP 3 (Qz (Qv p0.finalizers) (List.length p0.finalizers) (Q1q p0.finalizers)), hP 3 (Qz (Manager.rows p0.managers) (List.length p0.managers) (Manager.Q9 p0.managers))] [aN hl5, aN hl6, aN hl7, aN hl8] (by kernel_rfl)
theorem Q1lk (p0 : Meta) (_H : H_K5 p0) (h0 : (decide (60 < ((List.length p0.labels) : Int))) = false) (h1 : (decide (60 < ((List.length p0.owners) : Int))) = false) (h2 : (decide (60 < ((List.length p0.finalizers) : Int))) = false) (h3 : (decide (60 < ((List.length p0.managers) : Int))) = false) (h4 : (decide (400 < (w64 ((w64 ((ByteArray.size p0.kind : Int) + (ByteArray.size p0.namespace_ : Int))) + (ByteArray.size p0.name : Int))))) = false) (z5 : Nat → PV) (zo5 : Nat → List PV) (hl5 : Qi G (Q72 p0 0) (.st (.exit 0) (Q78 p0 z5 zo5))) (z6 : Nat → PV) (zo6 : Nat → List PV) (hl6 : Qi G (Q84 p0 0) (.st (.exit 2) (Q88 p0 z6 zo6))) (z7 : Nat → PV) (zo7 : Nat → List PV) (hl7 : Qi G (Q8g p0 0) (.st (.exit 4) (Q93 p0 z7 zo7))) (z8 : Nat → PV) (zo8 : Nat → List PV) (hl8 : Qi G (Q7z p0 0) (.st .ret (Qhb p0 z8 zo8))) : Qi G (c_K5 p0) (.ret (.bool (false)) []) := by
 exact Qm (fn := Ir.K5) rfl VOK.nil [hP 4 (Qz (Label.rows p0.labels) (List.length p0.labels) (Label.Q9 p0.labels)), hB 0 h0, hP 3 (Qz (Owner.rows p0.owners) (List.length p0.owners) (Owner.Q9 p0.owners)), hB 0 h1, hP 4 (Qz (Qv p0.finalizers) (List.length p0.finalizers) (Q1q p0.finalizers)), hB 0 h2, hP 4 (Qz (Manager.rows p0.managers) (List.length p0.managers) (Manager.Q9 p0.managers)), hB 0 h3, hB 13 h4, hP 3 (Qz (Label.rows p0.labels) (List.length p0.labels) (Label.Q9 p0.labels)), hP 3 (Qz (Owner.rows p0.owners) (List.length p0.owners) (Owner.Q9 p0.owners)), hP 3 (Qz (Qv p0.finalizers) (List.length p0.finalizers) (Q1q p0.finalizers)), hP 3 (Qz (Manager.rows p0.managers) (List.length p0.managers) (Manager.Q9 p0.managers))] [aN hl5, aN hl6, aN hl7, aN hl8] (by kernel_rfl)
theorem Q1l7 (p0 : Meta) (_H : H_K5 p0) (h0 : (decide (60 < ((List.length p0.labels) : Int))) = false) (h1 : (decide (60 < ((List.length p0.owners) : Int))) = false) (h2 : (decide (60 < ((List.length p0.finalizers) : Int))) = false) (h3 : (decide (60 < ((List.length p0.managers) : Int))) = false) (h4 : (decide (400 < (w64 ((w64 ((ByteArray.size p0.kind : Int) + (ByteArray.size p0.namespace_ : Int))) + (ByteArray.size p0.name : Int))))) = false) (z5 : Nat → PV) (zo5 : Nat → List PV) (hl5 : Qi G (Q72 p0 0) (.st (.exit 0) (Q78 p0 z5 zo5))) (z6 : Nat → PV) (zo6 : Nat → List PV) (hl6 : Qi G (Q84 p0 0) (.st (.exit 2) (Q88 p0 z6 zo6))) (z7 : Nat → PV) (zo7 : Nat → List PV) (hl7 : Qi G (Q8g p0 0) (.st .ret (Qi9 p0 z7 zo7))) : Qi G (c_K5 p0) (.ret (.bool (false)) []) := by
 exact Qm (fn := Ir.K5) rfl VOK.nil [hP 4 (Qz (Label.rows p0.labels) (List.length p0.labels) (Label.Q9 p0.labels)), hB 0 h0, hP 3 (Qz (Owner.rows p0.owners) (List.length p0.owners) (Owner.Q9 p0.owners)), hB 0 h1, hP 4 (Qz (Qv p0.finalizers) (List.length p0.finalizers) (Q1q p0.finalizers)), hB 0 h2, hP 4 (Qz (Manager.rows p0.managers) (List.length p0.managers) (Manager.Q9 p0.managers)), hB 0 h3, hB 13 h4, hP 3 (Qz (Label.rows p0.labels) (List.length p0.labels) (Label.Q9 p0.labels)), hP 3 (Qz (Owner.rows p0.owners) (List.length p0.owners) (Owner.Q9 p0.owners)), hP 3 (Qz (Qv p0.finalizers) (List.length p0.finalizers) (Q1q p0.finalizers))] [aN hl5, aN hl6, aN hl7] (by kernel_rfl)
theorem Q1i5 (p0 : Meta) (_H : H_K5 p0) (h0 : (decide (60 < ((List.length p0.labels) : Int))) = false) (h1 : (decide (60 < ((List.length p0.owners) : Int))) = false) (h2 : (decide (60 < ((List.length p0.finalizers) : Int))) = false) (h3 : (decide (60 < ((List.length p0.managers) : Int))) = false) (h4 : (decide (400 < (w64 ((w64 ((ByteArray.size p0.kind : Int) + (ByteArray.size p0.namespace_ : Int))) + (ByteArray.size p0.name : Int))))) = false) (z5 : Nat → PV) (zo5 : Nat → List PV) (hl5 : Qi G (Q72 p0 0) (.st (.exit 0) (Q78 p0 z5 zo5))) (z6 : Nat → PV) (zo6 : Nat → List PV) (hl6 : Qi G (Q84 p0 0) (.st .ret (Qle p0 z6 zo6))) : Qi G (c_K5 p0) (.ret (.bool (false)) []) := by
 exact Qm (fn := Ir.K5) rfl VOK.nil [hP 4 (Qz (Label.rows p0.labels) (List.length p0.labels) (Label.Q9 p0.labels)), hB 0 h0, hP 3 (Qz (Owner.rows p0.owners) (List.length p0.owners) (Owner.Q9 p0.owners)), hB 0 h1, hP 4 (Qz (Qv p0.finalizers) (List.length p0.finalizers) (Q1q p0.finalizers)), hB 0 h2, hP 4 (Qz (Manager.rows p0.managers) (List.length p0.managers) (Manager.Q9 p0.managers)), hB 0 h3, hB 13 h4, hP 3 (Qz (Label.rows p0.labels) (List.length p0.labels) (Label.Q9 p0.labels)), hP 3 (Qz (Owner.rows p0.owners) (List.length p0.owners) (Owner.Q9 p0.owners))] [aN hl5, aN hl6] (by kernel_rfl)
theorem Q1gk (p0 : Meta) (_H : H_K5 p0) (h0 : (decide (60 < ((List.length p0.labels) : Int))) = false) (h1 : (decide (60 < ((List.length p0.owners) : Int))) = false) (h2 : (decide (60 < ((List.length p0.finalizers) : Int))) = false) (h3 : (decide (60 < ((List.length p0.managers) : Int))) = false) (h4 : (decide (400 < (w64 ((w64 ((ByteArray.size p0.kind : Int) + (ByteArray.size p0.namespace_ : Int))) + (ByteArray.size p0.name : Int))))) = false) (z5 : Nat → PV) (zo5 : Nat → List PV) (hl5 : Qi G (Q72 p0 0) (.st .ret (Qhs p0 z5 zo5))) : Qi G (c_K5 p0) (.ret (.bool (false)) []) := by
 exact Qm (fn := Ir.K5) rfl VOK.nil [hP 4 (Qz (Label.rows p0.labels) (List.length p0.labels) (Label.Q9 p0.labels)), hB 0 h0, hP 3 (Qz (Owner.rows p0.owners) (List.length p0.owners) (Owner.Q9 p0.owners)), hB 0 h1, hP 4 (Qz (Qv p0.finalizers) (List.length p0.finalizers) (Q1q p0.finalizers)), hB 0 h2, hP 4 (Qz (Manager.rows p0.managers) (List.length p0.managers) (Manager.Q9 p0.managers)), hB 0 h3, hB 13 h4, hP 3 (Qz (Label.rows p0.labels) (List.length p0.labels) (Label.Q9 p0.labels))] [aN hl5] (by kernel_rfl)
theorem t_K5 (p0 : Meta) (H : H_K5 p0) : Qi G (c_K5 p0) (a_K5 p0) := by
 unfold a_K5 s_K5
 cases h0 : (decide (60 < ((List.length p0.labels) : Int))) with
 | true =>
  exact Q1kl p0 H h0
 | false =>
  cases h1 : (decide (60 < ((List.length p0.owners) : Int))) with
  | true =>
   exact Q1kk p0 H h0 h1
  | false =>
   cases h2 : (decide (60 < ((List.length p0.finalizers) : Int))) with
   | true =>
    exact Q1ir p0 H h0 h1 h2
   | false =>
    cases h3 : (decide (60 < ((List.length p0.managers) : Int))) with
    | true =>
     exact Q1k6 p0 H h0 h1 h2 h3
    | false =>
     cases h4 : (decide (400 < (w64 ((w64 ((ByteArray.size p0.kind : Int) + (ByteArray.size p0.namespace_ : Int))) + (ByteArray.size p0.name : Int))))) with
     | true =>
      exact Q1i1 p0 H h0 h1 h2 h3 h4
     | false =>
      have hl5 := Q13u p0 (H.1) p0.labels 0 (by simp)
      cases hr5 : (Qdq p0 p0.labels 0) with
      | k0 =>
       rw [hr5] at hl5
       obtain ⟨z5, zo5, hl5⟩ := hl5
       try dsimp only
       have hl6 := Q13g p0 (H.2.1) p0.owners 0 (by simp)
       cases hr6 : (Qe5 p0 p0.owners 0) with
       | k0 =>
        rw [hr6] at hl6
        obtain ⟨z6, zo6, hl6⟩ := hl6
        try dsimp only
        have hl7 := Q139 p0 (H.2.2.1) p0.finalizers 0 (by simp)
        cases hr7 : (Qdo p0 p0.finalizers 0) with
        | k0 =>
         rw [hr7] at hl7
         obtain ⟨z7, zo7, hl7⟩ := hl7
         try dsimp only
         have hl8 := Q13q p0 (H.2.2.2.1) p0.managers 0 (by simp)
         cases hr8 : (Qdk p0 p0.managers 0) with
         | k0 =>
          rw [hr8] at hl8
          obtain ⟨z8, zo8, hl8⟩ := hl8
          exact Q1iq p0 H h0 h1 h2 h3 h4 z5 zo5 hl5 z6 zo6 hl6 z7 zo7 hl7 z8 zo8 hl8
         | k1 =>
          rw [hr8] at hl8
          obtain ⟨z8, zo8, hl8⟩ := hl8
          exact Q1i6 p0 H h0 h1 h2 h3 h4 z5 zo5 hl5 z6 zo6 hl6 z7 zo7 hl7 z8 zo8 hl8
         | k2 =>
          rw [hr8] at hl8
          obtain ⟨z8, zo8, hl8⟩ := hl8
          exact Q1lk p0 H h0 h1 h2 h3 h4 z5 zo5 hl5 z6 zo6 hl6 z7 zo7 hl7 z8 zo8 hl8
        | k1 =>
         rw [hr7] at hl7
         obtain ⟨z7, zo7, hl7⟩ := hl7
         exact Q1l7 p0 H h0 h1 h2 h3 h4 z5 zo5 hl5 z6 zo6 hl6 z7 zo7 hl7
       | k1 =>
        rw [hr6] at hl6
        obtain ⟨z6, zo6, hl6⟩ := hl6
        exact Q1i5 p0 H h0 h1 h2 h3 h4 z5 zo5 hl5 z6 zo6 hl6
      | k1 =>
       rw [hr5] at hl5
       obtain ⟨z5, zo5, hl5⟩ := hl5
       exact Q1gk p0 H h0 h1 h2 h3 h4 z5 zo5 hl5
end Go.Proofs.YtiflaadeikaghaaGreat
end

section
/- The chapter's examples (printed by a program). -/
namespace Go.Proofs.YtiflaadeikaghaaGreat
open Go.Pv
theorem t_K7 : Qi G (.call 10 [] []) (.ret (.bool true) []) := ⟨400, by kernel_rfl⟩
end Go.Proofs.YtiflaadeikaghaaGreat
end

section
/- What the laws ask of their arguments (printed by a program). -/
namespace Go.Proofs.YtiflaadeikaghaaGreat
open Go.Pv
def Qn9 (p0 : Pod) (p1 : Pod) : Bool :=
 bif (sEq p0.meta_.kind p1.meta_.kind) then
  (Q18p (Qxl p0) (Qxl p1))
 else
  false
def Q1sd (p0 : Pod) (p1 : Pod) : En := .call 17 [.agg (Pod.cells p0), .agg (Pod.cells p1)] []
def Q1jp (p0 : Pod) (p1 : Pod) : Rs := .ret (.bool (Qn9 p0 p1)) []
def Q1aj (p0 : Pod) (p1 : Pod) : Prop := (Q1c1 p0) ∧ (Q1c1 p1) ∧ (Q174 (Qxl p0) (Qxl p1)) ∧ True
theorem Q1dj (p0 : Pod) (p1 : Pod) (H : Q1aj p0 p1) : Qi G (Q1sd p0 p1) (Q1jp p0 p1) := by
 unfold Q1jp Qn9
 cases h0 : (sEq p0.meta_.kind p1.meta_.kind) with
 | true =>
  exact Qm (fn := Ir.K2m) rfl VOK.nil [hB 9 h0] [aN (Q1lp p0 H.1), aN (Q1lp p1 H.2.1), aN (Q1ko (Qxl p0) (Qxl p1) H.2.2.1)] (by kernel_rfl)
 | false =>
  exact Qm (fn := Ir.K2m) rfl VOK.nil [hB 9 h0] [] (by kernel_rfl)
def Qtm (p0 : Node) (p1 : Node) : Bool :=
 bif (sEq p0.meta_.kind p1.meta_.kind) then
  (Q18p (Qyd p0) (Qyd p1))
 else
  false
def Q1tf (p0 : Node) (p1 : Node) : En := .call 18 [.agg (Node.cells p0), .agg (Node.cells p1)] []
def Q1io (p0 : Node) (p1 : Node) : Rs := .ret (.bool (Qtm p0 p1)) []
def Q1ar (p0 : Node) (p1 : Node) : Prop := (Q1cl p0) ∧ (Q1cl p1) ∧ (Q174 (Qyd p0) (Qyd p1)) ∧ True
theorem Q1hc (p0 : Node) (p1 : Node) (H : Q1ar p0 p1) : Qi G (Q1tf p0 p1) (Q1io p0 p1) := by
 unfold Q1io Qtm
 cases h0 : (sEq p0.meta_.kind p1.meta_.kind) with
 | true =>
  exact Qm (fn := Ir.K2k) rfl VOK.nil [hB 9 h0] [aN (Q1l5 p0 H.1), aN (Q1l5 p1 H.2.1), aN (Q1ko (Qyd p0) (Qyd p1) H.2.2.1)] (by kernel_rfl)
 | false =>
  exact Qm (fn := Ir.K2k) rfl VOK.nil [hB 9 h0] [] (by kernel_rfl)
def Qx5 (p0 : Template) (p1 : Template) : Bool :=
 (Q82 (Qzw p0) (Qzw p1))
def Q1om (p0 : Template) (p1 : Template) : En := .call 19 [.agg (Template.cells p0), .agg (Template.cells p1)] []
def Q1ky (p0 : Template) (p1 : Template) : Rs := .ret (.bool (Qx5 p0 p1)) []
def Q1bf (p0 : Template) (p1 : Template) : Prop := (Q1by p0) ∧ (Q1by p1) ∧ (Q8c (Qzw p0)) ∧ True
theorem Q1l2 (p0 : Template) (p1 : Template) (H : Q1bf p0 p1) : Qi G (Q1om p0 p1) (Q1ky p0 p1) := by
 unfold Q1ky Qx5
 exact Qm (fn := Ir.K2n) rfl VOK.nil [] [aN (Q1jj p0 H.1), aN (Q1jj p1 H.2.1), aN (Q1bx (Qzw p0) (Qzw p1) H.2.2.1)] (by kernel_rfl)
def Q14e : Ty := .st [.str, .str]
def Qtw (x : Label) : Prop := okS x.key ∧ okS x.value
theorem Q182 {c : List PV} (h : Of Γ Q14e c) : ∃ x : Label, c = x.cells ∧ Qtw x := by
  have g0 := h.st1
  obtain ⟨a0, b0, rfl, h0, g1⟩ := g0.Q3a
  obtain ⟨x0, rfl, k0⟩ := h0.str1
  obtain ⟨a1, b1, rfl, h1, g2⟩ := g1.Q3a
  obtain ⟨x1, rfl, k1⟩ := h1.str1
  have e := g2.empty
  subst e
  exact ⟨⟨x0, x1⟩, rfl, ⟨k0, k1⟩⟩
def Q12d : Ty := .st [.str, .str, .int .i64, .bool, .bool]
def Qs8 (x : Owner) : Prop := okS x.kind ∧ okS x.name ∧ Qdt x.uid ∧ (fun _ : Bool => True) x.controller ∧ (fun _ : Bool => True) x.block
theorem Q155 {c : List PV} (h : Of Γ Q12d c) : ∃ x : Owner, c = x.cells ∧ Qs8 x := by
  have g0 := h.st1
  obtain ⟨a0, b0, rfl, h0, g1⟩ := g0.Q3a
  obtain ⟨x0, rfl, k0⟩ := h0.str1
  obtain ⟨a1, b1, rfl, h1, g2⟩ := g1.Q3a
  obtain ⟨x1, rfl, k1⟩ := h1.str1
  obtain ⟨a2, b2, rfl, h2, g3⟩ := g2.Q3a
  obtain ⟨x2, rfl, k2⟩ := h2.i64
  obtain ⟨a3, b3, rfl, h3, g4⟩ := g3.Q3a
  obtain ⟨x3, rfl, k3⟩ := h3.bool2
  obtain ⟨a4, b4, rfl, h4, g5⟩ := g4.Q3a
  obtain ⟨x4, rfl, k4⟩ := h4.bool2
  have e := g5.empty
  subst e
  exact ⟨⟨x0, x1, x2, x3, x4⟩, rfl, ⟨k0, k1, k2, k3, k4⟩⟩
def Qpg : Ty := .st [.str, .sl 16 .str]
def Qe3 (x : Manager) : Prop := okS x.name ∧ (okL 16 okS) x.fields
theorem Qw9 {c : List PV} (h : Of Γ Qpg c) : ∃ x : Manager, c = x.cells ∧ Qe3 x := by
  have g0 := h.st1
  obtain ⟨a0, b0, rfl, h0, g1⟩ := g0.Q3a
  obtain ⟨x0, rfl, k0⟩ := h0.str1
  obtain ⟨a1, b1, rfl, h1, g2⟩ := g1.Q3a
  obtain ⟨x1, rfl, k1⟩ := (h1.sl1 (f := (fun s : ByteArray => [.str s])) (ok := okS) fun r hr => hr.str1)
  have e := g2.empty
  subst e
  exact ⟨⟨x0, x1⟩, rfl, ⟨k0, k1⟩⟩
def Q1bp : Ty := .st [.str, .str, .str, .int .i64, .int .i64, .int .i64, .int .i64, .bool, .int .i64, .sl 32 Q14e, .sl 48 Q12d, .sl 16 .str, .sl 40 Qpg]
def Qt3 (x : Meta) : Prop := okS x.kind ∧ okS x.namespace_ ∧ okS x.name ∧ Qdt x.uid ∧ Qdt x.version ∧ Qdt x.generation ∧ Qdt x.created ∧ (fun _ : Bool => True) x.deleting ∧ Qdt x.deleteAt ∧ (okL 32 Qtw) x.labels ∧ (okL 48 Qs8) x.owners ∧ (okL 16 okS) x.finalizers ∧ (okL 40 Qe3) x.managers
theorem Q1a0 {c : List PV} (h : Of Γ Q1bp c) : ∃ x : Meta, c = x.cells ∧ Qt3 x := by
  have g0 := h.st1
  obtain ⟨a0, b0, rfl, h0, g1⟩ := g0.Q3a
  obtain ⟨x0, rfl, k0⟩ := h0.str1
  obtain ⟨a1, b1, rfl, h1, g2⟩ := g1.Q3a
  obtain ⟨x1, rfl, k1⟩ := h1.str1
  obtain ⟨a2, b2, rfl, h2, g3⟩ := g2.Q3a
  obtain ⟨x2, rfl, k2⟩ := h2.str1
  obtain ⟨a3, b3, rfl, h3, g4⟩ := g3.Q3a
  obtain ⟨x3, rfl, k3⟩ := h3.i64
  obtain ⟨a4, b4, rfl, h4, g5⟩ := g4.Q3a
  obtain ⟨x4, rfl, k4⟩ := h4.i64
  obtain ⟨a5, b5, rfl, h5, g6⟩ := g5.Q3a
  obtain ⟨x5, rfl, k5⟩ := h5.i64
  obtain ⟨a6, b6, rfl, h6, g7⟩ := g6.Q3a
  obtain ⟨x6, rfl, k6⟩ := h6.i64
  obtain ⟨a7, b7, rfl, h7, g8⟩ := g7.Q3a
  obtain ⟨x7, rfl, k7⟩ := h7.bool2
  obtain ⟨a8, b8, rfl, h8, g9⟩ := g8.Q3a
  obtain ⟨x8, rfl, k8⟩ := h8.i64
  obtain ⟨a9, b9, rfl, h9, g10⟩ := g9.Q3a
  obtain ⟨x9, rfl, k9⟩ := (h9.sl1 (f := Label.cells) (ok := Qtw) fun r hr => (Q182 hr))
  obtain ⟨a10, b10, rfl, h10, g11⟩ := g10.Q3a
  obtain ⟨x10, rfl, k10⟩ := (h10.sl1 (f := Owner.cells) (ok := Qs8) fun r hr => (Q155 hr))
  obtain ⟨a11, b11, rfl, h11, g12⟩ := g11.Q3a
  obtain ⟨x11, rfl, k11⟩ := (h11.sl1 (f := (fun s : ByteArray => [.str s])) (ok := okS) fun r hr => hr.str1)
  obtain ⟨a12, b12, rfl, h12, g13⟩ := g12.Q3a
  obtain ⟨x12, rfl, k12⟩ := (h12.sl1 (f := Manager.cells) (ok := Qe3) fun r hr => (Qw9 hr))
  have e := g13.empty
  subst e
  exact ⟨⟨x0, x1, x2, x3, x4, x5, x6, x7, x8, x9, x10, x11, x12⟩, rfl, ⟨k0, k1, k2, k3, k4, k5, k6, k7, k8, k9, k10, k11, k12⟩⟩
def Qux : Ty := .st [Q1bp, .nm 31, .nm 31]
def Qiw (x : Object) : Prop := Qt3 x.meta_ ∧ Q6c x.spec ∧ Q6c x.status
theorem Qzn {c : List PV} (h : Of Γ Qux c) : ∃ x : Object, c = x.cells ∧ Qiw x := by
  have g0 := h.st1
  obtain ⟨a0, b0, rfl, h0, g1⟩ := g0.Q3a
  obtain ⟨x0, rfl, k0⟩ := (Q1a0 h0)
  obtain ⟨a1, b1, rfl, h1, g2⟩ := g1.Q3a
  obtain ⟨x1, rfl, k1⟩ := (Q115 (Q1f4 31) h1)
  obtain ⟨a2, b2, rfl, h2, g3⟩ := g2.Q3a
  obtain ⟨x2, rfl, k2⟩ := (Q115 (Q1f4 31) h2)
  have e := g3.empty
  subst e
  exact ⟨⟨x0, x1, x2⟩, rfl, ⟨k0, k1, k2⟩⟩
end Go.Proofs.YtiflaadeikaghaaGreat
end

