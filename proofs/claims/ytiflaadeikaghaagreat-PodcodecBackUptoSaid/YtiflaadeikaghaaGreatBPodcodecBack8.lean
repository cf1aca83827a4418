/- Texts of the claim, merged by a program; what the statement does not reach is left out. -/
import Derived.Test.YtiflaadeikaghaaGreatBPodcodecBack7
import Derived.Lib.Strings
import Derived.Lib.Slices
import Derived.Lib.Walk
import Derived.Lib.Bytealg
import Derived.Test.YtiflaadeikaghaaGreatRows

section
/- Equality of metadata and objects; what is small (printed by a program). -/
namespace Go.Proofs.YtiflaadeikaghaaGreat
open Go.Pv
inductive Q16y where
  | k0
  | k1
def Q6i (p0 : List Label) (p1 : List Label) : List Label → Nat → Q16y
 | [], _i0 =>
  (.k0)
 | x0 :: r0, i0 =>
  bif ((sEq x0.key (List.getD p1 i0 (Label.mk eB eB)).key) && ((sEq x0.value (List.getD p1 i0 (Label.mk eB eB)).value) && true)) then
   Q6i p0 p1 r0 (i0 + 1)
  else
   (.k1)
def Q11v (p0 : List Label) (p1 : List Label) (i0 : Nat) : List PV :=
  [.sl (Label.rows p0), .sl (Label.rows p1), .un, .un, .un, .int .i64 (i0 : Int)] ++ nuns 20
def Q112 (_p0 : List Label) (_p1 : List Label) (_i0 : Nat) : List Ob :=
  []
def Qdd (p0 : List Label) (p1 : List Label) (i0 : Nat) : En := .loop 0 Ir.Qof Ir.Q1jv (Q11v p0 p1 i0) (Q112 p0 p1 i0)
def Qpu (_p0 : List Label) (_p1 : List Label) (z : Nat → PV) (_zo : Nat → List PV) : St :=
  ⟨zr z 0 26, [], 256⟩
def Qq9 (_p0 : List Label) (_p1 : List Label) (z : Nat → PV) (_zo : Nat → List PV) : St :=
  ⟨[z 0, z 1, z 2, z 3, .bool false] ++ zr z 5 21, [], 896⟩
def Qdc (p0 : List Label) (p1 : List Label) (e : En) : Q16y → Prop
  | .k0 => ∃ z zo, Q7 G e (.st (.exit 0) (Qpu p0 p1 z zo))
  | .k1 => ∃ z zo, Q7 G e (.st .ret (Qq9 p0 p1 z zo))
theorem Quz (p0 : List Label) (p1 : List Label) {e e' : En} (h : ∀ r, Q7 G e r → Q7 G e' r) : ∀ q, Qdc p0 p1 e q → Qdc p0 p1 e' q
  | .k0, ⟨z, zo, hz⟩ => ⟨z, zo, h _ hz⟩
  | .k1, ⟨z, zo, hz⟩ => ⟨z, zo, h _ hz⟩
def Qcw (p0 : List Label) (p1 : List Label) : Prop := (List.length p0 ≤ 4611686018427387904) ∧ (∀ (i0 : Nat) (x0 : Label), p0[i0]? = some x0 → i0 < List.length p1) ∧ True
def Qte (p0 : List Label) (p1 : List Label) (i0 : Nat) : List PV :=
  [.sl (Label.rows p0), .sl (Label.rows p1), .un, .un, .un, .int .i64 (i0 : Int)] ++ nuns 5 ++ [.int .i64 (i0 : Int), .sl (Label.rows p0), .int .i64 ((List.length p0) : Int), .bool false]
def Qjk (_p0 : List Label) (_p1 : List Label) (_i0 : Nat) : List (Nat × List PV) :=
  []
theorem Q19r (p0 : List Label) (p1 : List Label) (_H : Qcw p0 p1) (i0 : Nat) (hc0 : (decide ((i0 : Int) < ((List.length p0) : Int))) = false) : Qdc p0 p1 (Qdd p0 p1 i0) (.k0) := by
 exact ⟨(envF (Qte p0 p1 i0)), (zoF (Qjk p0 p1 i0)), Qg VOK.nil (x := ((.exit 0), Qpu p0 p1 (envF (Qte p0 p1 i0)) (zoF (Qjk p0 p1 i0)))) [hP 2 (Qh (Label.rows p0) (List.length p0) (Label.Q5 p0)), hB 0 hc0] [] (by kernel_rfl)⟩
theorem Q18p (p0 : List Label) (p1 : List Label) (H : Qcw p0 p1) (x0 : Label) (i0 : Nat) (hx0 : p0[i0]? = some x0) (hi0 : i0 < List.length p0) (hc0 : (decide ((i0 : Int) < ((List.length p0) : Int))) = true) (h0 : ((sEq x0.key (List.getD p1 i0 (Label.mk eB eB)).key) && ((sEq x0.value (List.getD p1 i0 (Label.mk eB eB)).value) && true)) = true) {r : Rs} (hr : Q7 G (Qdd p0 p1 (i0 + 1)) r) : Q7 G (Qdd p0 p1 i0) r := by
 have hB0 := H.1
 exact Qk VOK.nil (y := (Q11v p0 p1 (i0 + 1), Q112 p0 p1 (i0 + 1))) [hP 2 (Qh (Label.rows p0) (List.length p0) (Label.Q5 p0)), hB 0 hc0, hP 2 (Q1j 2 (Label.rows p0) i0 _ (Label.Qc hx0) rfl), hP 3 (Q1j 2 (Label.rows p1) i0 _ (Label.Qc (Q2x p1 i0 (Label.mk eB eB) ((H.2.1 i0 x0 hx0)))) rfl), hP 1 (dec (!((sEq x0.key (List.getD p1 i0 (Label.mk eB eB)).key) && ((sEq x0.value (List.getD p1 i0 (Label.mk eB eB)).value) && true))) false (by rw [h0]; rfl)), hP 1 (Q22 i0 (by omega))] [] (by kernel_rfl) hr
def Qpz (p0 : List Label) (p1 : List Label) (i0 : Nat) (x0 : Label) : List PV :=
  [.sl (Label.rows p0), .sl (Label.rows p1), .un, .un, .un, .int .i64 (i0 : Int)] ++ nuns 5 ++ [.int .i64 (i0 : Int), .sl (Label.rows p0), .int .i64 ((List.length p0) : Int), .bool true, .un, .un, .sl (Label.rows p0), .int .i64 (i0 : Int), .rf [.str x0.key, .str x0.value], .agg [.str x0.key, .str x0.value], .sl (Label.rows p1), .int .i64 (i0 : Int), .rf [.str (List.getD p1 i0 (Label.mk eB eB)).key, .str (List.getD p1 i0 (Label.mk eB eB)).value], .agg [.str (List.getD p1 i0 (Label.mk eB eB)).key, .str (List.getD p1 i0 (Label.mk eB eB)).value], .bool true]
def Qjb (_p0 : List Label) (_p1 : List Label) (_i0 : Nat) (_x0 : Label) : List (Nat × List PV) :=
  []
theorem Q1b1 (p0 : List Label) (p1 : List Label) (H : Qcw p0 p1) (x0 : Label) (i0 : Nat) (hx0 : p0[i0]? = some x0) (_hi0 : i0 < List.length p0) (hc0 : (decide ((i0 : Int) < ((List.length p0) : Int))) = true) (h0 : ((sEq x0.key (List.getD p1 i0 (Label.mk eB eB)).key) && ((sEq x0.value (List.getD p1 i0 (Label.mk eB eB)).value) && true)) = false) : Qdc p0 p1 (Qdd p0 p1 i0) (.k1) := by
 exact ⟨(envF (Qpz p0 p1 i0 x0)), (zoF (Qjb p0 p1 i0 x0)), Qg VOK.nil (x := (.ret, Qq9 p0 p1 (envF (Qpz p0 p1 i0 x0)) (zoF (Qjb p0 p1 i0 x0)))) [hP 2 (Qh (Label.rows p0) (List.length p0) (Label.Q5 p0)), hB 0 hc0, hP 2 (Q1j 2 (Label.rows p0) i0 _ (Label.Qc hx0) rfl), hP 3 (Q1j 2 (Label.rows p1) i0 _ (Label.Qc (Q2x p1 i0 (Label.mk eB eB) ((H.2.1 i0 x0 hx0)))) rfl), hP 1 (dec (!((sEq x0.key (List.getD p1 i0 (Label.mk eB eB)).key) && ((sEq x0.value (List.getD p1 i0 (Label.mk eB eB)).value) && true))) true (by rw [h0]; rfl))] [] (by kernel_rfl)⟩
theorem Qzl (p0 : List Label) (p1 : List Label) (H : Qcw p0 p1) : ∀ (r0 : List Label) (i0 : Nat), List.drop i0 p0 = r0 → Qdc p0 p1 (Qdd p0 p1 i0) (Q6i p0 p1 r0 i0)
 | [], i0, hd => by
  have hc0 : (decide ((i0 : Int) < ((List.length p0) : Int))) = false := by have := Q19 hd; simp; omega
  rw [Q6i]
  exact Q19r p0 p1 H i0 hc0
 | x0 :: r0, i0, hd => by
  obtain ⟨hx0, hi0, hd'⟩ := Q11 hd
  have hc0 : (decide ((i0 : Int) < ((List.length p0) : Int))) = true := by simp; omega
  rw [Q6i]
  cases h0 : ((sEq x0.key (List.getD p1 i0 (Label.mk eB eB)).key) && ((sEq x0.value (List.getD p1 i0 (Label.mk eB eB)).value) && true)) with
  | true =>
   exact Quz p0 p1 (fun r hr => Q18p p0 p1 H x0 i0 hx0 hi0 hc0 h0 hr) _ (Qzl p0 p1 H r0 (i0 + 1) hd')
  | false =>
   exact Q1b1 p0 p1 H x0 i0 hx0 hi0 hc0 h0
def Qec (p0 : List Label) (p1 : List Label) : Bool :=
 bif (((List.length p0) : Int) == ((List.length p1) : Int)) then
  (match (Q6i p0 p1 p0 0) with
  | .k0 => true
  | .k1 => false)
 else
  false
def Q1xv (p0 : List Label) (p1 : List Label) : En := .call 122 [.sl (Label.rows p0), .sl (Label.rows p1)] []
def Q1qn (p0 : List Label) (p1 : List Label) : Rs := .ret (.bool (Qec p0 p1)) []
def Q1nd (p0 : List Label) (p1 : List Label) : Prop := ((((List.length p0) : Int) == ((List.length p1) : Int)) = true → Qcw p0 p1) ∧ True
theorem Q133 (p0 : List Label) (p1 : List Label) (H : Q1nd p0 p1) : Q7 G (Q1xv p0 p1) (Q1qn p0 p1) := by
 unfold Q1qn Qec
 cases h0 : (((List.length p0) : Int) == ((List.length p1) : Int)) with
 | true =>
  have hl1 := Qzl p0 p1 (H.1 h0) p0 0 (by simp)
  cases hr1 : (Q6i p0 p1 p0 0) with
  | k0 =>
   rw [hr1] at hl1
   obtain ⟨z1, zo1, hl1⟩ := hl1
   exact Q8 (fn := Ir.K24) rfl VOK.nil [hP 2 (Qh (Label.rows p0) (List.length p0) (Label.Q5 p0)), hP 1 (Qh (Label.rows p1) (List.length p1) (Label.Q5 p1)), hP 0 (dec (!(((List.length p0) : Int) == ((List.length p1) : Int))) false (by rw [h0]; rfl))] [aN hl1] (by kernel_rfl)
  | k1 =>
   rw [hr1] at hl1
   obtain ⟨z1, zo1, hl1⟩ := hl1
   exact Q8 (fn := Ir.K24) rfl VOK.nil [hP 2 (Qh (Label.rows p0) (List.length p0) (Label.Q5 p0)), hP 1 (Qh (Label.rows p1) (List.length p1) (Label.Q5 p1)), hP 0 (dec (!(((List.length p0) : Int) == ((List.length p1) : Int))) false (by rw [h0]; rfl))] [aN hl1] (by kernel_rfl)
 | false =>
  exact Q8 (fn := Ir.K24) rfl VOK.nil [hP 2 (Qh (Label.rows p0) (List.length p0) (Label.Q5 p0)), hP 1 (Qh (Label.rows p1) (List.length p1) (Label.Q5 p1)), hP 0 (dec (!(((List.length p0) : Int) == ((List.length p1) : Int))) true (by rw [h0]; rfl))] [] (by kernel_rfl)
inductive Q13t where
  | k0
  | k1
def Q6n (p0 : List ByteArray) (p1 : List ByteArray) : List ByteArray → Nat → Q13t
 | [], _i0 =>
  (.k0)
 | x0 :: r0, i0 =>
  bif (sEq x0 (List.getD p1 i0 eB)) then
   Q6n p0 p1 r0 (i0 + 1)
  else
   (.k1)
def Q10r (p0 : List ByteArray) (p1 : List ByteArray) (i0 : Nat) : List PV :=
  [.sl (Qj p0), .sl (Qj p1), .un, .un, .un, .int .i64 (i0 : Int)] ++ nuns 20
def Qyo (_p0 : List ByteArray) (_p1 : List ByteArray) (_i0 : Nat) : List Ob :=
  []
def Qde (p0 : List ByteArray) (p1 : List ByteArray) (i0 : Nat) : En := .loop 0 Ir.Qmp Ir.Q1ke (Q10r p0 p1 i0) (Qyo p0 p1 i0)
def Qqa (_p0 : List ByteArray) (_p1 : List ByteArray) (z : Nat → PV) (_zo : Nat → List PV) : St :=
  ⟨zr z 0 26, [], 256⟩
def Qqt (_p0 : List ByteArray) (_p1 : List ByteArray) (z : Nat → PV) (_zo : Nat → List PV) : St :=
  ⟨[z 0, z 1, z 2, z 3, .bool false] ++ zr z 5 21, [], 896⟩
def Qbs (p0 : List ByteArray) (p1 : List ByteArray) (e : En) : Q13t → Prop
  | .k0 => ∃ z zo, Q7 G e (.st (.exit 0) (Qqa p0 p1 z zo))
  | .k1 => ∃ z zo, Q7 G e (.st .ret (Qqt p0 p1 z zo))
theorem Qu8 (p0 : List ByteArray) (p1 : List ByteArray) {e e' : En} (h : ∀ r, Q7 G e r → Q7 G e' r) : ∀ q, Qbs p0 p1 e q → Qbs p0 p1 e' q
  | .k0, ⟨z, zo, hz⟩ => ⟨z, zo, h _ hz⟩
  | .k1, ⟨z, zo, hz⟩ => ⟨z, zo, h _ hz⟩
def Qd8 (p0 : List ByteArray) (p1 : List ByteArray) : Prop := (List.length p0 ≤ 4611686018427387904) ∧ (∀ (i0 : Nat) (x0 : BA), p0[i0]? = some x0 → i0 < List.length p1) ∧ True
def Qrc (p0 : List ByteArray) (p1 : List ByteArray) (i0 : Nat) : List PV :=
  [.sl (Qj p0), .sl (Qj p1), .un, .un, .un, .int .i64 (i0 : Int)] ++ nuns 5 ++ [.int .i64 (i0 : Int), .sl (Qj p0), .int .i64 ((List.length p0) : Int), .bool false]
def Qkm (_p0 : List ByteArray) (_p1 : List ByteArray) (_i0 : Nat) : List (Nat × List PV) :=
  []
theorem Q1bj (p0 : List ByteArray) (p1 : List ByteArray) (_H : Qd8 p0 p1) (i0 : Nat) (hc0 : (decide ((i0 : Int) < ((List.length p0) : Int))) = false) : Qbs p0 p1 (Qde p0 p1 i0) (.k0) := by
 exact ⟨(envF (Qrc p0 p1 i0)), (zoF (Qkm p0 p1 i0)), Qg VOK.nil (x := ((.exit 0), Qqa p0 p1 (envF (Qrc p0 p1 i0)) (zoF (Qkm p0 p1 i0)))) [hP 2 (Qh (Qj p0) (List.length p0) (Q1h p0)), hB 0 hc0] [] (by kernel_rfl)⟩
theorem Q191 (p0 : List ByteArray) (p1 : List ByteArray) (H : Qd8 p0 p1) (x0 : BA) (i0 : Nat) (hx0 : p0[i0]? = some x0) (hi0 : i0 < List.length p0) (hc0 : (decide ((i0 : Int) < ((List.length p0) : Int))) = true) (h0 : (sEq x0 (List.getD p1 i0 eB)) = true) {r : Rs} (hr : Q7 G (Qde p0 p1 (i0 + 1)) r) : Q7 G (Qde p0 p1 i0) r := by
 have hB0 := H.1
 exact Qk VOK.nil (y := (Q10r p0 p1 (i0 + 1), Qyo p0 p1 (i0 + 1))) [hP 2 (Qh (Qj p0) (List.length p0) (Q1h p0)), hB 0 hc0, hP 2 (Q1j 1 (Qj p0) i0 _ (Q40 hx0) rfl), hP 3 (Q1j 1 (Qj p1) i0 _ (Q40 (Q2x p1 i0 eB ((H.2.1 i0 x0 hx0)))) rfl), hP 1 (dec (!(sEq x0 (List.getD p1 i0 eB))) false (by rw [h0]; rfl)), hP 1 (Q22 i0 (by omega))] [] (by kernel_rfl) hr
def Qq8 (p0 : List ByteArray) (p1 : List ByteArray) (i0 : Nat) (x0 : BA) : List PV :=
  [.sl (Qj p0), .sl (Qj p1), .un, .un, .un, .int .i64 (i0 : Int)] ++ nuns 5 ++ [.int .i64 (i0 : Int), .sl (Qj p0), .int .i64 ((List.length p0) : Int), .bool true, .un, .un, .sl (Qj p0), .int .i64 (i0 : Int), .rf [.str x0], .str x0, .sl (Qj p1), .int .i64 (i0 : Int), .rf [.str (List.getD p1 i0 eB)], .str (List.getD p1 i0 eB), .bool true]
def Qm2 (_p0 : List ByteArray) (_p1 : List ByteArray) (_i0 : Nat) (_x0 : BA) : List (Nat × List PV) :=
  []
theorem Q17t (p0 : List ByteArray) (p1 : List ByteArray) (H : Qd8 p0 p1) (x0 : BA) (i0 : Nat) (hx0 : p0[i0]? = some x0) (_hi0 : i0 < List.length p0) (hc0 : (decide ((i0 : Int) < ((List.length p0) : Int))) = true) (h0 : (sEq x0 (List.getD p1 i0 eB)) = false) : Qbs p0 p1 (Qde p0 p1 i0) (.k1) := by
 exact ⟨(envF (Qq8 p0 p1 i0 x0)), (zoF (Qm2 p0 p1 i0 x0)), Qg VOK.nil (x := (.ret, Qqt p0 p1 (envF (Qq8 p0 p1 i0 x0)) (zoF (Qm2 p0 p1 i0 x0)))) [hP 2 (Qh (Qj p0) (List.length p0) (Q1h p0)), hB 0 hc0, hP 2 (Q1j 1 (Qj p0) i0 _ (Q40 hx0) rfl), hP 3 (Q1j 1 (Qj p1) i0 _ (Q40 (Q2x p1 i0 eB ((H.2.1 i0 x0 hx0)))) rfl), hP 1 (dec (!(sEq x0 (List.getD p1 i0 eB))) true (by rw [h0]; rfl))] [] (by kernel_rfl)⟩
theorem Qx4 (p0 : List ByteArray) (p1 : List ByteArray) (H : Qd8 p0 p1) : ∀ (r0 : List ByteArray) (i0 : Nat), List.drop i0 p0 = r0 → Qbs p0 p1 (Qde p0 p1 i0) (Q6n p0 p1 r0 i0)
 | [], i0, hd => by
  have hc0 : (decide ((i0 : Int) < ((List.length p0) : Int))) = false := by have := Q19 hd; simp; omega
  rw [Q6n]
  exact Q1bj p0 p1 H i0 hc0
 | x0 :: r0, i0, hd => by
  obtain ⟨hx0, hi0, hd'⟩ := Q11 hd
  have hc0 : (decide ((i0 : Int) < ((List.length p0) : Int))) = true := by simp; omega
  rw [Q6n]
  cases h0 : (sEq x0 (List.getD p1 i0 eB)) with
  | true =>
   exact Qu8 p0 p1 (fun r hr => Q191 p0 p1 H x0 i0 hx0 hi0 hc0 h0 hr) _ (Qx4 p0 p1 H r0 (i0 + 1) hd')
  | false =>
   exact Q17t p0 p1 H x0 i0 hx0 hi0 hc0 h0
def Qat (p0 : List ByteArray) (p1 : List ByteArray) : Bool :=
 bif (((List.length p0) : Int) == ((List.length p1) : Int)) then
  (match (Q6n p0 p1 p0 0) with
  | .k0 => true
  | .k1 => false)
 else
  false
def Q1sh (p0 : List ByteArray) (p1 : List ByteArray) : En := .call 123 [.sl (Qj p0), .sl (Qj p1)] []
def Q1nl (p0 : List ByteArray) (p1 : List ByteArray) : Rs := .ret (.bool (Qat p0 p1)) []
def Q1km (p0 : List ByteArray) (p1 : List ByteArray) : Prop := ((((List.length p0) : Int) == ((List.length p1) : Int)) = true → Qd8 p0 p1) ∧ True
theorem Q11d (p0 : List ByteArray) (p1 : List ByteArray) (H : Q1km p0 p1) : Q7 G (Q1sh p0 p1) (Q1nl p0 p1) := by
 unfold Q1nl Qat
 cases h0 : (((List.length p0) : Int) == ((List.length p1) : Int)) with
 | true =>
  have hl1 := Qx4 p0 p1 (H.1 h0) p0 0 (by simp)
  cases hr1 : (Q6n p0 p1 p0 0) with
  | k0 =>
   rw [hr1] at hl1
   obtain ⟨z1, zo1, hl1⟩ := hl1
   exact Q8 (fn := Ir.K25) rfl VOK.nil [hP 2 (Qh (Qj p0) (List.length p0) (Q1h p0)), hP 1 (Qh (Qj p1) (List.length p1) (Q1h p1)), hP 0 (dec (!(((List.length p0) : Int) == ((List.length p1) : Int))) false (by rw [h0]; rfl))] [aN hl1] (by kernel_rfl)
  | k1 =>
   rw [hr1] at hl1
   obtain ⟨z1, zo1, hl1⟩ := hl1
   exact Q8 (fn := Ir.K25) rfl VOK.nil [hP 2 (Qh (Qj p0) (List.length p0) (Q1h p0)), hP 1 (Qh (Qj p1) (List.length p1) (Q1h p1)), hP 0 (dec (!(((List.length p0) : Int) == ((List.length p1) : Int))) false (by rw [h0]; rfl))] [aN hl1] (by kernel_rfl)
 | false =>
  exact Q8 (fn := Ir.K25) rfl VOK.nil [hP 2 (Qh (Qj p0) (List.length p0) (Q1h p0)), hP 1 (Qh (Qj p1) (List.length p1) (Q1h p1)), hP 0 (dec (!(((List.length p0) : Int) == ((List.length p1) : Int))) true (by rw [h0]; rfl))] [] (by kernel_rfl)
inductive Q16z where
  | k0
  | k1
def Q6k (p0 : Meta) (p1 : Meta) : List Owner → Nat → Q16z
 | [], _i0 =>
  (.k0)
 | x0 :: r0, i0 =>
  bif ((sEq x0.kind (List.getD p1.owners i0 (Owner.mk eB eB 0 false false)).kind) && ((sEq x0.name (List.getD p1.owners i0 (Owner.mk eB eB 0 false false)).name) && ((x0.uid == (List.getD p1.owners i0 (Owner.mk eB eB 0 false false)).uid) && ((x0.controller == (List.getD p1.owners i0 (Owner.mk eB eB 0 false false)).controller) && ((x0.block == (List.getD p1.owners i0 (Owner.mk eB eB 0 false false)).block) && true))))) then
   Q6k p0 p1 r0 (i0 + 1)
  else
   (.k1)
def Qxd (_p0 : Meta) (_p1 : Meta) (i0 : Nat) : List PV :=
  [.un, .un, .bx 0 0, .bx 1 0, .un, .int .i64 (i0 : Int)] ++ nuns 148
def Q100 (p0 : Meta) (p1 : Meta) (_i0 : Nat) : List Ob :=
  [⟨13, 0, true, [.str p0.kind, .str p0.namespace_, .str p0.name, .int .i64 p0.uid, .int .i64 p0.version, .int .i64 p0.generation, .int .i64 p0.created, .bool p0.deleting, .int .i64 p0.deleteAt, .sl (Label.rows p0.labels), .sl (Owner.rows p0.owners), .sl (Qj p0.finalizers), .sl (Manager.rows p0.managers)]⟩, ⟨13, 0, true, [.str p1.kind, .str p1.namespace_, .str p1.name, .int .i64 p1.uid, .int .i64 p1.version, .int .i64 p1.generation, .int .i64 p1.created, .bool p1.deleting, .int .i64 p1.deleteAt, .sl (Label.rows p1.labels), .sl (Owner.rows p1.owners), .sl (Qj p1.finalizers), .sl (Manager.rows p1.managers)]⟩]
def Q7c (p0 : Meta) (p1 : Meta) (i0 : Nat) : En := .loop 0 Ir.Qjw Ir.Q1ix (Qxd p0 p1 i0) (Q100 p0 p1 i0)
def Qae (p0 : Meta) (p1 : Meta) (z : Nat → PV) (_zo : Nat → List PV) : St :=
  ⟨[z 0, z 1, .bx 0 0, .bx 1 0] ++ zr z 4 150, [(0, ⟨13, 0, true, [.str p0.kind, .str p0.namespace_, .str p0.name, .int .i64 p0.uid, .int .i64 p0.version, .int .i64 p0.generation, .int .i64 p0.created, .bool p0.deleting, .int .i64 p0.deleteAt, .sl (Label.rows p0.labels), .sl (Owner.rows p0.owners), .sl (Qj p0.finalizers), .sl (Manager.rows p0.managers)]⟩), (1, ⟨13, 0, true, [.str p1.kind, .str p1.namespace_, .str p1.name, .int .i64 p1.uid, .int .i64 p1.version, .int .i64 p1.generation, .int .i64 p1.created, .bool p1.deleting, .int .i64 p1.deleteAt, .sl (Label.rows p1.labels), .sl (Owner.rows p1.owners), .sl (Qj p1.finalizers), .sl (Manager.rows p1.managers)]⟩)], 322⟩
def Qdz (_p0 : Meta) (_p1 : Meta) (z : Nat → PV) (zo : Nat → List PV) : St :=
  ⟨[z 0, z 1, z 2, z 3, .bool false] ++ zr z 5 149, [(0, ⟨13, 0, true, zo 0⟩), (1, ⟨13, 0, true, zo 1⟩)], 1090⟩
def Qcf (p0 : Meta) (p1 : Meta) (e : En) : Q16z → Prop
  | .k0 => ∃ z zo, Q7 G e (.st (.exit 0) (Qae p0 p1 z zo))
  | .k1 => ∃ z zo, Q7 G e (.st .ret (Qdz p0 p1 z zo))
theorem Qwp (p0 : Meta) (p1 : Meta) {e e' : En} (h : ∀ r, Q7 G e r → Q7 G e' r) : ∀ q, Qcf p0 p1 e q → Qcf p0 p1 e' q
  | .k0, ⟨z, zo, hz⟩ => ⟨z, zo, h _ hz⟩
  | .k1, ⟨z, zo, hz⟩ => ⟨z, zo, h _ hz⟩
def Qcn (p0 : Meta) (p1 : Meta) : Prop := (List.length p0.owners ≤ 4611686018427387904) ∧ (∀ (i0 : Nat) (x0 : Owner), p0.owners[i0]? = some x0 → i0 < List.length p1.owners) ∧ True
def Qrz (p0 : Meta) (_p1 : Meta) (i0 : Nat) : List PV :=
  nuns 5 ++ [.int .i64 (i0 : Int)] ++ nuns 94 ++ [.int .i64 (i0 : Int), .bx 0 10, .sl (Owner.rows p0.owners), .int .i64 ((List.length p0.owners) : Int), .bool false]
def Qni (_p0 : Meta) (_p1 : Meta) (_i0 : Nat) : List (Nat × List PV) :=
  []
theorem Q1b2 (p0 : Meta) (p1 : Meta) (_H : Qcn p0 p1) (i0 : Nat) (hc0 : (decide ((i0 : Int) < ((List.length p0.owners) : Int))) = false) : Qcf p0 p1 (Q7c p0 p1 i0) (.k0) := by
 exact ⟨(envF (Qrz p0 p1 i0)), (zoF (Qni p0 p1 i0)), Qg VOK.nil (x := ((.exit 0), Qae p0 p1 (envF (Qrz p0 p1 i0)) (zoF (Qni p0 p1 i0)))) [hP 3 (Qh (Owner.rows p0.owners) (List.length p0.owners) (Owner.Q5 p0.owners)), hB 0 hc0] [] (by kernel_rfl)⟩
theorem Q180 (p0 : Meta) (p1 : Meta) (H : Qcn p0 p1) (x0 : Owner) (i0 : Nat) (hx0 : p0.owners[i0]? = some x0) (hi0 : i0 < List.length p0.owners) (hc0 : (decide ((i0 : Int) < ((List.length p0.owners) : Int))) = true) (h0 : ((sEq x0.kind (List.getD p1.owners i0 (Owner.mk eB eB 0 false false)).kind) && ((sEq x0.name (List.getD p1.owners i0 (Owner.mk eB eB 0 false false)).name) && ((x0.uid == (List.getD p1.owners i0 (Owner.mk eB eB 0 false false)).uid) && ((x0.controller == (List.getD p1.owners i0 (Owner.mk eB eB 0 false false)).controller) && ((x0.block == (List.getD p1.owners i0 (Owner.mk eB eB 0 false false)).block) && true))))) = true) {r : Rs} (hr : Q7 G (Q7c p0 p1 (i0 + 1)) r) : Q7 G (Q7c p0 p1 i0) r := by
 have hB0 := H.1
 exact Qk VOK.nil (y := (Qxd p0 p1 (i0 + 1), Q100 p0 p1 (i0 + 1))) [hP 3 (Qh (Owner.rows p0.owners) (List.length p0.owners) (Owner.Q5 p0.owners)), hB 0 hc0, hP 3 (Q1j 5 (Owner.rows p0.owners) i0 _ (Owner.Qc hx0) rfl), hP 4 (Q1j 5 (Owner.rows p1.owners) i0 _ (Owner.Qc (Q2x p1.owners i0 (Owner.mk eB eB 0 false false) ((H.2.1 i0 x0 hx0)))) rfl), hP 1 (dec (!((sEq x0.kind (List.getD p1.owners i0 (Owner.mk eB eB 0 false false)).kind) && ((sEq x0.name (List.getD p1.owners i0 (Owner.mk eB eB 0 false false)).name) && ((x0.uid == (List.getD p1.owners i0 (Owner.mk eB eB 0 false false)).uid) && ((x0.controller == (List.getD p1.owners i0 (Owner.mk eB eB 0 false false)).controller) && ((x0.block == (List.getD p1.owners i0 (Owner.mk eB eB 0 false false)).block) && true)))))) false (by rw [h0]; rfl)), hP 1 (Q22 i0 (by omega))] [] (by kernel_rfl) hr
def Qsp (p0 : Meta) (p1 : Meta) (i0 : Nat) (x0 : Owner) : List PV :=
  [.un, .un, .bx 0 0, .bx 1 0, .un, .int .i64 (i0 : Int)] ++ nuns 94 ++ [.int .i64 (i0 : Int), .bx 0 10, .sl (Owner.rows p0.owners), .int .i64 ((List.length p0.owners) : Int), .bool true, .un, .un, .bx 0 10, .sl (Owner.rows p0.owners), .int .i64 (i0 : Int), .rf [.str x0.kind, .str x0.name, .int .i64 x0.uid, .bool x0.controller, .bool x0.block], .agg [.str x0.kind, .str x0.name, .int .i64 x0.uid, .bool x0.controller, .bool x0.block], .bx 1 10, .sl (Owner.rows p1.owners), .int .i64 (i0 : Int), .rf [.str (List.getD p1.owners i0 (Owner.mk eB eB 0 false false)).kind, .str (List.getD p1.owners i0 (Owner.mk eB eB 0 false false)).name, .int .i64 (List.getD p1.owners i0 (Owner.mk eB eB 0 false false)).uid, .bool (List.getD p1.owners i0 (Owner.mk eB eB 0 false false)).controller, .bool (List.getD p1.owners i0 (Owner.mk eB eB 0 false false)).block], .agg [.str (List.getD p1.owners i0 (Owner.mk eB eB 0 false false)).kind, .str (List.getD p1.owners i0 (Owner.mk eB eB 0 false false)).name, .int .i64 (List.getD p1.owners i0 (Owner.mk eB eB 0 false false)).uid, .bool (List.getD p1.owners i0 (Owner.mk eB eB 0 false false)).controller, .bool (List.getD p1.owners i0 (Owner.mk eB eB 0 false false)).block], .bool true]
def Qk6 (p0 : Meta) (p1 : Meta) (_i0 : Nat) (_x0 : Owner) : List (Nat × List PV) :=
  [(0, [.str p0.kind, .str p0.namespace_, .str p0.name, .int .i64 p0.uid, .int .i64 p0.version, .int .i64 p0.generation, .int .i64 p0.created, .bool p0.deleting, .int .i64 p0.deleteAt, .sl (Label.rows p0.labels), .sl (Owner.rows p0.owners), .sl (Qj p0.finalizers), .sl (Manager.rows p0.managers)]), (1, [.str p1.kind, .str p1.namespace_, .str p1.name, .int .i64 p1.uid, .int .i64 p1.version, .int .i64 p1.generation, .int .i64 p1.created, .bool p1.deleting, .int .i64 p1.deleteAt, .sl (Label.rows p1.labels), .sl (Owner.rows p1.owners), .sl (Qj p1.finalizers), .sl (Manager.rows p1.managers)])]
theorem Q19v (p0 : Meta) (p1 : Meta) (H : Qcn p0 p1) (x0 : Owner) (i0 : Nat) (hx0 : p0.owners[i0]? = some x0) (_hi0 : i0 < List.length p0.owners) (hc0 : (decide ((i0 : Int) < ((List.length p0.owners) : Int))) = true) (h0 : ((sEq x0.kind (List.getD p1.owners i0 (Owner.mk eB eB 0 false false)).kind) && ((sEq x0.name (List.getD p1.owners i0 (Owner.mk eB eB 0 false false)).name) && ((x0.uid == (List.getD p1.owners i0 (Owner.mk eB eB 0 false false)).uid) && ((x0.controller == (List.getD p1.owners i0 (Owner.mk eB eB 0 false false)).controller) && ((x0.block == (List.getD p1.owners i0 (Owner.mk eB eB 0 false false)).block) && true))))) = false) : Qcf p0 p1 (Q7c p0 p1 i0) (.k1) := by
 exact ⟨(envF (Qsp p0 p1 i0 x0)), (zoF (Qk6 p0 p1 i0 x0)), Qg VOK.nil (x := (.ret, Qdz p0 p1 (envF (Qsp p0 p1 i0 x0)) (zoF (Qk6 p0 p1 i0 x0)))) [hP 3 (Qh (Owner.rows p0.owners) (List.length p0.owners) (Owner.Q5 p0.owners)), hB 0 hc0, hP 3 (Q1j 5 (Owner.rows p0.owners) i0 _ (Owner.Qc hx0) rfl), hP 4 (Q1j 5 (Owner.rows p1.owners) i0 _ (Owner.Qc (Q2x p1.owners i0 (Owner.mk eB eB 0 false false) ((H.2.1 i0 x0 hx0)))) rfl), hP 1 (dec (!((sEq x0.kind (List.getD p1.owners i0 (Owner.mk eB eB 0 false false)).kind) && ((sEq x0.name (List.getD p1.owners i0 (Owner.mk eB eB 0 false false)).name) && ((x0.uid == (List.getD p1.owners i0 (Owner.mk eB eB 0 false false)).uid) && ((x0.controller == (List.getD p1.owners i0 (Owner.mk eB eB 0 false false)).controller) && ((x0.block == (List.getD p1.owners i0 (Owner.mk eB eB 0 false false)).block) && true)))))) true (by rw [h0]; rfl))] [] (by kernel_rfl)⟩
theorem Qys (p0 : Meta) (p1 : Meta) (H : Qcn p0 p1) : ∀ (r0 : List Owner) (i0 : Nat), List.drop i0 p0.owners = r0 → Qcf p0 p1 (Q7c p0 p1 i0) (Q6k p0 p1 r0 i0)
 | [], i0, hd => by
  have hc0 : (decide ((i0 : Int) < ((List.length p0.owners) : Int))) = false := by have := Q19 hd; simp; omega
  rw [Q6k]
  exact Q1b2 p0 p1 H i0 hc0
 | x0 :: r0, i0, hd => by
  obtain ⟨hx0, hi0, hd'⟩ := Q11 hd
  have hc0 : (decide ((i0 : Int) < ((List.length p0.owners) : Int))) = true := by simp; omega
  rw [Q6k]
  cases h0 : ((sEq x0.kind (List.getD p1.owners i0 (Owner.mk eB eB 0 false false)).kind) && ((sEq x0.name (List.getD p1.owners i0 (Owner.mk eB eB 0 false false)).name) && ((x0.uid == (List.getD p1.owners i0 (Owner.mk eB eB 0 false false)).uid) && ((x0.controller == (List.getD p1.owners i0 (Owner.mk eB eB 0 false false)).controller) && ((x0.block == (List.getD p1.owners i0 (Owner.mk eB eB 0 false false)).block) && true))))) with
  | true =>
   exact Qwp p0 p1 (fun r hr => Q180 p0 p1 H x0 i0 hx0 hi0 hc0 h0 hr) _ (Qys p0 p1 H r0 (i0 + 1) hd')
  | false =>
   exact Q19v p0 p1 H x0 i0 hx0 hi0 hc0 h0
inductive Q14b where
  | k0
  | k1
def Q6l (p0 : Meta) (p1 : Meta) : List Manager → Nat → Q14b
 | [], _i1 =>
  (.k0)
 | x1 :: r1, i1 =>
  bif (sEq x1.name (List.getD p1.managers i1 (Manager.mk eB [])).name) then
   bif (Qat x1.fields (List.getD p1.managers i1 (Manager.mk eB [])).fields) then
    Q6l p0 p1 r1 (i1 + 1)
   else
    (.k1)
  else
   (.k1)
def Q113 (_p0 : Meta) (_p1 : Meta) (i1 : Nat) : List PV :=
  [.un, .un, .bx 0 0, .bx 1 0, .un, .un, .int .i64 (i1 : Int)] ++ nuns 147
def Q10w (p0 : Meta) (p1 : Meta) (_i1 : Nat) : List Ob :=
  [⟨13, 0, true, [.str p0.kind, .str p0.namespace_, .str p0.name, .int .i64 p0.uid, .int .i64 p0.version, .int .i64 p0.generation, .int .i64 p0.created, .bool p0.deleting, .int .i64 p0.deleteAt, .sl (Label.rows p0.labels), .sl (Owner.rows p0.owners), .sl (Qj p0.finalizers), .sl (Manager.rows p0.managers)]⟩, ⟨13, 0, true, [.str p1.kind, .str p1.namespace_, .str p1.name, .int .i64 p1.uid, .int .i64 p1.version, .int .i64 p1.generation, .int .i64 p1.created, .bool p1.deleting, .int .i64 p1.deleteAt, .sl (Label.rows p1.labels), .sl (Owner.rows p1.owners), .sl (Qj p1.finalizers), .sl (Manager.rows p1.managers)]⟩]
def Q7h (p0 : Meta) (p1 : Meta) (i1 : Nat) : En := .loop 0 Ir.Qla Ir.Q1jh (Q113 p0 p1 i1) (Q10w p0 p1 i1)
def Qe9 (p0 : Meta) (p1 : Meta) (z : Nat → PV) (_zo : Nat → List PV) : St :=
  ⟨zr z 0 154, [(0, ⟨13, 0, true, [.str p0.kind, .str p0.namespace_, .str p0.name, .int .i64 p0.uid, .int .i64 p0.version, .int .i64 p0.generation, .int .i64 p0.created, .bool p0.deleting, .int .i64 p0.deleteAt, .sl (Label.rows p0.labels), .sl (Owner.rows p0.owners), .sl (Qj p0.finalizers), .sl (Manager.rows p0.managers)]⟩), (1, ⟨13, 0, true, [.str p1.kind, .str p1.namespace_, .str p1.name, .int .i64 p1.uid, .int .i64 p1.version, .int .i64 p1.generation, .int .i64 p1.created, .bool p1.deleting, .int .i64 p1.deleteAt, .sl (Label.rows p1.labels), .sl (Owner.rows p1.owners), .sl (Qj p1.finalizers), .sl (Manager.rows p1.managers)]⟩)], 322⟩
def Qam (_p0 : Meta) (_p1 : Meta) (z : Nat → PV) (zo : Nat → List PV) : St :=
  ⟨[z 0, z 1, z 2, z 3, .bool false] ++ zr z 5 149, [(0, ⟨13, 0, true, zo 0⟩), (1, ⟨13, 0, true, zo 1⟩)], 2242⟩
def Qa2 (p0 : Meta) (p1 : Meta) (e : En) : Q14b → Prop
  | .k0 => ∃ z zo, Q7 G e (.st (.exit 2) (Qe9 p0 p1 z zo))
  | .k1 => ∃ z zo, Q7 G e (.st .ret (Qam p0 p1 z zo))
theorem Quj (p0 : Meta) (p1 : Meta) {e e' : En} (h : ∀ r, Q7 G e r → Q7 G e' r) : ∀ q, Qa2 p0 p1 e q → Qa2 p0 p1 e' q
  | .k0, ⟨z, zo, hz⟩ => ⟨z, zo, h _ hz⟩
  | .k1, ⟨z, zo, hz⟩ => ⟨z, zo, h _ hz⟩
def Qa8 (p0 : Meta) (p1 : Meta) : Prop := (List.length p0.managers ≤ 4611686018427387904) ∧ (∀ (i1 : Nat) (x1 : Manager), p0.managers[i1]? = some x1 → i1 < List.length p1.managers) ∧ (∀ (i1 : Nat) (x1 : Manager), p0.managers[i1]? = some x1 → Q1km x1.fields (List.getD p1.managers i1 (Manager.mk eB [])).fields) ∧ True
def Qsi (p0 : Meta) (_p1 : Meta) (i1 : Nat) : List PV :=
  [.un, .un, .bx 0 0, .bx 1 0, .un, .un, .int .i64 (i1 : Int)] ++ nuns 111 ++ [.int .i64 (i1 : Int), .bx 0 12, .sl (Manager.rows p0.managers), .int .i64 ((List.length p0.managers) : Int), .bool false]
def Qnn (_p0 : Meta) (_p1 : Meta) (_i1 : Nat) : List (Nat × List PV) :=
  []
theorem Q1c0 (p0 : Meta) (p1 : Meta) (_H : Qa8 p0 p1) (i1 : Nat) (hc1 : (decide ((i1 : Int) < ((List.length p0.managers) : Int))) = false) : Qa2 p0 p1 (Q7h p0 p1 i1) (.k0) := by
 exact ⟨(envF (Qsi p0 p1 i1)), (zoF (Qnn p0 p1 i1)), Qg VOK.nil (x := ((.exit 2), Qe9 p0 p1 (envF (Qsi p0 p1 i1)) (zoF (Qnn p0 p1 i1)))) [hP 3 (Qh (Manager.rows p0.managers) (List.length p0.managers) (Manager.Q5 p0.managers)), hB 0 hc1] [] (by kernel_rfl)⟩
theorem Q1cv (p0 : Meta) (p1 : Meta) (H : Qa8 p0 p1) (x1 : Manager) (i1 : Nat) (hx1 : p0.managers[i1]? = some x1) (hi1 : i1 < List.length p0.managers) (hc1 : (decide ((i1 : Int) < ((List.length p0.managers) : Int))) = true) (h0 : (sEq x1.name (List.getD p1.managers i1 (Manager.mk eB [])).name) = true) (h1 : (Qat x1.fields (List.getD p1.managers i1 (Manager.mk eB [])).fields) = true) {r : Rs} (hr : Q7 G (Q7h p0 p1 (i1 + 1)) r) : Q7 G (Q7h p0 p1 i1) r := by
 have hB0 := H.1
 exact Qk VOK.nil (y := (Q113 p0 p1 (i1 + 1), Q10w p0 p1 (i1 + 1))) [hP 3 (Qh (Manager.rows p0.managers) (List.length p0.managers) (Manager.Q5 p0.managers)), hB 0 hc1, hP 3 (Q1j 2 (Manager.rows p0.managers) i1 _ (Manager.Qc hx1) rfl), hP 5 (Q1j 2 (Manager.rows p1.managers) i1 _ (Manager.Qc (Q2x p1.managers i1 (Manager.mk eB []) ((H.2.1 i1 x1 hx1)))) rfl), hP 2 (dec (!(sEq x1.name (List.getD p1.managers i1 (Manager.mk eB [])).name)) false (by rw [h0]; rfl)), hP 4 (Q1j 2 (Manager.rows p0.managers) i1 _ (Manager.Qc hx1) rfl), hP 5 (Q1j 2 (Manager.rows p1.managers) i1 _ (Manager.Qc (Q2x p1.managers i1 (Manager.mk eB []) ((H.2.1 i1 x1 hx1)))) rfl), hP 6 (Q22 i1 (by omega))] [aB (Q11d x1.fields (List.getD p1.managers i1 (Manager.mk eB [])).fields (H.2.2.1 i1 x1 hx1)) h1] (by kernel_rfl) hr
def Qto (p0 : Meta) (p1 : Meta) (i1 : Nat) (x1 : Manager) : List PV :=
  [.un, .un, .bx 0 0, .bx 1 0, .un, .un, .int .i64 (i1 : Int)] ++ nuns 111 ++ [.int .i64 (i1 : Int), .bx 0 12, .sl (Manager.rows p0.managers), .int .i64 ((List.length p0.managers) : Int), .bool true, .un, .un, .bx 0 12, .sl (Manager.rows p0.managers), .int .i64 (i1 : Int), .rf [.str x1.name, .sl (Qj x1.fields)], .rf [.str x1.name, .sl (Qj x1.fields)], .str x1.name, .bx 1 12, .sl (Manager.rows p1.managers), .int .i64 (i1 : Int), .rf [.str (List.getD p1.managers i1 (Manager.mk eB [])).name, .sl (Qj (List.getD p1.managers i1 (Manager.mk eB [])).fields)], .rf [.str (List.getD p1.managers i1 (Manager.mk eB [])).name, .sl (Qj (List.getD p1.managers i1 (Manager.mk eB [])).fields)], .str (List.getD p1.managers i1 (Manager.mk eB [])).name, .bool false, .bool false, .bx 0 12, .sl (Manager.rows p0.managers), .int .i64 (i1 : Int), .rf [.str x1.name, .sl (Qj x1.fields)], .rf [.sl (Qj x1.fields)], .sl (Qj x1.fields), .bx 1 12, .sl (Manager.rows p1.managers), .int .i64 (i1 : Int), .rf [.str (List.getD p1.managers i1 (Manager.mk eB [])).name, .sl (Qj (List.getD p1.managers i1 (Manager.mk eB [])).fields)], .rf [.sl (Qj (List.getD p1.managers i1 (Manager.mk eB [])).fields)], .sl (Qj (List.getD p1.managers i1 (Manager.mk eB [])).fields), .bool false, .bool true, .bool true]
def Qmi (p0 : Meta) (p1 : Meta) (_i1 : Nat) (_x1 : Manager) : List (Nat × List PV) :=
  [(0, [.str p0.kind, .str p0.namespace_, .str p0.name, .int .i64 p0.uid, .int .i64 p0.version, .int .i64 p0.generation, .int .i64 p0.created, .bool p0.deleting, .int .i64 p0.deleteAt, .sl (Label.rows p0.labels), .sl (Owner.rows p0.owners), .sl (Qj p0.finalizers), .sl (Manager.rows p0.managers)]), (1, [.str p1.kind, .str p1.namespace_, .str p1.name, .int .i64 p1.uid, .int .i64 p1.version, .int .i64 p1.generation, .int .i64 p1.created, .bool p1.deleting, .int .i64 p1.deleteAt, .sl (Label.rows p1.labels), .sl (Owner.rows p1.owners), .sl (Qj p1.finalizers), .sl (Manager.rows p1.managers)])]
theorem Q187 (p0 : Meta) (p1 : Meta) (H : Qa8 p0 p1) (x1 : Manager) (i1 : Nat) (hx1 : p0.managers[i1]? = some x1) (_hi1 : i1 < List.length p0.managers) (hc1 : (decide ((i1 : Int) < ((List.length p0.managers) : Int))) = true) (h0 : (sEq x1.name (List.getD p1.managers i1 (Manager.mk eB [])).name) = true) (h1 : (Qat x1.fields (List.getD p1.managers i1 (Manager.mk eB [])).fields) = false) : Qa2 p0 p1 (Q7h p0 p1 i1) (.k1) := by
 exact ⟨(envF (Qto p0 p1 i1 x1)), (zoF (Qmi p0 p1 i1 x1)), Qg VOK.nil (x := (.ret, Qam p0 p1 (envF (Qto p0 p1 i1 x1)) (zoF (Qmi p0 p1 i1 x1)))) [hP 3 (Qh (Manager.rows p0.managers) (List.length p0.managers) (Manager.Q5 p0.managers)), hB 0 hc1, hP 3 (Q1j 2 (Manager.rows p0.managers) i1 _ (Manager.Qc hx1) rfl), hP 5 (Q1j 2 (Manager.rows p1.managers) i1 _ (Manager.Qc (Q2x p1.managers i1 (Manager.mk eB []) ((H.2.1 i1 x1 hx1)))) rfl), hP 2 (dec (!(sEq x1.name (List.getD p1.managers i1 (Manager.mk eB [])).name)) false (by rw [h0]; rfl)), hP 4 (Q1j 2 (Manager.rows p0.managers) i1 _ (Manager.Qc hx1) rfl), hP 5 (Q1j 2 (Manager.rows p1.managers) i1 _ (Manager.Qc (Q2x p1.managers i1 (Manager.mk eB []) ((H.2.1 i1 x1 hx1)))) rfl)] [aB (Q11d x1.fields (List.getD p1.managers i1 (Manager.mk eB [])).fields (H.2.2.1 i1 x1 hx1)) h1] (by kernel_rfl)⟩
def Qps (p0 : Meta) (p1 : Meta) (i1 : Nat) (x1 : Manager) : List PV :=
  [.un, .un, .bx 0 0, .bx 1 0, .un, .un, .int .i64 (i1 : Int)] ++ nuns 111 ++ [.int .i64 (i1 : Int), .bx 0 12, .sl (Manager.rows p0.managers), .int .i64 ((List.length p0.managers) : Int), .bool true, .un, .un, .bx 0 12, .sl (Manager.rows p0.managers), .int .i64 (i1 : Int), .rf [.str x1.name, .sl (Qj x1.fields)], .rf [.str x1.name, .sl (Qj x1.fields)], .str x1.name, .bx 1 12, .sl (Manager.rows p1.managers), .int .i64 (i1 : Int), .rf [.str (List.getD p1.managers i1 (Manager.mk eB [])).name, .sl (Qj (List.getD p1.managers i1 (Manager.mk eB [])).fields)], .rf [.str (List.getD p1.managers i1 (Manager.mk eB [])).name, .sl (Qj (List.getD p1.managers i1 (Manager.mk eB [])).fields)], .str (List.getD p1.managers i1 (Manager.mk eB [])).name, .bool true, .bool true, .tup [], .tup [], .tup [], .tup [], .tup [], .tup [], .tup [], .tup [], .tup [], .tup [], .tup [], .tup [], .tup [], .tup [], .bool true]
def Qmk (p0 : Meta) (p1 : Meta) (_i1 : Nat) (_x1 : Manager) : List (Nat × List PV) :=
  [(0, [.str p0.kind, .str p0.namespace_, .str p0.name, .int .i64 p0.uid, .int .i64 p0.version, .int .i64 p0.generation, .int .i64 p0.created, .bool p0.deleting, .int .i64 p0.deleteAt, .sl (Label.rows p0.labels), .sl (Owner.rows p0.owners), .sl (Qj p0.finalizers), .sl (Manager.rows p0.managers)]), (1, [.str p1.kind, .str p1.namespace_, .str p1.name, .int .i64 p1.uid, .int .i64 p1.version, .int .i64 p1.generation, .int .i64 p1.created, .bool p1.deleting, .int .i64 p1.deleteAt, .sl (Label.rows p1.labels), .sl (Owner.rows p1.owners), .sl (Qj p1.finalizers), .sl (Manager.rows p1.managers)])]
theorem Q1cq (p0 : Meta) (p1 : Meta) (H : Qa8 p0 p1) (x1 : Manager) (i1 : Nat) (hx1 : p0.managers[i1]? = some x1) (_hi1 : i1 < List.length p0.managers) (hc1 : (decide ((i1 : Int) < ((List.length p0.managers) : Int))) = true) (h0 : (sEq x1.name (List.getD p1.managers i1 (Manager.mk eB [])).name) = false) : Qa2 p0 p1 (Q7h p0 p1 i1) (.k1) := by
 exact ⟨(envF (Qps p0 p1 i1 x1)), (zoF (Qmk p0 p1 i1 x1)), Qg VOK.nil (x := (.ret, Qam p0 p1 (envF (Qps p0 p1 i1 x1)) (zoF (Qmk p0 p1 i1 x1)))) [hP 3 (Qh (Manager.rows p0.managers) (List.length p0.managers) (Manager.Q5 p0.managers)), hB 0 hc1, hP 3 (Q1j 2 (Manager.rows p0.managers) i1 _ (Manager.Qc hx1) rfl), hP 5 (Q1j 2 (Manager.rows p1.managers) i1 _ (Manager.Qc (Q2x p1.managers i1 (Manager.mk eB []) ((H.2.1 i1 x1 hx1)))) rfl), hP 2 (dec (!(sEq x1.name (List.getD p1.managers i1 (Manager.mk eB [])).name)) true (by rw [h0]; rfl))] [] (by kernel_rfl)⟩
theorem Q10j (p0 : Meta) (p1 : Meta) (H : Qa8 p0 p1) : ∀ (r1 : List Manager) (i1 : Nat), List.drop i1 p0.managers = r1 → Qa2 p0 p1 (Q7h p0 p1 i1) (Q6l p0 p1 r1 i1)
 | [], i1, hd => by
  have hc1 : (decide ((i1 : Int) < ((List.length p0.managers) : Int))) = false := by have := Q19 hd; simp; omega
  rw [Q6l]
  exact Q1c0 p0 p1 H i1 hc1
 | x1 :: r1, i1, hd => by
  obtain ⟨hx1, hi1, hd'⟩ := Q11 hd
  have hc1 : (decide ((i1 : Int) < ((List.length p0.managers) : Int))) = true := by simp; omega
  rw [Q6l]
  cases h0 : (sEq x1.name (List.getD p1.managers i1 (Manager.mk eB [])).name) with
  | true =>
   cases h1 : (Qat x1.fields (List.getD p1.managers i1 (Manager.mk eB [])).fields) with
   | true =>
    exact Quj p0 p1 (fun r hr => Q1cv p0 p1 H x1 i1 hx1 hi1 hc1 h0 h1 hr) _ (Q10j p0 p1 H r1 (i1 + 1) hd')
   | false =>
    exact Q187 p0 p1 H x1 i1 hx1 hi1 hc1 h0 h1
  | false =>
   exact Q1cq p0 p1 H x1 i1 hx1 hi1 hc1 h0
def Q1bo (p0 : Meta) (p1 : Meta) : Bool :=
 bif (sEq p0.kind p1.kind) then
  bif (sEq p0.namespace_ p1.namespace_) then
   bif (sEq p0.name p1.name) then
    bif (p0.uid == p1.uid) then
     bif (p0.version == p1.version) then
      bif (p0.generation == p1.generation) then
       bif (p0.created == p1.created) then
        bif (p0.deleting == p1.deleting) then
         bif (p0.deleteAt == p1.deleteAt) then
          bif (Qec p0.labels p1.labels) then
           bif (Qat p0.finalizers p1.finalizers) then
            bif (((List.length p0.owners) : Int) == ((List.length p1.owners) : Int)) then
             bif (((List.length p0.managers) : Int) == ((List.length p1.managers) : Int)) then
              (match (Q6k p0 p1 p0.owners 0) with
              | .k0 => (match (Q6l p0 p1 p0.managers 0) with
               | .k0 => true
               | .k1 => false)
              | .k1 => false)
             else
              false
            else
             false
           else
            false
          else
           false
         else
          false
        else
         false
       else
        false
      else
       false
     else
      false
    else
     false
   else
    false
  else
   false
 else
  false
def Q9t (p0 : Meta) (p1 : Meta) : En := .call 58 [.agg (Meta.cells p0), .agg (Meta.cells p1)] []
def Q1no (p0 : Meta) (p1 : Meta) : Rs := .ret (.bool (Q1bo p0 p1)) []
def Q78 (p0 : Meta) (p1 : Meta) : Prop := (Q1nd p0.labels p1.labels) ∧ (Q1km p0.finalizers p1.finalizers) ∧ ((((List.length p0.owners) : Int) == ((List.length p1.owners) : Int)) = true → (((List.length p0.managers) : Int) == ((List.length p1.managers) : Int)) = true → Qcn p0 p1) ∧ ((((List.length p0.owners) : Int) == ((List.length p1.owners) : Int)) = true → (((List.length p0.managers) : Int) == ((List.length p1.managers) : Int)) = true → Qa8 p0 p1) ∧ True
theorem Q1lq (p0 : Meta) (p1 : Meta) (H : Q78 p0 p1) (h0 : (sEq p0.kind p1.kind) = true) (h1 : (sEq p0.namespace_ p1.namespace_) = true) (h2 : (sEq p0.name p1.name) = true) (h3 : (p0.uid == p1.uid) = true) (h4 : (p0.version == p1.version) = true) (h5 : (p0.generation == p1.generation) = true) (h6 : (p0.created == p1.created) = true) (h7 : (p0.deleting == p1.deleting) = true) (h8 : (p0.deleteAt == p1.deleteAt) = true) (h9 : (Qec p0.labels p1.labels) = true) (h10 : (Qat p0.finalizers p1.finalizers) = true) (h11 : (((List.length p0.owners) : Int) == ((List.length p1.owners) : Int)) = true) (h12 : (((List.length p0.managers) : Int) == ((List.length p1.managers) : Int)) = true) (z13 : Nat → PV) (zo13 : Nat → List PV) (hl13 : Q7 G (Q7c p0 p1 0) (.st (.exit 0) (Qae p0 p1 z13 zo13))) (z14 : Nat → PV) (zo14 : Nat → List PV) (hl14 : Q7 G (Q7h p0 p1 0) (.st (.exit 2) (Qe9 p0 p1 z14 zo14))) : Q7 G (Q9t p0 p1) (.ret (.bool (true)) []) := by
 exact Q8 (fn := Ir.K2j) rfl VOK.nil [hP 7 (dec (!(sEq p0.kind p1.kind)) false (by rw [h0]; rfl)), hP 5 (dec (!(sEq p0.namespace_ p1.namespace_)) false (by rw [h1]; rfl)), hP 6 (dec (!(sEq p0.name p1.name)) false (by rw [h2]; rfl)), hP 6 (dec (!(p0.uid == p1.uid)) false (by rw [h3]; rfl)), hP 6 (dec (!(p0.version == p1.version)) false (by rw [h4]; rfl)), hP 6 (dec (!(p0.generation == p1.generation)) false (by rw [h5]; rfl)), hP 6 (dec (!(p0.created == p1.created)) false (by rw [h6]; rfl)), hP 6 (dec (!(p0.deleting == p1.deleting)) false (by rw [h7]; rfl)), hP 6 (dec (!(p0.deleteAt == p1.deleteAt)) false (by rw [h8]; rfl)), hP 18 (Qh (Owner.rows p0.owners) (List.length p0.owners) (Owner.Q5 p0.owners)), hP 2 (Qh (Owner.rows p1.owners) (List.length p1.owners) (Owner.Q5 p1.owners)), hP 0 (dec (!(((List.length p0.owners) : Int) == ((List.length p1.owners) : Int))) false (by rw [h11]; rfl)), hP 4 (Qh (Manager.rows p0.managers) (List.length p0.managers) (Manager.Q5 p0.managers)), hP 2 (Qh (Manager.rows p1.managers) (List.length p1.managers) (Manager.Q5 p1.managers)), hP 0 (dec (!(((List.length p0.managers) : Int) == ((List.length p1.managers) : Int))) false (by rw [h12]; rfl))] [aB (Q133 p0.labels p1.labels H.1) h9, aB (Q11d p0.finalizers p1.finalizers H.2.1) h10, aN hl13, aN hl14] (by kernel_rfl)
theorem Q1kk (p0 : Meta) (p1 : Meta) (H : Q78 p0 p1) (h0 : (sEq p0.kind p1.kind) = true) (h1 : (sEq p0.namespace_ p1.namespace_) = true) (h2 : (sEq p0.name p1.name) = true) (h3 : (p0.uid == p1.uid) = true) (h4 : (p0.version == p1.version) = true) (h5 : (p0.generation == p1.generation) = true) (h6 : (p0.created == p1.created) = true) (h7 : (p0.deleting == p1.deleting) = true) (h8 : (p0.deleteAt == p1.deleteAt) = true) (h9 : (Qec p0.labels p1.labels) = true) (h10 : (Qat p0.finalizers p1.finalizers) = true) (h11 : (((List.length p0.owners) : Int) == ((List.length p1.owners) : Int)) = true) (h12 : (((List.length p0.managers) : Int) == ((List.length p1.managers) : Int)) = true) (z13 : Nat → PV) (zo13 : Nat → List PV) (hl13 : Q7 G (Q7c p0 p1 0) (.st (.exit 0) (Qae p0 p1 z13 zo13))) (z14 : Nat → PV) (zo14 : Nat → List PV) (hl14 : Q7 G (Q7h p0 p1 0) (.st .ret (Qam p0 p1 z14 zo14))) : Q7 G (Q9t p0 p1) (.ret (.bool (false)) []) := by
 exact Q8 (fn := Ir.K2j) rfl VOK.nil [hP 7 (dec (!(sEq p0.kind p1.kind)) false (by rw [h0]; rfl)), hP 5 (dec (!(sEq p0.namespace_ p1.namespace_)) false (by rw [h1]; rfl)), hP 6 (dec (!(sEq p0.name p1.name)) false (by rw [h2]; rfl)), hP 6 (dec (!(p0.uid == p1.uid)) false (by rw [h3]; rfl)), hP 6 (dec (!(p0.version == p1.version)) false (by rw [h4]; rfl)), hP 6 (dec (!(p0.generation == p1.generation)) false (by rw [h5]; rfl)), hP 6 (dec (!(p0.created == p1.created)) false (by rw [h6]; rfl)), hP 6 (dec (!(p0.deleting == p1.deleting)) false (by rw [h7]; rfl)), hP 6 (dec (!(p0.deleteAt == p1.deleteAt)) false (by rw [h8]; rfl)), hP 18 (Qh (Owner.rows p0.owners) (List.length p0.owners) (Owner.Q5 p0.owners)), hP 2 (Qh (Owner.rows p1.owners) (List.length p1.owners) (Owner.Q5 p1.owners)), hP 0 (dec (!(((List.length p0.owners) : Int) == ((List.length p1.owners) : Int))) false (by rw [h11]; rfl)), hP 4 (Qh (Manager.rows p0.managers) (List.length p0.managers) (Manager.Q5 p0.managers)), hP 2 (Qh (Manager.rows p1.managers) (List.length p1.managers) (Manager.Q5 p1.managers)), hP 0 (dec (!(((List.length p0.managers) : Int) == ((List.length p1.managers) : Int))) false (by rw [h12]; rfl))] [aB (Q133 p0.labels p1.labels H.1) h9, aB (Q11d p0.finalizers p1.finalizers H.2.1) h10, aN hl13, aN hl14] (by kernel_rfl)
theorem Q1mn (p0 : Meta) (p1 : Meta) (H : Q78 p0 p1) (h0 : (sEq p0.kind p1.kind) = true) (h1 : (sEq p0.namespace_ p1.namespace_) = true) (h2 : (sEq p0.name p1.name) = true) (h3 : (p0.uid == p1.uid) = true) (h4 : (p0.version == p1.version) = true) (h5 : (p0.generation == p1.generation) = true) (h6 : (p0.created == p1.created) = true) (h7 : (p0.deleting == p1.deleting) = true) (h8 : (p0.deleteAt == p1.deleteAt) = true) (h9 : (Qec p0.labels p1.labels) = true) (h10 : (Qat p0.finalizers p1.finalizers) = true) (h11 : (((List.length p0.owners) : Int) == ((List.length p1.owners) : Int)) = true) (h12 : (((List.length p0.managers) : Int) == ((List.length p1.managers) : Int)) = true) (z13 : Nat → PV) (zo13 : Nat → List PV) (hl13 : Q7 G (Q7c p0 p1 0) (.st .ret (Qdz p0 p1 z13 zo13))) : Q7 G (Q9t p0 p1) (.ret (.bool (false)) []) := by
 exact Q8 (fn := Ir.K2j) rfl VOK.nil [hP 7 (dec (!(sEq p0.kind p1.kind)) false (by rw [h0]; rfl)), hP 5 (dec (!(sEq p0.namespace_ p1.namespace_)) false (by rw [h1]; rfl)), hP 6 (dec (!(sEq p0.name p1.name)) false (by rw [h2]; rfl)), hP 6 (dec (!(p0.uid == p1.uid)) false (by rw [h3]; rfl)), hP 6 (dec (!(p0.version == p1.version)) false (by rw [h4]; rfl)), hP 6 (dec (!(p0.generation == p1.generation)) false (by rw [h5]; rfl)), hP 6 (dec (!(p0.created == p1.created)) false (by rw [h6]; rfl)), hP 6 (dec (!(p0.deleting == p1.deleting)) false (by rw [h7]; rfl)), hP 6 (dec (!(p0.deleteAt == p1.deleteAt)) false (by rw [h8]; rfl)), hP 18 (Qh (Owner.rows p0.owners) (List.length p0.owners) (Owner.Q5 p0.owners)), hP 2 (Qh (Owner.rows p1.owners) (List.length p1.owners) (Owner.Q5 p1.owners)), hP 0 (dec (!(((List.length p0.owners) : Int) == ((List.length p1.owners) : Int))) false (by rw [h11]; rfl)), hP 4 (Qh (Manager.rows p0.managers) (List.length p0.managers) (Manager.Q5 p0.managers)), hP 2 (Qh (Manager.rows p1.managers) (List.length p1.managers) (Manager.Q5 p1.managers)), hP 0 (dec (!(((List.length p0.managers) : Int) == ((List.length p1.managers) : Int))) false (by rw [h12]; rfl))] [aB (Q133 p0.labels p1.labels H.1) h9, aB (Q11d p0.finalizers p1.finalizers H.2.1) h10, aN hl13] (by kernel_rfl)
theorem Q1lk (p0 : Meta) (p1 : Meta) (H : Q78 p0 p1) (h0 : (sEq p0.kind p1.kind) = true) (h1 : (sEq p0.namespace_ p1.namespace_) = true) (h2 : (sEq p0.name p1.name) = true) (h3 : (p0.uid == p1.uid) = true) (h4 : (p0.version == p1.version) = true) (h5 : (p0.generation == p1.generation) = true) (h6 : (p0.created == p1.created) = true) (h7 : (p0.deleting == p1.deleting) = true) (h8 : (p0.deleteAt == p1.deleteAt) = true) (h9 : (Qec p0.labels p1.labels) = true) (h10 : (Qat p0.finalizers p1.finalizers) = true) (h11 : (((List.length p0.owners) : Int) == ((List.length p1.owners) : Int)) = true) (h12 : (((List.length p0.managers) : Int) == ((List.length p1.managers) : Int)) = false) : Q7 G (Q9t p0 p1) (.ret (.bool (false)) []) := by
 exact Q8 (fn := Ir.K2j) rfl VOK.nil [hP 7 (dec (!(sEq p0.kind p1.kind)) false (by rw [h0]; rfl)), hP 5 (dec (!(sEq p0.namespace_ p1.namespace_)) false (by rw [h1]; rfl)), hP 6 (dec (!(sEq p0.name p1.name)) false (by rw [h2]; rfl)), hP 6 (dec (!(p0.uid == p1.uid)) false (by rw [h3]; rfl)), hP 6 (dec (!(p0.version == p1.version)) false (by rw [h4]; rfl)), hP 6 (dec (!(p0.generation == p1.generation)) false (by rw [h5]; rfl)), hP 6 (dec (!(p0.created == p1.created)) false (by rw [h6]; rfl)), hP 6 (dec (!(p0.deleting == p1.deleting)) false (by rw [h7]; rfl)), hP 6 (dec (!(p0.deleteAt == p1.deleteAt)) false (by rw [h8]; rfl)), hP 18 (Qh (Owner.rows p0.owners) (List.length p0.owners) (Owner.Q5 p0.owners)), hP 2 (Qh (Owner.rows p1.owners) (List.length p1.owners) (Owner.Q5 p1.owners)), hP 0 (dec (!(((List.length p0.owners) : Int) == ((List.length p1.owners) : Int))) false (by rw [h11]; rfl)), hP 4 (Qh (Manager.rows p0.managers) (List.length p0.managers) (Manager.Q5 p0.managers)), hP 2 (Qh (Manager.rows p1.managers) (List.length p1.managers) (Manager.Q5 p1.managers)), hP 0 (dec (!(((List.length p0.managers) : Int) == ((List.length p1.managers) : Int))) true (by rw [h12]; rfl))] [aB (Q133 p0.labels p1.labels H.1) h9, aB (Q11d p0.finalizers p1.finalizers H.2.1) h10] (by kernel_rfl)
theorem Q1ln (p0 : Meta) (p1 : Meta) (H : Q78 p0 p1) (h0 : (sEq p0.kind p1.kind) = true) (h1 : (sEq p0.namespace_ p1.namespace_) = true) (h2 : (sEq p0.name p1.name) = true) (h3 : (p0.uid == p1.uid) = true) (h4 : (p0.version == p1.version) = true) (h5 : (p0.generation == p1.generation) = true) (h6 : (p0.created == p1.created) = true) (h7 : (p0.deleting == p1.deleting) = true) (h8 : (p0.deleteAt == p1.deleteAt) = true) (h9 : (Qec p0.labels p1.labels) = true) (h10 : (Qat p0.finalizers p1.finalizers) = true) (h11 : (((List.length p0.owners) : Int) == ((List.length p1.owners) : Int)) = false) : Q7 G (Q9t p0 p1) (.ret (.bool (false)) []) := by
 exact Q8 (fn := Ir.K2j) rfl VOK.nil [hP 7 (dec (!(sEq p0.kind p1.kind)) false (by rw [h0]; rfl)), hP 5 (dec (!(sEq p0.namespace_ p1.namespace_)) false (by rw [h1]; rfl)), hP 6 (dec (!(sEq p0.name p1.name)) false (by rw [h2]; rfl)), hP 6 (dec (!(p0.uid == p1.uid)) false (by rw [h3]; rfl)), hP 6 (dec (!(p0.version == p1.version)) false (by rw [h4]; rfl)), hP 6 (dec (!(p0.generation == p1.generation)) false (by rw [h5]; rfl)), hP 6 (dec (!(p0.created == p1.created)) false (by rw [h6]; rfl)), hP 6 (dec (!(p0.deleting == p1.deleting)) false (by rw [h7]; rfl)), hP 6 (dec (!(p0.deleteAt == p1.deleteAt)) false (by rw [h8]; rfl)), hP 18 (Qh (Owner.rows p0.owners) (List.length p0.owners) (Owner.Q5 p0.owners)), hP 2 (Qh (Owner.rows p1.owners) (List.length p1.owners) (Owner.Q5 p1.owners)), hP 0 (dec (!(((List.length p0.owners) : Int) == ((List.length p1.owners) : Int))) true (by rw [h11]; rfl))] [aB (Q133 p0.labels p1.labels H.1) h9, aB (Q11d p0.finalizers p1.finalizers H.2.1) h10] (by kernel_rfl)
theorem Q1n5 (p0 : Meta) (p1 : Meta) (H : Q78 p0 p1) (h0 : (sEq p0.kind p1.kind) = true) (h1 : (sEq p0.namespace_ p1.namespace_) = true) (h2 : (sEq p0.name p1.name) = true) (h3 : (p0.uid == p1.uid) = true) (h4 : (p0.version == p1.version) = true) (h5 : (p0.generation == p1.generation) = true) (h6 : (p0.created == p1.created) = true) (h7 : (p0.deleting == p1.deleting) = true) (h8 : (p0.deleteAt == p1.deleteAt) = true) (h9 : (Qec p0.labels p1.labels) = true) (h10 : (Qat p0.finalizers p1.finalizers) = false) : Q7 G (Q9t p0 p1) (.ret (.bool (false)) []) := by
 exact Q8 (fn := Ir.K2j) rfl VOK.nil [hP 7 (dec (!(sEq p0.kind p1.kind)) false (by rw [h0]; rfl)), hP 5 (dec (!(sEq p0.namespace_ p1.namespace_)) false (by rw [h1]; rfl)), hP 6 (dec (!(sEq p0.name p1.name)) false (by rw [h2]; rfl)), hP 6 (dec (!(p0.uid == p1.uid)) false (by rw [h3]; rfl)), hP 6 (dec (!(p0.version == p1.version)) false (by rw [h4]; rfl)), hP 6 (dec (!(p0.generation == p1.generation)) false (by rw [h5]; rfl)), hP 6 (dec (!(p0.created == p1.created)) false (by rw [h6]; rfl)), hP 6 (dec (!(p0.deleting == p1.deleting)) false (by rw [h7]; rfl)), hP 6 (dec (!(p0.deleteAt == p1.deleteAt)) false (by rw [h8]; rfl))] [aB (Q133 p0.labels p1.labels H.1) h9, aB (Q11d p0.finalizers p1.finalizers H.2.1) h10] (by kernel_rfl)
theorem Q1ki (p0 : Meta) (p1 : Meta) (H : Q78 p0 p1) (h0 : (sEq p0.kind p1.kind) = true) (h1 : (sEq p0.namespace_ p1.namespace_) = true) (h2 : (sEq p0.name p1.name) = true) (h3 : (p0.uid == p1.uid) = true) (h4 : (p0.version == p1.version) = true) (h5 : (p0.generation == p1.generation) = true) (h6 : (p0.created == p1.created) = true) (h7 : (p0.deleting == p1.deleting) = true) (h8 : (p0.deleteAt == p1.deleteAt) = true) (h9 : (Qec p0.labels p1.labels) = false) : Q7 G (Q9t p0 p1) (.ret (.bool (false)) []) := by
 exact Q8 (fn := Ir.K2j) rfl VOK.nil [hP 7 (dec (!(sEq p0.kind p1.kind)) false (by rw [h0]; rfl)), hP 5 (dec (!(sEq p0.namespace_ p1.namespace_)) false (by rw [h1]; rfl)), hP 6 (dec (!(sEq p0.name p1.name)) false (by rw [h2]; rfl)), hP 6 (dec (!(p0.uid == p1.uid)) false (by rw [h3]; rfl)), hP 6 (dec (!(p0.version == p1.version)) false (by rw [h4]; rfl)), hP 6 (dec (!(p0.generation == p1.generation)) false (by rw [h5]; rfl)), hP 6 (dec (!(p0.created == p1.created)) false (by rw [h6]; rfl)), hP 6 (dec (!(p0.deleting == p1.deleting)) false (by rw [h7]; rfl)), hP 6 (dec (!(p0.deleteAt == p1.deleteAt)) false (by rw [h8]; rfl))] [aB (Q133 p0.labels p1.labels H.1) h9] (by kernel_rfl)
theorem Q1lu (p0 : Meta) (p1 : Meta) (_H : Q78 p0 p1) (h0 : (sEq p0.kind p1.kind) = true) (h1 : (sEq p0.namespace_ p1.namespace_) = true) (h2 : (sEq p0.name p1.name) = true) (h3 : (p0.uid == p1.uid) = true) (h4 : (p0.version == p1.version) = true) (h5 : (p0.generation == p1.generation) = true) (h6 : (p0.created == p1.created) = true) (h7 : (p0.deleting == p1.deleting) = true) (h8 : (p0.deleteAt == p1.deleteAt) = false) : Q7 G (Q9t p0 p1) (.ret (.bool (false)) []) := by
 exact Q8 (fn := Ir.K2j) rfl VOK.nil [hP 7 (dec (!(sEq p0.kind p1.kind)) false (by rw [h0]; rfl)), hP 5 (dec (!(sEq p0.namespace_ p1.namespace_)) false (by rw [h1]; rfl)), hP 6 (dec (!(sEq p0.name p1.name)) false (by rw [h2]; rfl)), hP 6 (dec (!(p0.uid == p1.uid)) false (by rw [h3]; rfl)), hP 6 (dec (!(p0.version == p1.version)) false (by rw [h4]; rfl)), hP 6 (dec (!(p0.generation == p1.generation)) false (by rw [h5]; rfl)), hP 6 (dec (!(p0.created == p1.created)) false (by rw [h6]; rfl)), hP 6 (dec (!(p0.deleting == p1.deleting)) false (by rw [h7]; rfl)), hP 6 (dec (!(p0.deleteAt == p1.deleteAt)) true (by rw [h8]; rfl))] [] (by kernel_rfl)
theorem Q1kt (p0 : Meta) (p1 : Meta) (_H : Q78 p0 p1) (h0 : (sEq p0.kind p1.kind) = true) (h1 : (sEq p0.namespace_ p1.namespace_) = true) (h2 : (sEq p0.name p1.name) = true) (h3 : (p0.uid == p1.uid) = true) (h4 : (p0.version == p1.version) = true) (h5 : (p0.generation == p1.generation) = true) (h6 : (p0.created == p1.created) = true) (h7 : (p0.deleting == p1.deleting) = false) : Q7 G (Q9t p0 p1) (.ret (.bool (false)) []) := by
 exact Q8 (fn := Ir.K2j) rfl VOK.nil [hP 7 (dec (!(sEq p0.kind p1.kind)) false (by rw [h0]; rfl)), hP 5 (dec (!(sEq p0.namespace_ p1.namespace_)) false (by rw [h1]; rfl)), hP 6 (dec (!(sEq p0.name p1.name)) false (by rw [h2]; rfl)), hP 6 (dec (!(p0.uid == p1.uid)) false (by rw [h3]; rfl)), hP 6 (dec (!(p0.version == p1.version)) false (by rw [h4]; rfl)), hP 6 (dec (!(p0.generation == p1.generation)) false (by rw [h5]; rfl)), hP 6 (dec (!(p0.created == p1.created)) false (by rw [h6]; rfl)), hP 6 (dec (!(p0.deleting == p1.deleting)) true (by rw [h7]; rfl))] [] (by kernel_rfl)
theorem Q1mg (p0 : Meta) (p1 : Meta) (_H : Q78 p0 p1) (h0 : (sEq p0.kind p1.kind) = true) (h1 : (sEq p0.namespace_ p1.namespace_) = true) (h2 : (sEq p0.name p1.name) = true) (h3 : (p0.uid == p1.uid) = true) (h4 : (p0.version == p1.version) = true) (h5 : (p0.generation == p1.generation) = true) (h6 : (p0.created == p1.created) = false) : Q7 G (Q9t p0 p1) (.ret (.bool (false)) []) := by
 exact Q8 (fn := Ir.K2j) rfl VOK.nil [hP 7 (dec (!(sEq p0.kind p1.kind)) false (by rw [h0]; rfl)), hP 5 (dec (!(sEq p0.namespace_ p1.namespace_)) false (by rw [h1]; rfl)), hP 6 (dec (!(sEq p0.name p1.name)) false (by rw [h2]; rfl)), hP 6 (dec (!(p0.uid == p1.uid)) false (by rw [h3]; rfl)), hP 6 (dec (!(p0.version == p1.version)) false (by rw [h4]; rfl)), hP 6 (dec (!(p0.generation == p1.generation)) false (by rw [h5]; rfl)), hP 6 (dec (!(p0.created == p1.created)) true (by rw [h6]; rfl))] [] (by kernel_rfl)
theorem Q1hw (p0 : Meta) (p1 : Meta) (_H : Q78 p0 p1) (h0 : (sEq p0.kind p1.kind) = true) (h1 : (sEq p0.namespace_ p1.namespace_) = true) (h2 : (sEq p0.name p1.name) = true) (h3 : (p0.uid == p1.uid) = true) (h4 : (p0.version == p1.version) = true) (h5 : (p0.generation == p1.generation) = false) : Q7 G (Q9t p0 p1) (.ret (.bool (false)) []) := by
 exact Q8 (fn := Ir.K2j) rfl VOK.nil [hP 7 (dec (!(sEq p0.kind p1.kind)) false (by rw [h0]; rfl)), hP 5 (dec (!(sEq p0.namespace_ p1.namespace_)) false (by rw [h1]; rfl)), hP 6 (dec (!(sEq p0.name p1.name)) false (by rw [h2]; rfl)), hP 6 (dec (!(p0.uid == p1.uid)) false (by rw [h3]; rfl)), hP 6 (dec (!(p0.version == p1.version)) false (by rw [h4]; rfl)), hP 6 (dec (!(p0.generation == p1.generation)) true (by rw [h5]; rfl))] [] (by kernel_rfl)
theorem Q1hm (p0 : Meta) (p1 : Meta) (_H : Q78 p0 p1) (h0 : (sEq p0.kind p1.kind) = true) (h1 : (sEq p0.namespace_ p1.namespace_) = true) (h2 : (sEq p0.name p1.name) = true) (h3 : (p0.uid == p1.uid) = true) (h4 : (p0.version == p1.version) = false) : Q7 G (Q9t p0 p1) (.ret (.bool (false)) []) := by
 exact Q8 (fn := Ir.K2j) rfl VOK.nil [hP 7 (dec (!(sEq p0.kind p1.kind)) false (by rw [h0]; rfl)), hP 5 (dec (!(sEq p0.namespace_ p1.namespace_)) false (by rw [h1]; rfl)), hP 6 (dec (!(sEq p0.name p1.name)) false (by rw [h2]; rfl)), hP 6 (dec (!(p0.uid == p1.uid)) false (by rw [h3]; rfl)), hP 6 (dec (!(p0.version == p1.version)) true (by rw [h4]; rfl))] [] (by kernel_rfl)
theorem Q1h2 (p0 : Meta) (p1 : Meta) (_H : Q78 p0 p1) (h0 : (sEq p0.kind p1.kind) = true) (h1 : (sEq p0.namespace_ p1.namespace_) = true) (h2 : (sEq p0.name p1.name) = true) (h3 : (p0.uid == p1.uid) = false) : Q7 G (Q9t p0 p1) (.ret (.bool (false)) []) := by
 exact Q8 (fn := Ir.K2j) rfl VOK.nil [hP 7 (dec (!(sEq p0.kind p1.kind)) false (by rw [h0]; rfl)), hP 5 (dec (!(sEq p0.namespace_ p1.namespace_)) false (by rw [h1]; rfl)), hP 6 (dec (!(sEq p0.name p1.name)) false (by rw [h2]; rfl)), hP 6 (dec (!(p0.uid == p1.uid)) true (by rw [h3]; rfl))] [] (by kernel_rfl)
theorem Q1he (p0 : Meta) (p1 : Meta) (_H : Q78 p0 p1) (h0 : (sEq p0.kind p1.kind) = true) (h1 : (sEq p0.namespace_ p1.namespace_) = true) (h2 : (sEq p0.name p1.name) = false) : Q7 G (Q9t p0 p1) (.ret (.bool (false)) []) := by
 exact Q8 (fn := Ir.K2j) rfl VOK.nil [hP 7 (dec (!(sEq p0.kind p1.kind)) false (by rw [h0]; rfl)), hP 5 (dec (!(sEq p0.namespace_ p1.namespace_)) false (by rw [h1]; rfl)), hP 6 (dec (!(sEq p0.name p1.name)) true (by rw [h2]; rfl))] [] (by kernel_rfl)
theorem Q1i4 (p0 : Meta) (p1 : Meta) (_H : Q78 p0 p1) (h0 : (sEq p0.kind p1.kind) = true) (h1 : (sEq p0.namespace_ p1.namespace_) = false) : Q7 G (Q9t p0 p1) (.ret (.bool (false)) []) := by
 exact Q8 (fn := Ir.K2j) rfl VOK.nil [hP 7 (dec (!(sEq p0.kind p1.kind)) false (by rw [h0]; rfl)), hP 5 (dec (!(sEq p0.namespace_ p1.namespace_)) true (by rw [h1]; rfl))] [] (by kernel_rfl)
theorem Q1hi (p0 : Meta) (p1 : Meta) (_H : Q78 p0 p1) (h0 : (sEq p0.kind p1.kind) = false) : Q7 G (Q9t p0 p1) (.ret (.bool (false)) []) := by
 exact Q8 (fn := Ir.K2j) rfl VOK.nil [hP 7 (dec (!(sEq p0.kind p1.kind)) true (by rw [h0]; rfl))] [] (by kernel_rfl)
theorem Q1m4 (p0 : Meta) (p1 : Meta) (H : Q78 p0 p1) : Q7 G (Q9t p0 p1) (Q1no p0 p1) := by
 unfold Q1no Q1bo
 cases h0 : (sEq p0.kind p1.kind) with
 | true =>
  cases h1 : (sEq p0.namespace_ p1.namespace_) with
  | true =>
   cases h2 : (sEq p0.name p1.name) with
   | true =>
    cases h3 : (p0.uid == p1.uid) with
    | true =>
     cases h4 : (p0.version == p1.version) with
     | true =>
      cases h5 : (p0.generation == p1.generation) with
      | true =>
       cases h6 : (p0.created == p1.created) with
       | true =>
        cases h7 : (p0.deleting == p1.deleting) with
        | true =>
         cases h8 : (p0.deleteAt == p1.deleteAt) with
         | true =>
          cases h9 : (Qec p0.labels p1.labels) with
          | true =>
           cases h10 : (Qat p0.finalizers p1.finalizers) with
           | true =>
            cases h11 : (((List.length p0.owners) : Int) == ((List.length p1.owners) : Int)) with
            | true =>
             cases h12 : (((List.length p0.managers) : Int) == ((List.length p1.managers) : Int)) with
             | true =>
              have hl13 := Qys p0 p1 (H.2.2.1 h11 h12) p0.owners 0 (by simp)
              cases hr13 : (Q6k p0 p1 p0.owners 0) with
              | k0 =>
               rw [hr13] at hl13
               obtain ⟨z13, zo13, hl13⟩ := hl13
               try dsimp only
               have hl14 := Q10j p0 p1 (H.2.2.2.1 h11 h12) p0.managers 0 (by simp)
               cases hr14 : (Q6l p0 p1 p0.managers 0) with
               | k0 =>
                rw [hr14] at hl14
                obtain ⟨z14, zo14, hl14⟩ := hl14
                exact Q1lq p0 p1 H h0 h1 h2 h3 h4 h5 h6 h7 h8 h9 h10 h11 h12 z13 zo13 hl13 z14 zo14 hl14
               | k1 =>
                rw [hr14] at hl14
                obtain ⟨z14, zo14, hl14⟩ := hl14
                exact Q1kk p0 p1 H h0 h1 h2 h3 h4 h5 h6 h7 h8 h9 h10 h11 h12 z13 zo13 hl13 z14 zo14 hl14
              | k1 =>
               rw [hr13] at hl13
               obtain ⟨z13, zo13, hl13⟩ := hl13
               exact Q1mn p0 p1 H h0 h1 h2 h3 h4 h5 h6 h7 h8 h9 h10 h11 h12 z13 zo13 hl13
             | false =>
              exact Q1lk p0 p1 H h0 h1 h2 h3 h4 h5 h6 h7 h8 h9 h10 h11 h12
            | false =>
             exact Q1ln p0 p1 H h0 h1 h2 h3 h4 h5 h6 h7 h8 h9 h10 h11
           | false =>
            exact Q1n5 p0 p1 H h0 h1 h2 h3 h4 h5 h6 h7 h8 h9 h10
          | false =>
           exact Q1ki p0 p1 H h0 h1 h2 h3 h4 h5 h6 h7 h8 h9
         | false =>
          exact Q1lu p0 p1 H h0 h1 h2 h3 h4 h5 h6 h7 h8
        | false =>
         exact Q1kt p0 p1 H h0 h1 h2 h3 h4 h5 h6 h7
       | false =>
        exact Q1mg p0 p1 H h0 h1 h2 h3 h4 h5 h6
      | false =>
       exact Q1hw p0 p1 H h0 h1 h2 h3 h4 h5
     | false =>
      exact Q1hm p0 p1 H h0 h1 h2 h3 h4
    | false =>
     exact Q1h2 p0 p1 H h0 h1 h2 h3
   | false =>
    exact Q1he p0 p1 H h0 h1 h2
  | false =>
   exact Q1i4 p0 p1 H h0 h1
 | false =>
  exact Q1hi p0 p1 H h0
def Q1as (p0 : Object) (p1 : Object) : Bool :=
 bif (Q1bo p0.meta_ p1.meta_) then
  bif (Q7w p0.spec p1.spec) then
   (Q7w p0.status p1.status)
  else
   false
 else
  false
def Q1xa (p0 : Object) (p1 : Object) : En := .call 24 [.agg (Object.cells p0), .agg (Object.cells p1)] []
def Q1q8 (p0 : Object) (p1 : Object) : Rs := .ret (.bool (Q1as p0 p1)) []
def Q18d (p0 : Object) (p1 : Object) : Prop := (Q78 p0.meta_ p1.meta_) ∧ (Q87 p0.spec) ∧ (Q87 p0.status) ∧ True
theorem Q1ow (p0 : Object) (p1 : Object) (H : Q18d p0 p1) : Q7 G (Q1xa p0 p1) (Q1q8 p0 p1) := by
 unfold Q1q8 Q1as
 cases h0 : (Q1bo p0.meta_ p1.meta_) with
 | true =>
  cases h1 : (Q7w p0.spec p1.spec) with
  | true =>
   exact Q8 (fn := Ir.K2l) rfl VOK.nil [] [aB (Q1m4 p0.meta_ p1.meta_ H.1) h0, aB (Q1i9 p0.spec p1.spec H.2.1) h1, aN (Q1i9 p0.status p1.status H.2.2.1)] (by kernel_rfl)
  | false =>
   exact Q8 (fn := Ir.K2l) rfl VOK.nil [] [aB (Q1m4 p0.meta_ p1.meta_ H.1) h0, aB (Q1i9 p0.spec p1.spec H.2.1) h1] (by kernel_rfl)
 | false =>
  exact Q8 (fn := Ir.K2l) rfl VOK.nil [] [aB (Q1m4 p0.meta_ p1.meta_ H.1) h0] (by kernel_rfl)
inductive Q1fc where
  | k0
  | k1
def Qdy (p0 : Meta) : List Label → Nat → Q1fc
 | [], _i0 =>
  (.k0)
 | x0 :: r0, i0 =>
  bif (decide (400 < (w64 ((ByteArray.size x0.key : Int) + (ByteArray.size x0.value : Int))))) then
   (.k1)
  else
   Qdy p0 r0 (i0 + 1)
def Q13x (p0 : Meta) (i0 : Nat) : List PV :=
  [.un, .bx 0 0] ++ nuns 48 ++ [.sl (Label.rows p0.labels), .int .i64 ((List.length p0.labels) : Int), .int .i64 (i0 : Int)] ++ nuns 68
def Q171 (p0 : Meta) (_i0 : Nat) : List Ob :=
  [⟨13, 0, true, [.str p0.kind, .str p0.namespace_, .str p0.name, .int .i64 p0.uid, .int .i64 p0.version, .int .i64 p0.generation, .int .i64 p0.created, .bool p0.deleting, .int .i64 p0.deleteAt, .sl (Label.rows p0.labels), .sl (Owner.rows p0.owners), .sl (Qj p0.finalizers), .sl (Manager.rows p0.managers)]⟩]
def Q6w (p0 : Meta) (i0 : Nat) : En := .loop 0 Ir.Qpo Ir.Q1oz (Q13x p0 i0) (Q171 p0 i0)
def Q71 (p0 : Meta) (z : Nat → PV) (_zo : Nat → List PV) : St :=
  ⟨[z 0, .bx 0 0] ++ zr z 2 119, [(0, ⟨13, 0, true, [.str p0.kind, .str p0.namespace_, .str p0.name, .int .i64 p0.uid, .int .i64 p0.version, .int .i64 p0.generation, .int .i64 p0.created, .bool p0.deleting, .int .i64 p0.deleteAt, .sl (Label.rows p0.labels), .sl (Owner.rows p0.owners), .sl (Qj p0.finalizers), .sl (Manager.rows p0.managers)]⟩)], 65⟩
def Qn8 (_p0 : Meta) (z : Nat → PV) (zo : Nat → List PV) : St :=
  ⟨[z 0, z 1, .bool false] ++ zr z 3 118, [(0, ⟨13, 0, true, zo 0⟩), (193, ⟨2, 0, true, zo 193⟩)], 897⟩
def Qor (p0 : Meta) (e : En) : Q1fc → Prop
  | .k0 => ∃ z zo, Q7 G e (.st (.exit 0) (Q71 p0 z zo))
  | .k1 => ∃ z zo, Q7 G e (.st .ret (Qn8 p0 z zo))
theorem Qxy (p0 : Meta) {e e' : En} (h : ∀ r, Q7 G e r → Q7 G e' r) : ∀ q, Qor p0 e q → Qor p0 e' q
  | .k0, ⟨z, zo, hz⟩ => ⟨z, zo, h _ hz⟩
  | .k1, ⟨z, zo, hz⟩ => ⟨z, zo, h _ hz⟩
def Qmo (p0 : Meta) : Prop := (List.length p0.labels ≤ 4611686018427387904) ∧ True
def Q10d (p0 : Meta) (i0 : Nat) : List PV :=
  nuns 50 ++ [.sl (Label.rows p0.labels), .int .i64 ((List.length p0.labels) : Int), .int .i64 (i0 : Int), .bool false]
def Qpw (_p0 : Meta) (_i0 : Nat) : List (Nat × List PV) :=
  []
theorem Q1f0 (p0 : Meta) (_H : Qmo p0) (i0 : Nat) (hc0 : (decide ((i0 : Int) < ((List.length p0.labels) : Int))) = false) : Qor p0 (Q6w p0 i0) (.k0) := by
 exact ⟨(envF (Q10d p0 i0)), (zoF (Qpw p0 i0)), Qg VOK.nil (x := ((.exit 0), Q71 p0 (envF (Q10d p0 i0)) (zoF (Qpw p0 i0)))) [hB 0 hc0] [] (by kernel_rfl)⟩
def Qy0 (p0 : Meta) (i0 : Nat) (x0 : Label) : List PV :=
  [.un, .bx 0 0, .un, .un, .bx 193 0] ++ nuns 45 ++ [.sl (Label.rows p0.labels), .int .i64 ((List.length p0.labels) : Int), .int .i64 (i0 : Int), .bool true, .rf [.str x0.key, .str x0.value], .agg [.str x0.key, .str x0.value], .bx 193 0, .str x0.key, .int .i64 (ByteArray.size x0.key : Int), .bx 193 1, .str x0.value, .int .i64 (ByteArray.size x0.value : Int), .int .i64 (w64 ((ByteArray.size x0.key : Int) + (ByteArray.size x0.value : Int))), .bool true]
def Qrt (p0 : Meta) (_i0 : Nat) (x0 : Label) : List (Nat × List PV) :=
  [(0, [.str p0.kind, .str p0.namespace_, .str p0.name, .int .i64 p0.uid, .int .i64 p0.version, .int .i64 p0.generation, .int .i64 p0.created, .bool p0.deleting, .int .i64 p0.deleteAt, .sl (Label.rows p0.labels), .sl (Owner.rows p0.owners), .sl (Qj p0.finalizers), .sl (Manager.rows p0.managers)]), (193, [.str x0.key, .str x0.value])]
theorem Q1f4 (p0 : Meta) (_H : Qmo p0) (x0 : Label) (i0 : Nat) (hx0 : p0.labels[i0]? = some x0) (_hi0 : i0 < List.length p0.labels) (hc0 : (decide ((i0 : Int) < ((List.length p0.labels) : Int))) = true) (h0 : (decide (400 < (w64 ((ByteArray.size x0.key : Int) + (ByteArray.size x0.value : Int))))) = true) : Qor p0 (Q6w p0 i0) (.k1) := by
 exact ⟨(envF (Qy0 p0 i0 x0)), (zoF (Qrt p0 i0 x0)), Qg VOK.nil (x := (.ret, Qn8 p0 (envF (Qy0 p0 i0 x0)) (zoF (Qrt p0 i0 x0)))) [hB 0 hc0, hP 0 (Q1j 2 (Label.rows p0.labels) i0 _ (Label.Qc hx0) rfl), hB 10 h0] [] (by kernel_rfl)⟩
theorem Q1ed (p0 : Meta) (H : Qmo p0) (x0 : Label) (i0 : Nat) (hx0 : p0.labels[i0]? = some x0) (hi0 : i0 < List.length p0.labels) (hc0 : (decide ((i0 : Int) < ((List.length p0.labels) : Int))) = true) (h0 : (decide (400 < (w64 ((ByteArray.size x0.key : Int) + (ByteArray.size x0.value : Int))))) = false) {r : Rs} (hr : Q7 G (Q6w p0 (i0 + 1)) r) : Q7 G (Q6w p0 i0) r := by
 have hB0 := H.1; have e0 := of_decide_eq_false h0
 exact Qk VOK.nil (y := (Q13x p0 (i0 + 1), Q171 p0 (i0 + 1))) [hB 0 hc0, hP 0 (Q1j 2 (Label.rows p0.labels) i0 _ (Label.Qc hx0) rfl), hB 10 h0, hP 0 (Q22 i0 (by omega))] [] (by kernel_rfl) hr
theorem Q16c (p0 : Meta) (H : Qmo p0) : ∀ (r0 : List Label) (i0 : Nat), List.drop i0 p0.labels = r0 → Qor p0 (Q6w p0 i0) (Qdy p0 r0 i0)
 | [], i0, hd => by
  have hc0 : (decide ((i0 : Int) < ((List.length p0.labels) : Int))) = false := by have := Q19 hd; simp; omega
  rw [Qdy]
  exact Q1f0 p0 H i0 hc0
 | x0 :: r0, i0, hd => by
  obtain ⟨hx0, hi0, hd'⟩ := Q11 hd
  have hc0 : (decide ((i0 : Int) < ((List.length p0.labels) : Int))) = true := by simp; omega
  rw [Qdy]
  cases h0 : (decide (400 < (w64 ((ByteArray.size x0.key : Int) + (ByteArray.size x0.value : Int))))) with
  | true =>
   exact Q1f4 p0 H x0 i0 hx0 hi0 hc0 h0
  | false =>
   exact Qxy p0 (fun r hr => Q1ed p0 H x0 i0 hx0 hi0 hc0 h0 hr) _ (Q16c p0 H r0 (i0 + 1) hd')
inductive Q1fx where
  | k0
  | k1
def Qeh (p0 : Meta) : List Owner → Nat → Q1fx
 | [], _i1 =>
  (.k0)
 | x1 :: r1, i1 =>
  bif (decide (400 < (w64 ((ByteArray.size x1.kind : Int) + (ByteArray.size x1.name : Int))))) then
   (.k1)
  else
   Qeh p0 r1 (i1 + 1)
def Q17i (p0 : Meta) (i1 : Nat) : List PV :=
  [.un, .bx 0 0] ++ nuns 64 ++ [.sl (Owner.rows p0.owners), .int .i64 ((List.length p0.owners) : Int), .int .i64 (i1 : Int)] ++ nuns 52
def Q14r (p0 : Meta) (_i1 : Nat) : List Ob :=
  [⟨13, 0, true, [.str p0.kind, .str p0.namespace_, .str p0.name, .int .i64 p0.uid, .int .i64 p0.version, .int .i64 p0.generation, .int .i64 p0.created, .bool p0.deleting, .int .i64 p0.deleteAt, .sl (Label.rows p0.labels), .sl (Owner.rows p0.owners), .sl (Qj p0.finalizers), .sl (Manager.rows p0.managers)]⟩]
def Q84 (p0 : Meta) (i1 : Nat) : En := .loop 0 Ir.Qpk Ir.Q1po (Q17i p0 i1) (Q14r p0 i1)
def Q8f (p0 : Meta) (z : Nat → PV) (_zo : Nat → List PV) : St :=
  ⟨[z 0, .bx 0 0] ++ zr z 2 119, [(0, ⟨13, 0, true, [.str p0.kind, .str p0.namespace_, .str p0.name, .int .i64 p0.uid, .int .i64 p0.version, .int .i64 p0.generation, .int .i64 p0.created, .bool p0.deleting, .int .i64 p0.deleteAt, .sl (Label.rows p0.labels), .sl (Owner.rows p0.owners), .sl (Qj p0.finalizers), .sl (Manager.rows p0.managers)]⟩)], 65⟩
def Qox (_p0 : Meta) (z : Nat → PV) (zo : Nat → List PV) : St :=
  ⟨[z 0, z 1, .bool false] ++ zr z 3 118, [(0, ⟨13, 0, true, zo 0⟩), (193, ⟨5, 0, true, zo 193⟩)], 897⟩
def Ql1 (p0 : Meta) (e : En) : Q1fx → Prop
  | .k0 => ∃ z zo, Q7 G e (.st (.exit 2) (Q8f p0 z zo))
  | .k1 => ∃ z zo, Q7 G e (.st .ret (Qox p0 z zo))
theorem Qyj (p0 : Meta) {e e' : En} (h : ∀ r, Q7 G e r → Q7 G e' r) : ∀ q, Ql1 p0 e q → Ql1 p0 e' q
  | .k0, ⟨z, zo, hz⟩ => ⟨z, zo, h _ hz⟩
  | .k1, ⟨z, zo, hz⟩ => ⟨z, zo, h _ hz⟩
def Qk3 (p0 : Meta) : Prop := (List.length p0.owners ≤ 4611686018427387904) ∧ True
def Q11j (p0 : Meta) (i1 : Nat) : List PV :=
  nuns 66 ++ [.sl (Owner.rows p0.owners), .int .i64 ((List.length p0.owners) : Int), .int .i64 (i1 : Int), .bool false]
def Qqw (_p0 : Meta) (_i1 : Nat) : List (Nat × List PV) :=
  []
theorem Q1fh (p0 : Meta) (_H : Qk3 p0) (i1 : Nat) (hc1 : (decide ((i1 : Int) < ((List.length p0.owners) : Int))) = false) : Ql1 p0 (Q84 p0 i1) (.k0) := by
 exact ⟨(envF (Q11j p0 i1)), (zoF (Qqw p0 i1)), Qg VOK.nil (x := ((.exit 2), Q8f p0 (envF (Q11j p0 i1)) (zoF (Qqw p0 i1)))) [hB 0 hc1] [] (by kernel_rfl)⟩
def Q103 (p0 : Meta) (i1 : Nat) (x1 : Owner) : List PV :=
  [.un, .bx 0 0, .un, .un, .un, .un, .bx 193 0] ++ nuns 59 ++ [.sl (Owner.rows p0.owners), .int .i64 ((List.length p0.owners) : Int), .int .i64 (i1 : Int), .bool true, .rf [.str x1.kind, .str x1.name, .int .i64 x1.uid, .bool x1.controller, .bool x1.block], .agg [.str x1.kind, .str x1.name, .int .i64 x1.uid, .bool x1.controller, .bool x1.block], .bx 193 0, .str x1.kind, .int .i64 (ByteArray.size x1.kind : Int), .bx 193 1, .str x1.name, .int .i64 (ByteArray.size x1.name : Int), .int .i64 (w64 ((ByteArray.size x1.kind : Int) + (ByteArray.size x1.name : Int))), .bool true]
def Qtu (p0 : Meta) (_i1 : Nat) (x1 : Owner) : List (Nat × List PV) :=
  [(0, [.str p0.kind, .str p0.namespace_, .str p0.name, .int .i64 p0.uid, .int .i64 p0.version, .int .i64 p0.generation, .int .i64 p0.created, .bool p0.deleting, .int .i64 p0.deleteAt, .sl (Label.rows p0.labels), .sl (Owner.rows p0.owners), .sl (Qj p0.finalizers), .sl (Manager.rows p0.managers)]), (193, [.str x1.kind, .str x1.name, .int .i64 x1.uid, .bool x1.controller, .bool x1.block])]
theorem Q1dm (p0 : Meta) (_H : Qk3 p0) (x1 : Owner) (i1 : Nat) (hx1 : p0.owners[i1]? = some x1) (_hi1 : i1 < List.length p0.owners) (hc1 : (decide ((i1 : Int) < ((List.length p0.owners) : Int))) = true) (h0 : (decide (400 < (w64 ((ByteArray.size x1.kind : Int) + (ByteArray.size x1.name : Int))))) = true) : Ql1 p0 (Q84 p0 i1) (.k1) := by
 exact ⟨(envF (Q103 p0 i1 x1)), (zoF (Qtu p0 i1 x1)), Qg VOK.nil (x := (.ret, Qox p0 (envF (Q103 p0 i1 x1)) (zoF (Qtu p0 i1 x1)))) [hB 0 hc1, hP 0 (Q1j 5 (Owner.rows p0.owners) i1 _ (Owner.Qc hx1) rfl), hB 10 h0] [] (by kernel_rfl)⟩
theorem Q1d4 (p0 : Meta) (H : Qk3 p0) (x1 : Owner) (i1 : Nat) (hx1 : p0.owners[i1]? = some x1) (hi1 : i1 < List.length p0.owners) (hc1 : (decide ((i1 : Int) < ((List.length p0.owners) : Int))) = true) (h0 : (decide (400 < (w64 ((ByteArray.size x1.kind : Int) + (ByteArray.size x1.name : Int))))) = false) {r : Rs} (hr : Q7 G (Q84 p0 (i1 + 1)) r) : Q7 G (Q84 p0 i1) r := by
 have hB0 := H.1; have e0 := of_decide_eq_false h0
 exact Qk VOK.nil (y := (Q17i p0 (i1 + 1), Q14r p0 (i1 + 1))) [hB 0 hc1, hP 0 (Q1j 5 (Owner.rows p0.owners) i1 _ (Owner.Qc hx1) rfl), hB 10 h0, hP 0 (Q22 i1 (by omega))] [] (by kernel_rfl) hr
theorem Q15z (p0 : Meta) (H : Qk3 p0) : ∀ (r1 : List Owner) (i1 : Nat), List.drop i1 p0.owners = r1 → Ql1 p0 (Q84 p0 i1) (Qeh p0 r1 i1)
 | [], i1, hd => by
  have hc1 : (decide ((i1 : Int) < ((List.length p0.owners) : Int))) = false := by have := Q19 hd; simp; omega
  rw [Qeh]
  exact Q1fh p0 H i1 hc1
 | x1 :: r1, i1, hd => by
  obtain ⟨hx1, hi1, hd'⟩ := Q11 hd
  have hc1 : (decide ((i1 : Int) < ((List.length p0.owners) : Int))) = true := by simp; omega
  rw [Qeh]
  cases h0 : (decide (400 < (w64 ((ByteArray.size x1.kind : Int) + (ByteArray.size x1.name : Int))))) with
  | true =>
   exact Q1dm p0 H x1 i1 hx1 hi1 hc1 h0
  | false =>
   exact Qyj p0 (fun r hr => Q1d4 p0 H x1 i1 hx1 hi1 hc1 h0 hr) _ (Q15z p0 H r1 (i1 + 1) hd')
inductive Q1ga where
  | k0
  | k1
def Qe3 (p0 : Meta) : List ByteArray → Nat → Q1ga
 | [], _i2 =>
  (.k0)
 | x2 :: r2, i2 =>
  bif (decide (400 < (ByteArray.size x2 : Int))) then
   (.k1)
  else
   Qe3 p0 r2 (i2 + 1)
def Q14a (p0 : Meta) (i2 : Nat) : List PV :=
  [.un, .bx 0 0] ++ nuns 80 ++ [.sl (Qj p0.finalizers), .int .i64 ((List.length p0.finalizers) : Int), .int .i64 (i2 : Int)] ++ nuns 36
def Q13l (p0 : Meta) (_i2 : Nat) : List Ob :=
  [⟨13, 0, true, [.str p0.kind, .str p0.namespace_, .str p0.name, .int .i64 p0.uid, .int .i64 p0.version, .int .i64 p0.generation, .int .i64 p0.created, .bool p0.deleting, .int .i64 p0.deleteAt, .sl (Label.rows p0.labels), .sl (Owner.rows p0.owners), .sl (Qj p0.finalizers), .sl (Manager.rows p0.managers)]⟩]
def Q8o (p0 : Meta) (i2 : Nat) : En := .loop 0 Ir.Qs0 Ir.Q1px (Q14a p0 i2) (Q13l p0 i2)
def Q9s (p0 : Meta) (z : Nat → PV) (_zo : Nat → List PV) : St :=
  ⟨[z 0, .bx 0 0] ++ zr z 2 119, [(0, ⟨13, 0, true, [.str p0.kind, .str p0.namespace_, .str p0.name, .int .i64 p0.uid, .int .i64 p0.version, .int .i64 p0.generation, .int .i64 p0.created, .bool p0.deleting, .int .i64 p0.deleteAt, .sl (Label.rows p0.labels), .sl (Owner.rows p0.owners), .sl (Qj p0.finalizers), .sl (Manager.rows p0.managers)]⟩)], 65⟩
def Qjc (_p0 : Meta) (z : Nat → PV) (zo : Nat → List PV) : St :=
  ⟨[z 0, z 1, .bool false] ++ zr z 3 118, [(0, ⟨13, 0, true, zo 0⟩)], 513⟩
def Qj4 (p0 : Meta) (e : En) : Q1ga → Prop
  | .k0 => ∃ z zo, Q7 G e (.st (.exit 4) (Q9s p0 z zo))
  | .k1 => ∃ z zo, Q7 G e (.st .ret (Qjc p0 z zo))
theorem Qzw (p0 : Meta) {e e' : En} (h : ∀ r, Q7 G e r → Q7 G e' r) : ∀ q, Qj4 p0 e q → Qj4 p0 e' q
  | .k0, ⟨z, zo, hz⟩ => ⟨z, zo, h _ hz⟩
  | .k1, ⟨z, zo, hz⟩ => ⟨z, zo, h _ hz⟩
def Qm4 (p0 : Meta) : Prop := (List.length p0.finalizers ≤ 4611686018427387904) ∧ True
def Qxi (p0 : Meta) (i2 : Nat) : List PV :=
  nuns 82 ++ [.sl (Qj p0.finalizers), .int .i64 ((List.length p0.finalizers) : Int), .int .i64 (i2 : Int), .bool false]
def Qpd (_p0 : Meta) (_i2 : Nat) : List (Nat × List PV) :=
  []
theorem Q1d7 (p0 : Meta) (_H : Qm4 p0) (i2 : Nat) (hc2 : (decide ((i2 : Int) < ((List.length p0.finalizers) : Int))) = false) : Qj4 p0 (Q8o p0 i2) (.k0) := by
 exact ⟨(envF (Qxi p0 i2)), (zoF (Qpd p0 i2)), Qg VOK.nil (x := ((.exit 4), Q9s p0 (envF (Qxi p0 i2)) (zoF (Qpd p0 i2)))) [hB 0 hc2] [] (by kernel_rfl)⟩
def Qyp (p0 : Meta) (i2 : Nat) (x2 : BA) : List PV :=
  [.un, .bx 0 0] ++ nuns 6 ++ [.str x2] ++ nuns 73 ++ [.sl (Qj p0.finalizers), .int .i64 ((List.length p0.finalizers) : Int), .int .i64 (i2 : Int), .bool true, .rf [.str x2], .str x2, .str x2, .int .i64 (ByteArray.size x2 : Int), .bool true]
def Qqn (p0 : Meta) (_i2 : Nat) (_x2 : BA) : List (Nat × List PV) :=
  [(0, [.str p0.kind, .str p0.namespace_, .str p0.name, .int .i64 p0.uid, .int .i64 p0.version, .int .i64 p0.generation, .int .i64 p0.created, .bool p0.deleting, .int .i64 p0.deleteAt, .sl (Label.rows p0.labels), .sl (Owner.rows p0.owners), .sl (Qj p0.finalizers), .sl (Manager.rows p0.managers)])]
theorem Q1fj (p0 : Meta) (_H : Qm4 p0) (x2 : BA) (i2 : Nat) (hx2 : p0.finalizers[i2]? = some x2) (_hi2 : i2 < List.length p0.finalizers) (hc2 : (decide ((i2 : Int) < ((List.length p0.finalizers) : Int))) = true) (h0 : (decide (400 < (ByteArray.size x2 : Int))) = true) : Qj4 p0 (Q8o p0 i2) (.k1) := by
 exact ⟨(envF (Qyp p0 i2 x2)), (zoF (Qqn p0 i2 x2)), Qg VOK.nil (x := (.ret, Qjc p0 (envF (Qyp p0 i2 x2)) (zoF (Qqn p0 i2 x2)))) [hB 0 hc2, hP 0 (Q1j 1 (Qj p0.finalizers) i2 _ (Q40 hx2) rfl), hB 4 h0] [] (by kernel_rfl)⟩
theorem Q1e9 (p0 : Meta) (H : Qm4 p0) (x2 : BA) (i2 : Nat) (hx2 : p0.finalizers[i2]? = some x2) (hi2 : i2 < List.length p0.finalizers) (hc2 : (decide ((i2 : Int) < ((List.length p0.finalizers) : Int))) = true) (h0 : (decide (400 < (ByteArray.size x2 : Int))) = false) {r : Rs} (hr : Q7 G (Q8o p0 (i2 + 1)) r) : Q7 G (Q8o p0 i2) r := by
 have hB0 := H.1; have e0 := of_decide_eq_false h0
 exact Qk VOK.nil (y := (Q14a p0 (i2 + 1), Q13l p0 (i2 + 1))) [hB 0 hc2, hP 0 (Q1j 1 (Qj p0.finalizers) i2 _ (Q40 hx2) rfl), hB 4 h0, hP 0 (Q22 i2 (by omega))] [] (by kernel_rfl) hr
theorem Q167 (p0 : Meta) (H : Qm4 p0) : ∀ (r2 : List ByteArray) (i2 : Nat), List.drop i2 p0.finalizers = r2 → Qj4 p0 (Q8o p0 i2) (Qe3 p0 r2 i2)
 | [], i2, hd => by
  have hc2 : (decide ((i2 : Int) < ((List.length p0.finalizers) : Int))) = false := by have := Q19 hd; simp; omega
  rw [Qe3]
  exact Q1d7 p0 H i2 hc2
 | x2 :: r2, i2, hd => by
  obtain ⟨hx2, hi2, hd'⟩ := Q11 hd
  have hc2 : (decide ((i2 : Int) < ((List.length p0.finalizers) : Int))) = true := by simp; omega
  rw [Qe3]
  cases h0 : (decide (400 < (ByteArray.size x2 : Int))) with
  | true =>
   exact Q1fj p0 H x2 i2 hx2 hi2 hc2 h0
  | false =>
   exact Qzw p0 (fun r hr => Q1e9 p0 H x2 i2 hx2 hi2 hc2 h0 hr) _ (Q167 p0 H r2 (i2 + 1) hd')
inductive Q1et where
  | k0
  | k1
def Qdl (p0 : Meta) (i3 : Nat) (x3 : Manager) : List ByteArray → Nat → Q1et
 | [], _i4 =>
  (.k0)
 | x4 :: r4, i4 =>
  bif (decide (2000 < (ByteArray.size x4 : Int))) then
   (.k1)
  else
   Qdl p0 i3 x3 r4 (i4 + 1)
def Q15n (p0 : Meta) (i3 : Nat) (x3 : Manager) (i4 : Nat) : List PV :=
  nuns 93 ++ [.sl (Manager.rows p0.managers), .int .i64 ((List.length p0.managers) : Int), .int .i64 (i3 : Int)] ++ nuns 14 ++ [.sl (Qj x3.fields), .int .i64 ((List.length x3.fields) : Int), .int .i64 (i4 : Int)] ++ nuns 8
def Q13v (_p0 : Meta) (_i3 : Nat) (_x3 : Manager) (_i4 : Nat) : List Ob :=
  []
def Qbn (p0 : Meta) (i3 : Nat) (x3 : Manager) (i4 : Nat) : En := .loop 0 Ir.Qqk Ir.Q1oo (Q15n p0 i3 x3 i4) (Q13v p0 i3 x3 i4)
def Qmu (p0 : Meta) (i3 : Nat) (_x3 : Manager) (z : Nat → PV) (_zo : Nat → List PV) : St :=
  ⟨zr z 0 93 ++ [.sl (Manager.rows p0.managers), .int .i64 ((List.length p0.managers) : Int), .int .i64 (i3 : Int)] ++ zr z 96 25, [], 64⟩
def Qmd (_p0 : Meta) (_i3 : Nat) (_x3 : Manager) (z : Nat → PV) (_zo : Nat → List PV) : St :=
  ⟨[z 0, z 1, .bool false] ++ zr z 3 118, [], 512⟩
def Qj1 (p0 : Meta) (i3 : Nat) (x3 : Manager) (e : En) : Q1et → Prop
  | .k0 => ∃ z zo, Q7 G e (.st (.exit 8) (Qmu p0 i3 x3 z zo))
  | .k1 => ∃ z zo, Q7 G e (.st .ret (Qmd p0 i3 x3 z zo))
theorem Q10t (p0 : Meta) (i3 : Nat) (x3 : Manager) {e e' : En} (h : ∀ r, Q7 G e r → Q7 G e' r) : ∀ q, Qj1 p0 i3 x3 e q → Qj1 p0 i3 x3 e' q
  | .k0, ⟨z, zo, hz⟩ => ⟨z, zo, h _ hz⟩
  | .k1, ⟨z, zo, hz⟩ => ⟨z, zo, h _ hz⟩
def Qjz (_p0 : Meta) (_i3 : Nat) (x3 : Manager) : Prop := (List.length x3.fields ≤ 4611686018427387904) ∧ True
def Q11c (_p0 : Meta) (_i3 : Nat) (x3 : Manager) (i4 : Nat) : List PV :=
  nuns 110 ++ [.sl (Qj x3.fields), .int .i64 ((List.length x3.fields) : Int), .int .i64 (i4 : Int), .bool false]
def Qtv (_p0 : Meta) (_i3 : Nat) (_x3 : Manager) (_i4 : Nat) : List (Nat × List PV) :=
  []
theorem Q1fz (p0 : Meta) (i3 : Nat) (x3 : Manager) (_H : Qjz p0 i3 x3) (i4 : Nat) (hc4 : (decide ((i4 : Int) < ((List.length x3.fields) : Int))) = false) : Qj1 p0 i3 x3 (Qbn p0 i3 x3 i4) (.k0) := by
 exact ⟨(envF (Q11c p0 i3 x3 i4)), (zoF (Qtv p0 i3 x3 i4)), Qg VOK.nil (x := ((.exit 8), Qmu p0 i3 x3 (envF (Q11c p0 i3 x3 i4)) (zoF (Qtv p0 i3 x3 i4)))) [hB 0 hc4] [] (by kernel_rfl)⟩
def Q126 (p0 : Meta) (i3 : Nat) (x3 : Manager) (i4 : Nat) (x4 : BA) : List PV :=
  nuns 12 ++ [.str x4] ++ nuns 80 ++ [.sl (Manager.rows p0.managers), .int .i64 ((List.length p0.managers) : Int), .int .i64 (i3 : Int)] ++ nuns 14 ++ [.sl (Qj x3.fields), .int .i64 ((List.length x3.fields) : Int), .int .i64 (i4 : Int), .bool true, .rf [.str x4], .str x4, .str x4, .int .i64 (ByteArray.size x4 : Int), .bool true]
def Qph (_p0 : Meta) (_i3 : Nat) (_x3 : Manager) (_i4 : Nat) (_x4 : BA) : List (Nat × List PV) :=
  []
theorem Q1el (p0 : Meta) (i3 : Nat) (x3 : Manager) (_H : Qjz p0 i3 x3) (x4 : BA) (i4 : Nat) (hx4 : x3.fields[i4]? = some x4) (_hi4 : i4 < List.length x3.fields) (hc4 : (decide ((i4 : Int) < ((List.length x3.fields) : Int))) = true) (h0 : (decide (2000 < (ByteArray.size x4 : Int))) = true) : Qj1 p0 i3 x3 (Qbn p0 i3 x3 i4) (.k1) := by
 exact ⟨(envF (Q126 p0 i3 x3 i4 x4)), (zoF (Qph p0 i3 x3 i4 x4)), Qg VOK.nil (x := (.ret, Qmd p0 i3 x3 (envF (Q126 p0 i3 x3 i4 x4)) (zoF (Qph p0 i3 x3 i4 x4)))) [hB 0 hc4, hP 0 (Q1j 1 (Qj x3.fields) i4 _ (Q40 hx4) rfl), hB 4 h0] [] (by kernel_rfl)⟩
theorem Q1g8 (p0 : Meta) (i3 : Nat) (x3 : Manager) (H : Qjz p0 i3 x3) (x4 : BA) (i4 : Nat) (hx4 : x3.fields[i4]? = some x4) (hi4 : i4 < List.length x3.fields) (hc4 : (decide ((i4 : Int) < ((List.length x3.fields) : Int))) = true) (h0 : (decide (2000 < (ByteArray.size x4 : Int))) = false) {r : Rs} (hr : Q7 G (Qbn p0 i3 x3 (i4 + 1)) r) : Q7 G (Qbn p0 i3 x3 i4) r := by
 have hB0 := H.1; have e0 := of_decide_eq_false h0
 exact Qk VOK.nil (y := (Q15n p0 i3 x3 (i4 + 1), Q13v p0 i3 x3 (i4 + 1))) [hB 0 hc4, hP 0 (Q1j 1 (Qj x3.fields) i4 _ (Q40 hx4) rfl), hB 4 h0, hP 0 (Q22 i4 (by omega))] [] (by kernel_rfl) hr
theorem Q142 (p0 : Meta) (i3 : Nat) (x3 : Manager) (H : Qjz p0 i3 x3) : ∀ (r4 : List ByteArray) (i4 : Nat), List.drop i4 x3.fields = r4 → Qj1 p0 i3 x3 (Qbn p0 i3 x3 i4) (Qdl p0 i3 x3 r4 i4)
 | [], i4, hd => by
  have hc4 : (decide ((i4 : Int) < ((List.length x3.fields) : Int))) = false := by have := Q19 hd; simp; omega
  rw [Qdl]
  exact Q1fz p0 i3 x3 H i4 hc4
 | x4 :: r4, i4, hd => by
  obtain ⟨hx4, hi4, hd'⟩ := Q11 hd
  have hc4 : (decide ((i4 : Int) < ((List.length x3.fields) : Int))) = true := by simp; omega
  rw [Qdl]
  cases h0 : (decide (2000 < (ByteArray.size x4 : Int))) with
  | true =>
   exact Q1el p0 i3 x3 H x4 i4 hx4 hi4 hc4 h0
  | false =>
   exact Q10t p0 i3 x3 (fun r hr => Q1g8 p0 i3 x3 H x4 i4 hx4 hi4 hc4 h0 hr) _ (Q142 p0 i3 x3 H r4 (i4 + 1) hd')
inductive Q1du where
  | k0
  | k1
  | k2
def Qeb (p0 : Meta) : List Manager → Nat → Q1du
 | [], _i3 =>
  (.k0)
 | x3 :: r3, i3 =>
  bif (decide (400 < (ByteArray.size x3.name : Int))) then
   (.k1)
  else
   bif (decide (200 < ((List.length x3.fields) : Int))) then
    (.k1)
   else
    (match (Qdl p0 i3 x3 x3.fields 0) with
    | .k0 => Qeb p0 r3 (i3 + 1)
    | .k1 => (.k2))
def Q160 (p0 : Meta) (i3 : Nat) : List PV :=
  nuns 93 ++ [.sl (Manager.rows p0.managers), .int .i64 ((List.length p0.managers) : Int), .int .i64 (i3 : Int)] ++ nuns 25
def Q157 (_p0 : Meta) (_i3 : Nat) : List Ob :=
  []
def Q7s (p0 : Meta) (i3 : Nat) : En := .loop 0 Ir.Qso Ir.Q1nf (Q160 p0 i3) (Q157 p0 i3)
def Qno (_p0 : Meta) (z : Nat → PV) (_zo : Nat → List PV) : St :=
  ⟨zr z 0 121, [], 64⟩
def Qce (_p0 : Meta) (z : Nat → PV) (zo : Nat → List PV) : St :=
  ⟨[z 0, z 1, .bool false] ++ zr z 3 118, [(192, ⟨2, 0, true, zo 192⟩)], 1024⟩
def Qk0 (_p0 : Meta) (z : Nat → PV) (_zo : Nat → List PV) : St :=
  ⟨[z 0, z 1, .bool false] ++ zr z 3 118, [], 512⟩
def Qbk (p0 : Meta) (e : En) : Q1du → Prop
  | .k0 => ∃ z zo, Q7 G e (.st (.exit 6) (Qno p0 z zo))
  | .k1 => ∃ z zo, Q7 G e (.st .ret (Qce p0 z zo))
  | .k2 => ∃ z zo, Q7 G e (.st .ret (Qk0 p0 z zo))
theorem Qza (p0 : Meta) {e e' : En} (h : ∀ r, Q7 G e r → Q7 G e' r) : ∀ q, Qbk p0 e q → Qbk p0 e' q
  | .k0, ⟨z, zo, hz⟩ => ⟨z, zo, h _ hz⟩
  | .k1, ⟨z, zo, hz⟩ => ⟨z, zo, h _ hz⟩
  | .k2, ⟨z, zo, hz⟩ => ⟨z, zo, h _ hz⟩
def Qb6 (p0 : Meta) : Prop := (List.length p0.managers ≤ 4611686018427387904) ∧ (∀ (i3 : Nat) (x3 : Manager), p0.managers[i3]? = some x3 → Qjz p0 i3 x3) ∧ True
def Qxh (p0 : Meta) (i3 : Nat) : List PV :=
  nuns 93 ++ [.sl (Manager.rows p0.managers), .int .i64 ((List.length p0.managers) : Int), .int .i64 (i3 : Int), .bool false]
def Qsq (_p0 : Meta) (_i3 : Nat) : List (Nat × List PV) :=
  []
theorem Q1ec (p0 : Meta) (_H : Qb6 p0) (i3 : Nat) (hc3 : (decide ((i3 : Int) < ((List.length p0.managers) : Int))) = false) : Qbk p0 (Q7s p0 i3) (.k0) := by
 exact ⟨(envF (Qxh p0 i3)), (zoF (Qsq p0 i3)), Qg VOK.nil (x := ((.exit 6), Qno p0 (envF (Qxh p0 i3)) (zoF (Qsq p0 i3)))) [hB 0 hc3] [] (by kernel_rfl)⟩
def Qyh (p0 : Meta) (i3 : Nat) (x3 : Manager) : List PV :=
  nuns 10 ++ [.bx 192 0] ++ nuns 82 ++ [.sl (Manager.rows p0.managers), .int .i64 ((List.length p0.managers) : Int), .int .i64 (i3 : Int), .bool true, .rf [.str x3.name, .sl (Qj x3.fields)], .agg [.str x3.name, .sl (Qj x3.fields)], .bx 192 0, .str x3.name, .int .i64 (ByteArray.size x3.name : Int), .bool true, .bool true, .tup [], .tup [], .tup [], .tup [], .bool true]
def Qtb (_p0 : Meta) (_i3 : Nat) (x3 : Manager) : List (Nat × List PV) :=
  [(192, [.str x3.name, .sl (Qj x3.fields)])]
theorem Q1f1 (p0 : Meta) (_H : Qb6 p0) (x3 : Manager) (i3 : Nat) (hx3 : p0.managers[i3]? = some x3) (_hi3 : i3 < List.length p0.managers) (hc3 : (decide ((i3 : Int) < ((List.length p0.managers) : Int))) = true) (h0 : (decide (400 < (ByteArray.size x3.name : Int))) = true) : Qbk p0 (Q7s p0 i3) (.k1) := by
 exact ⟨(envF (Qyh p0 i3 x3)), (zoF (Qtb p0 i3 x3)), Qg VOK.nil (x := (.ret, Qce p0 (envF (Qyh p0 i3 x3)) (zoF (Qtb p0 i3 x3)))) [hB 0 hc3, hP 0 (Q1j 2 (Manager.rows p0.managers) i3 _ (Manager.Qc hx3) rfl), hB 6 h0] [] (by kernel_rfl)⟩
def Qyb (p0 : Meta) (i3 : Nat) (x3 : Manager) : List PV :=
  nuns 10 ++ [.bx 192 0] ++ nuns 82 ++ [.sl (Manager.rows p0.managers), .int .i64 ((List.length p0.managers) : Int), .int .i64 (i3 : Int), .bool true, .rf [.str x3.name, .sl (Qj x3.fields)], .agg [.str x3.name, .sl (Qj x3.fields)], .bx 192 0, .str x3.name, .int .i64 (ByteArray.size x3.name : Int), .bool false, .bool false, .bx 192 1, .sl (Qj x3.fields), .int .i64 ((List.length x3.fields) : Int), .bool true, .bool true]
def Qsr (_p0 : Meta) (_i3 : Nat) (x3 : Manager) : List (Nat × List PV) :=
  [(192, [.str x3.name, .sl (Qj x3.fields)])]
theorem Q1e1 (p0 : Meta) (_H : Qb6 p0) (x3 : Manager) (i3 : Nat) (hx3 : p0.managers[i3]? = some x3) (_hi3 : i3 < List.length p0.managers) (hc3 : (decide ((i3 : Int) < ((List.length p0.managers) : Int))) = true) (h0 : (decide (400 < (ByteArray.size x3.name : Int))) = false) (h1 : (decide (200 < ((List.length x3.fields) : Int))) = true) : Qbk p0 (Q7s p0 i3) (.k1) := by
 exact ⟨(envF (Qyb p0 i3 x3)), (zoF (Qsr p0 i3 x3)), Qg VOK.nil (x := (.ret, Qce p0 (envF (Qyb p0 i3 x3)) (zoF (Qsr p0 i3 x3)))) [hB 0 hc3, hP 0 (Q1j 2 (Manager.rows p0.managers) i3 _ (Manager.Qc hx3) rfl), hB 6 h0, hP 3 (Qh (Qj x3.fields) (List.length x3.fields) (Q1h x3.fields)), hB 0 h1] [] (by kernel_rfl)⟩
theorem Q1es (p0 : Meta) (H : Qb6 p0) (x3 : Manager) (i3 : Nat) (hx3 : p0.managers[i3]? = some x3) (hi3 : i3 < List.length p0.managers) (hc3 : (decide ((i3 : Int) < ((List.length p0.managers) : Int))) = true) (h0 : (decide (400 < (ByteArray.size x3.name : Int))) = false) (h1 : (decide (200 < ((List.length x3.fields) : Int))) = false) (z2 : Nat → PV) (zo2 : Nat → List PV) (hl2 : Q7 G (Qbn p0 i3 x3 0) (.st (.exit 8) (Qmu p0 i3 x3 z2 zo2))) {r : Rs} (hr : Q7 G (Q7s p0 (i3 + 1)) r) : Q7 G (Q7s p0 i3) r := by
 have hB0 := H.1; have e0 := of_decide_eq_false h0; have e1 := of_decide_eq_false h1
 exact Qk VOK.nil (y := (Q160 p0 (i3 + 1), Q157 p0 (i3 + 1))) [hB 0 hc3, hP 0 (Q1j 2 (Manager.rows p0.managers) i3 _ (Manager.Qc hx3) rfl), hB 6 h0, hP 3 (Qh (Qj x3.fields) (List.length x3.fields) (Q1h x3.fields)), hB 0 h1, hP 3 (Qh (Qj x3.fields) (List.length x3.fields) (Q1h x3.fields)), hP 1 (Q22 i3 (by omega))] [aN hl2] (by kernel_rfl) hr
def Qyk (_p0 : Meta) (_i3 : Nat) (_x3 : Manager) (z2 : Nat → PV) (_zo2 : Nat → List PV) : List PV :=
  [(z2 0), (z2 1), .un, (z2 3), (z2 4), (z2 5), (z2 6), (z2 7), (z2 8), (z2 9), (z2 10), (z2 11), (z2 12), (z2 13), (z2 14), (z2 15), (z2 16), (z2 17), (z2 18), (z2 19), (z2 20), (z2 21), (z2 22), (z2 23), (z2 24), (z2 25), (z2 26), (z2 27), (z2 28), (z2 29), (z2 30), (z2 31), (z2 32), (z2 33), (z2 34), (z2 35), (z2 36), (z2 37), (z2 38), (z2 39), (z2 40), (z2 41), (z2 42), (z2 43), (z2 44), (z2 45), (z2 46), (z2 47), (z2 48), (z2 49), (z2 50), (z2 51), (z2 52), (z2 53), (z2 54), (z2 55), (z2 56), (z2 57), (z2 58), (z2 59), (z2 60), (z2 61), (z2 62), (z2 63), (z2 64), (z2 65), (z2 66), (z2 67), (z2 68), (z2 69), (z2 70), (z2 71), (z2 72), (z2 73), (z2 74), (z2 75), (z2 76), (z2 77), (z2 78), (z2 79), (z2 80), (z2 81), (z2 82), (z2 83), (z2 84), (z2 85), (z2 86), (z2 87), (z2 88), (z2 89), (z2 90), (z2 91), (z2 92), (z2 93), (z2 94), (z2 95), (z2 96), (z2 97), (z2 98), (z2 99), (z2 100), (z2 101), (z2 102), (z2 103), (z2 104), (z2 105), (z2 106), (z2 107), (z2 108), (z2 109), (z2 110), (z2 111), (z2 112), (z2 113), (z2 114), (z2 115), (z2 116), (z2 117), (z2 118), (z2 119), (z2 120)]
def Qs6 (_p0 : Meta) (_i3 : Nat) (_x3 : Manager) (_z2 : Nat → PV) (_zo2 : Nat → List PV) : List (Nat × List PV) :=
  []
theorem Q1f3 (p0 : Meta) (_H : Qb6 p0) (x3 : Manager) (i3 : Nat) (hx3 : p0.managers[i3]? = some x3) (_hi3 : i3 < List.length p0.managers) (hc3 : (decide ((i3 : Int) < ((List.length p0.managers) : Int))) = true) (h0 : (decide (400 < (ByteArray.size x3.name : Int))) = false) (h1 : (decide (200 < ((List.length x3.fields) : Int))) = false) (z2 : Nat → PV) (zo2 : Nat → List PV) (hl2 : Q7 G (Qbn p0 i3 x3 0) (.st .ret (Qmd p0 i3 x3 z2 zo2))) : Qbk p0 (Q7s p0 i3) (.k2) := by
 exact ⟨(envF (Qyk p0 i3 x3 z2 zo2)), (zoF (Qs6 p0 i3 x3 z2 zo2)), Qg VOK.nil (x := (.ret, Qk0 p0 (envF (Qyk p0 i3 x3 z2 zo2)) (zoF (Qs6 p0 i3 x3 z2 zo2)))) [hB 0 hc3, hP 0 (Q1j 2 (Manager.rows p0.managers) i3 _ (Manager.Qc hx3) rfl), hB 6 h0, hP 3 (Qh (Qj x3.fields) (List.length x3.fields) (Q1h x3.fields)), hB 0 h1, hP 3 (Qh (Qj x3.fields) (List.length x3.fields) (Q1h x3.fields))] [aN hl2] (by kernel_rfl)⟩
theorem Q170 (p0 : Meta) (H : Qb6 p0) : ∀ (r3 : List Manager) (i3 : Nat), List.drop i3 p0.managers = r3 → Qbk p0 (Q7s p0 i3) (Qeb p0 r3 i3)
 | [], i3, hd => by
  have hc3 : (decide ((i3 : Int) < ((List.length p0.managers) : Int))) = false := by have := Q19 hd; simp; omega
  rw [Qeb]
  exact Q1ec p0 H i3 hc3
 | x3 :: r3, i3, hd => by
  obtain ⟨hx3, hi3, hd'⟩ := Q11 hd
  have hc3 : (decide ((i3 : Int) < ((List.length p0.managers) : Int))) = true := by simp; omega
  rw [Qeb]
  cases h0 : (decide (400 < (ByteArray.size x3.name : Int))) with
  | true =>
   exact Q1f1 p0 H x3 i3 hx3 hi3 hc3 h0
  | false =>
   cases h1 : (decide (200 < ((List.length x3.fields) : Int))) with
   | true =>
    exact Q1e1 p0 H x3 i3 hx3 hi3 hc3 h0 h1
   | false =>
    have hl2 := Q142 p0 i3 x3 ((H.2.1 i3 x3 hx3)) x3.fields 0 (by simp)
    cases hr2 : (Qdl p0 i3 x3 x3.fields 0) with
    | k0 =>
     rw [hr2] at hl2
     obtain ⟨z2, zo2, hl2⟩ := hl2
     exact Qza p0 (fun r hr => Q1es p0 H x3 i3 hx3 hi3 hc3 h0 h1 z2 zo2 hl2 hr) _ (Q170 p0 H r3 (i3 + 1) hd')
    | k1 =>
     rw [hr2] at hl2
     obtain ⟨z2, zo2, hl2⟩ := hl2
     exact Q1f3 p0 H x3 i3 hx3 hi3 hc3 h0 h1 z2 zo2 hl2
def s_K5 (p0 : Meta) : Bool :=
 bif (decide (60 < ((List.length p0.labels) : Int))) then
  false
 else
  bif (decide (60 < ((List.length p0.owners) : Int))) then
   false
  else
   bif (decide (60 < ((List.length p0.finalizers) : Int))) then
    false
   else
    bif (decide (60 < ((List.length p0.managers) : Int))) then
     false
    else
     bif (decide (400 < (w64 ((w64 ((ByteArray.size p0.kind : Int) + (ByteArray.size p0.namespace_ : Int))) + (ByteArray.size p0.name : Int))))) then
      false
     else
      (match (Qdy p0 p0.labels 0) with
      | .k0 => (match (Qeh p0 p0.owners 0) with
       | .k0 => (match (Qe3 p0 p0.finalizers 0) with
        | .k0 => (match (Qeb p0 p0.managers 0) with
         | .k0 => true
         | .k1 => false
         | .k2 => false)
        | .k1 => false)
       | .k1 => false)
      | .k1 => false)
def c_K5 (p0 : Meta) : En := .call 8 [.agg (Meta.cells p0)] []
def a_K5 (p0 : Meta) : Rs := .ret (.bool (s_K5 p0)) []
def H_K5 (p0 : Meta) : Prop := (Qmo p0) ∧ (Qk3 p0) ∧ (Qm4 p0) ∧ (Qb6 p0) ∧ True
theorem Q1ov (p0 : Meta) (_H : H_K5 p0) (h0 : (decide (60 < ((List.length p0.labels) : Int))) = true) : Q7 G (c_K5 p0) (.ret (.bool (false)) []) := by
 exact Q8 (fn := Ir.K5) rfl VOK.nil [hP 4 (Qh (Label.rows p0.labels) (List.length p0.labels) (Label.Q5 p0.labels)), hB 0 h0] [] (by kernel_rfl)
theorem Q1nc (p0 : Meta) (_H : H_K5 p0) (h0 : (decide (60 < ((List.length p0.labels) : Int))) = false) (h1 : (decide (60 < ((List.length p0.owners) : Int))) = true) : Q7 G (c_K5 p0) (.ret (.bool (false)) []) := by
 exact Q8 (fn := Ir.K5) rfl VOK.nil [hP 4 (Qh (Label.rows p0.labels) (List.length p0.labels) (Label.Q5 p0.labels)), hB 0 h0, hP 3 (Qh (Owner.rows p0.owners) (List.length p0.owners) (Owner.Q5 p0.owners)), hB 0 h1] [] (by kernel_rfl)
theorem Q1p9 (p0 : Meta) (_H : H_K5 p0) (h0 : (decide (60 < ((List.length p0.labels) : Int))) = false) (h1 : (decide (60 < ((List.length p0.owners) : Int))) = false) (h2 : (decide (60 < ((List.length p0.finalizers) : Int))) = true) : Q7 G (c_K5 p0) (.ret (.bool (false)) []) := by
 exact Q8 (fn := Ir.K5) rfl VOK.nil [hP 4 (Qh (Label.rows p0.labels) (List.length p0.labels) (Label.Q5 p0.labels)), hB 0 h0, hP 3 (Qh (Owner.rows p0.owners) (List.length p0.owners) (Owner.Q5 p0.owners)), hB 0 h1, hP 4 (Qh (Qj p0.finalizers) (List.length p0.finalizers) (Q1h p0.finalizers)), hB 0 h2] [] (by kernel_rfl)
theorem Q1oy (p0 : Meta) (_H : H_K5 p0) (h0 : (decide (60 < ((List.length p0.labels) : Int))) = false) (h1 : (decide (60 < ((List.length p0.owners) : Int))) = false) (h2 : (decide (60 < ((List.length p0.finalizers) : Int))) = false) (h3 : (decide (60 < ((List.length p0.managers) : Int))) = true) : Q7 G (c_K5 p0) (.ret (.bool (false)) []) := by
 exact Q8 (fn := Ir.K5) rfl VOK.nil [hP 4 (Qh (Label.rows p0.labels) (List.length p0.labels) (Label.Q5 p0.labels)), hB 0 h0, hP 3 (Qh (Owner.rows p0.owners) (List.length p0.owners) (Owner.Q5 p0.owners)), hB 0 h1, hP 4 (Qh (Qj p0.finalizers) (List.length p0.finalizers) (Q1h p0.finalizers)), hB 0 h2, hP 4 (Qh (Manager.rows p0.managers) (List.length p0.managers) (Manager.Q5 p0.managers)), hB 0 h3] [] (by kernel_rfl)
theorem Q1q7 (p0 : Meta) (_H : H_K5 p0) (h0 : (decide (60 < ((List.length p0.labels) : Int))) = false) (h1 : (decide (60 < ((List.length p0.owners) : Int))) = false) (h2 : (decide (60 < ((List.length p0.finalizers) : Int))) = false) (h3 : (decide (60 < ((List.length p0.managers) : Int))) = false) (h4 : (decide (400 < (w64 ((w64 ((ByteArray.size p0.kind : Int) + (ByteArray.size p0.namespace_ : Int))) + (ByteArray.size p0.name : Int))))) = true) : Q7 G (c_K5 p0) (.ret (.bool (false)) []) := by
 exact Q8 (fn := Ir.K5) rfl VOK.nil [hP 4 (Qh (Label.rows p0.labels) (List.length p0.labels) (Label.Q5 p0.labels)), hB 0 h0, hP 3 (Qh (Owner.rows p0.owners) (List.length p0.owners) (Owner.Q5 p0.owners)), hB 0 h1, hP 4 (Qh (Qj p0.finalizers) (List.length p0.finalizers) (Q1h p0.finalizers)), hB 0 h2, hP 4 (Qh (Manager.rows p0.managers) (List.length p0.managers) (Manager.Q5 p0.managers)), hB 0 h3, hB 13 h4] [] (by kernel_rfl)
theorem Q1qw (p0 : Meta) (_H : H_K5 p0) (h0 : (decide (60 < ((List.length p0.labels) : Int))) = false) (h1 : (decide (60 < ((List.length p0.owners) : Int))) = false) (h2 : (decide (60 < ((List.length p0.finalizers) : Int))) = false) (h3 : (decide (60 < ((List.length p0.managers) : Int))) = false) (h4 : (decide (400 < (w64 ((w64 ((ByteArray.size p0.kind : Int) + (ByteArray.size p0.namespace_ : Int))) + (ByteArray.size p0.name : Int))))) = false) (z5 : Nat → PV) (zo5 : Nat → List PV) (hl5 : Q7 G (Q6w p0 0) (.st (.exit 0) (Q71 p0 z5 zo5))) (z6 : Nat → PV) (zo6 : Nat → List PV) (hl6 : Q7 G (Q84 p0 0) (.st (.exit 2) (Q8f p0 z6 zo6))) (z7 : Nat → PV) (zo7 : Nat → List PV) (hl7 : Q7 G (Q8o p0 0) (.st (.exit 4) (Q9s p0 z7 zo7))) (z8 : Nat → PV) (zo8 : Nat → List PV) (hl8 : Q7 G (Q7s p0 0) (.st (.exit 6) (Qno p0 z8 zo8))) : Q7 G (c_K5 p0) (.ret (.bool (true)) []) := by
 exact Q8 (fn := Ir.K5) rfl VOK.nil [hP 4 (Qh (Label.rows p0.labels) (List.length p0.labels) (Label.Q5 p0.labels)), hB 0 h0, hP 3 (Qh (Owner.rows p0.owners) (List.length p0.owners) (Owner.Q5 p0.owners)), hB 0 h1, hP 4 (Qh (Qj p0.finalizers) (List.length p0.finalizers) (Q1h p0.finalizers)), hB 0 h2, hP 4 (Qh (Manager.rows p0.managers) (List.length p0.managers) (Manager.Q5 p0.managers)), hB 0 h3, hB 13 h4, hP 3 (Qh (Label.rows p0.labels) (List.length p0.labels) (Label.Q5 p0.labels)), hP 3 (Qh (Owner.rows p0.owners) (List.length p0.owners) (Owner.Q5 p0.owners)), hP 3 (Qh (Qj p0.finalizers) (List.length p0.finalizers) (Q1h p0.finalizers)), hP 3 (Qh (Manager.rows p0.managers) (List.length p0.managers) (Manager.Q5 p0.managers))] [aN hl5, aN hl6, aN hl7, aN hl8] (by kernel_rfl)
theorem Q1py (p0 : Meta) (_H : H_K5 p0) (h0 : (decide (60 < ((List.length p0.labels) : Int))) = false) (h1 : (decide (60 < ((List.length p0.owners) : Int))) = false) (h2 : (decide (60 < ((List.length p0.finalizers) : Int))) = false) (h3 : (decide (60 < ((List.length p0.managers) : Int))) = false) (h4 : (decide (400 < (w64 ((w64 ((ByteArray.size p0.kind : Int) + (ByteArray.size p0.namespace_ : Int))) + (ByteArray.size p0.name : Int))))) = false) (z5 : Nat → PV) (zo5 : Nat → List PV) (hl5 : Q7 G (Q6w p0 0) (.st (.exit 0) (Q71 p0 z5 zo5))) (z6 : Nat → PV) (zo6 : Nat → List PV) (hl6 : Q7 G (Q84 p0 0) (.st (.exit 2) (Q8f p0 z6 zo6))) (z7 : Nat → PV) (zo7 : Nat → List PV) (hl7 : Q7 G (Q8o p0 0) (.st (.exit 4) (Q9s p0 z7 zo7))) (z8 : Nat → PV) (zo8 : Nat → List PV) (hl8 : Q7 G (Q7s p0 0) (.st .ret (Qce p0 z8 zo8))) : Q7 G (c_K5 p0) (.ret (.bool (false)) []) := by
 exact Q8 (fn := Ir.K5) rfl VOK.nil [hP 4 (Qh (Label.rows p0.labels) (List.length p0.labels) (Label.Q5 p0.labels)), hB 0 h0, hP 3 (Qh (Owner.rows p0.owners) (List.length p0.owners) (Owner.Q5 p0.owners)), hB 0 h1, hP 4 (Qh (Qj p0.finalizers) (List.length p0.finalizers) (Q1h p0.finalizers)), hB 0 h2, hP 4 (Qh (Manager.rows p0.managers) (List.length p0.managers) (Manager.Q5 p0.managers)), hB 0 h3, hB 13 h4, hP 3 (Qh (Label.rows p0.labels) (List.length p0.labels) (Label.Q5 p0.labels)), hP 3 (Qh (Owner.rows p0.owners) (List.length p0.owners) (Owner.Q5 p0.owners)), hP 3 (Qh (Qj p0.finalizers) (List.length p0.finalizers) (Q1h p0.finalizers)), hP 3 (Qh (Manager.rows p0.managers) (List.length p0.managers) (Manager.Q5 p0.managers))] [aN hl5, aN hl6, aN hl7, aN hl8] (by kernel_rfl)
theorem Q1p6 (p0 : Meta) (_H : H_K5 p0) (h0 : (decide (60 < ((List.length p0.labels) : Int))) = false) (h1 : (decide (60 < ((List.length p0.owners) : Int))) = false) (h2 : (decide (60 < ((List.length p0.finalizers) : Int))) = false) (h3 : (decide (60 < ((List.length p0.managers) : Int))) = false) (h4 : (decide (400 < (w64 ((w64 ((ByteArray.size p0.kind : Int) + (ByteArray.size p0.namespace_ : Int))) + (ByteArray.size p0.name : Int))))) = false) (z5 : Nat → PV) (zo5 : Nat → List PV) (hl5 : Q7 G (Q6w p0 0) (.st (.exit 0) (Q71 p0 z5 zo5))) (z6 : Nat → PV) (zo6 : Nat → List PV) (hl6 : Q7 G (Q84 p0 0) (.st (.exit 2) (Q8f p0 z6 zo6))) (z7 : Nat → PV) (zo7 : Nat → List PV) (hl7 : Q7 G (Q8o p0 0) (.st (.exit 4) (Q9s p0 z7 zo7))) (z8 : Nat → PV) (zo8 : Nat → List PV) (hl8 : Q7 G (Q7s p0 0) (.st .ret (Qk0 p0 z8 zo8))) : Q7 G (c_K5 p0) (.ret (.bool (false)) []) := by
 exact Q8 (fn := Ir.K5) rfl VOK.nil [hP 4 (Qh (Label.rows p0.labels) (List.length p0.labels) (Label.Q5 p0.labels)), hB 0 h0, hP 3 (Qh (Owner.rows p0.owners) (List.length p0.owners) (Owner.Q5 p0.owners)), hB 0 h1, hP 4 (Qh (Qj p0.finalizers) (List.length p0.finalizers) (Q1h p0.finalizers)), hB 0 h2, hP 4 (Qh (Manager.rows p0.managers) (List.length p0.managers) (Manager.Q5 p0.managers)), hB 0 h3, hB 13 h4, hP 3 (Qh (Label.rows p0.labels) (List.length p0.labels) (Label.Q5 p0.labels)), hP 3 (Qh (Owner.rows p0.owners) (List.length p0.owners) (Owner.Q5 p0.owners)), hP 3 (Qh (Qj p0.finalizers) (List.length p0.finalizers) (Q1h p0.finalizers)), hP 3 (Qh (Manager.rows p0.managers) (List.length p0.managers) (Manager.Q5 p0.managers))] [aN hl5, aN hl6, aN hl7, aN hl8] (by kernel_rfl)
theorem Q1oa (p0 : Meta) (_H : H_K5 p0) (h0 : (decide (60 < ((List.length p0.labels) : Int))) = false) (h1 : (decide (60 < ((List.length p0.owners) : Int))) = false) (h2 : (decide (60 < ((List.length p0.finalizers) : Int))) = false) (h3 : (decide (60 < ((List.length p0.managers) : Int))) = false) (h4 : (decide (400 < (w64 ((w64 ((ByteArray.size p0.kind : Int) + (ByteArray.size p0.namespace_ : Int))) + (ByteArray.size p0.name : Int))))) = false) (z5 : Nat → PV) (zo5 : Nat → List PV) (hl5 : Q7 G (Q6w p0 0) (.st (.exit 0) (Q71 p0 z5 zo5))) (z6 : Nat → PV) (zo6 : Nat → List PV) (hl6 : Q7 G (Q84 p0 0) (.st (.exit 2) (Q8f p0 z6 zo6))) (z7 : Nat → PV) (zo7 : Nat → List PV) (hl7 : Q7 G (Q8o p0 0) (.st .ret (Qjc p0 z7 zo7))) : Q7 G (c_K5 p0) (.ret (.bool (false)) []) := by
 exact Q8 (fn := Ir.K5) rfl VOK.nil [hP 4 (Qh (Label.rows p0.labels) (List.length p0.labels) (Label.Q5 p0.labels)), hB 0 h0, hP 3 (Qh (Owner.rows p0.owners) (List.length p0.owners) (Owner.Q5 p0.owners)), hB 0 h1, hP 4 (Qh (Qj p0.finalizers) (List.length p0.finalizers) (Q1h p0.finalizers)), hB 0 h2, hP 4 (Qh (Manager.rows p0.managers) (List.length p0.managers) (Manager.Q5 p0.managers)), hB 0 h3, hB 13 h4, hP 3 (Qh (Label.rows p0.labels) (List.length p0.labels) (Label.Q5 p0.labels)), hP 3 (Qh (Owner.rows p0.owners) (List.length p0.owners) (Owner.Q5 p0.owners)), hP 3 (Qh (Qj p0.finalizers) (List.length p0.finalizers) (Q1h p0.finalizers))] [aN hl5, aN hl6, aN hl7] (by kernel_rfl)
theorem Q1o9 (p0 : Meta) (_H : H_K5 p0) (h0 : (decide (60 < ((List.length p0.labels) : Int))) = false) (h1 : (decide (60 < ((List.length p0.owners) : Int))) = false) (h2 : (decide (60 < ((List.length p0.finalizers) : Int))) = false) (h3 : (decide (60 < ((List.length p0.managers) : Int))) = false) (h4 : (decide (400 < (w64 ((w64 ((ByteArray.size p0.kind : Int) + (ByteArray.size p0.namespace_ : Int))) + (ByteArray.size p0.name : Int))))) = false) (z5 : Nat → PV) (zo5 : Nat → List PV) (hl5 : Q7 G (Q6w p0 0) (.st (.exit 0) (Q71 p0 z5 zo5))) (z6 : Nat → PV) (zo6 : Nat → List PV) (hl6 : Q7 G (Q84 p0 0) (.st .ret (Qox p0 z6 zo6))) : Q7 G (c_K5 p0) (.ret (.bool (false)) []) := by
 exact Q8 (fn := Ir.K5) rfl VOK.nil [hP 4 (Qh (Label.rows p0.labels) (List.length p0.labels) (Label.Q5 p0.labels)), hB 0 h0, hP 3 (Qh (Owner.rows p0.owners) (List.length p0.owners) (Owner.Q5 p0.owners)), hB 0 h1, hP 4 (Qh (Qj p0.finalizers) (List.length p0.finalizers) (Q1h p0.finalizers)), hB 0 h2, hP 4 (Qh (Manager.rows p0.managers) (List.length p0.managers) (Manager.Q5 p0.managers)), hB 0 h3, hB 13 h4, hP 3 (Qh (Label.rows p0.labels) (List.length p0.labels) (Label.Q5 p0.labels)), hP 3 (Qh (Owner.rows p0.owners) (List.length p0.owners) (Owner.Q5 p0.owners))] [aN hl5, aN hl6] (by kernel_rfl)
theorem Q1m0 (p0 : Meta) (_H : H_K5 p0) (h0 : (decide (60 < ((List.length p0.labels) : Int))) = false) (h1 : (decide (60 < ((List.length p0.owners) : Int))) = false) (h2 : (decide (60 < ((List.length p0.finalizers) : Int))) = false) (h3 : (decide (60 < ((List.length p0.managers) : Int))) = false) (h4 : (decide (400 < (w64 ((w64 ((ByteArray.size p0.kind : Int) + (ByteArray.size p0.namespace_ : Int))) + (ByteArray.size p0.name : Int))))) = false) (z5 : Nat → PV) (zo5 : Nat → List PV) (hl5 : Q7 G (Q6w p0 0) (.st .ret (Qn8 p0 z5 zo5))) : Q7 G (c_K5 p0) (.ret (.bool (false)) []) := by
 exact Q8 (fn := Ir.K5) rfl VOK.nil [hP 4 (Qh (Label.rows p0.labels) (List.length p0.labels) (Label.Q5 p0.labels)), hB 0 h0, hP 3 (Qh (Owner.rows p0.owners) (List.length p0.owners) (Owner.Q5 p0.owners)), hB 0 h1, hP 4 (Qh (Qj p0.finalizers) (List.length p0.finalizers) (Q1h p0.finalizers)), hB 0 h2, hP 4 (Qh (Manager.rows p0.managers) (List.length p0.managers) (Manager.Q5 p0.managers)), hB 0 h3, hB 13 h4, hP 3 (Qh (Label.rows p0.labels) (List.length p0.labels) (Label.Q5 p0.labels))] [aN hl5] (by kernel_rfl)
theorem t_K5 (p0 : Meta) (H : H_K5 p0) : Q7 G (c_K5 p0) (a_K5 p0) := by
 unfold a_K5 s_K5
 cases h0 : (decide (60 < ((List.length p0.labels) : Int))) with
 | true =>
  exact Q1ov p0 H h0
 | false =>
  cases h1 : (decide (60 < ((List.length p0.owners) : Int))) with
  | true =>
   exact Q1nc p0 H h0 h1
  | false =>
   cases h2 : (decide (60 < ((List.length p0.finalizers) : Int))) with
   | true =>
    exact Q1p9 p0 H h0 h1 h2
   | false =>
    cases h3 : (decide (60 < ((List.length p0.managers) : Int))) with
    | true =>
     exact Q1oy p0 H h0 h1 h2 h3
    | false =>
     cases h4 : (decide (400 < (w64 ((w64 ((ByteArray.size p0.kind : Int) + (ByteArray.size p0.namespace_ : Int))) + (ByteArray.size p0.name : Int))))) with
     | true =>
      exact Q1q7 p0 H h0 h1 h2 h3 h4
     | false =>
      have hl5 := Q16c p0 (H.1) p0.labels 0 (by simp)
      cases hr5 : (Qdy p0 p0.labels 0) with
      | k0 =>
       rw [hr5] at hl5
       obtain ⟨z5, zo5, hl5⟩ := hl5
       try dsimp only
       have hl6 := Q15z p0 (H.2.1) p0.owners 0 (by simp)
       cases hr6 : (Qeh p0 p0.owners 0) with
       | k0 =>
        rw [hr6] at hl6
        obtain ⟨z6, zo6, hl6⟩ := hl6
        try dsimp only
        have hl7 := Q167 p0 (H.2.2.1) p0.finalizers 0 (by simp)
        cases hr7 : (Qe3 p0 p0.finalizers 0) with
        | k0 =>
         rw [hr7] at hl7
         obtain ⟨z7, zo7, hl7⟩ := hl7
         try dsimp only
         have hl8 := Q170 p0 (H.2.2.2.1) p0.managers 0 (by simp)
         cases hr8 : (Qeb p0 p0.managers 0) with
         | k0 =>
          rw [hr8] at hl8
          obtain ⟨z8, zo8, hl8⟩ := hl8
          exact Q1qw p0 H h0 h1 h2 h3 h4 z5 zo5 hl5 z6 zo6 hl6 z7 zo7 hl7 z8 zo8 hl8
         | k1 =>
          rw [hr8] at hl8
          obtain ⟨z8, zo8, hl8⟩ := hl8
          exact Q1py p0 H h0 h1 h2 h3 h4 z5 zo5 hl5 z6 zo6 hl6 z7 zo7 hl7 z8 zo8 hl8
         | k2 =>
          rw [hr8] at hl8
          obtain ⟨z8, zo8, hl8⟩ := hl8
          exact Q1p6 p0 H h0 h1 h2 h3 h4 z5 zo5 hl5 z6 zo6 hl6 z7 zo7 hl7 z8 zo8 hl8
        | k1 =>
         rw [hr7] at hl7
         obtain ⟨z7, zo7, hl7⟩ := hl7
         exact Q1oa p0 H h0 h1 h2 h3 h4 z5 zo5 hl5 z6 zo6 hl6 z7 zo7 hl7
       | k1 =>
        rw [hr6] at hl6
        obtain ⟨z6, zo6, hl6⟩ := hl6
        exact Q1o9 p0 H h0 h1 h2 h3 h4 z5 zo5 hl5 z6 zo6 hl6
      | k1 =>
       rw [hr5] at hl5
       obtain ⟨z5, zo5, hl5⟩ := hl5
       exact Q1m0 p0 H h0 h1 h2 h3 h4 z5 zo5 hl5
end Go.Proofs.YtiflaadeikaghaaGreat
end

section
/- The chapter's examples (printed by a program). -/
namespace Go.Proofs.YtiflaadeikaghaaGreat
open Go.Pv
theorem t_K7 : Q7 G (.call 10 [] []) (.ret (.bool true) []) := ⟨400, by kernel_rfl⟩
end Go.Proofs.YtiflaadeikaghaaGreat
end

section
/- What the laws ask of their arguments (printed by a program). -/
namespace Go.Proofs.YtiflaadeikaghaaGreat
open Go.Pv
def s_K6 (p0 : Pod) : Bool :=
 bif (s_K5 p0.meta_) then
  bif (Q19d (Q8j p0).spec 20000) then
   (Q19d (Q8j p0).status 20000)
  else
   false
 else
  false
def c_K6 (p0 : Pod) : En := .call 20 [.agg (Pod.cells p0)] []
def a_K6 (p0 : Pod) : Rs := .ret (.bool (s_K6 p0)) []
def H_K6 (p0 : Pod) : Prop := (Q1e3 p0) ∧ (H_K5 p0.meta_) ∧ ((s_K5 p0.meta_) = true → Q18b (Q8j p0).spec 20000) ∧ ((s_K5 p0.meta_) = true → (Q19d (Q8j p0).spec 20000) = true → Q18b (Q8j p0).status 20000) ∧ True
theorem t_K6 (p0 : Pod) (H : H_K6 p0) : Q7 G (c_K6 p0) (a_K6 p0) := by
 unfold a_K6 s_K6
 cases h0 : (s_K5 p0.meta_) with
 | true =>
  cases h1 : (Q19d (Q8j p0).spec 20000) with
  | true =>
   exact Q8 (fn := Ir.K6) rfl VOK.nil [] [aN (Q1d6 p0 (H.1)), aB (t_K5 p0.meta_ (H.2.1)) h0, aB (Q1la (Q8j p0).spec 20000 (H.2.2.1 h0)) h1, aN (Q1la (Q8j p0).status 20000 (H.2.2.2.1 h0 h1))] (by kernel_rfl)
  | false =>
   exact Q8 (fn := Ir.K6) rfl VOK.nil [] [aN (Q1d6 p0 (H.1)), aB (t_K5 p0.meta_ (H.2.1)) h0, aB (Q1la (Q8j p0).spec 20000 (H.2.2.1 h0)) h1] (by kernel_rfl)
 | false =>
  exact Q8 (fn := Ir.K6) rfl VOK.nil [] [aN (Q1d6 p0 (H.1)), aB (t_K5 p0.meta_ (H.2.1)) h0] (by kernel_rfl)
def Qve (p0 : Pod) (p1 : Pod) : Bool :=
 bif (sEq p0.meta_.kind p1.meta_.kind) then
  (Q1as (Q8j p0) (Q8j p1))
 else
  false
def Q1s4 (p0 : Pod) (p1 : Pod) : En := .call 17 [.agg (Pod.cells p0), .agg (Pod.cells p1)] []
def Q1n8 (p0 : Pod) (p1 : Pod) : Rs := .ret (.bool (Qve p0 p1)) []
def Q1dp (p0 : Pod) (p1 : Pod) : Prop := (Q1e3 p0) ∧ (Q1e3 p1) ∧ (Q18d (Q8j p0) (Q8j p1)) ∧ True
theorem Q1hz (p0 : Pod) (p1 : Pod) (H : Q1dp p0 p1) : Q7 G (Q1s4 p0 p1) (Q1n8 p0 p1) := by
 unfold Q1n8 Qve
 cases h0 : (sEq p0.meta_.kind p1.meta_.kind) with
 | true =>
  exact Q8 (fn := Ir.K2m) rfl VOK.nil [hB 9 h0] [aN (Q1d6 p0 H.1), aN (Q1d6 p1 H.2.1), aN (Q1ow (Q8j p0) (Q8j p1) H.2.2.1)] (by kernel_rfl)
 | false =>
  exact Q8 (fn := Ir.K2m) rfl VOK.nil [hB 9 h0] [] (by kernel_rfl)
def Qze (p0 : Node) (p1 : Node) : Bool :=
 bif (sEq p0.meta_.kind p1.meta_.kind) then
  (Q1as (Q11a p0) (Q11a p1))
 else
  false
def Q1xo (p0 : Node) (p1 : Node) : En := .call 18 [.agg (Node.cells p0), .agg (Node.cells p1)] []
def Q1on (p0 : Node) (p1 : Node) : Rs := .ret (.bool (Qze p0 p1)) []
def Q1gb (p0 : Node) (p1 : Node) : Prop := (Q1hu p0) ∧ (Q1hu p1) ∧ (Q18d (Q11a p0) (Q11a p1)) ∧ True
theorem Q1mu (p0 : Node) (p1 : Node) (H : Q1gb p0 p1) : Q7 G (Q1xo p0 p1) (Q1on p0 p1) := by
 unfold Q1on Qze
 cases h0 : (sEq p0.meta_.kind p1.meta_.kind) with
 | true =>
  exact Q8 (fn := Ir.K2k) rfl VOK.nil [hB 9 h0] [aN (Q1nv p0 H.1), aN (Q1nv p1 H.2.1), aN (Q1ow (Q11a p0) (Q11a p1) H.2.2.1)] (by kernel_rfl)
 | false =>
  exact Q8 (fn := Ir.K2k) rfl VOK.nil [hB 9 h0] [] (by kernel_rfl)
def Q12t (p0 : Template) (p1 : Template) : Bool :=
 (Q7w (Q12d p0) (Q12d p1))
def Q1xu (p0 : Template) (p1 : Template) : En := .call 19 [.agg (Template.cells p0), .agg (Template.cells p1)] []
def Q1of (p0 : Template) (p1 : Template) : Rs := .ret (.bool (Q12t p0 p1)) []
def Q1fp (p0 : Template) (p1 : Template) : Prop := (Q1gn p0) ∧ (Q1gn p1) ∧ (Q87 (Q12d p0)) ∧ True
theorem Q1pc (p0 : Template) (p1 : Template) (H : Q1fp p0 p1) : Q7 G (Q1xu p0 p1) (Q1of p0 p1) := by
 unfold Q1of Q12t
 exact Q8 (fn := Ir.K2n) rfl VOK.nil [] [aN (Q1pk p0 H.1), aN (Q1pk p1 H.2.1), aN (Q1i9 (Q12d p0) (Q12d p1) H.2.2.1)] (by kernel_rfl)
def Q15f : Ty := .st [.str, .str]
def Qv0 (x : Label) : Prop := okS x.key ∧ okS x.value
theorem Q19l {c : List PV} (h : Of Γ Q15f c) : ∃ x : Label, c = x.cells ∧ Qv0 x := by
  have g0 := h.st1
  obtain ⟨a0, b0, rfl, h0, g1⟩ := g0.Qy
  obtain ⟨x0, rfl, k0⟩ := h0.str1
  obtain ⟨a1, b1, rfl, h1, g2⟩ := g1.Qy
  obtain ⟨x1, rfl, k1⟩ := h1.str1
  have e := g2.empty
  subst e
  exact ⟨⟨x0, x1⟩, rfl, ⟨k0, k1⟩⟩
def Q13u : Ty := .st [.str, .str, .int .i64, .bool, .bool]
def Qwv (x : Owner) : Prop := okS x.kind ∧ okS x.name ∧ Q3r x.uid ∧ (fun _ : Bool => True) x.controller ∧ (fun _ : Bool => True) x.block
theorem Q19i {c : List PV} (h : Of Γ Q13u c) : ∃ x : Owner, c = x.cells ∧ Qwv x := by
  have g0 := h.st1
  obtain ⟨a0, b0, rfl, h0, g1⟩ := g0.Qy
  obtain ⟨x0, rfl, k0⟩ := h0.str1
  obtain ⟨a1, b1, rfl, h1, g2⟩ := g1.Qy
  obtain ⟨x1, rfl, k1⟩ := h1.str1
  obtain ⟨a2, b2, rfl, h2, g3⟩ := g2.Qy
  obtain ⟨x2, rfl, k2⟩ := h2.i64
  obtain ⟨a3, b3, rfl, h3, g4⟩ := g3.Qy
  obtain ⟨x3, rfl, k3⟩ := h3.bool2
  obtain ⟨a4, b4, rfl, h4, g5⟩ := g4.Qy
  obtain ⟨x4, rfl, k4⟩ := h4.bool2
  have e := g5.empty
  subst e
  exact ⟨⟨x0, x1, x2, x3, x4⟩, rfl, ⟨k0, k1, k2, k3, k4⟩⟩
def Qrn : Ty := .st [.str, .sl 16 .str]
def Qep (x : Manager) : Prop := okS x.name ∧ (okL 16 okS) x.fields
theorem Qxk {c : List PV} (h : Of Γ Qrn c) : ∃ x : Manager, c = x.cells ∧ Qep x := by
  have g0 := h.st1
  obtain ⟨a0, b0, rfl, h0, g1⟩ := g0.Qy
  obtain ⟨x0, rfl, k0⟩ := h0.str1
  obtain ⟨a1, b1, rfl, h1, g2⟩ := g1.Qy
  obtain ⟨x1, rfl, k1⟩ := (h1.sl1 (f := (fun s : ByteArray => [.str s])) (ok := okS) fun r hr => hr.str1)
  have e := g2.empty
  subst e
  exact ⟨⟨x0, x1⟩, rfl, ⟨k0, k1⟩⟩
def Q12v : Ty := .st [.str, .str, .str, .int .i64, .int .i64, .int .i64, .int .i64, .bool, .int .i64, .sl 32 Q15f, .sl 48 Q13u, .sl 16 .str, .sl 40 Qrn]
def Qav (x : Meta) : Prop := okS x.kind ∧ okS x.namespace_ ∧ okS x.name ∧ Q3r x.uid ∧ Q3r x.version ∧ Q3r x.generation ∧ Q3r x.created ∧ (fun _ : Bool => True) x.deleting ∧ Q3r x.deleteAt ∧ (okL 32 Qv0) x.labels ∧ (okL 48 Qwv) x.owners ∧ (okL 16 okS) x.finalizers ∧ (okL 40 Qep) x.managers
theorem Q10u {c : List PV} (h : Of Γ Q12v c) : ∃ x : Meta, c = x.cells ∧ Qav x := by
  have g0 := h.st1
  obtain ⟨a0, b0, rfl, h0, g1⟩ := g0.Qy
  obtain ⟨x0, rfl, k0⟩ := h0.str1
  obtain ⟨a1, b1, rfl, h1, g2⟩ := g1.Qy
  obtain ⟨x1, rfl, k1⟩ := h1.str1
  obtain ⟨a2, b2, rfl, h2, g3⟩ := g2.Qy
  obtain ⟨x2, rfl, k2⟩ := h2.str1
  obtain ⟨a3, b3, rfl, h3, g4⟩ := g3.Qy
  obtain ⟨x3, rfl, k3⟩ := h3.i64
  obtain ⟨a4, b4, rfl, h4, g5⟩ := g4.Qy
  obtain ⟨x4, rfl, k4⟩ := h4.i64
  obtain ⟨a5, b5, rfl, h5, g6⟩ := g5.Qy
  obtain ⟨x5, rfl, k5⟩ := h5.i64
  obtain ⟨a6, b6, rfl, h6, g7⟩ := g6.Qy
  obtain ⟨x6, rfl, k6⟩ := h6.i64
  obtain ⟨a7, b7, rfl, h7, g8⟩ := g7.Qy
  obtain ⟨x7, rfl, k7⟩ := h7.bool2
  obtain ⟨a8, b8, rfl, h8, g9⟩ := g8.Qy
  obtain ⟨x8, rfl, k8⟩ := h8.i64
  obtain ⟨a9, b9, rfl, h9, g10⟩ := g9.Qy
  obtain ⟨x9, rfl, k9⟩ := (h9.sl1 (f := Label.cells) (ok := Qv0) fun r hr => (Q19l hr))
  obtain ⟨a10, b10, rfl, h10, g11⟩ := g10.Qy
  obtain ⟨x10, rfl, k10⟩ := (h10.sl1 (f := Owner.cells) (ok := Qwv) fun r hr => (Q19i hr))
  obtain ⟨a11, b11, rfl, h11, g12⟩ := g11.Qy
  obtain ⟨x11, rfl, k11⟩ := (h11.sl1 (f := (fun s : ByteArray => [.str s])) (ok := okS) fun r hr => hr.str1)
  obtain ⟨a12, b12, rfl, h12, g13⟩ := g12.Qy
  obtain ⟨x12, rfl, k12⟩ := (h12.sl1 (f := Manager.cells) (ok := Qep) fun r hr => (Qxk hr))
  have e := g13.empty
  subst e
  exact ⟨⟨x0, x1, x2, x3, x4, x5, x6, x7, x8, x9, x10, x11, x12⟩, rfl, ⟨k0, k1, k2, k3, k4, k5, k6, k7, k8, k9, k10, k11, k12⟩⟩
def Q7k : Ty := .st [.int .i64, .int .i64, .int .i64]
def Q7a (x : Resources) : Prop := Q3r x.cPU ∧ Q3r x.memory ∧ Q3r x.disk
theorem Q82 {c : List PV} (h : Of Γ Q7k c) : ∃ x : Resources, c = x.cells ∧ Q7a x := by
  have g0 := h.st1
  obtain ⟨a0, b0, rfl, h0, g1⟩ := g0.Qy
  obtain ⟨x0, rfl, k0⟩ := h0.i64
  obtain ⟨a1, b1, rfl, h1, g2⟩ := g1.Qy
  obtain ⟨x1, rfl, k1⟩ := h1.i64
  obtain ⟨a2, b2, rfl, h2, g3⟩ := g2.Qy
  obtain ⟨x2, rfl, k2⟩ := h2.i64
  have e := g3.empty
  subst e
  exact ⟨⟨x0, x1, x2⟩, rfl, ⟨k0, k1, k2⟩⟩
def Qhv : Ty := .st [.int .i64, .int .i64, .int .i64, .int .i64]
def Q8m (x : Probe) : Prop := Q3r x.delay ∧ Q3r x.period ∧ Q3r x.success ∧ Q3r x.failure
theorem Qdv {c : List PV} (h : Of Γ Qhv c) : ∃ x : Probe, c = x.cells ∧ Q8m x := by
  have g0 := h.st1
  obtain ⟨a0, b0, rfl, h0, g1⟩ := g0.Qy
  obtain ⟨x0, rfl, k0⟩ := h0.i64
  obtain ⟨a1, b1, rfl, h1, g2⟩ := g1.Qy
  obtain ⟨x1, rfl, k1⟩ := h1.i64
  obtain ⟨a2, b2, rfl, h2, g3⟩ := g2.Qy
  obtain ⟨x2, rfl, k2⟩ := h2.i64
  obtain ⟨a3, b3, rfl, h3, g4⟩ := g3.Qy
  obtain ⟨x3, rfl, k3⟩ := h3.i64
  have e := g4.empty
  subst e
  exact ⟨⟨x0, x1, x2, x3⟩, rfl, ⟨k0, k1, k2, k3⟩⟩
def Qf0 : Ty := .st [.str, .str, Q7k, Q7k, .sl 32 Qhv, .sl 32 Qhv, .sl 32 Qhv]
def Q9b (x : Container) : Prop := okS x.name ∧ okS x.image ∧ Q7a x.request ∧ Q7a x.limit ∧ (okL 32 Q8m) x.live ∧ (okL 32 Q8m) x.ready ∧ (okL 32 Q8m) x.startup
theorem Qp1 {c : List PV} (h : Of Γ Qf0 c) : ∃ x : Container, c = x.cells ∧ Q9b x := by
  have g0 := h.st1
  obtain ⟨a0, b0, rfl, h0, g1⟩ := g0.Qy
  obtain ⟨x0, rfl, k0⟩ := h0.str1
  obtain ⟨a1, b1, rfl, h1, g2⟩ := g1.Qy
  obtain ⟨x1, rfl, k1⟩ := h1.str1
  obtain ⟨a2, b2, rfl, h2, g3⟩ := g2.Qy
  obtain ⟨x2, rfl, k2⟩ := (Q82 h2)
  obtain ⟨a3, b3, rfl, h3, g4⟩ := g3.Qy
  obtain ⟨x3, rfl, k3⟩ := (Q82 h3)
  obtain ⟨a4, b4, rfl, h4, g5⟩ := g4.Qy
  obtain ⟨x4, rfl, k4⟩ := (h4.sl1 (f := Probe.cells) (ok := Q8m) fun r hr => (Qdv hr))
  obtain ⟨a5, b5, rfl, h5, g6⟩ := g5.Qy
  obtain ⟨x5, rfl, k5⟩ := (h5.sl1 (f := Probe.cells) (ok := Q8m) fun r hr => (Qdv hr))
  obtain ⟨a6, b6, rfl, h6, g7⟩ := g6.Qy
  obtain ⟨x6, rfl, k6⟩ := (h6.sl1 (f := Probe.cells) (ok := Q8m) fun r hr => (Qdv hr))
  have e := g7.empty
  subst e
  exact ⟨⟨x0, x1, x2, x3, x4, x5, x6⟩, rfl, ⟨k0, k1, k2, k3, k4, k5, k6⟩⟩
def Q4o : Ty := .st [.str, .int .i64, .sl 16 .str]
def Q35 (x : Requirement) : Prop := okS x.key ∧ Q3r x.op ∧ (okL 16 okS) x.values
theorem Q4x {c : List PV} (h : Of Γ Q4o c) : ∃ x : Requirement, c = x.cells ∧ Q35 x := by
  have g0 := h.st1
  obtain ⟨a0, b0, rfl, h0, g1⟩ := g0.Qy
  obtain ⟨x0, rfl, k0⟩ := h0.str1
  obtain ⟨a1, b1, rfl, h1, g2⟩ := g1.Qy
  obtain ⟨x1, rfl, k1⟩ := h1.i64
  obtain ⟨a2, b2, rfl, h2, g3⟩ := g2.Qy
  obtain ⟨x2, rfl, k2⟩ := (h2.sl1 (f := (fun s : ByteArray => [.str s])) (ok := okS) fun r hr => hr.str1)
  have e := g3.empty
  subst e
  exact ⟨⟨x0, x1, x2⟩, rfl, ⟨k0, k1, k2⟩⟩
def Qjf : Ty := .st [.bool, .sl 48 Q4o, .int .i64]
def Qb4 (x : NodeTerm) : Prop := (fun _ : Bool => True) x.required ∧ (okL 48 Q35) x.selector ∧ Q3r x.weight
theorem Qwk {c : List PV} (h : Of Γ Qjf c) : ∃ x : NodeTerm, c = x.cells ∧ Qb4 x := by
  have g0 := h.st1
  obtain ⟨a0, b0, rfl, h0, g1⟩ := g0.Qy
  obtain ⟨x0, rfl, k0⟩ := h0.bool2
  obtain ⟨a1, b1, rfl, h1, g2⟩ := g1.Qy
  obtain ⟨x1, rfl, k1⟩ := (h1.sl1 (f := Requirement.cells) (ok := Q35) fun r hr => (Q4x hr))
  obtain ⟨a2, b2, rfl, h2, g3⟩ := g2.Qy
  obtain ⟨x2, rfl, k2⟩ := h2.i64
  have e := g3.empty
  subst e
  exact ⟨⟨x0, x1, x2⟩, rfl, ⟨k0, k1, k2⟩⟩
def Qpe : Ty := .st [.bool, .bool, .sl 48 Q4o, .str, .int .i64]
def Qe5 (x : PodTerm) : Prop := (fun _ : Bool => True) x.required ∧ (fun _ : Bool => True) x.anti ∧ (okL 48 Q35) x.selector ∧ okS x.topology ∧ Q3r x.weight
theorem Qz9 {c : List PV} (h : Of Γ Qpe c) : ∃ x : PodTerm, c = x.cells ∧ Qe5 x := by
  have g0 := h.st1
  obtain ⟨a0, b0, rfl, h0, g1⟩ := g0.Qy
  obtain ⟨x0, rfl, k0⟩ := h0.bool2
  obtain ⟨a1, b1, rfl, h1, g2⟩ := g1.Qy
  obtain ⟨x1, rfl, k1⟩ := h1.bool2
  obtain ⟨a2, b2, rfl, h2, g3⟩ := g2.Qy
  obtain ⟨x2, rfl, k2⟩ := (h2.sl1 (f := Requirement.cells) (ok := Q35) fun r hr => (Q4x hr))
  obtain ⟨a3, b3, rfl, h3, g4⟩ := g3.Qy
  obtain ⟨x3, rfl, k3⟩ := h3.str1
  obtain ⟨a4, b4, rfl, h4, g5⟩ := g4.Qy
  obtain ⟨x4, rfl, k4⟩ := h4.i64
  have e := g5.empty
  subst e
  exact ⟨⟨x0, x1, x2, x3, x4⟩, rfl, ⟨k0, k1, k2, k3, k4⟩⟩
def Qbw : Ty := .st [.int .i64, .str, .sl 48 Q4o, .bool]
def Q8l (x : SpreadRule) : Prop := Q3r x.maxSkew ∧ okS x.topology ∧ (okL 48 Q35) x.selector ∧ (fun _ : Bool => True) x.required
theorem Qoq {c : List PV} (h : Of Γ Qbw c) : ∃ x : SpreadRule, c = x.cells ∧ Q8l x := by
  have g0 := h.st1
  obtain ⟨a0, b0, rfl, h0, g1⟩ := g0.Qy
  obtain ⟨x0, rfl, k0⟩ := h0.i64
  obtain ⟨a1, b1, rfl, h1, g2⟩ := g1.Qy
  obtain ⟨x1, rfl, k1⟩ := h1.str1
  obtain ⟨a2, b2, rfl, h2, g3⟩ := g2.Qy
  obtain ⟨x2, rfl, k2⟩ := (h2.sl1 (f := Requirement.cells) (ok := Q35) fun r hr => (Q4x hr))
  obtain ⟨a3, b3, rfl, h3, g4⟩ := g3.Qy
  obtain ⟨x3, rfl, k3⟩ := h3.bool2
  have e := g4.empty
  subst e
  exact ⟨⟨x0, x1, x2, x3⟩, rfl, ⟨k0, k1, k2, k3⟩⟩
def Qci : Ty := .st [.str, .str, .bool, .int .i64, .int .i64]
def Q8n (x : Toleration) : Prop := okS x.key ∧ okS x.value ∧ (fun _ : Bool => True) x.exists_ ∧ Q3r x.effect ∧ Q3r x.seconds
theorem Qlb {c : List PV} (h : Of Γ Qci c) : ∃ x : Toleration, c = x.cells ∧ Q8n x := by
  have g0 := h.st1
  obtain ⟨a0, b0, rfl, h0, g1⟩ := g0.Qy
  obtain ⟨x0, rfl, k0⟩ := h0.str1
  obtain ⟨a1, b1, rfl, h1, g2⟩ := g1.Qy
  obtain ⟨x1, rfl, k1⟩ := h1.str1
  obtain ⟨a2, b2, rfl, h2, g3⟩ := g2.Qy
  obtain ⟨x2, rfl, k2⟩ := h2.bool2
  obtain ⟨a3, b3, rfl, h3, g4⟩ := g3.Qy
  obtain ⟨x3, rfl, k3⟩ := h3.i64
  obtain ⟨a4, b4, rfl, h4, g5⟩ := g4.Qy
  obtain ⟨x4, rfl, k4⟩ := h4.i64
  have e := g5.empty
  subst e
  exact ⟨⟨x0, x1, x2, x3, x4⟩, rfl, ⟨k0, k1, k2, k3, k4⟩⟩
def Qrr : Ty := .st [.str, .int .i64, .int .i64, .int .i64, .sl 152 Qf0, .sl 48 Q4o, .sl 40 Qjf, .sl 56 Qpe, .sl 56 Qbw, .sl 56 Qci]
def Qrk (x : PodSpec) : Prop := okS x.node ∧ Q3r x.priority ∧ Q3r x.restart ∧ Q3r x.grace ∧ (okL 152 Q9b) x.containers ∧ (okL 48 Q35) x.nodeSelector ∧ (okL 40 Qb4) x.nodeTerms ∧ (okL 56 Qe5) x.podTerms ∧ (okL 56 Q8l) x.spread ∧ (okL 56 Q8n) x.tolerations
theorem Qzh {c : List PV} (h : Of Γ Qrr c) : ∃ x : PodSpec, c = x.cells ∧ Qrk x := by
  have g0 := h.st1
  obtain ⟨a0, b0, rfl, h0, g1⟩ := g0.Qy
  obtain ⟨x0, rfl, k0⟩ := h0.str1
  obtain ⟨a1, b1, rfl, h1, g2⟩ := g1.Qy
  obtain ⟨x1, rfl, k1⟩ := h1.i64
  obtain ⟨a2, b2, rfl, h2, g3⟩ := g2.Qy
  obtain ⟨x2, rfl, k2⟩ := h2.i64
  obtain ⟨a3, b3, rfl, h3, g4⟩ := g3.Qy
  obtain ⟨x3, rfl, k3⟩ := h3.i64
  obtain ⟨a4, b4, rfl, h4, g5⟩ := g4.Qy
  obtain ⟨x4, rfl, k4⟩ := (h4.sl1 (f := Container.cells) (ok := Q9b) fun r hr => (Qp1 hr))
  obtain ⟨a5, b5, rfl, h5, g6⟩ := g5.Qy
  obtain ⟨x5, rfl, k5⟩ := (h5.sl1 (f := Requirement.cells) (ok := Q35) fun r hr => (Q4x hr))
  obtain ⟨a6, b6, rfl, h6, g7⟩ := g6.Qy
  obtain ⟨x6, rfl, k6⟩ := (h6.sl1 (f := NodeTerm.cells) (ok := Qb4) fun r hr => (Qwk hr))
  obtain ⟨a7, b7, rfl, h7, g8⟩ := g7.Qy
  obtain ⟨x7, rfl, k7⟩ := (h7.sl1 (f := PodTerm.cells) (ok := Qe5) fun r hr => (Qz9 hr))
  obtain ⟨a8, b8, rfl, h8, g9⟩ := g8.Qy
  obtain ⟨x8, rfl, k8⟩ := (h8.sl1 (f := SpreadRule.cells) (ok := Q8l) fun r hr => (Qoq hr))
  obtain ⟨a9, b9, rfl, h9, g10⟩ := g9.Qy
  obtain ⟨x9, rfl, k9⟩ := (h9.sl1 (f := Toleration.cells) (ok := Q8n) fun r hr => (Qlb hr))
  have e := g10.empty
  subst e
  exact ⟨⟨x0, x1, x2, x3, x4, x5, x6, x7, x8, x9⟩, rfl, ⟨k0, k1, k2, k3, k4, k5, k6, k7, k8, k9⟩⟩
def Q7f : Ty := .st [.str, .int .i64, .int .i64, .int .i64, .int .i64, .bool, .bool]
def Q5u (x : ContainerStatus) : Prop := okS x.name ∧ Q3r x.state ∧ Q3r x.restarts ∧ Q3r x.exitCode ∧ Q3r x.since ∧ (fun _ : Bool => True) x.ready ∧ (fun _ : Bool => True) x.started
theorem Qap {c : List PV} (h : Of Γ Q7f c) : ∃ x : ContainerStatus, c = x.cells ∧ Q5u x := by
  have g0 := h.st1
  obtain ⟨a0, b0, rfl, h0, g1⟩ := g0.Qy
  obtain ⟨x0, rfl, k0⟩ := h0.str1
  obtain ⟨a1, b1, rfl, h1, g2⟩ := g1.Qy
  obtain ⟨x1, rfl, k1⟩ := h1.i64
  obtain ⟨a2, b2, rfl, h2, g3⟩ := g2.Qy
  obtain ⟨x2, rfl, k2⟩ := h2.i64
  obtain ⟨a3, b3, rfl, h3, g4⟩ := g3.Qy
  obtain ⟨x3, rfl, k3⟩ := h3.i64
  obtain ⟨a4, b4, rfl, h4, g5⟩ := g4.Qy
  obtain ⟨x4, rfl, k4⟩ := h4.i64
  obtain ⟨a5, b5, rfl, h5, g6⟩ := g5.Qy
  obtain ⟨x5, rfl, k5⟩ := h5.bool2
  obtain ⟨a6, b6, rfl, h6, g7⟩ := g6.Qy
  obtain ⟨x6, rfl, k6⟩ := h6.bool2
  have e := g7.empty
  subst e
  exact ⟨⟨x0, x1, x2, x3, x4, x5, x6⟩, rfl, ⟨k0, k1, k2, k3, k4, k5, k6⟩⟩
def Qf1 : Ty := .st [.int .i64, .bool, .int .i64, .int .i64, .int .i64, .sl 56 Q7f, .int .i64, .str, .str]
def Qey (x : PodStatus) : Prop := Q3r x.phase ∧ (fun _ : Bool => True) x.ready ∧ Q3r x.readySince ∧ Q3r x.started ∧ Q3r x.finished ∧ (okL 56 Q5u) x.containers ∧ Q3r x.address ∧ okS x.nominated ∧ okS x.reason
theorem Qoy {c : List PV} (h : Of Γ Qf1 c) : ∃ x : PodStatus, c = x.cells ∧ Qey x := by
  have g0 := h.st1
  obtain ⟨a0, b0, rfl, h0, g1⟩ := g0.Qy
  obtain ⟨x0, rfl, k0⟩ := h0.i64
  obtain ⟨a1, b1, rfl, h1, g2⟩ := g1.Qy
  obtain ⟨x1, rfl, k1⟩ := h1.bool2
  obtain ⟨a2, b2, rfl, h2, g3⟩ := g2.Qy
  obtain ⟨x2, rfl, k2⟩ := h2.i64
  obtain ⟨a3, b3, rfl, h3, g4⟩ := g3.Qy
  obtain ⟨x3, rfl, k3⟩ := h3.i64
  obtain ⟨a4, b4, rfl, h4, g5⟩ := g4.Qy
  obtain ⟨x4, rfl, k4⟩ := h4.i64
  obtain ⟨a5, b5, rfl, h5, g6⟩ := g5.Qy
  obtain ⟨x5, rfl, k5⟩ := (h5.sl1 (f := ContainerStatus.cells) (ok := Q5u) fun r hr => (Qap hr))
  obtain ⟨a6, b6, rfl, h6, g7⟩ := g6.Qy
  obtain ⟨x6, rfl, k6⟩ := h6.i64
  obtain ⟨a7, b7, rfl, h7, g8⟩ := g7.Qy
  obtain ⟨x7, rfl, k7⟩ := h7.str1
  obtain ⟨a8, b8, rfl, h8, g9⟩ := g8.Qy
  obtain ⟨x8, rfl, k8⟩ := h8.str1
  have e := g9.empty
  subst e
  exact ⟨⟨x0, x1, x2, x3, x4, x5, x6, x7, x8⟩, rfl, ⟨k0, k1, k2, k3, k4, k5, k6, k7, k8⟩⟩
def Q1je : Ty := .st [Q12v, Qrr, Qf1]
def Q1ex (x : Pod) : Prop := Qav x.meta_ ∧ Qrk x.spec ∧ Qey x.status
theorem Q1gx {c : List PV} (h : Of Γ Q1je c) : ∃ x : Pod, c = x.cells ∧ Q1ex x := by
  have g0 := h.st1
  obtain ⟨a0, b0, rfl, h0, g1⟩ := g0.Qy
  obtain ⟨x0, rfl, k0⟩ := (Q10u h0)
  obtain ⟨a1, b1, rfl, h1, g2⟩ := g1.Qy
  obtain ⟨x1, rfl, k1⟩ := (Qzh h1)
  obtain ⟨a2, b2, rfl, h2, g3⟩ := g2.Qy
  obtain ⟨x2, rfl, k2⟩ := (Qoy h2)
  have e := g3.empty
  subst e
  exact ⟨⟨x0, x1, x2⟩, rfl, ⟨k0, k1, k2⟩⟩
def Q16g : Ty := .st [.str, .str, .int .i64, .int .i64]
def Qwl (x : Taint) : Prop := okS x.key ∧ okS x.value ∧ Q3r x.effect ∧ Q3r x.since
theorem Q17r {c : List PV} (h : Of Γ Q16g c) : ∃ x : Taint, c = x.cells ∧ Qwl x := by
  have g0 := h.st1
  obtain ⟨a0, b0, rfl, h0, g1⟩ := g0.Qy
  obtain ⟨x0, rfl, k0⟩ := h0.str1
  obtain ⟨a1, b1, rfl, h1, g2⟩ := g1.Qy
  obtain ⟨x1, rfl, k1⟩ := h1.str1
  obtain ⟨a2, b2, rfl, h2, g3⟩ := g2.Qy
  obtain ⟨x2, rfl, k2⟩ := h2.i64
  obtain ⟨a3, b3, rfl, h3, g4⟩ := g3.Qy
  obtain ⟨x3, rfl, k3⟩ := h3.i64
  have e := g4.empty
  subst e
  exact ⟨⟨x0, x1, x2, x3⟩, rfl, ⟨k0, k1, k2, k3⟩⟩
def Q16v : Ty := .st [.str, .int .i64, .int .i64]
def Qwc (x : Image) : Prop := okS x.name ∧ Q3r x.size ∧ Q3r x.used
theorem Q1ac {c : List PV} (h : Of Γ Q16v c) : ∃ x : Image, c = x.cells ∧ Qwc x := by
  have g0 := h.st1
  obtain ⟨a0, b0, rfl, h0, g1⟩ := g0.Qy
  obtain ⟨x0, rfl, k0⟩ := h0.str1
  obtain ⟨a1, b1, rfl, h1, g2⟩ := g1.Qy
  obtain ⟨x1, rfl, k1⟩ := h1.i64
  obtain ⟨a2, b2, rfl, h2, g3⟩ := g2.Qy
  obtain ⟨x2, rfl, k2⟩ := h2.i64
  have e := g3.empty
  subst e
  exact ⟨⟨x0, x1, x2⟩, rfl, ⟨k0, k1, k2⟩⟩
def Q1fk : Ty := .st [Q12v, Q7k, .int .i64, .bool, .sl 48 Q16g, .bool, .int .i64, .bool, .bool, .sl 32 Q16v]
def Q13a (x : Node) : Prop := Qav x.meta_ ∧ Q7a x.capacity ∧ Q3r x.maxPods ∧ (fun _ : Bool => True) x.cordoned ∧ (okL 48 Qwl) x.taints ∧ (fun _ : Bool => True) x.ready ∧ Q3r x.beat ∧ (fun _ : Bool => True) x.lowMem ∧ (fun _ : Bool => True) x.lowDisk ∧ (okL 32 Qwc) x.images
theorem Q1dl {c : List PV} (h : Of Γ Q1fk c) : ∃ x : Node, c = x.cells ∧ Q13a x := by
  have g0 := h.st1
  obtain ⟨a0, b0, rfl, h0, g1⟩ := g0.Qy
  obtain ⟨x0, rfl, k0⟩ := (Q10u h0)
  obtain ⟨a1, b1, rfl, h1, g2⟩ := g1.Qy
  obtain ⟨x1, rfl, k1⟩ := (Q82 h1)
  obtain ⟨a2, b2, rfl, h2, g3⟩ := g2.Qy
  obtain ⟨x2, rfl, k2⟩ := h2.i64
  obtain ⟨a3, b3, rfl, h3, g4⟩ := g3.Qy
  obtain ⟨x3, rfl, k3⟩ := h3.bool2
  obtain ⟨a4, b4, rfl, h4, g5⟩ := g4.Qy
  obtain ⟨x4, rfl, k4⟩ := (h4.sl1 (f := Taint.cells) (ok := Qwl) fun r hr => (Q17r hr))
  obtain ⟨a5, b5, rfl, h5, g6⟩ := g5.Qy
  obtain ⟨x5, rfl, k5⟩ := h5.bool2
  obtain ⟨a6, b6, rfl, h6, g7⟩ := g6.Qy
  obtain ⟨x6, rfl, k6⟩ := h6.i64
  obtain ⟨a7, b7, rfl, h7, g8⟩ := g7.Qy
  obtain ⟨x7, rfl, k7⟩ := h7.bool2
  obtain ⟨a8, b8, rfl, h8, g9⟩ := g8.Qy
  obtain ⟨x8, rfl, k8⟩ := h8.bool2
  obtain ⟨a9, b9, rfl, h9, g10⟩ := g9.Qy
  obtain ⟨x9, rfl, k9⟩ := (h9.sl1 (f := Image.cells) (ok := Qwc) fun r hr => (Q1ac hr))
  have e := g10.empty
  subst e
  exact ⟨⟨x0, x1, x2, x3, x4, x5, x6, x7, x8, x9⟩, rfl, ⟨k0, k1, k2, k3, k4, k5, k6, k7, k8, k9⟩⟩
def Q9h (_N : Nat) (_x : Probe) : Prop := True
theorem Qbf {N : Nat} {x : Probe} (_h : CapL N x.cells) : Q9h N x := trivial
theorem Probe.Q3c {N : Nat} (_ : N ≤ sB) {x : Probe} (_ : Q9h N x) : Probe.sm x := trivial
def Q5t (_N : Nat) (_x : Resources) : Prop := True
theorem Q6z {N : Nat} {x : Resources} (_h : CapL N x.cells) : Q5t N x := trivial
theorem Resources.Q3c {N : Nat} (_ : N ≤ sB) {x : Resources} (_ : Q5t N x) : Resources.sm x := trivial
def Q8k (N : Nat) (x : Container) : Prop := (fun s : ByteArray => s.size ≤ N) x.name ∧ (fun s : ByteArray => s.size ≤ N) x.image ∧ (Q5t N) x.request ∧ (Q5t N) x.limit ∧ (fun l : List Probe => l.length ≤ N ∧ ∀ x ∈ l, (Q9h N) x) x.live ∧ (fun l : List Probe => l.length ≤ N ∧ ∀ x ∈ l, (Q9h N) x) x.ready ∧ (fun l : List Probe => l.length ≤ N ∧ ∀ x ∈ l, (Q9h N) x) x.startup
theorem Qo6 {N : Nat} {x : Container} (h : CapL N x.cells) : Q8k N x := ⟨(let g : CapL N [.str x.name] := fun p hp => h p (by simp only [List.mem_cons, List.not_mem_nil, or_false] at hp; rcases hp with rfl <;> simp [Container.cells]); (g _ List.mem_cons_self).strI), (let g : CapL N [.str x.image] := fun p hp => h p (by simp only [List.mem_cons, List.not_mem_nil, or_false] at hp; rcases hp with rfl <;> simp [Container.cells]); (g _ List.mem_cons_self).strI), (let g : CapL N [.int .i64 x.request.cPU, .int .i64 x.request.memory, .int .i64 x.request.disk] := fun p hp => h p (by simp only [List.mem_cons, List.not_mem_nil, or_false] at hp; rcases hp with rfl | rfl | rfl <;> simp [Container.cells]); (Q6z g)), (let g : CapL N [.int .i64 x.limit.cPU, .int .i64 x.limit.memory, .int .i64 x.limit.disk] := fun p hp => h p (by simp only [List.mem_cons, List.not_mem_nil, or_false] at hp; rcases hp with rfl | rfl | rfl <;> simp [Container.cells]); (Q6z g)), (let g : CapL N [.sl (Probe.rows x.live)] := fun p hp => h p (by simp only [List.mem_cons, List.not_mem_nil, or_false] at hp; rcases hp with rfl <;> simp [Container.cells]); (let r := Cap.Q7y (f := Probe.cells) (g _ List.mem_cons_self); ⟨r.1, fun x hx => (Qbf (r.2 x hx))⟩)), (let g : CapL N [.sl (Probe.rows x.ready)] := fun p hp => h p (by simp only [List.mem_cons, List.not_mem_nil, or_false] at hp; rcases hp with rfl <;> simp [Container.cells]); (let r := Cap.Q7y (f := Probe.cells) (g _ List.mem_cons_self); ⟨r.1, fun x hx => (Qbf (r.2 x hx))⟩)), (let g : CapL N [.sl (Probe.rows x.startup)] := fun p hp => h p (by simp only [List.mem_cons, List.not_mem_nil, or_false] at hp; rcases hp with rfl <;> simp [Container.cells]); (let r := Cap.Q7y (f := Probe.cells) (g _ List.mem_cons_self); ⟨r.1, fun x hx => (Qbf (r.2 x hx))⟩))⟩
theorem Container.Q3c {N : Nat} (hN : N ≤ sB) {x : Container} (c : Q8k N x) : Container.sm x := ⟨Resources.Q3c hN c.2.2.1, Resources.Q3c hN c.2.2.2.1, ⟨Nat.le_trans c.2.2.2.2.1.1 hN, fun _ hx => Probe.Q3c hN (c.2.2.2.2.1.2 _ hx)⟩, ⟨Nat.le_trans c.2.2.2.2.2.1.1 hN, fun _ hx => Probe.Q3c hN (c.2.2.2.2.2.1.2 _ hx)⟩, ⟨Nat.le_trans c.2.2.2.2.2.2.1 hN, fun _ hx => Probe.Q3c hN (c.2.2.2.2.2.2.2 _ hx)⟩, trivial⟩
def Q3v (N : Nat) (x : Requirement) : Prop := (fun s : ByteArray => s.size ≤ N) x.key ∧ (fun l : List ByteArray => l.length ≤ N ∧ ∀ x ∈ l, (fun s : ByteArray => s.size ≤ N) x) x.values
theorem Q4b {N : Nat} {x : Requirement} (h : CapL N x.cells) : Q3v N x := ⟨(let g : CapL N [.str x.key] := fun p hp => h p (by simp only [List.mem_cons, List.not_mem_nil, or_false] at hp; rcases hp with rfl <;> simp [Requirement.cells]); (g _ List.mem_cons_self).strI), (let g : CapL N [.sl (Qj x.values)] := fun p hp => h p (by simp only [List.mem_cons, List.not_mem_nil, or_false] at hp; rcases hp with rfl <;> simp [Requirement.cells]); (let r := Cap.Q7y (f := (fun s : ByteArray => [.str s])) (g _ List.mem_cons_self); ⟨r.1, fun x hx => ((r.2 x hx) _ List.mem_cons_self).strI⟩))⟩
theorem Requirement.Q3c {N : Nat} (hN : N ≤ sB) {x : Requirement} (c : Q3v N x) : Requirement.sm x := ⟨⟨Nat.le_trans c.2.1 hN, fun _ _hx => trivial⟩, trivial⟩
def Q9f (N : Nat) (x : NodeTerm) : Prop := (fun l : List Requirement => l.length ≤ N ∧ ∀ x ∈ l, (Q3v N) x) x.selector
theorem Qp3 {N : Nat} {x : NodeTerm} (h : CapL N x.cells) : Q9f N x := (let g : CapL N [.sl (Requirement.rows x.selector)] := fun p hp => h p (by simp only [List.mem_cons, List.not_mem_nil, or_false] at hp; rcases hp with rfl <;> simp [NodeTerm.cells]); (let r := Cap.Q7y (f := Requirement.cells) (g _ List.mem_cons_self); ⟨r.1, fun x hx => (Q4b (r.2 x hx))⟩))
theorem NodeTerm.Q3c {N : Nat} (hN : N ≤ sB) {x : NodeTerm} (c : Q9f N x) : NodeTerm.sm x := ⟨⟨Nat.le_trans c.1 hN, fun _ hx => Requirement.Q3c hN (c.2 _ hx)⟩, trivial⟩
def Qbb (N : Nat) (x : PodTerm) : Prop := (fun l : List Requirement => l.length ≤ N ∧ ∀ x ∈ l, (Q3v N) x) x.selector ∧ (fun s : ByteArray => s.size ≤ N) x.topology
theorem Qv6 {N : Nat} {x : PodTerm} (h : CapL N x.cells) : Qbb N x := ⟨(let g : CapL N [.sl (Requirement.rows x.selector)] := fun p hp => h p (by simp only [List.mem_cons, List.not_mem_nil, or_false] at hp; rcases hp with rfl <;> simp [PodTerm.cells]); (let r := Cap.Q7y (f := Requirement.cells) (g _ List.mem_cons_self); ⟨r.1, fun x hx => (Q4b (r.2 x hx))⟩)), (let g : CapL N [.str x.topology] := fun p hp => h p (by simp only [List.mem_cons, List.not_mem_nil, or_false] at hp; rcases hp with rfl <;> simp [PodTerm.cells]); (g _ List.mem_cons_self).strI)⟩
theorem PodTerm.Q3c {N : Nat} (hN : N ≤ sB) {x : PodTerm} (c : Qbb N x) : PodTerm.sm x := ⟨⟨Nat.le_trans c.1.1 hN, fun _ hx => Requirement.Q3c hN (c.1.2 _ hx)⟩, trivial⟩
def Q7u (N : Nat) (x : SpreadRule) : Prop := (fun s : ByteArray => s.size ≤ N) x.topology ∧ (fun l : List Requirement => l.length ≤ N ∧ ∀ x ∈ l, (Q3v N) x) x.selector
theorem Qfg {N : Nat} {x : SpreadRule} (h : CapL N x.cells) : Q7u N x := ⟨(let g : CapL N [.str x.topology] := fun p hp => h p (by simp only [List.mem_cons, List.not_mem_nil, or_false] at hp; rcases hp with rfl <;> simp [SpreadRule.cells]); (g _ List.mem_cons_self).strI), (let g : CapL N [.sl (Requirement.rows x.selector)] := fun p hp => h p (by simp only [List.mem_cons, List.not_mem_nil, or_false] at hp; rcases hp with rfl <;> simp [SpreadRule.cells]); (let r := Cap.Q7y (f := Requirement.cells) (g _ List.mem_cons_self); ⟨r.1, fun x hx => (Q4b (r.2 x hx))⟩))⟩
theorem SpreadRule.Q3c {N : Nat} (hN : N ≤ sB) {x : SpreadRule} (c : Q7u N x) : SpreadRule.sm x := ⟨⟨Nat.le_trans c.2.1 hN, fun _ hx => Requirement.Q3c hN (c.2.2 _ hx)⟩, trivial⟩
def Q80 (N : Nat) (x : Toleration) : Prop := (fun s : ByteArray => s.size ≤ N) x.key ∧ (fun s : ByteArray => s.size ≤ N) x.value
theorem Qf9 {N : Nat} {x : Toleration} (h : CapL N x.cells) : Q80 N x := ⟨(let g : CapL N [.str x.key] := fun p hp => h p (by simp only [List.mem_cons, List.not_mem_nil, or_false] at hp; rcases hp with rfl <;> simp [Toleration.cells]); (g _ List.mem_cons_self).strI), (let g : CapL N [.str x.value] := fun p hp => h p (by simp only [List.mem_cons, List.not_mem_nil, or_false] at hp; rcases hp with rfl <;> simp [Toleration.cells]); (g _ List.mem_cons_self).strI)⟩
theorem Toleration.Q3c {N : Nat} (_ : N ≤ sB) {x : Toleration} (_ : Q80 N x) : Toleration.sm x := trivial
def Q8q (N : Nat) (x : PodSpec) : Prop := (fun s : ByteArray => s.size ≤ N) x.node ∧ (fun l : List Container => l.length ≤ N ∧ ∀ x ∈ l, (Q8k N) x) x.containers ∧ (fun l : List Requirement => l.length ≤ N ∧ ∀ x ∈ l, (Q3v N) x) x.nodeSelector ∧ (fun l : List NodeTerm => l.length ≤ N ∧ ∀ x ∈ l, (Q9f N) x) x.nodeTerms ∧ (fun l : List PodTerm => l.length ≤ N ∧ ∀ x ∈ l, (Qbb N) x) x.podTerms ∧ (fun l : List SpreadRule => l.length ≤ N ∧ ∀ x ∈ l, (Q7u N) x) x.spread ∧ (fun l : List Toleration => l.length ≤ N ∧ ∀ x ∈ l, (Q80 N) x) x.tolerations
theorem Qwn {N : Nat} {x : PodSpec} (h : CapL N x.cells) : Q8q N x := ⟨(let g : CapL N [.str x.node] := fun p hp => h p (by simp only [List.mem_cons, List.not_mem_nil, or_false] at hp; rcases hp with rfl <;> simp [PodSpec.cells]); (g _ List.mem_cons_self).strI), (let g : CapL N [.sl (Container.rows x.containers)] := fun p hp => h p (by simp only [List.mem_cons, List.not_mem_nil, or_false] at hp; rcases hp with rfl <;> simp [PodSpec.cells]); (let r := Cap.Q7y (f := Container.cells) (g _ List.mem_cons_self); ⟨r.1, fun x hx => (Qo6 (r.2 x hx))⟩)), (let g : CapL N [.sl (Requirement.rows x.nodeSelector)] := fun p hp => h p (by simp only [List.mem_cons, List.not_mem_nil, or_false] at hp; rcases hp with rfl <;> simp [PodSpec.cells]); (let r := Cap.Q7y (f := Requirement.cells) (g _ List.mem_cons_self); ⟨r.1, fun x hx => (Q4b (r.2 x hx))⟩)), (let g : CapL N [.sl (NodeTerm.rows x.nodeTerms)] := fun p hp => h p (by simp only [List.mem_cons, List.not_mem_nil, or_false] at hp; rcases hp with rfl <;> simp [PodSpec.cells]); (let r := Cap.Q7y (f := NodeTerm.cells) (g _ List.mem_cons_self); ⟨r.1, fun x hx => (Qp3 (r.2 x hx))⟩)), (let g : CapL N [.sl (PodTerm.rows x.podTerms)] := fun p hp => h p (by simp only [List.mem_cons, List.not_mem_nil, or_false] at hp; rcases hp with rfl <;> simp [PodSpec.cells]); (let r := Cap.Q7y (f := PodTerm.cells) (g _ List.mem_cons_self); ⟨r.1, fun x hx => (Qv6 (r.2 x hx))⟩)), (let g : CapL N [.sl (SpreadRule.rows x.spread)] := fun p hp => h p (by simp only [List.mem_cons, List.not_mem_nil, or_false] at hp; rcases hp with rfl <;> simp [PodSpec.cells]); (let r := Cap.Q7y (f := SpreadRule.cells) (g _ List.mem_cons_self); ⟨r.1, fun x hx => (Qfg (r.2 x hx))⟩)), (let g : CapL N [.sl (Toleration.rows x.tolerations)] := fun p hp => h p (by simp only [List.mem_cons, List.not_mem_nil, or_false] at hp; rcases hp with rfl <;> simp [PodSpec.cells]); (let r := Cap.Q7y (f := Toleration.cells) (g _ List.mem_cons_self); ⟨r.1, fun x hx => (Qf9 (r.2 x hx))⟩))⟩
theorem PodSpec.Q3c {N : Nat} (hN : N ≤ sB) {x : PodSpec} (c : Q8q N x) : PodSpec.sm x := ⟨⟨Nat.le_trans c.2.1.1 hN, fun _ hx => Container.Q3c hN (c.2.1.2 _ hx)⟩, ⟨Nat.le_trans c.2.2.1.1 hN, fun _ hx => Requirement.Q3c hN (c.2.2.1.2 _ hx)⟩, ⟨Nat.le_trans c.2.2.2.1.1 hN, fun _ hx => NodeTerm.Q3c hN (c.2.2.2.1.2 _ hx)⟩, ⟨Nat.le_trans c.2.2.2.2.1.1 hN, fun _ hx => PodTerm.Q3c hN (c.2.2.2.2.1.2 _ hx)⟩, ⟨Nat.le_trans c.2.2.2.2.2.1.1 hN, fun _ hx => SpreadRule.Q3c hN (c.2.2.2.2.2.1.2 _ hx)⟩, ⟨Nat.le_trans c.2.2.2.2.2.2.1 hN, fun _ hx => Toleration.Q3c hN (c.2.2.2.2.2.2.2 _ hx)⟩, trivial⟩
def Q5k (N : Nat) (x : ContainerStatus) : Prop := (fun s : ByteArray => s.size ≤ N) x.name
theorem Q9n {N : Nat} {x : ContainerStatus} (h : CapL N x.cells) : Q5k N x := (let g : CapL N [.str x.name] := fun p hp => h p (by simp only [List.mem_cons, List.not_mem_nil, or_false] at hp; rcases hp with rfl <;> simp [ContainerStatus.cells]); (g _ List.mem_cons_self).strI)
theorem ContainerStatus.Q3c {N : Nat} (_ : N ≤ sB) {x : ContainerStatus} (_ : Q5k N x) : ContainerStatus.sm x := trivial
def Q8s (N : Nat) (x : PodStatus) : Prop := (fun l : List ContainerStatus => l.length ≤ N ∧ ∀ x ∈ l, (Q5k N) x) x.containers ∧ (fun s : ByteArray => s.size ≤ N) x.nominated ∧ (fun s : ByteArray => s.size ≤ N) x.reason
theorem Qk4 {N : Nat} {x : PodStatus} (h : CapL N x.cells) : Q8s N x := ⟨(let g : CapL N [.sl (ContainerStatus.rows x.containers)] := fun p hp => h p (by simp only [List.mem_cons, List.not_mem_nil, or_false] at hp; rcases hp with rfl <;> simp [PodStatus.cells]); (let r := Cap.Q7y (f := ContainerStatus.cells) (g _ List.mem_cons_self); ⟨r.1, fun x hx => (Q9n (r.2 x hx))⟩)), (let g : CapL N [.str x.nominated] := fun p hp => h p (by simp only [List.mem_cons, List.not_mem_nil, or_false] at hp; rcases hp with rfl <;> simp [PodStatus.cells]); (g _ List.mem_cons_self).strI), (let g : CapL N [.str x.reason] := fun p hp => h p (by simp only [List.mem_cons, List.not_mem_nil, or_false] at hp; rcases hp with rfl <;> simp [PodStatus.cells]); (g _ List.mem_cons_self).strI)⟩
theorem PodStatus.Q3c {N : Nat} (hN : N ≤ sB) {x : PodStatus} (c : Q8s N x) : PodStatus.sm x := ⟨⟨Nat.le_trans c.1.1 hN, fun _ hx => ContainerStatus.Q3c hN (c.1.2 _ hx)⟩, trivial⟩
def Qo3 (N : Nat) (x : Taint) : Prop := (fun s : ByteArray => s.size ≤ N) x.key ∧ (fun s : ByteArray => s.size ≤ N) x.value
theorem Q13h {N : Nat} {x : Taint} (h : CapL N x.cells) : Qo3 N x := ⟨(let g : CapL N [.str x.key] := fun p hp => h p (by simp only [List.mem_cons, List.not_mem_nil, or_false] at hp; rcases hp with rfl <;> simp [Taint.cells]); (g _ List.mem_cons_self).strI), (let g : CapL N [.str x.value] := fun p hp => h p (by simp only [List.mem_cons, List.not_mem_nil, or_false] at hp; rcases hp with rfl <;> simp [Taint.cells]); (g _ List.mem_cons_self).strI)⟩
theorem Taint.Q3c {N : Nat} (_ : N ≤ sB) {x : Taint} (_ : Qo3 N x) : Taint.sm x := trivial
def Qiw (N : Nat) (x : Image) : Prop := (fun s : ByteArray => s.size ≤ N) x.name
theorem Q13f {N : Nat} {x : Image} (h : CapL N x.cells) : Qiw N x := (let g : CapL N [.str x.name] := fun p hp => h p (by simp only [List.mem_cons, List.not_mem_nil, or_false] at hp; rcases hp with rfl <;> simp [Image.cells]); (g _ List.mem_cons_self).strI)
theorem Image.Q3c {N : Nat} (_ : N ≤ sB) {x : Image} (_ : Qiw N x) : Image.sm x := trivial
def Qc6 (N : Nat) (x : Label) : Prop := (fun s : ByteArray => s.size ≤ N) x.key ∧ (fun s : ByteArray => s.size ≤ N) x.value
theorem Q12m {N : Nat} {x : Label} (h : CapL N x.cells) : Qc6 N x := ⟨(let g : CapL N [.str x.key] := fun p hp => h p (by simp only [List.mem_cons, List.not_mem_nil, or_false] at hp; rcases hp with rfl <;> simp [Label.cells]); (g _ List.mem_cons_self).strI), (let g : CapL N [.str x.value] := fun p hp => h p (by simp only [List.mem_cons, List.not_mem_nil, or_false] at hp; rcases hp with rfl <;> simp [Label.cells]); (g _ List.mem_cons_self).strI)⟩
theorem Label.Q3c {N : Nat} (_ : N ≤ sB) {x : Label} (_ : Qc6 N x) : Label.sm x := trivial
def Qy2 (N : Nat) (x : Template) : Prop := (fun l : List Label => l.length ≤ N ∧ ∀ x ∈ l, (Qc6 N) x) x.labels ∧ (Q8q N) x.spec
theorem Template.Q3c {N : Nat} (hN : N ≤ sB) {x : Template} (c : Qy2 N x) : Template.sm x := ⟨⟨Nat.le_trans c.1.1 hN, fun _ hx => Label.Q3c hN (c.1.2 _ hx)⟩, PodSpec.Q3c hN c.2, trivial⟩
def Q10y (N : Nat) (x : Owner) : Prop := (fun s : ByteArray => s.size ≤ N) x.kind ∧ (fun s : ByteArray => s.size ≤ N) x.name
theorem Q12f {N : Nat} {x : Owner} (h : CapL N x.cells) : Q10y N x := ⟨(let g : CapL N [.str x.kind] := fun p hp => h p (by simp only [List.mem_cons, List.not_mem_nil, or_false] at hp; rcases hp with rfl <;> simp [Owner.cells]); (g _ List.mem_cons_self).strI), (let g : CapL N [.str x.name] := fun p hp => h p (by simp only [List.mem_cons, List.not_mem_nil, or_false] at hp; rcases hp with rfl <;> simp [Owner.cells]); (g _ List.mem_cons_self).strI)⟩
def Qnx (N : Nat) (x : Manager) : Prop := (fun s : ByteArray => s.size ≤ N) x.name ∧ (fun l : List ByteArray => l.length ≤ N ∧ ∀ x ∈ l, (fun s : ByteArray => s.size ≤ N) x) x.fields
theorem Qw5 {N : Nat} {x : Manager} (h : CapL N x.cells) : Qnx N x := ⟨(let g : CapL N [.str x.name] := fun p hp => h p (by simp only [List.mem_cons, List.not_mem_nil, or_false] at hp; rcases hp with rfl <;> simp [Manager.cells]); (g _ List.mem_cons_self).strI), (let g : CapL N [.sl (Qj x.fields)] := fun p hp => h p (by simp only [List.mem_cons, List.not_mem_nil, or_false] at hp; rcases hp with rfl <;> simp [Manager.cells]); (let r := Cap.Q7y (f := (fun s : ByteArray => [.str s])) (g _ List.mem_cons_self); ⟨r.1, fun x hx => ((r.2 x hx) _ List.mem_cons_self).strI⟩))⟩
def Qul (N : Nat) (x : Meta) : Prop := (fun s : ByteArray => s.size ≤ N) x.kind ∧ (fun s : ByteArray => s.size ≤ N) x.namespace_ ∧ (fun s : ByteArray => s.size ≤ N) x.name ∧ (fun l : List Label => l.length ≤ N ∧ ∀ x ∈ l, (Qc6 N) x) x.labels ∧ (fun l : List Owner => l.length ≤ N ∧ ∀ x ∈ l, (Q10y N) x) x.owners ∧ (fun l : List ByteArray => l.length ≤ N ∧ ∀ x ∈ l, (fun s : ByteArray => s.size ≤ N) x) x.finalizers ∧ (fun l : List Manager => l.length ≤ N ∧ ∀ x ∈ l, (Qnx N) x) x.managers
theorem Qsy {N : Nat} {x : Meta} (h : CapL N x.cells) : Qul N x := ⟨(let g : CapL N [.str x.kind] := fun p hp => h p (by simp only [List.mem_cons, List.not_mem_nil, or_false] at hp; rcases hp with rfl <;> simp [Meta.cells]); (g _ List.mem_cons_self).strI), (let g : CapL N [.str x.namespace_] := fun p hp => h p (by simp only [List.mem_cons, List.not_mem_nil, or_false] at hp; rcases hp with rfl <;> simp [Meta.cells]); (g _ List.mem_cons_self).strI), (let g : CapL N [.str x.name] := fun p hp => h p (by simp only [List.mem_cons, List.not_mem_nil, or_false] at hp; rcases hp with rfl <;> simp [Meta.cells]); (g _ List.mem_cons_self).strI), (let g : CapL N [.sl (Label.rows x.labels)] := fun p hp => h p (by simp only [List.mem_cons, List.not_mem_nil, or_false] at hp; rcases hp with rfl <;> simp [Meta.cells]); (let r := Cap.Q7y (f := Label.cells) (g _ List.mem_cons_self); ⟨r.1, fun x hx => (Q12m (r.2 x hx))⟩)), (let g : CapL N [.sl (Owner.rows x.owners)] := fun p hp => h p (by simp only [List.mem_cons, List.not_mem_nil, or_false] at hp; rcases hp with rfl <;> simp [Meta.cells]); (let r := Cap.Q7y (f := Owner.cells) (g _ List.mem_cons_self); ⟨r.1, fun x hx => (Q12f (r.2 x hx))⟩)), (let g : CapL N [.sl (Qj x.finalizers)] := fun p hp => h p (by simp only [List.mem_cons, List.not_mem_nil, or_false] at hp; rcases hp with rfl <;> simp [Meta.cells]); (let r := Cap.Q7y (f := (fun s : ByteArray => [.str s])) (g _ List.mem_cons_self); ⟨r.1, fun x hx => ((r.2 x hx) _ List.mem_cons_self).strI⟩)), (let g : CapL N [.sl (Manager.rows x.managers)] := fun p hp => h p (by simp only [List.mem_cons, List.not_mem_nil, or_false] at hp; rcases hp with rfl <;> simp [Meta.cells]); (let r := Cap.Q7y (f := Manager.cells) (g _ List.mem_cons_self); ⟨r.1, fun x hx => (Qw5 (r.2 x hx))⟩))⟩
def Qvp (N : Nat) (x : Pod) : Prop := (Qul N) x.meta_ ∧ (Q8q N) x.spec ∧ (Q8s N) x.status
theorem Q1ez {N : Nat} {x : Pod} (h : CapL N x.cells) : Qvp N x := ⟨(let g : CapL N [.str x.meta_.kind, .str x.meta_.namespace_, .str x.meta_.name, .int .i64 x.meta_.uid, .int .i64 x.meta_.version, .int .i64 x.meta_.generation, .int .i64 x.meta_.created, .bool x.meta_.deleting, .int .i64 x.meta_.deleteAt, .sl (Label.rows x.meta_.labels), .sl (Owner.rows x.meta_.owners), .sl (Qj x.meta_.finalizers), .sl (Manager.rows x.meta_.managers)] := fun p hp => h p (by simp only [List.mem_cons, List.not_mem_nil, or_false] at hp; rcases hp with rfl | rfl | rfl | rfl | rfl | rfl | rfl | rfl | rfl | rfl | rfl | rfl | rfl <;> simp [Pod.cells]); (Qsy g)), (let g : CapL N [.str x.spec.node, .int .i64 x.spec.priority, .int .i64 x.spec.restart, .int .i64 x.spec.grace, .sl (Container.rows x.spec.containers), .sl (Requirement.rows x.spec.nodeSelector), .sl (NodeTerm.rows x.spec.nodeTerms), .sl (PodTerm.rows x.spec.podTerms), .sl (SpreadRule.rows x.spec.spread), .sl (Toleration.rows x.spec.tolerations)] := fun p hp => h p (by simp only [List.mem_cons, List.not_mem_nil, or_false] at hp; rcases hp with rfl | rfl | rfl | rfl | rfl | rfl | rfl | rfl | rfl | rfl <;> simp [Pod.cells]); (Qwn g)), (let g : CapL N [.int .i64 x.status.phase, .bool x.status.ready, .int .i64 x.status.readySince, .int .i64 x.status.started, .int .i64 x.status.finished, .sl (ContainerStatus.rows x.status.containers), .int .i64 x.status.address, .str x.status.nominated, .str x.status.reason] := fun p hp => h p (by simp only [List.mem_cons, List.not_mem_nil, or_false] at hp; rcases hp with rfl | rfl | rfl | rfl | rfl | rfl | rfl | rfl | rfl <;> simp [Pod.cells]); (Qk4 g))⟩
def Qum (N : Nat) (x : Node) : Prop := (Qul N) x.meta_ ∧ (Q5t N) x.capacity ∧ (fun l : List Taint => l.length ≤ N ∧ ∀ x ∈ l, (Qo3 N) x) x.taints ∧ (fun l : List Image => l.length ≤ N ∧ ∀ x ∈ l, (Qiw N) x) x.images
theorem Q17o {N : Nat} {x : Node} (h : CapL N x.cells) : Qum N x := ⟨(let g : CapL N [.str x.meta_.kind, .str x.meta_.namespace_, .str x.meta_.name, .int .i64 x.meta_.uid, .int .i64 x.meta_.version, .int .i64 x.meta_.generation, .int .i64 x.meta_.created, .bool x.meta_.deleting, .int .i64 x.meta_.deleteAt, .sl (Label.rows x.meta_.labels), .sl (Owner.rows x.meta_.owners), .sl (Qj x.meta_.finalizers), .sl (Manager.rows x.meta_.managers)] := fun p hp => h p (by simp only [List.mem_cons, List.not_mem_nil, or_false] at hp; rcases hp with rfl | rfl | rfl | rfl | rfl | rfl | rfl | rfl | rfl | rfl | rfl | rfl | rfl <;> simp [Node.cells]); (Qsy g)), (let g : CapL N [.int .i64 x.capacity.cPU, .int .i64 x.capacity.memory, .int .i64 x.capacity.disk] := fun p hp => h p (by simp only [List.mem_cons, List.not_mem_nil, or_false] at hp; rcases hp with rfl | rfl | rfl <;> simp [Node.cells]); (Q6z g)), (let g : CapL N [.sl (Taint.rows x.taints)] := fun p hp => h p (by simp only [List.mem_cons, List.not_mem_nil, or_false] at hp; rcases hp with rfl <;> simp [Node.cells]); (let r := Cap.Q7y (f := Taint.cells) (g _ List.mem_cons_self); ⟨r.1, fun x hx => (Q13h (r.2 x hx))⟩)), (let g : CapL N [.sl (Image.rows x.images)] := fun p hp => h p (by simp only [List.mem_cons, List.not_mem_nil, or_false] at hp; rcases hp with rfl <;> simp [Node.cells]); (let r := Cap.Q7y (f := Image.cells) (g _ List.mem_cons_self); ⟨r.1, fun x hx => (Q13f (r.2 x hx))⟩))⟩
end Go.Proofs.YtiflaadeikaghaaGreat
end

section
/- What the law PodcodecBack computes (printed by a program). -/
namespace Go.Proofs.YtiflaadeikaghaaGreat
open Go.Pv
abbrev M2 (p0 : Pod) := (s_Ka (Pod.mk (Meta.mk Q33 p0.meta_.namespace_ p0.meta_.name p0.meta_.uid p0.meta_.version p0.meta_.generation p0.meta_.created p0.meta_.deleting p0.meta_.deleteAt p0.meta_.labels p0.meta_.owners p0.meta_.finalizers p0.meta_.managers) p0.spec p0.status))
abbrev M0 (p1 : Node) := (s_K9 (Node.mk (Meta.mk Q6 p1.meta_.namespace_ p1.meta_.name p1.meta_.uid p1.meta_.version p1.meta_.generation p1.meta_.created p1.meta_.deleting p1.meta_.deleteAt p1.meta_.labels p1.meta_.owners p1.meta_.finalizers p1.meta_.managers) p1.capacity p1.maxPods p1.cordoned p1.taints p1.ready p1.beat p1.lowMem p1.lowDisk p1.images))
def s_K0 (p0 : Pod) (p1 : Node) : Bool :=
 bif (s_K6 p0) then
  bif (s_K5 p1.meta_) then
   bif (decide (200 < ((List.length p1.taints) : Int))) then
    true
   else
    bif (decide (200 < ((List.length p1.images) : Int))) then
     true
    else
     bif ((s_Kd (M2 p0)).2 == 0) then
      bif ((s_Kc (M0 p1)).2 == 0) then
       bif ((s_Ke (s_Kb (Template.mk p0.meta_.labels p0.spec))).2 == 0) then
        bif (Qve (s_Kd (M2 p0)).1 (Pod.mk (Meta.mk Q33 p0.meta_.namespace_ p0.meta_.name p0.meta_.uid p0.meta_.version p0.meta_.generation p0.meta_.created p0.meta_.deleting p0.meta_.deleteAt p0.meta_.labels p0.meta_.owners p0.meta_.finalizers p0.meta_.managers) p0.spec p0.status)) then
         bif (Qze (s_Kc (M0 p1)).1 (Node.mk (Meta.mk Q6 p1.meta_.namespace_ p1.meta_.name p1.meta_.uid p1.meta_.version p1.meta_.generation p1.meta_.created p1.meta_.deleting p1.meta_.deleteAt p1.meta_.labels p1.meta_.owners p1.meta_.finalizers p1.meta_.managers) p1.capacity p1.maxPods p1.cordoned p1.taints p1.ready p1.beat p1.lowMem p1.lowDisk p1.images)) then
          bif (Q12t (s_Ke (s_Kb (Template.mk p0.meta_.labels p0.spec))).1 (Template.mk p0.meta_.labels p0.spec)) then
           true
          else
           false
         else
          false
        else
         false
       else
        false
      else
       false
     else
      false
  else
   true
 else
  true
def c_K0 (p0 : Pod) (p1 : Node) : En := .call 7 [.agg (Pod.cells p0), .agg (Node.cells p1)] []
def a_K0 (p0 : Pod) (p1 : Node) : Rs := .ret (.bool (s_K0 p0 p1)) []
def H_K0 (p0 : Pod) (p1 : Node) : Prop := (H_K6 p0) ∧ ((s_K6 p0) = true → H_K5 p1.meta_) ∧ ((s_K6 p0) = true → (s_K5 p1.meta_) = true → (decide (200 < ((List.length p1.taints) : Int))) = false → (decide (200 < ((List.length p1.images) : Int))) = false → H_Ka (Pod.mk (Meta.mk Q33 p0.meta_.namespace_ p0.meta_.name p0.meta_.uid p0.meta_.version p0.meta_.generation p0.meta_.created p0.meta_.deleting p0.meta_.deleteAt p0.meta_.labels p0.meta_.owners p0.meta_.finalizers p0.meta_.managers) p0.spec p0.status)) ∧ ((s_K6 p0) = true → (s_K5 p1.meta_) = true → (decide (200 < ((List.length p1.taints) : Int))) = false → (decide (200 < ((List.length p1.images) : Int))) = false → H_Kd (M2 p0)) ∧ ((s_K6 p0) = true → (s_K5 p1.meta_) = true → (decide (200 < ((List.length p1.taints) : Int))) = false → (decide (200 < ((List.length p1.images) : Int))) = false → H_K9 (Node.mk (Meta.mk Q6 p1.meta_.namespace_ p1.meta_.name p1.meta_.uid p1.meta_.version p1.meta_.generation p1.meta_.created p1.meta_.deleting p1.meta_.deleteAt p1.meta_.labels p1.meta_.owners p1.meta_.finalizers p1.meta_.managers) p1.capacity p1.maxPods p1.cordoned p1.taints p1.ready p1.beat p1.lowMem p1.lowDisk p1.images)) ∧ ((s_K6 p0) = true → (s_K5 p1.meta_) = true → (decide (200 < ((List.length p1.taints) : Int))) = false → (decide (200 < ((List.length p1.images) : Int))) = false → H_Kc (M0 p1)) ∧ ((s_K6 p0) = true → (s_K5 p1.meta_) = true → (decide (200 < ((List.length p1.taints) : Int))) = false → (decide (200 < ((List.length p1.images) : Int))) = false → H_Kb (Template.mk p0.meta_.labels p0.spec)) ∧ ((s_K6 p0) = true → (s_K5 p1.meta_) = true → (decide (200 < ((List.length p1.taints) : Int))) = false → (decide (200 < ((List.length p1.images) : Int))) = false → H_Ke (s_Kb (Template.mk p0.meta_.labels p0.spec))) ∧ ((s_K6 p0) = true → (s_K5 p1.meta_) = true → (decide (200 < ((List.length p1.taints) : Int))) = false → (decide (200 < ((List.length p1.images) : Int))) = false → ((s_Kd (M2 p0)).2 == 0) = true → ((s_Kc (M0 p1)).2 == 0) = true → ((s_Ke (s_Kb (Template.mk p0.meta_.labels p0.spec))).2 == 0) = true → Q1dp (s_Kd (M2 p0)).1 (Pod.mk (Meta.mk Q33 p0.meta_.namespace_ p0.meta_.name p0.meta_.uid p0.meta_.version p0.meta_.generation p0.meta_.created p0.meta_.deleting p0.meta_.deleteAt p0.meta_.labels p0.meta_.owners p0.meta_.finalizers p0.meta_.managers) p0.spec p0.status)) ∧ ((s_K6 p0) = true → (s_K5 p1.meta_) = true → (decide (200 < ((List.length p1.taints) : Int))) = false → (decide (200 < ((List.length p1.images) : Int))) = false → ((s_Kd (M2 p0)).2 == 0) = true → ((s_Kc (M0 p1)).2 == 0) = true → ((s_Ke (s_Kb (Template.mk p0.meta_.labels p0.spec))).2 == 0) = true → (Qve (s_Kd (M2 p0)).1 (Pod.mk (Meta.mk Q33 p0.meta_.namespace_ p0.meta_.name p0.meta_.uid p0.meta_.version p0.meta_.generation p0.meta_.created p0.meta_.deleting p0.meta_.deleteAt p0.meta_.labels p0.meta_.owners p0.meta_.finalizers p0.meta_.managers) p0.spec p0.status)) = true → Q1gb (s_Kc (M0 p1)).1 (Node.mk (Meta.mk Q6 p1.meta_.namespace_ p1.meta_.name p1.meta_.uid p1.meta_.version p1.meta_.generation p1.meta_.created p1.meta_.deleting p1.meta_.deleteAt p1.meta_.labels p1.meta_.owners p1.meta_.finalizers p1.meta_.managers) p1.capacity p1.maxPods p1.cordoned p1.taints p1.ready p1.beat p1.lowMem p1.lowDisk p1.images)) ∧ ((s_K6 p0) = true → (s_K5 p1.meta_) = true → (decide (200 < ((List.length p1.taints) : Int))) = false → (decide (200 < ((List.length p1.images) : Int))) = false → ((s_Kd (M2 p0)).2 == 0) = true → ((s_Kc (M0 p1)).2 == 0) = true → ((s_Ke (s_Kb (Template.mk p0.meta_.labels p0.spec))).2 == 0) = true → (Qve (s_Kd (M2 p0)).1 (Pod.mk (Meta.mk Q33 p0.meta_.namespace_ p0.meta_.name p0.meta_.uid p0.meta_.version p0.meta_.generation p0.meta_.created p0.meta_.deleting p0.meta_.deleteAt p0.meta_.labels p0.meta_.owners p0.meta_.finalizers p0.meta_.managers) p0.spec p0.status)) = true → (Qze (s_Kc (M0 p1)).1 (Node.mk (Meta.mk Q6 p1.meta_.namespace_ p1.meta_.name p1.meta_.uid p1.meta_.version p1.meta_.generation p1.meta_.created p1.meta_.deleting p1.meta_.deleteAt p1.meta_.labels p1.meta_.owners p1.meta_.finalizers p1.meta_.managers) p1.capacity p1.maxPods p1.cordoned p1.taints p1.ready p1.beat p1.lowMem p1.lowDisk p1.images)) = true → Q1fp (s_Ke (s_Kb (Template.mk p0.meta_.labels p0.spec))).1 (Template.mk p0.meta_.labels p0.spec)) ∧ True
theorem Q1p0 (p0 : Pod) (p1 : Node) (H : H_K0 p0 p1) (h0 : (s_K6 p0) = true) (h1 : (s_K5 p1.meta_) = true) (h2 : (decide (200 < ((List.length p1.taints) : Int))) = true) : Q7 G (c_K0 p0 p1) (.ret (.bool (true)) []) := by
 exact Q8 (fn := Ir.K0) rfl VOK.nil [hP 15 (Qh (Taint.rows p1.taints) (List.length p1.taints) (Taint.Q5 p1.taints)), hB 0 h2] [aB (t_K6 p0 (H.1)) h0, aB (t_K5 p1.meta_ (H.2.1 h0)) h1, aN t_K7] (by kernel_rfl)
theorem Q1ph (p0 : Pod) (p1 : Node) (H : H_K0 p0 p1) (h0 : (s_K6 p0) = true) (h1 : (s_K5 p1.meta_) = true) (h2 : (decide (200 < ((List.length p1.taints) : Int))) = false) (h3 : (decide (200 < ((List.length p1.images) : Int))) = true) : Q7 G (c_K0 p0 p1) (.ret (.bool (true)) []) := by
 exact Q8 (fn := Ir.K0) rfl VOK.nil [hP 15 (Qh (Taint.rows p1.taints) (List.length p1.taints) (Taint.Q5 p1.taints)), hB 0 h2, hP 4 (Qh (Image.rows p1.images) (List.length p1.images) (Image.Q5 p1.images)), hB 0 h3] [aB (t_K6 p0 (H.1)) h0, aB (t_K5 p1.meta_ (H.2.1 h0)) h1, aN t_K7] (by kernel_rfl)
theorem Q1q2 (p0 : Pod) (p1 : Node) (H : H_K0 p0 p1) (h0 : (s_K6 p0) = true) (h1 : (s_K5 p1.meta_) = true) (h2 : (decide (200 < ((List.length p1.taints) : Int))) = false) (h3 : (decide (200 < ((List.length p1.images) : Int))) = false) (h4 : ((s_Kd (M2 p0)).2 == 0) = true) : Q7 G (c_K0 p0 p1) (.ret (.bool (bif ((s_Kc (M0 p1)).2 == 0) then
   bif ((s_Ke (s_Kb (Template.mk p0.meta_.labels p0.spec))).2 == 0) then
     bif (Qve (s_Kd (M2 p0)).1 (Pod.mk (Meta.mk Q33 p0.meta_.namespace_ p0.meta_.name p0.meta_.uid p0.meta_.version p0.meta_.generation p0.meta_.created p0.meta_.deleting p0.meta_.deleteAt p0.meta_.labels p0.meta_.owners p0.meta_.finalizers p0.meta_.managers) p0.spec p0.status)) then
       bif (Qze (s_Kc (M0 p1)).1 (Node.mk (Meta.mk Q6 p1.meta_.namespace_ p1.meta_.name p1.meta_.uid p1.meta_.version p1.meta_.generation p1.meta_.created p1.meta_.deleting p1.meta_.deleteAt p1.meta_.labels p1.meta_.owners p1.meta_.finalizers p1.meta_.managers) p1.capacity p1.maxPods p1.cordoned p1.taints p1.ready p1.beat p1.lowMem p1.lowDisk p1.images)) then
        bif (Q12t (s_Ke (s_Kb (Template.mk p0.meta_.labels p0.spec))).1 (Template.mk p0.meta_.labels p0.spec)) then
         true
        else
         false
       else
        false
     else
       false
   else
     false
 else
   false)) []) := by
 cases h5 : ((s_Kc (M0 p1)).2 == 0) with
 | true =>
  cases h6 : ((s_Ke (s_Kb (Template.mk p0.meta_.labels p0.spec))).2 == 0) with
  | true =>
   cases h7 : (Qve (s_Kd (M2 p0)).1 (Pod.mk (Meta.mk Q33 p0.meta_.namespace_ p0.meta_.name p0.meta_.uid p0.meta_.version p0.meta_.generation p0.meta_.created p0.meta_.deleting p0.meta_.deleteAt p0.meta_.labels p0.meta_.owners p0.meta_.finalizers p0.meta_.managers) p0.spec p0.status)) with
   | true =>
    cases h8 : (Qze (s_Kc (M0 p1)).1 (Node.mk (Meta.mk Q6 p1.meta_.namespace_ p1.meta_.name p1.meta_.uid p1.meta_.version p1.meta_.generation p1.meta_.created p1.meta_.deleting p1.meta_.deleteAt p1.meta_.labels p1.meta_.owners p1.meta_.finalizers p1.meta_.managers) p1.capacity p1.maxPods p1.cordoned p1.taints p1.ready p1.beat p1.lowMem p1.lowDisk p1.images)) with
    | true =>
     cases h9 : (Q12t (s_Ke (s_Kb (Template.mk p0.meta_.labels p0.spec))).1 (Template.mk p0.meta_.labels p0.spec)) with
     | true =>
      exact Q8 (fn := Ir.K0) rfl VOK.nil [hP 15 (Qh (Taint.rows p1.taints) (List.length p1.taints) (Taint.Q5 p1.taints)), hB 0 h2, hP 4 (Qh (Image.rows p1.images) (List.length p1.images) (Image.Q5 p1.images)), hB 0 h3, hB 43 h4, hB 2 h5, hB 3 h6] [aB (t_K6 p0 (H.1)) h0, aB (t_K5 p1.meta_ (H.2.1 h0)) h1, aN (t_Ka (Pod.mk (Meta.mk Q33 p0.meta_.namespace_ p0.meta_.name p0.meta_.uid p0.meta_.version p0.meta_.generation p0.meta_.created p0.meta_.deleting p0.meta_.deleteAt p0.meta_.labels p0.meta_.owners p0.meta_.finalizers p0.meta_.managers) p0.spec p0.status) (H.2.2.1 h0 h1 h2 h3)), aN (t_Kd (M2 p0) (H.2.2.2.1 h0 h1 h2 h3)), aN (t_K9 (Node.mk (Meta.mk Q6 p1.meta_.namespace_ p1.meta_.name p1.meta_.uid p1.meta_.version p1.meta_.generation p1.meta_.created p1.meta_.deleting p1.meta_.deleteAt p1.meta_.labels p1.meta_.owners p1.meta_.finalizers p1.meta_.managers) p1.capacity p1.maxPods p1.cordoned p1.taints p1.ready p1.beat p1.lowMem p1.lowDisk p1.images) (H.2.2.2.2.1 h0 h1 h2 h3)), aN (t_Kc (M0 p1) (H.2.2.2.2.2.1 h0 h1 h2 h3)), aN (t_Kb (Template.mk p0.meta_.labels p0.spec) (H.2.2.2.2.2.2.1 h0 h1 h2 h3)), aN (t_Ke (s_Kb (Template.mk p0.meta_.labels p0.spec)) (H.2.2.2.2.2.2.2.1 h0 h1 h2 h3)), aB (Q1hz (s_Kd (M2 p0)).1 (Pod.mk (Meta.mk Q33 p0.meta_.namespace_ p0.meta_.name p0.meta_.uid p0.meta_.version p0.meta_.generation p0.meta_.created p0.meta_.deleting p0.meta_.deleteAt p0.meta_.labels p0.meta_.owners p0.meta_.finalizers p0.meta_.managers) p0.spec p0.status) (H.2.2.2.2.2.2.2.2.1 h0 h1 h2 h3 h4 h5 h6)) h7, aB (Q1mu (s_Kc (M0 p1)).1 (Node.mk (Meta.mk Q6 p1.meta_.namespace_ p1.meta_.name p1.meta_.uid p1.meta_.version p1.meta_.generation p1.meta_.created p1.meta_.deleting p1.meta_.deleteAt p1.meta_.labels p1.meta_.owners p1.meta_.finalizers p1.meta_.managers) p1.capacity p1.maxPods p1.cordoned p1.taints p1.ready p1.beat p1.lowMem p1.lowDisk p1.images) (H.2.2.2.2.2.2.2.2.2.1 h0 h1 h2 h3 h4 h5 h6 h7)) h8, aB (Q1pc (s_Ke (s_Kb (Template.mk p0.meta_.labels p0.spec))).1 (Template.mk p0.meta_.labels p0.spec) (H.2.2.2.2.2.2.2.2.2.2.1 h0 h1 h2 h3 h4 h5 h6 h7 h8)) h9, aN t_K7] (by kernel_rfl)
     | false =>
      exact Q8 (fn := Ir.K0) rfl VOK.nil [hP 15 (Qh (Taint.rows p1.taints) (List.length p1.taints) (Taint.Q5 p1.taints)), hB 0 h2, hP 4 (Qh (Image.rows p1.images) (List.length p1.images) (Image.Q5 p1.images)), hB 0 h3, hB 43 h4, hB 2 h5, hB 3 h6] [aB (t_K6 p0 (H.1)) h0, aB (t_K5 p1.meta_ (H.2.1 h0)) h1, aN (t_Ka (Pod.mk (Meta.mk Q33 p0.meta_.namespace_ p0.meta_.name p0.meta_.uid p0.meta_.version p0.meta_.generation p0.meta_.created p0.meta_.deleting p0.meta_.deleteAt p0.meta_.labels p0.meta_.owners p0.meta_.finalizers p0.meta_.managers) p0.spec p0.status) (H.2.2.1 h0 h1 h2 h3)), aN (t_Kd (M2 p0) (H.2.2.2.1 h0 h1 h2 h3)), aN (t_K9 (Node.mk (Meta.mk Q6 p1.meta_.namespace_ p1.meta_.name p1.meta_.uid p1.meta_.version p1.meta_.generation p1.meta_.created p1.meta_.deleting p1.meta_.deleteAt p1.meta_.labels p1.meta_.owners p1.meta_.finalizers p1.meta_.managers) p1.capacity p1.maxPods p1.cordoned p1.taints p1.ready p1.beat p1.lowMem p1.lowDisk p1.images) (H.2.2.2.2.1 h0 h1 h2 h3)), aN (t_Kc (M0 p1) (H.2.2.2.2.2.1 h0 h1 h2 h3)), aN (t_Kb (Template.mk p0.meta_.labels p0.spec) (H.2.2.2.2.2.2.1 h0 h1 h2 h3)), aN (t_Ke (s_Kb (Template.mk p0.meta_.labels p0.spec)) (H.2.2.2.2.2.2.2.1 h0 h1 h2 h3)), aB (Q1hz (s_Kd (M2 p0)).1 (Pod.mk (Meta.mk Q33 p0.meta_.namespace_ p0.meta_.name p0.meta_.uid p0.meta_.version p0.meta_.generation p0.meta_.created p0.meta_.deleting p0.meta_.deleteAt p0.meta_.labels p0.meta_.owners p0.meta_.finalizers p0.meta_.managers) p0.spec p0.status) (H.2.2.2.2.2.2.2.2.1 h0 h1 h2 h3 h4 h5 h6)) h7, aB (Q1mu (s_Kc (M0 p1)).1 (Node.mk (Meta.mk Q6 p1.meta_.namespace_ p1.meta_.name p1.meta_.uid p1.meta_.version p1.meta_.generation p1.meta_.created p1.meta_.deleting p1.meta_.deleteAt p1.meta_.labels p1.meta_.owners p1.meta_.finalizers p1.meta_.managers) p1.capacity p1.maxPods p1.cordoned p1.taints p1.ready p1.beat p1.lowMem p1.lowDisk p1.images) (H.2.2.2.2.2.2.2.2.2.1 h0 h1 h2 h3 h4 h5 h6 h7)) h8, aB (Q1pc (s_Ke (s_Kb (Template.mk p0.meta_.labels p0.spec))).1 (Template.mk p0.meta_.labels p0.spec) (H.2.2.2.2.2.2.2.2.2.2.1 h0 h1 h2 h3 h4 h5 h6 h7 h8)) h9] (by kernel_rfl)
    | false =>
     exact Q8 (fn := Ir.K0) rfl VOK.nil [hP 15 (Qh (Taint.rows p1.taints) (List.length p1.taints) (Taint.Q5 p1.taints)), hB 0 h2, hP 4 (Qh (Image.rows p1.images) (List.length p1.images) (Image.Q5 p1.images)), hB 0 h3, hB 43 h4, hB 2 h5, hB 3 h6] [aB (t_K6 p0 (H.1)) h0, aB (t_K5 p1.meta_ (H.2.1 h0)) h1, aN (t_Ka (Pod.mk (Meta.mk Q33 p0.meta_.namespace_ p0.meta_.name p0.meta_.uid p0.meta_.version p0.meta_.generation p0.meta_.created p0.meta_.deleting p0.meta_.deleteAt p0.meta_.labels p0.meta_.owners p0.meta_.finalizers p0.meta_.managers) p0.spec p0.status) (H.2.2.1 h0 h1 h2 h3)), aN (t_Kd (M2 p0) (H.2.2.2.1 h0 h1 h2 h3)), aN (t_K9 (Node.mk (Meta.mk Q6 p1.meta_.namespace_ p1.meta_.name p1.meta_.uid p1.meta_.version p1.meta_.generation p1.meta_.created p1.meta_.deleting p1.meta_.deleteAt p1.meta_.labels p1.meta_.owners p1.meta_.finalizers p1.meta_.managers) p1.capacity p1.maxPods p1.cordoned p1.taints p1.ready p1.beat p1.lowMem p1.lowDisk p1.images) (H.2.2.2.2.1 h0 h1 h2 h3)), aN (t_Kc (M0 p1) (H.2.2.2.2.2.1 h0 h1 h2 h3)), aN (t_Kb (Template.mk p0.meta_.labels p0.spec) (H.2.2.2.2.2.2.1 h0 h1 h2 h3)), aN (t_Ke (s_Kb (Template.mk p0.meta_.labels p0.spec)) (H.2.2.2.2.2.2.2.1 h0 h1 h2 h3)), aB (Q1hz (s_Kd (M2 p0)).1 (Pod.mk (Meta.mk Q33 p0.meta_.namespace_ p0.meta_.name p0.meta_.uid p0.meta_.version p0.meta_.generation p0.meta_.created p0.meta_.deleting p0.meta_.deleteAt p0.meta_.labels p0.meta_.owners p0.meta_.finalizers p0.meta_.managers) p0.spec p0.status) (H.2.2.2.2.2.2.2.2.1 h0 h1 h2 h3 h4 h5 h6)) h7, aB (Q1mu (s_Kc (M0 p1)).1 (Node.mk (Meta.mk Q6 p1.meta_.namespace_ p1.meta_.name p1.meta_.uid p1.meta_.version p1.meta_.generation p1.meta_.created p1.meta_.deleting p1.meta_.deleteAt p1.meta_.labels p1.meta_.owners p1.meta_.finalizers p1.meta_.managers) p1.capacity p1.maxPods p1.cordoned p1.taints p1.ready p1.beat p1.lowMem p1.lowDisk p1.images) (H.2.2.2.2.2.2.2.2.2.1 h0 h1 h2 h3 h4 h5 h6 h7)) h8] (by kernel_rfl)
   | false =>
    exact Q8 (fn := Ir.K0) rfl VOK.nil [hP 15 (Qh (Taint.rows p1.taints) (List.length p1.taints) (Taint.Q5 p1.taints)), hB 0 h2, hP 4 (Qh (Image.rows p1.images) (List.length p1.images) (Image.Q5 p1.images)), hB 0 h3, hB 43 h4, hB 2 h5, hB 3 h6] [aB (t_K6 p0 (H.1)) h0, aB (t_K5 p1.meta_ (H.2.1 h0)) h1, aN (t_Ka (Pod.mk (Meta.mk Q33 p0.meta_.namespace_ p0.meta_.name p0.meta_.uid p0.meta_.version p0.meta_.generation p0.meta_.created p0.meta_.deleting p0.meta_.deleteAt p0.meta_.labels p0.meta_.owners p0.meta_.finalizers p0.meta_.managers) p0.spec p0.status) (H.2.2.1 h0 h1 h2 h3)), aN (t_Kd (M2 p0) (H.2.2.2.1 h0 h1 h2 h3)), aN (t_K9 (Node.mk (Meta.mk Q6 p1.meta_.namespace_ p1.meta_.name p1.meta_.uid p1.meta_.version p1.meta_.generation p1.meta_.created p1.meta_.deleting p1.meta_.deleteAt p1.meta_.labels p1.meta_.owners p1.meta_.finalizers p1.meta_.managers) p1.capacity p1.maxPods p1.cordoned p1.taints p1.ready p1.beat p1.lowMem p1.lowDisk p1.images) (H.2.2.2.2.1 h0 h1 h2 h3)), aN (t_Kc (M0 p1) (H.2.2.2.2.2.1 h0 h1 h2 h3)), aN (t_Kb (Template.mk p0.meta_.labels p0.spec) (H.2.2.2.2.2.2.1 h0 h1 h2 h3)), aN (t_Ke (s_Kb (Template.mk p0.meta_.labels p0.spec)) (H.2.2.2.2.2.2.2.1 h0 h1 h2 h3)), aB (Q1hz (s_Kd (M2 p0)).1 (Pod.mk (Meta.mk Q33 p0.meta_.namespace_ p0.meta_.name p0.meta_.uid p0.meta_.version p0.meta_.generation p0.meta_.created p0.meta_.deleting p0.meta_.deleteAt p0.meta_.labels p0.meta_.owners p0.meta_.finalizers p0.meta_.managers) p0.spec p0.status) (H.2.2.2.2.2.2.2.2.1 h0 h1 h2 h3 h4 h5 h6)) h7] (by kernel_rfl)
  | false =>
   exact Q8 (fn := Ir.K0) rfl VOK.nil [hP 15 (Qh (Taint.rows p1.taints) (List.length p1.taints) (Taint.Q5 p1.taints)), hB 0 h2, hP 4 (Qh (Image.rows p1.images) (List.length p1.images) (Image.Q5 p1.images)), hB 0 h3, hB 43 h4, hB 2 h5, hB 3 h6] [aB (t_K6 p0 (H.1)) h0, aB (t_K5 p1.meta_ (H.2.1 h0)) h1, aN (t_Ka (Pod.mk (Meta.mk Q33 p0.meta_.namespace_ p0.meta_.name p0.meta_.uid p0.meta_.version p0.meta_.generation p0.meta_.created p0.meta_.deleting p0.meta_.deleteAt p0.meta_.labels p0.meta_.owners p0.meta_.finalizers p0.meta_.managers) p0.spec p0.status) (H.2.2.1 h0 h1 h2 h3)), aN (t_Kd (M2 p0) (H.2.2.2.1 h0 h1 h2 h3)), aN (t_K9 (Node.mk (Meta.mk Q6 p1.meta_.namespace_ p1.meta_.name p1.meta_.uid p1.meta_.version p1.meta_.generation p1.meta_.created p1.meta_.deleting p1.meta_.deleteAt p1.meta_.labels p1.meta_.owners p1.meta_.finalizers p1.meta_.managers) p1.capacity p1.maxPods p1.cordoned p1.taints p1.ready p1.beat p1.lowMem p1.lowDisk p1.images) (H.2.2.2.2.1 h0 h1 h2 h3)), aN (t_Kc (M0 p1) (H.2.2.2.2.2.1 h0 h1 h2 h3)), aN (t_Kb (Template.mk p0.meta_.labels p0.spec) (H.2.2.2.2.2.2.1 h0 h1 h2 h3)), aN (t_Ke (s_Kb (Template.mk p0.meta_.labels p0.spec)) (H.2.2.2.2.2.2.2.1 h0 h1 h2 h3))] (by kernel_rfl)
 | false =>
  exact Q8 (fn := Ir.K0) rfl VOK.nil [hP 15 (Qh (Taint.rows p1.taints) (List.length p1.taints) (Taint.Q5 p1.taints)), hB 0 h2, hP 4 (Qh (Image.rows p1.images) (List.length p1.images) (Image.Q5 p1.images)), hB 0 h3, hB 43 h4, hB 2 h5] [aB (t_K6 p0 (H.1)) h0, aB (t_K5 p1.meta_ (H.2.1 h0)) h1, aN (t_Ka (Pod.mk (Meta.mk Q33 p0.meta_.namespace_ p0.meta_.name p0.meta_.uid p0.meta_.version p0.meta_.generation p0.meta_.created p0.meta_.deleting p0.meta_.deleteAt p0.meta_.labels p0.meta_.owners p0.meta_.finalizers p0.meta_.managers) p0.spec p0.status) (H.2.2.1 h0 h1 h2 h3)), aN (t_Kd (M2 p0) (H.2.2.2.1 h0 h1 h2 h3)), aN (t_K9 (Node.mk (Meta.mk Q6 p1.meta_.namespace_ p1.meta_.name p1.meta_.uid p1.meta_.version p1.meta_.generation p1.meta_.created p1.meta_.deleting p1.meta_.deleteAt p1.meta_.labels p1.meta_.owners p1.meta_.finalizers p1.meta_.managers) p1.capacity p1.maxPods p1.cordoned p1.taints p1.ready p1.beat p1.lowMem p1.lowDisk p1.images) (H.2.2.2.2.1 h0 h1 h2 h3)), aN (t_Kc (M0 p1) (H.2.2.2.2.2.1 h0 h1 h2 h3)), aN (t_Kb (Template.mk p0.meta_.labels p0.spec) (H.2.2.2.2.2.2.1 h0 h1 h2 h3)), aN (t_Ke (s_Kb (Template.mk p0.meta_.labels p0.spec)) (H.2.2.2.2.2.2.2.1 h0 h1 h2 h3))] (by kernel_rfl)
theorem Q1n9 (p0 : Pod) (p1 : Node) (H : H_K0 p0 p1) (h0 : (s_K6 p0) = true) (h1 : (s_K5 p1.meta_) = true) (h2 : (decide (200 < ((List.length p1.taints) : Int))) = false) (h3 : (decide (200 < ((List.length p1.images) : Int))) = false) (h4 : ((s_Kd (M2 p0)).2 == 0) = false) : Q7 G (c_K0 p0 p1) (.ret (.bool (false)) []) := by
 exact Q8 (fn := Ir.K0) rfl VOK.nil [hP 15 (Qh (Taint.rows p1.taints) (List.length p1.taints) (Taint.Q5 p1.taints)), hB 0 h2, hP 4 (Qh (Image.rows p1.images) (List.length p1.images) (Image.Q5 p1.images)), hB 0 h3, hB 43 h4] [aB (t_K6 p0 (H.1)) h0, aB (t_K5 p1.meta_ (H.2.1 h0)) h1, aN (t_Ka (Pod.mk (Meta.mk Q33 p0.meta_.namespace_ p0.meta_.name p0.meta_.uid p0.meta_.version p0.meta_.generation p0.meta_.created p0.meta_.deleting p0.meta_.deleteAt p0.meta_.labels p0.meta_.owners p0.meta_.finalizers p0.meta_.managers) p0.spec p0.status) (H.2.2.1 h0 h1 h2 h3)), aN (t_Kd (M2 p0) (H.2.2.2.1 h0 h1 h2 h3)), aN (t_K9 (Node.mk (Meta.mk Q6 p1.meta_.namespace_ p1.meta_.name p1.meta_.uid p1.meta_.version p1.meta_.generation p1.meta_.created p1.meta_.deleting p1.meta_.deleteAt p1.meta_.labels p1.meta_.owners p1.meta_.finalizers p1.meta_.managers) p1.capacity p1.maxPods p1.cordoned p1.taints p1.ready p1.beat p1.lowMem p1.lowDisk p1.images) (H.2.2.2.2.1 h0 h1 h2 h3)), aN (t_Kc (M0 p1) (H.2.2.2.2.2.1 h0 h1 h2 h3)), aN (t_Kb (Template.mk p0.meta_.labels p0.spec) (H.2.2.2.2.2.2.1 h0 h1 h2 h3)), aN (t_Ke (s_Kb (Template.mk p0.meta_.labels p0.spec)) (H.2.2.2.2.2.2.2.1 h0 h1 h2 h3))] (by kernel_rfl)
theorem Q1nj (p0 : Pod) (p1 : Node) (H : H_K0 p0 p1) (h0 : (s_K6 p0) = true) (h1 : (s_K5 p1.meta_) = false) : Q7 G (c_K0 p0 p1) (.ret (.bool (true)) []) := by
 exact Q8 (fn := Ir.K0) rfl VOK.nil [] [aB (t_K6 p0 (H.1)) h0, aB (t_K5 p1.meta_ (H.2.1 h0)) h1, aN t_K7] (by kernel_rfl)
theorem Q1od (p0 : Pod) (p1 : Node) (H : H_K0 p0 p1) (h0 : (s_K6 p0) = false) : Q7 G (c_K0 p0 p1) (.ret (.bool (true)) []) := by
 exact Q8 (fn := Ir.K0) rfl VOK.nil [] [aB (t_K6 p0 (H.1)) h0, aN t_K7] (by kernel_rfl)
theorem t_K0 (p0 : Pod) (p1 : Node) (H : H_K0 p0 p1) : Q7 G (c_K0 p0 p1) (a_K0 p0 p1) := by
 unfold a_K0 s_K0
 cases h0 : (s_K6 p0) with
 | true =>
  cases h1 : (s_K5 p1.meta_) with
  | true =>
   cases h2 : (decide (200 < ((List.length p1.taints) : Int))) with
   | true =>
    exact Q1p0 p0 p1 H h0 h1 h2
   | false =>
    cases h3 : (decide (200 < ((List.length p1.images) : Int))) with
    | true =>
     exact Q1ph p0 p1 H h0 h1 h2 h3
    | false =>
     cases h4 : ((s_Kd (M2 p0)).2 == 0) with
     | true =>
      exact Q1q2 p0 p1 H h0 h1 h2 h3 h4
     | false =>
      exact Q1n9 p0 p1 H h0 h1 h2 h3 h4
  | false =>
   exact Q1nj p0 p1 H h0 h1
 | false =>
  exact Q1od p0 p1 H h0
def tysPodcodecBack : List Ty := [Q1je, Q1fk]
theorem purePodcodecBack {N : Nat} (hp : ∀ (p0 : Pod) (p1 : Node), Q1ex p0 → Q13a p1 → (Qvp N) p0 → (Qum N) p1 → H_K0 p0 p1 ∧ s_K0 p0 p1 = true) : ∀ qs, Q1fe Γ N tysPodcodecBack qs → ∃ n, runs G n (.call 7 qs []) = some (.ret (.bool true) []) := by
  intro qs h
  cases qs with
  | nil => cases h
  | cons q0 qs =>
  obtain ⟨h0, h⟩ := h
  cases qs with
  | nil => cases h
  | cons q1 qs =>
  obtain ⟨h1, h⟩ := h
  cases qs with
  | cons _ _ => cases h
  | nil =>
  obtain ⟨c0, rfl, g0, b0⟩ := h0.agg rfl
  obtain ⟨p0, rfl, k0⟩ := (Q1gx g0)
  obtain ⟨c1, rfl, g1, b1⟩ := h1.agg rfl
  obtain ⟨p1, rfl, k1⟩ := (Q1dl g1)
  have e := hp p0 p1 k0 k1 (Q1ez b0) (Q17o b1)
  have t := t_K0 p0 p1 e.1
  unfold a_K0 at t
  rw [e.2] at t
  exact t
end Go.Proofs.YtiflaadeikaghaaGreat
end

section
/- Equal metadata and objects; what is small; decoding what was encoded, in plain words. -/
namespace Go.Proofs.YtiflaadeikaghaaGreat
open Go.Pv
theorem Q1g5 (p : List Label) : ∀ (l : List Label) (i : Nat), List.drop i p = l → Q6i p p l i = .k0
  | [], _, _ => by rw [Q6i]
  | x :: l, i, hd => by
    obtain ⟨h1, _, h3⟩ := Q11 hd
    rw [Q6i, List.getD_eq_getElem?_getD, h1, Option.getD_some, Q69, Q69]
    exact Q1g5 p l (i + 1) h3
theorem Q143 {α : Type} (l : List α) : ((l.length : Int) == (l.length : Int)) = true := beq_self_eq_true _
theorem Q1fw (p : List Label) : Qec p p = true := by
  unfold Qec
  rw [Q143, cond_true, Q1g5 p p 0 rfl]
theorem Q1g2 (p : List ByteArray) : ∀ (l : List ByteArray) (i : Nat), List.drop i p = l → Q6n p p l i = .k0
  | [], _, _ => by rw [Q6n]
  | x :: l, i, hd => by
    obtain ⟨h1, _, h3⟩ := Q11 hd
    rw [Q6n, List.getD_eq_getElem?_getD, h1, Option.getD_some, Q69]
    exact Q1g2 p l (i + 1) h3
theorem Q11h (p : List ByteArray) : Qat p p = true := by
  unfold Qat
  rw [Q143, cond_true, Q1g2 p p 0 rfl]
theorem Q1fu (m : Meta) : ∀ (l : List Owner) (i : Nat), List.drop i m.owners = l → Q6k m m l i = .k0
  | [], _, _ => by rw [Q6k]
  | x :: l, i, hd => by
    obtain ⟨h1, _, h3⟩ := Q11 hd
    rw [Q6k, List.getD_eq_getElem?_getD, h1, Option.getD_some]
    simp only [Q69, beq_self_eq_true, Bool.and_true, cond_true]
    exact Q1fu m l (i + 1) h3
theorem Q1g6 (m : Meta) : ∀ (l : List Manager) (i : Nat), List.drop i m.managers = l → Q6l m m l i = .k0
  | [], _, _ => by rw [Q6l]
  | x :: l, i, hd => by
    obtain ⟨h1, _, h3⟩ := Q11 hd
    rw [Q6l, List.getD_eq_getElem?_getD, h1, Option.getD_some, Q69, Q11h, cond_true, cond_true]
    exact Q1g6 m l (i + 1) h3
theorem Q1dj (m : Meta) : Q1bo m m = true := by
  unfold Q1bo
  simp only [Q69, beq_self_eq_true, cond_true, Q1fw, Q11h]
  rw [Q1fu m m.owners 0 rfl, Q1g6 m m.managers 0 rfl]
theorem Q14f (o : Object) : Q1as o o = true := by
  unfold Q1as
  rw [Q1dj, Qdw, Qdw]
  rfl
theorem Q1hy (p : Pod) : Qve p p = true := by
  unfold Qve
  rw [Q69, Q14f]
  rfl
theorem Q1eb (p : Node) : Qze p p = true := by
  unfold Qze
  rw [Q69, Q14f]
  rfl
theorem Q1gi (p : Template) : Q12t p p = true := by
  unfold Q12t
  rw [Qdw]
theorem Q1f5 {m : Meta} (k : Qav m) (s : BA) (h : s.size ≤ 140737488351232) : Qav { m with kind := s } := ⟨h, k.2⟩
theorem Q1ff {m : Meta} (k : Qav m) : H_Kf m ∧ H_K5 m ∧ Q78 m m := by
  obtain ⟨_, _, _, _, _, _, _, _, _, kl, ko, kf, km⟩ := k
  have hl := kl.1
  have ho := ko.1
  have hf := kf.1
  have hm := km.1
  have hx : ∀ x ∈ m.managers, x.fields.length * 16 ≤ 140737488351232 := fun x hx => (km.2 x hx).2.1
  have lt : ∀ {α : Type} {l : List α} {i : Nat} {x : α}, l[i]? = some x → i < l.length := fun h => (List.getElem?_eq_some_iff.1 h).1
  refine ⟨⟨by omega, by omega, by omega, by omega, ⟨by omega, fun x h => by have := hx x h; omega, trivial⟩, trivial⟩, ⟨⟨by omega, trivial⟩, ⟨by omega, trivial⟩, ⟨by omega, trivial⟩, ⟨by omega, fun i x h => ⟨by have := hx x (List.mem_of_getElem? h); omega, trivial⟩, trivial⟩, trivial⟩,
    ⟨fun _ => ⟨by omega, fun i x h => lt h, trivial⟩, trivial⟩, ⟨fun _ => ⟨by omega, fun i x h => lt h, trivial⟩, trivial⟩, fun _ _ => ⟨by omega, fun i x h => lt h, trivial⟩, fun _ _ => ⟨by omega, fun i x h => lt h, fun i x h => ?_, trivial⟩, trivial⟩
  rw [List.getD_eq_getElem?_getD, h, Option.getD_some]
  have := hx x (List.mem_of_getElem? h)
  exact ⟨fun _ => ⟨by omega, fun i x h => lt h, trivial⟩, trivial⟩
theorem alH {v : Val} (h : Val.Sm sB v) : Q87 v := h.mono (Nat.le_of_ble_eq_true rfl)
theorem fewH {v : Val} (h : Val.Sm sB v) (n : Int) : Q18b v n := ⟨h.mono (Nat.le_of_ble_eq_true rfl), trivial⟩
theorem objH {o : Object} (h : Q78 o.meta_ o.meta_) (g : Object.sm o) : Q18d o o := ⟨h, alH g.1, alH g.2, trivial⟩
theorem Q1pu {p : Pod} (c : Qvp 1048576 p) : Pod.sm p := ⟨PodSpec.Q3c (Nat.le_of_ble_eq_true rfl) c.2.1, PodStatus.Q3c (Nat.le_of_ble_eq_true rfl) c.2.2⟩
theorem Q1ik {p : Pod} (h : Q78 p.meta_ p.meta_) (g : Pod.sm p) : Q1dp p p := by
  have o : Q18d (Pod.obj p) (Pod.obj p) := objH h (Pod.Qrp g)
  unfold Q1dp
  repeat' with_reducible apply And.intro
  all_goals first | exact True.intro | exact g | exact o | (intros; exact g) | (intros; exact o)
theorem Q1dq {p : Node} (h : Q78 p.meta_ p.meta_) (g : Node.sm p) : Q1gb p p := by
  have o : Q18d (Node.obj p) (Node.obj p) := objH h (Node.Qrp g)
  unfold Q1gb
  repeat' with_reducible apply And.intro
  all_goals first | exact True.intro | exact g | exact o | (intros; exact g) | (intros; exact o)
theorem Q1db {p : Template} (g : Template.sm p) : Q1fp p p := by
  have o : Q87 (Template.enc p) := alH (Template.Q1y g)
  unfold Q1fp
  repeat' with_reducible apply And.intro
  all_goals first | exact True.intro | exact g | exact o
theorem Q1ep {p : Pod} (k : Qav p.meta_) (g : Pod.sm p) : H_K6 p := by
  have o := Pod.Qrp g
  have a : Q18b (Q8j p).spec 20000 := fewH o.1 _
  have b : Q18b (Q8j p).status 20000 := fewH o.2 _
  unfold H_K6
  repeat' with_reducible apply And.intro
  all_goals first | exact True.intro | exact g | exact (Q1ff k).2.1 | (intros; exact a) | (intros; exact b) | (intros; exact (Q1ff k).2.1)
theorem Q1kl (x : Node) : prt (Node.encS x) Qf = Resources.enc x.capacity ∧ prt (Node.encS x) Q13 = vB x.cordoned ∧ prt (Node.encS x) Q17 = vN x.maxPods ∧ prt (Node.encS x) Q1m = vL (x.taints.map Taint.enc) := ⟨by kernel_rfl, by kernel_rfl, by kernel_rfl, by kernel_rfl⟩
theorem Q1n1 (x : Node) : prt (Node.encT x) Q2y = vN x.beat ∧ prt (Node.encT x) Q2t = vL (x.images.map Image.enc) ∧ prt (Node.encT x) Q2b = vB x.lowDisk ∧ prt (Node.encT x) Q2c = vB x.lowMem ∧ prt (Node.encT x) Qi = vB x.ready := ⟨by kernel_rfl, by kernel_rfl, by kernel_rfl, by kernel_rfl, by kernel_rfl⟩
theorem Qyd (x : Node) : Q1d2 (Node.obj x) = ({ x with meta_ := { x.meta_ with kind := Q6 } }, 0) := by
  obtain ⟨a1, a2, a3, a4⟩ := Q1kl x
  obtain ⟨b1, b2, b3, b4, b5⟩ := Q1n1 x
  unfold Q1d2 Q1me Q1gk Node.obj
  simp only [dN, dB, dE, dT, a1, a2, a3, a4, b1, b2, b3, b4, b5, xB_b, Resources.Q2h, Q6b Taint.Q2h, Q6b Image.Q2h, Q69]
  rfl
theorem Q178 (x : Pod) : podR (Pod.obj x) = ({ x with meta_ := { x.meta_ with kind := Q33 } }, 0) := by
  unfold podR podQ Q1o7 Pod.obj
  simp only [PodSpec.Q2h, PodStatus.Q2h, Q69]
  rfl
theorem Q10i (x : Template) : Q1ew (Template.enc x) = (x, 0) := by
  unfold Q1ew
  rw [Template.Q2h]
  rfl
end Go.Proofs.YtiflaadeikaghaaGreat
end

section
/- The law PodcodecBack in plain words: what was encoded is decoded to what it was. -/
namespace Go.Proofs.YtiflaadeikaghaaGreat
open Go.Pv
theorem Q1ee (x : Pod) : s_Ka x = Pod.obj x := rfl
theorem Q1pb (x : Object) : s_Kd x = podR x := rfl
theorem Q15m (x : Node) : s_K9 x = Node.obj x := rfl
theorem Q1jb (x : Object) : s_Kc x = Q1d2 x := rfl
theorem Q141 (x : Template) : s_Kb x = Template.enc x := rfl
theorem Q1kc (x : Val) : s_Ke x = Q1ew x := rfl
def Q1c3 (p : Pod) : Pod := ⟨{ p.meta_ with kind := Q33 }, p.spec, p.status⟩
def Qth (p : Node) : Node := { p with meta_ := { p.meta_ with kind := Q6 } }
theorem back (p0 : Pod) (p1 : Node) (k0 : Q1ex p0) (k1 : Q13a p1) (c0 : Qvp 1048576 p0) (c1 : Qum 1048576 p1) : H_K0 p0 p1 ∧ s_K0 p0 p1 = true := by
  have g := Q1pu c0
  have m0 := Q1ff (Q1f5 k0.1 Q33 (show 3 ≤ 140737488351232 by decide))
  have m1 := Q1ff (Q1f5 k1.1 Q6 (show 4 ≤ 140737488351232 by decide))
  have n : Node.sm p1 := ⟨⟨Nat.le_trans c1.2.2.1.1 (Nat.le_of_ble_eq_true rfl), fun _ _ => trivial⟩, ⟨Nat.le_trans c1.2.2.2.1 (Nat.le_of_ble_eq_true rfl), fun _ _ => trivial⟩⟩
  have t : Template.sm (Template.mk p0.meta_.labels p0.spec) := ⟨⟨Nat.le_trans c0.1.2.2.2.1.1 (Nat.le_of_ble_eq_true rfl), fun _ _ => trivial⟩, g.1, trivial⟩
  have sp := Q1ep k0.1 g
  have sm := (Q1ff k1.1).2.1
  have a1 : H_Ka (Q1c3 p0) := ⟨m0.1, g⟩
  have a2 : H_Kd (s_Ka (Q1c3 p0)) := ⟨m0.1, Pod.Qrp (x := Q1c3 p0) g⟩
  have a3 : H_K9 (Qth p1) := ⟨m1.1, n⟩
  have a4 : H_Kc (s_K9 (Qth p1)) := ⟨m1.1, Node.Qrp (x := Qth p1) n⟩
  have a5 : H_Kb (Template.mk p0.meta_.labels p0.spec) := t
  have a6 : H_Ke (s_Kb (Template.mk p0.meta_.labels p0.spec)) := Template.Q1y t
  have a7 : Q1dp (s_Kd (s_Ka (Q1c3 p0))).1 (Q1c3 p0) := by
    rw [Q1ee, Q1pb, Q178]
    exact Q1ik (p := Q1c3 p0) m0.2.2 g
  have a8 : Q1gb (s_Kc (s_K9 (Qth p1))).1 (Qth p1) := by
    rw [Q15m, Q1jb, Qyd]
    exact Q1dq (p := Qth p1) m1.2.2 n
  have a9 : Q1fp (s_Ke (s_Kb (Template.mk p0.meta_.labels p0.spec))).1 (Template.mk p0.meta_.labels p0.spec) := by
    rw [Q141, Q1kc, Q10i]
    exact Q1db t
  refine ⟨?_, ?_⟩
  · unfold H_K0
    repeat' with_reducible apply And.intro
    all_goals first | exact True.intro | exact sp | (intros; exact sm) | (intros; exact a1) | (intros; exact a2) | (intros; exact a3) | (intros; exact a4) | (intros; exact a5) | (intros; exact a6) | (intros; exact a7) | (intros; exact a8) | (intros; exact a9)
  · unfold s_K0
    simp only [Q1ee, Q1pb, Q15m, Q1jb, Q141, Q1kc, Q178, Qyd, Q10i, Q1hy, Q1eb, Q1gi, beq_self_eq_true, cond_true]
    cases s_K6 p0 <;> cases s_K5 p1.meta_ <;> cases (decide (200 < ((List.length p1.taints) : Int))) <;> cases (decide (200 < ((List.length p1.images) : Int))) <;> rfl
end Go.Proofs.YtiflaadeikaghaaGreat
end

section
/- The library's comparison of two strings, walked: it answers as the evaluator's cmpL. -/
namespace Go.Proofs.YtiflaadeikaghaaGreat
open Go.Pv
theorem cmpL_eq : ∀ (a b : List UInt8), cmpL a b = Lib.compareBytes a b
  | [], [] => rfl
  | [], _ :: _ => rfl
  | _ :: _, [] => rfl
  | a :: x, b :: y => by
    rw [Lib.compareBytes, ← cmpL_eq x y]
    rfl
set_option maxHeartbeats 1000000 in
set_option maxRecDepth 100000 in
theorem comparing (a b : BA) (w : World) :
    Calls Tryz.prog 152 #[.string a, .string b] w fun e w' => e = .returned (.int .i64 (Lib.compareBytes a.data.toList b.data.toList)) ∧ w' = w := by
  go_enter Tryz.func152, Tryz.ntmps152
  go_wp2
  rw [run_callFunc_extern Tryz.func157 (by kernel_rfl) (by kernel_rfl) (by kernel_rfl) (e := Extern.BytealgCompare.compare) (by kernel_rfl), Lib.run_compareString]
  simp only [Result.andThen]
  rw [Oper.upon_value]
  go_wp2
  go_ret
  exact ⟨rfl, rfl⟩
theorem cmpOK : Q1gv Tryz.prog 152 := by
  refine ⟨⟨_, Tryz.func152, by kernel_rfl, by kernel_rfl⟩, fun x y w => ?_⟩
  have h := comparing x y w
  rw [← cmpL_eq, ← toList_data, ← toList_data] at h
  exact h
end Go.Proofs.YtiflaadeikaghaaGreat
end

section
/- What is of bounded bulk holds nothing longer. -/
namespace Go.Proofs.YtiflaadeikaghaaGreat.bulks
open Go.Pv
theorem one_le {H : Type} (d : DataW H) : 1 ≤ Rows.uptoBulk d := by
  cases d with
  | lit l => cases l <;> simp [Rows.uptoBulk]
  | nil => simp [Rows.uptoBulk]
  | ptr d => simp [Rows.uptoBulk]
  | slice elems spare => simp [Rows.uptoBulk]
  | agg parts => simp [Rows.uptoBulk]
  | iface t d => simp [Rows.uptoBulk]
  | map entries => simp [Rows.uptoBulk]
  | held h => simp [Rows.uptoBulk]
theorem Q12a {H : Type} {d : DataW H} {l : List (DataW H)} (h : d ∈ l) : Rows.uptoBulk d ≤ Rows.uptoBulkAll l := by
  induction l with
  | nil => cases h
  | cons x r ih =>
    simp only [Rows.uptoBulkAll]
    rcases List.mem_cons.1 h with e | e
    · subst e; omega
    · have := ih e; omega
theorem length_le {H : Type} (l : List (DataW H)) : l.length ≤ Rows.uptoBulkAll l := by
  induction l with
  | nil => simp [Rows.uptoBulkAll]
  | cons x r ih => have := one_le x; simp only [Rows.uptoBulkAll, List.length_cons]; omega
theorem Q1gh {H : Type} {N : Nat} : ∀ (k : Nat) (d : DataW H), Rows.uptoBulk d ≤ k → k ≤ N → CapD N d
  | 0, d, h, _ => by have := one_le d; omega
  | k + 1, d, h, hk => by
    cases d with
    | lit l => exact .lit l (fun b e => by subst e; simp only [Rows.uptoBulk] at h; omega)
    | nil => exact .nil
    | ptr d => exact .ptr d
    | slice elems spare =>
      simp only [Rows.uptoBulk] at h
      exact .slice elems spare (by have := length_le elems; omega) (fun z hz => Q1gh k z (by have := Q12a hz; omega) (by omega))
    | agg parts =>
      simp only [Rows.uptoBulk] at h
      exact .agg parts (fun z hz => Q1gh k z (by have := Q12a hz; omega) (by omega))
    | iface t d => exact .iface t d
    | map entries => exact .map entries
    | held x => exact .held x
theorem caps {H : Type} {ds gs : List (DataW H)} (hk : Rows.uptoSmall H (ds ++ gs) = true) : ∀ d ∈ ds, CapD 1048576 d := fun d hd =>
  Q1gh 1048576 d (Nat.le_trans (Q12a (List.mem_append_left _ hd)) (of_decide_eq_true hk)) (Nat.le_refl _)
end Go.Proofs.YtiflaadeikaghaaGreat.bulks
end

