/- Texts of the claim, merged by a program; what the statement does not reach is left out. -/
import Derived.Test.YtiflaadeikaghaaGreatBPodcodecMissing6
import Derived.Lib.Strings
import Derived.Lib.Slices
import Derived.Lib.Walk
import Derived.Lib.Bytealg
import Derived.Test.YtiflaadeikaghaaGreatRows

section
/- What the law PodcodecMissing computes (printed by a program). -/
namespace Go.Proofs.YtiflaadeikaghaaGreat
open Go.Pv
def Q26 (p0 : Pod) (p1 : Int) : Object :=
  (Object.mk (s_Ka p0).meta_ (s_K8 (s_Ka p0).spec (Int.tmod p1 10)) (s_Ka p0).status)
def Q2q (p0 : Pod) (p1 : Int) : Object :=
  (Object.mk (s_Ka p0).meta_ (Val.mk (s_Ka p0).spec.kind (s_Ka p0).spec.n (s_Ka p0).spec.s (s_Ka p0).spec.list (List.set ([] ++ (s_Ka p0).spec.fields) (Int.toNat (Int.tmod p1 10)) (Fld.mk (List.getD ([] ++ (s_Ka p0).spec.fields) (Int.toNat (Int.tmod p1 10)) zF).name (Val.mk 0 0 eB [] [])))) (s_Ka p0).status)
def Ql : Pod :=
  (Pod.mk (Meta.mk eB eB eB 0 0 0 0 false 0 [] [] [] []) (PodSpec.mk eB 0 0 0 [] [] [] [] [] []) (PodStatus.mk 0 false 0 0 0 [] 0 eB eB))
inductive Q197 where
  | k0
  | k1
  | k2
def Q6l (p0 : Pod) (p1 : Int) : List Fld → Nat → Q197
 | [], _i0 =>
  (.k0)
 | x0 :: r0, i0 =>
  bif ((i0 : Int) == (Int.tmod p1 10)) then
   bif (sEq x0.name (List.getD (s_Ka Ql).spec.fields i0 zF).name) then
    bif (Q5f x0.v (List.getD (s_Ka Ql).spec.fields i0 zF).v) then
     Q6l p0 p1 r0 (i0 + 1)
    else
     (.k1)
   else
    (.k1)
  else
   bif (sEq x0.name (List.getD (s_Ka p0).spec.fields i0 zF).name) then
    bif (Q5f x0.v (List.getD (s_Ka p0).spec.fields i0 zF).v) then
     Q6l p0 p1 r0 (i0 + 1)
    else
     (.k2)
   else
    (.k2)
def Qts (p0 : Pod) (p1 : Int) (i0 : Nat) : List PV :=
  nuns 5 ++ [.bx 0 0, .int .i64 (Int.tmod p1 10)] ++ nuns 7 ++ [.bx 1 0] ++ nuns 85 ++ [.sl (Fld.rows (s_Ka (s_Kd (Q26 p0 p1)).1).spec.fields), .int .i64 ((List.length (s_Ka (s_Kd (Q26 p0 p1)).1).spec.fields) : Int), .int .i64 (i0 : Int)] ++ nuns 34
def Qt8 (p0 : Pod) (_p1 : Int) (_i0 : Nat) : List Ob :=
  [⟨23, 0, true, [.str (s_Ka p0).meta_.kind, .str (s_Ka p0).meta_.namespace_, .str (s_Ka p0).meta_.name, .int .i64 (s_Ka p0).meta_.uid, .int .i64 (s_Ka p0).meta_.version, .int .i64 (s_Ka p0).meta_.generation, .int .i64 (s_Ka p0).meta_.created, .bool (s_Ka p0).meta_.deleting, .int .i64 (s_Ka p0).meta_.deleteAt, .sl (Label.rows (s_Ka p0).meta_.labels), .sl (Owner.rows (s_Ka p0).meta_.owners), .sl (Qe (s_Ka p0).meta_.finalizers), .sl (Manager.rows (s_Ka p0).meta_.managers), .int .i64 (s_Ka p0).spec.kind, .int .i64 (s_Ka p0).spec.n, .str (s_Ka p0).spec.s, .sl (Val.rows (s_Ka p0).spec.list), .sl (Fld.rows (s_Ka p0).spec.fields), .int .i64 (s_Ka p0).status.kind, .int .i64 (s_Ka p0).status.n, .str (s_Ka p0).status.s, .sl (Val.rows (s_Ka p0).status.list), .sl (Fld.rows (s_Ka p0).status.fields)]⟩, ⟨23, 0, true, [.str (s_Ka Ql).meta_.kind, .str (s_Ka Ql).meta_.namespace_, .str (s_Ka Ql).meta_.name, .int .i64 (s_Ka Ql).meta_.uid, .int .i64 (s_Ka Ql).meta_.version, .int .i64 (s_Ka Ql).meta_.generation, .int .i64 (s_Ka Ql).meta_.created, .bool (s_Ka Ql).meta_.deleting, .int .i64 (s_Ka Ql).meta_.deleteAt, .sl (Label.rows (s_Ka Ql).meta_.labels), .sl (Owner.rows (s_Ka Ql).meta_.owners), .sl (Qe (s_Ka Ql).meta_.finalizers), .sl (Manager.rows (s_Ka Ql).meta_.managers), .int .i64 (s_Ka Ql).spec.kind, .int .i64 (s_Ka Ql).spec.n, .str (s_Ka Ql).spec.s, .sl (Val.rows (s_Ka Ql).spec.list), .sl (Fld.rows (s_Ka Ql).spec.fields), .int .i64 (s_Ka Ql).status.kind, .int .i64 (s_Ka Ql).status.n, .str (s_Ka Ql).status.s, .sl (Val.rows (s_Ka Ql).status.list), .sl (Fld.rows (s_Ka Ql).status.fields)]⟩]
def Q5l (p0 : Pod) (p1 : Int) (i0 : Nat) : En := .loop 0 Ir.Qo1 Ir.Q1jf (Qts p0 p1 i0) (Qt8 p0 p1 i0)
def Qlq (p0 : Pod) (_p1 : Int) (z : Nat → PV) (_zo : Nat → List PV) : St :=
  ⟨zr z 0 137, [(0, ⟨23, 0, true, [.str (s_Ka p0).meta_.kind, .str (s_Ka p0).meta_.namespace_, .str (s_Ka p0).meta_.name, .int .i64 (s_Ka p0).meta_.uid, .int .i64 (s_Ka p0).meta_.version, .int .i64 (s_Ka p0).meta_.generation, .int .i64 (s_Ka p0).meta_.created, .bool (s_Ka p0).meta_.deleting, .int .i64 (s_Ka p0).meta_.deleteAt, .sl (Label.rows (s_Ka p0).meta_.labels), .sl (Owner.rows (s_Ka p0).meta_.owners), .sl (Qe (s_Ka p0).meta_.finalizers), .sl (Manager.rows (s_Ka p0).meta_.managers), .int .i64 (s_Ka p0).spec.kind, .int .i64 (s_Ka p0).spec.n, .str (s_Ka p0).spec.s, .sl (Val.rows (s_Ka p0).spec.list), .sl (Fld.rows (s_Ka p0).spec.fields), .int .i64 (s_Ka p0).status.kind, .int .i64 (s_Ka p0).status.n, .str (s_Ka p0).status.s, .sl (Val.rows (s_Ka p0).status.list), .sl (Fld.rows (s_Ka p0).status.fields)]⟩), (1, ⟨23, 0, true, [.str (s_Ka Ql).meta_.kind, .str (s_Ka Ql).meta_.namespace_, .str (s_Ka Ql).meta_.name, .int .i64 (s_Ka Ql).meta_.uid, .int .i64 (s_Ka Ql).meta_.version, .int .i64 (s_Ka Ql).meta_.generation, .int .i64 (s_Ka Ql).meta_.created, .bool (s_Ka Ql).meta_.deleting, .int .i64 (s_Ka Ql).meta_.deleteAt, .sl (Label.rows (s_Ka Ql).meta_.labels), .sl (Owner.rows (s_Ka Ql).meta_.owners), .sl (Qe (s_Ka Ql).meta_.finalizers), .sl (Manager.rows (s_Ka Ql).meta_.managers), .int .i64 (s_Ka Ql).spec.kind, .int .i64 (s_Ka Ql).spec.n, .str (s_Ka Ql).spec.s, .sl (Val.rows (s_Ka Ql).spec.list), .sl (Fld.rows (s_Ka Ql).spec.fields), .int .i64 (s_Ka Ql).status.kind, .int .i64 (s_Ka Ql).status.n, .str (s_Ka Ql).status.s, .sl (Val.rows (s_Ka Ql).status.list), .sl (Fld.rows (s_Ka Ql).status.fields)]⟩)], 66⟩
def Qbk (_p0 : Pod) (_p1 : Int) (z : Nat → PV) (zo : Nat → List PV) : St :=
  ⟨[z 0, z 1, z 2, z 3, .bool false] ++ zr z 5 132, [(0, ⟨23, 0, true, zo 0⟩), (1, ⟨23, 0, true, zo 1⟩), (258, ⟨6, 0, true, zo 258⟩), (834, ⟨6, 0, true, zo 834⟩)], 2498⟩
def Qcc (_p0 : Pod) (_p1 : Int) (z : Nat → PV) (zo : Nat → List PV) : St :=
  ⟨[z 0, z 1, z 2, z 3, .bool false] ++ zr z 5 132, [(0, ⟨23, 0, true, zo 0⟩), (1, ⟨23, 0, true, zo 1⟩), (258, ⟨6, 0, true, zo 258⟩), (834, ⟨6, 0, true, zo 834⟩)], 2050⟩
def Q8u (p0 : Pod) (p1 : Int) (e : En) : Q197 → Prop
  | .k0 => ∃ z zo, Q6 G e (.st (.exit 0) (Qlq p0 p1 z zo))
  | .k1 => ∃ z zo, Q6 G e (.st .ret (Qbk p0 p1 z zo))
  | .k2 => ∃ z zo, Q6 G e (.st .ret (Qcc p0 p1 z zo))
theorem Qea (p0 : Pod) (p1 : Int) {e e' : En} (h : ∀ r, Q6 G e r → Q6 G e' r) : ∀ q, Q8u p0 p1 e q → Q8u p0 p1 e' q
  | .k0, ⟨z, zo, hz⟩ => ⟨z, zo, h _ hz⟩
  | .k1, ⟨z, zo, hz⟩ => ⟨z, zo, h _ hz⟩
  | .k2, ⟨z, zo, hz⟩ => ⟨z, zo, h _ hz⟩
def Q6m (p0 : Pod) (p1 : Int) : Prop := (List.length (s_Ka (s_Kd (Q26 p0 p1)).1).spec.fields ≤ 4611686018427387904) ∧ (∀ (i0 : Nat) (x0 : Fld), (s_Ka (s_Kd (Q26 p0 p1)).1).spec.fields[i0]? = some x0 → i0 < List.length (s_Ka p0).spec.fields) ∧ (∀ (i0 : Nat) (x0 : Fld), (s_Ka (s_Kd (Q26 p0 p1)).1).spec.fields[i0]? = some x0 → ((i0 : Int) == (Int.tmod p1 10)) = true → i0 < List.length (s_Ka Ql).spec.fields) ∧ (∀ (i0 : Nat) (x0 : Fld), (s_Ka (s_Kd (Q26 p0 p1)).1).spec.fields[i0]? = some x0 → ((i0 : Int) == (Int.tmod p1 10)) = true → (sEq x0.name (List.getD (s_Ka Ql).spec.fields i0 zF).name) = true → Q7c x0.v) ∧ (∀ (i0 : Nat) (x0 : Fld), (s_Ka (s_Kd (Q26 p0 p1)).1).spec.fields[i0]? = some x0 → ((i0 : Int) == (Int.tmod p1 10)) = false → (sEq x0.name (List.getD (s_Ka p0).spec.fields i0 zF).name) = true → Q7c x0.v) ∧ True
def Quj (p0 : Pod) (p1 : Int) (i0 : Nat) : List PV :=
  nuns 5 ++ [.bx 0 0, .int .i64 (Int.tmod p1 10)] ++ nuns 7 ++ [.bx 1 0] ++ nuns 85 ++ [.sl (Fld.rows (s_Ka (s_Kd (Q26 p0 p1)).1).spec.fields), .int .i64 ((List.length (s_Ka (s_Kd (Q26 p0 p1)).1).spec.fields) : Int), .int .i64 (i0 : Int), .bool false]
def Qp5 (_p0 : Pod) (_p1 : Int) (_i0 : Nat) : List (Nat × List PV) :=
  []
theorem Q18y (p0 : Pod) (p1 : Int) (_H : Q6m p0 p1) (i0 : Nat) (hc0 : (decide ((i0 : Int) < ((List.length (s_Ka (s_Kd (Q26 p0 p1)).1).spec.fields) : Int))) = false) : Q8u p0 p1 (Q5l p0 p1 i0) (.k0) := by
 exact ⟨(envF (Quj p0 p1 i0)), (zoF (Qp5 p0 p1 i0)), Qh VOK.nil (x := ((.exit 0), Qlq p0 p1 (envF (Quj p0 p1 i0)) (zoF (Qp5 p0 p1 i0)))) [hB 0 hc0] [] (by kernel_rfl)⟩
theorem Q1ac (p0 : Pod) (p1 : Int) (H : Q6m p0 p1) (x0 : Fld) (i0 : Nat) (hx0 : (s_Ka (s_Kd (Q26 p0 p1)).1).spec.fields[i0]? = some x0) (hi0 : i0 < List.length (s_Ka (s_Kd (Q26 p0 p1)).1).spec.fields) (hc0 : (decide ((i0 : Int) < ((List.length (s_Ka (s_Kd (Q26 p0 p1)).1).spec.fields) : Int))) = true) (h0 : ((i0 : Int) == (Int.tmod p1 10)) = true) (h1 : (sEq x0.name (List.getD (s_Ka Ql).spec.fields i0 zF).name) = true) (h2 : (Q5f x0.v (List.getD (s_Ka Ql).spec.fields i0 zF).v) = true) {r : Rs} (hr : Q6 G (Q5l p0 p1 (i0 + 1)) r) : Q6 G (Q5l p0 p1 i0) r := by
 have hB0 := H.1; have e0 := eq_of_beq h0
 exact Qm VOK.nil (y := (Qts p0 p1 (i0 + 1), Qt8 p0 p1 (i0 + 1))) [hB 0 hc0, hP 1 (Q1k 6 (Fld.rows (s_Ka (s_Kd (Q26 p0 p1)).1).spec.fields) i0 _ (Fld.Qb hx0) rfl), hP 8 (Q1k 6 (Fld.rows (s_Ka p0).spec.fields) i0 _ (Fld.Qb (Q21 (s_Ka p0).spec.fields i0 zF ((H.2.1 i0 x0 hx0)))) rfl), hB 5 h0, hP 4 (Q1k 6 (Fld.rows (s_Ka Ql).spec.fields) i0 _ (Fld.Qb (Q21 (s_Ka Ql).spec.fields i0 zF ((H.2.2.1 i0 x0 hx0) h0))) rfl), hP 6 (dec (!(sEq x0.name (List.getD (s_Ka Ql).spec.fields i0 zF).name)) false (by rw [h1]; rfl)), hP 8 (Q29 i0 (by omega))] [aB (Qz8 x0.v (List.getD (s_Ka Ql).spec.fields i0 zF).v ((H.2.2.2.1 i0 x0 hx0) h0 h1)) h2] (by kernel_rfl) hr
def Qxy (p0 : Pod) (p1 : Int) (i0 : Nat) (x0 : Fld) : List PV :=
  nuns 5 ++ [.bx 0 0, .int .i64 (Int.tmod p1 10)] ++ nuns 7 ++ [.bx 1 0, .int .i64 (i0 : Int), .bx 258 0, .bx 834 0] ++ nuns 82 ++ [.sl (Fld.rows (s_Ka (s_Kd (Q26 p0 p1)).1).spec.fields), .int .i64 ((List.length (s_Ka (s_Kd (Q26 p0 p1)).1).spec.fields) : Int), .int .i64 (i0 : Int), .bool true, .int .i64 (i0 : Int), .rf [.str x0.name, .int .i64 x0.v.kind, .int .i64 x0.v.n, .str x0.v.s, .sl (Val.rows x0.v.list), .sl (Fld.rows x0.v.fields)], .agg [.str x0.name, .int .i64 x0.v.kind, .int .i64 x0.v.n, .str x0.v.s, .sl (Val.rows x0.v.list), .sl (Fld.rows x0.v.fields)], .bx 0 13, .bx 0 17, .sl (Fld.rows (s_Ka p0).spec.fields), .int .i64 (i0 : Int), .rf [.str (List.getD (s_Ka p0).spec.fields i0 zF).name, .int .i64 (List.getD (s_Ka p0).spec.fields i0 zF).v.kind, .int .i64 (List.getD (s_Ka p0).spec.fields i0 zF).v.n, .str (List.getD (s_Ka p0).spec.fields i0 zF).v.s, .sl (Val.rows (List.getD (s_Ka p0).spec.fields i0 zF).v.list), .sl (Fld.rows (List.getD (s_Ka p0).spec.fields i0 zF).v.fields)], .agg [.str (List.getD (s_Ka p0).spec.fields i0 zF).name, .int .i64 (List.getD (s_Ka p0).spec.fields i0 zF).v.kind, .int .i64 (List.getD (s_Ka p0).spec.fields i0 zF).v.n, .str (List.getD (s_Ka p0).spec.fields i0 zF).v.s, .sl (Val.rows (List.getD (s_Ka p0).spec.fields i0 zF).v.list), .sl (Fld.rows (List.getD (s_Ka p0).spec.fields i0 zF).v.fields)], .int .i64 (i0 : Int), .int .i64 (Int.tmod p1 10), .bool true, .bx 1 13, .bx 1 17, .sl (Fld.rows (s_Ka Ql).spec.fields), .int .i64 (i0 : Int), .rf [.str (List.getD (s_Ka Ql).spec.fields i0 zF).name, .int .i64 (List.getD (s_Ka Ql).spec.fields i0 zF).v.kind, .int .i64 (List.getD (s_Ka Ql).spec.fields i0 zF).v.n, .str (List.getD (s_Ka Ql).spec.fields i0 zF).v.s, .sl (Val.rows (List.getD (s_Ka Ql).spec.fields i0 zF).v.list), .sl (Fld.rows (List.getD (s_Ka Ql).spec.fields i0 zF).v.fields)], .agg [.str (List.getD (s_Ka Ql).spec.fields i0 zF).name, .int .i64 (List.getD (s_Ka Ql).spec.fields i0 zF).v.kind, .int .i64 (List.getD (s_Ka Ql).spec.fields i0 zF).v.n, .str (List.getD (s_Ka Ql).spec.fields i0 zF).v.s, .sl (Val.rows (List.getD (s_Ka Ql).spec.fields i0 zF).v.list), .sl (Fld.rows (List.getD (s_Ka Ql).spec.fields i0 zF).v.fields)], .bx 258 0, .str x0.name, .bx 834 0, .str (List.getD (s_Ka Ql).spec.fields i0 zF).name, .bool false, .bool false, .bx 258 1, .agg [.int .i64 x0.v.kind, .int .i64 x0.v.n, .str x0.v.s, .sl (Val.rows x0.v.list), .sl (Fld.rows x0.v.fields)], .bx 834 1, .agg [.int .i64 (List.getD (s_Ka Ql).spec.fields i0 zF).v.kind, .int .i64 (List.getD (s_Ka Ql).spec.fields i0 zF).v.n, .str (List.getD (s_Ka Ql).spec.fields i0 zF).v.s, .sl (Val.rows (List.getD (s_Ka Ql).spec.fields i0 zF).v.list), .sl (Fld.rows (List.getD (s_Ka Ql).spec.fields i0 zF).v.fields)], .bool false, .bool true, .bool true]
def Qpm (p0 : Pod) (_p1 : Int) (i0 : Nat) (x0 : Fld) : List (Nat × List PV) :=
  [(0, [.str (s_Ka p0).meta_.kind, .str (s_Ka p0).meta_.namespace_, .str (s_Ka p0).meta_.name, .int .i64 (s_Ka p0).meta_.uid, .int .i64 (s_Ka p0).meta_.version, .int .i64 (s_Ka p0).meta_.generation, .int .i64 (s_Ka p0).meta_.created, .bool (s_Ka p0).meta_.deleting, .int .i64 (s_Ka p0).meta_.deleteAt, .sl (Label.rows (s_Ka p0).meta_.labels), .sl (Owner.rows (s_Ka p0).meta_.owners), .sl (Qe (s_Ka p0).meta_.finalizers), .sl (Manager.rows (s_Ka p0).meta_.managers), .int .i64 (s_Ka p0).spec.kind, .int .i64 (s_Ka p0).spec.n, .str (s_Ka p0).spec.s, .sl (Val.rows (s_Ka p0).spec.list), .sl (Fld.rows (s_Ka p0).spec.fields), .int .i64 (s_Ka p0).status.kind, .int .i64 (s_Ka p0).status.n, .str (s_Ka p0).status.s, .sl (Val.rows (s_Ka p0).status.list), .sl (Fld.rows (s_Ka p0).status.fields)]), (1, [.str (s_Ka Ql).meta_.kind, .str (s_Ka Ql).meta_.namespace_, .str (s_Ka Ql).meta_.name, .int .i64 (s_Ka Ql).meta_.uid, .int .i64 (s_Ka Ql).meta_.version, .int .i64 (s_Ka Ql).meta_.generation, .int .i64 (s_Ka Ql).meta_.created, .bool (s_Ka Ql).meta_.deleting, .int .i64 (s_Ka Ql).meta_.deleteAt, .sl (Label.rows (s_Ka Ql).meta_.labels), .sl (Owner.rows (s_Ka Ql).meta_.owners), .sl (Qe (s_Ka Ql).meta_.finalizers), .sl (Manager.rows (s_Ka Ql).meta_.managers), .int .i64 (s_Ka Ql).spec.kind, .int .i64 (s_Ka Ql).spec.n, .str (s_Ka Ql).spec.s, .sl (Val.rows (s_Ka Ql).spec.list), .sl (Fld.rows (s_Ka Ql).spec.fields), .int .i64 (s_Ka Ql).status.kind, .int .i64 (s_Ka Ql).status.n, .str (s_Ka Ql).status.s, .sl (Val.rows (s_Ka Ql).status.list), .sl (Fld.rows (s_Ka Ql).status.fields)]), (258, [.str x0.name, .int .i64 x0.v.kind, .int .i64 x0.v.n, .str x0.v.s, .sl (Val.rows x0.v.list), .sl (Fld.rows x0.v.fields)]), (834, [.str (List.getD (s_Ka Ql).spec.fields i0 zF).name, .int .i64 (List.getD (s_Ka Ql).spec.fields i0 zF).v.kind, .int .i64 (List.getD (s_Ka Ql).spec.fields i0 zF).v.n, .str (List.getD (s_Ka Ql).spec.fields i0 zF).v.s, .sl (Val.rows (List.getD (s_Ka Ql).spec.fields i0 zF).v.list), .sl (Fld.rows (List.getD (s_Ka Ql).spec.fields i0 zF).v.fields)])]
theorem Q1bd (p0 : Pod) (p1 : Int) (H : Q6m p0 p1) (x0 : Fld) (i0 : Nat) (hx0 : (s_Ka (s_Kd (Q26 p0 p1)).1).spec.fields[i0]? = some x0) (_hi0 : i0 < List.length (s_Ka (s_Kd (Q26 p0 p1)).1).spec.fields) (hc0 : (decide ((i0 : Int) < ((List.length (s_Ka (s_Kd (Q26 p0 p1)).1).spec.fields) : Int))) = true) (h0 : ((i0 : Int) == (Int.tmod p1 10)) = true) (h1 : (sEq x0.name (List.getD (s_Ka Ql).spec.fields i0 zF).name) = true) (h2 : (Q5f x0.v (List.getD (s_Ka Ql).spec.fields i0 zF).v) = false) : Q8u p0 p1 (Q5l p0 p1 i0) (.k1) := by
 exact ⟨(envF (Qxy p0 p1 i0 x0)), (zoF (Qpm p0 p1 i0 x0)), Qh VOK.nil (x := (.ret, Qbk p0 p1 (envF (Qxy p0 p1 i0 x0)) (zoF (Qpm p0 p1 i0 x0)))) [hB 0 hc0, hP 1 (Q1k 6 (Fld.rows (s_Ka (s_Kd (Q26 p0 p1)).1).spec.fields) i0 _ (Fld.Qb hx0) rfl), hP 8 (Q1k 6 (Fld.rows (s_Ka p0).spec.fields) i0 _ (Fld.Qb (Q21 (s_Ka p0).spec.fields i0 zF ((H.2.1 i0 x0 hx0)))) rfl), hB 5 h0, hP 4 (Q1k 6 (Fld.rows (s_Ka Ql).spec.fields) i0 _ (Fld.Qb (Q21 (s_Ka Ql).spec.fields i0 zF ((H.2.2.1 i0 x0 hx0) h0))) rfl), hP 6 (dec (!(sEq x0.name (List.getD (s_Ka Ql).spec.fields i0 zF).name)) false (by rw [h1]; rfl))] [aB (Qz8 x0.v (List.getD (s_Ka Ql).spec.fields i0 zF).v ((H.2.2.2.1 i0 x0 hx0) h0 h1)) h2] (by kernel_rfl)⟩
def Qvr (p0 : Pod) (p1 : Int) (i0 : Nat) (x0 : Fld) : List PV :=
  nuns 5 ++ [.bx 0 0, .int .i64 (Int.tmod p1 10)] ++ nuns 7 ++ [.bx 1 0, .int .i64 (i0 : Int), .bx 258 0, .bx 834 0] ++ nuns 82 ++ [.sl (Fld.rows (s_Ka (s_Kd (Q26 p0 p1)).1).spec.fields), .int .i64 ((List.length (s_Ka (s_Kd (Q26 p0 p1)).1).spec.fields) : Int), .int .i64 (i0 : Int), .bool true, .int .i64 (i0 : Int), .rf [.str x0.name, .int .i64 x0.v.kind, .int .i64 x0.v.n, .str x0.v.s, .sl (Val.rows x0.v.list), .sl (Fld.rows x0.v.fields)], .agg [.str x0.name, .int .i64 x0.v.kind, .int .i64 x0.v.n, .str x0.v.s, .sl (Val.rows x0.v.list), .sl (Fld.rows x0.v.fields)], .bx 0 13, .bx 0 17, .sl (Fld.rows (s_Ka p0).spec.fields), .int .i64 (i0 : Int), .rf [.str (List.getD (s_Ka p0).spec.fields i0 zF).name, .int .i64 (List.getD (s_Ka p0).spec.fields i0 zF).v.kind, .int .i64 (List.getD (s_Ka p0).spec.fields i0 zF).v.n, .str (List.getD (s_Ka p0).spec.fields i0 zF).v.s, .sl (Val.rows (List.getD (s_Ka p0).spec.fields i0 zF).v.list), .sl (Fld.rows (List.getD (s_Ka p0).spec.fields i0 zF).v.fields)], .agg [.str (List.getD (s_Ka p0).spec.fields i0 zF).name, .int .i64 (List.getD (s_Ka p0).spec.fields i0 zF).v.kind, .int .i64 (List.getD (s_Ka p0).spec.fields i0 zF).v.n, .str (List.getD (s_Ka p0).spec.fields i0 zF).v.s, .sl (Val.rows (List.getD (s_Ka p0).spec.fields i0 zF).v.list), .sl (Fld.rows (List.getD (s_Ka p0).spec.fields i0 zF).v.fields)], .int .i64 (i0 : Int), .int .i64 (Int.tmod p1 10), .bool true, .bx 1 13, .bx 1 17, .sl (Fld.rows (s_Ka Ql).spec.fields), .int .i64 (i0 : Int), .rf [.str (List.getD (s_Ka Ql).spec.fields i0 zF).name, .int .i64 (List.getD (s_Ka Ql).spec.fields i0 zF).v.kind, .int .i64 (List.getD (s_Ka Ql).spec.fields i0 zF).v.n, .str (List.getD (s_Ka Ql).spec.fields i0 zF).v.s, .sl (Val.rows (List.getD (s_Ka Ql).spec.fields i0 zF).v.list), .sl (Fld.rows (List.getD (s_Ka Ql).spec.fields i0 zF).v.fields)], .agg [.str (List.getD (s_Ka Ql).spec.fields i0 zF).name, .int .i64 (List.getD (s_Ka Ql).spec.fields i0 zF).v.kind, .int .i64 (List.getD (s_Ka Ql).spec.fields i0 zF).v.n, .str (List.getD (s_Ka Ql).spec.fields i0 zF).v.s, .sl (Val.rows (List.getD (s_Ka Ql).spec.fields i0 zF).v.list), .sl (Fld.rows (List.getD (s_Ka Ql).spec.fields i0 zF).v.fields)], .bx 258 0, .str x0.name, .bx 834 0, .str (List.getD (s_Ka Ql).spec.fields i0 zF).name, .bool true, .bool true, .tup [], .tup [], .tup [], .tup [], .tup [], .tup [], .bool true]
def Qr5 (p0 : Pod) (_p1 : Int) (i0 : Nat) (x0 : Fld) : List (Nat × List PV) :=
  [(0, [.str (s_Ka p0).meta_.kind, .str (s_Ka p0).meta_.namespace_, .str (s_Ka p0).meta_.name, .int .i64 (s_Ka p0).meta_.uid, .int .i64 (s_Ka p0).meta_.version, .int .i64 (s_Ka p0).meta_.generation, .int .i64 (s_Ka p0).meta_.created, .bool (s_Ka p0).meta_.deleting, .int .i64 (s_Ka p0).meta_.deleteAt, .sl (Label.rows (s_Ka p0).meta_.labels), .sl (Owner.rows (s_Ka p0).meta_.owners), .sl (Qe (s_Ka p0).meta_.finalizers), .sl (Manager.rows (s_Ka p0).meta_.managers), .int .i64 (s_Ka p0).spec.kind, .int .i64 (s_Ka p0).spec.n, .str (s_Ka p0).spec.s, .sl (Val.rows (s_Ka p0).spec.list), .sl (Fld.rows (s_Ka p0).spec.fields), .int .i64 (s_Ka p0).status.kind, .int .i64 (s_Ka p0).status.n, .str (s_Ka p0).status.s, .sl (Val.rows (s_Ka p0).status.list), .sl (Fld.rows (s_Ka p0).status.fields)]), (1, [.str (s_Ka Ql).meta_.kind, .str (s_Ka Ql).meta_.namespace_, .str (s_Ka Ql).meta_.name, .int .i64 (s_Ka Ql).meta_.uid, .int .i64 (s_Ka Ql).meta_.version, .int .i64 (s_Ka Ql).meta_.generation, .int .i64 (s_Ka Ql).meta_.created, .bool (s_Ka Ql).meta_.deleting, .int .i64 (s_Ka Ql).meta_.deleteAt, .sl (Label.rows (s_Ka Ql).meta_.labels), .sl (Owner.rows (s_Ka Ql).meta_.owners), .sl (Qe (s_Ka Ql).meta_.finalizers), .sl (Manager.rows (s_Ka Ql).meta_.managers), .int .i64 (s_Ka Ql).spec.kind, .int .i64 (s_Ka Ql).spec.n, .str (s_Ka Ql).spec.s, .sl (Val.rows (s_Ka Ql).spec.list), .sl (Fld.rows (s_Ka Ql).spec.fields), .int .i64 (s_Ka Ql).status.kind, .int .i64 (s_Ka Ql).status.n, .str (s_Ka Ql).status.s, .sl (Val.rows (s_Ka Ql).status.list), .sl (Fld.rows (s_Ka Ql).status.fields)]), (258, [.str x0.name, .int .i64 x0.v.kind, .int .i64 x0.v.n, .str x0.v.s, .sl (Val.rows x0.v.list), .sl (Fld.rows x0.v.fields)]), (834, [.str (List.getD (s_Ka Ql).spec.fields i0 zF).name, .int .i64 (List.getD (s_Ka Ql).spec.fields i0 zF).v.kind, .int .i64 (List.getD (s_Ka Ql).spec.fields i0 zF).v.n, .str (List.getD (s_Ka Ql).spec.fields i0 zF).v.s, .sl (Val.rows (List.getD (s_Ka Ql).spec.fields i0 zF).v.list), .sl (Fld.rows (List.getD (s_Ka Ql).spec.fields i0 zF).v.fields)])]
theorem Q18e (p0 : Pod) (p1 : Int) (H : Q6m p0 p1) (x0 : Fld) (i0 : Nat) (hx0 : (s_Ka (s_Kd (Q26 p0 p1)).1).spec.fields[i0]? = some x0) (_hi0 : i0 < List.length (s_Ka (s_Kd (Q26 p0 p1)).1).spec.fields) (hc0 : (decide ((i0 : Int) < ((List.length (s_Ka (s_Kd (Q26 p0 p1)).1).spec.fields) : Int))) = true) (h0 : ((i0 : Int) == (Int.tmod p1 10)) = true) (h1 : (sEq x0.name (List.getD (s_Ka Ql).spec.fields i0 zF).name) = false) : Q8u p0 p1 (Q5l p0 p1 i0) (.k1) := by
 exact ⟨(envF (Qvr p0 p1 i0 x0)), (zoF (Qr5 p0 p1 i0 x0)), Qh VOK.nil (x := (.ret, Qbk p0 p1 (envF (Qvr p0 p1 i0 x0)) (zoF (Qr5 p0 p1 i0 x0)))) [hB 0 hc0, hP 1 (Q1k 6 (Fld.rows (s_Ka (s_Kd (Q26 p0 p1)).1).spec.fields) i0 _ (Fld.Qb hx0) rfl), hP 8 (Q1k 6 (Fld.rows (s_Ka p0).spec.fields) i0 _ (Fld.Qb (Q21 (s_Ka p0).spec.fields i0 zF ((H.2.1 i0 x0 hx0)))) rfl), hB 5 h0, hP 4 (Q1k 6 (Fld.rows (s_Ka Ql).spec.fields) i0 _ (Fld.Qb (Q21 (s_Ka Ql).spec.fields i0 zF ((H.2.2.1 i0 x0 hx0) h0))) rfl), hP 6 (dec (!(sEq x0.name (List.getD (s_Ka Ql).spec.fields i0 zF).name)) true (by rw [h1]; rfl))] [] (by kernel_rfl)⟩
theorem Q19a (p0 : Pod) (p1 : Int) (H : Q6m p0 p1) (x0 : Fld) (i0 : Nat) (hx0 : (s_Ka (s_Kd (Q26 p0 p1)).1).spec.fields[i0]? = some x0) (hi0 : i0 < List.length (s_Ka (s_Kd (Q26 p0 p1)).1).spec.fields) (hc0 : (decide ((i0 : Int) < ((List.length (s_Ka (s_Kd (Q26 p0 p1)).1).spec.fields) : Int))) = true) (h0 : ((i0 : Int) == (Int.tmod p1 10)) = false) (h1 : (sEq x0.name (List.getD (s_Ka p0).spec.fields i0 zF).name) = true) (h2 : (Q5f x0.v (List.getD (s_Ka p0).spec.fields i0 zF).v) = true) {r : Rs} (hr : Q6 G (Q5l p0 p1 (i0 + 1)) r) : Q6 G (Q5l p0 p1 i0) r := by
 have hB0 := H.1; have e0 := beq_eq_false_iff_ne.1 h0
 exact Qm VOK.nil (y := (Qts p0 p1 (i0 + 1), Qt8 p0 p1 (i0 + 1))) [hB 0 hc0, hP 1 (Q1k 6 (Fld.rows (s_Ka (s_Kd (Q26 p0 p1)).1).spec.fields) i0 _ (Fld.Qb hx0) rfl), hP 8 (Q1k 6 (Fld.rows (s_Ka p0).spec.fields) i0 _ (Fld.Qb (Q21 (s_Ka p0).spec.fields i0 zF ((H.2.1 i0 x0 hx0)))) rfl), hB 5 h0, hP 4 (dec (!(sEq x0.name (List.getD (s_Ka p0).spec.fields i0 zF).name)) false (by rw [h1]; rfl)), hP 8 (Q29 i0 (by omega))] [aB (Qz8 x0.v (List.getD (s_Ka p0).spec.fields i0 zF).v ((H.2.2.2.2.1 i0 x0 hx0) h0 h1)) h2] (by kernel_rfl) hr
def Qwz (p0 : Pod) (p1 : Int) (i0 : Nat) (x0 : Fld) : List PV :=
  nuns 5 ++ [.bx 0 0, .int .i64 (Int.tmod p1 10)] ++ nuns 7 ++ [.bx 1 0, .int .i64 (i0 : Int), .bx 258 0, .bx 834 0] ++ nuns 82 ++ [.sl (Fld.rows (s_Ka (s_Kd (Q26 p0 p1)).1).spec.fields), .int .i64 ((List.length (s_Ka (s_Kd (Q26 p0 p1)).1).spec.fields) : Int), .int .i64 (i0 : Int), .bool true, .int .i64 (i0 : Int), .rf [.str x0.name, .int .i64 x0.v.kind, .int .i64 x0.v.n, .str x0.v.s, .sl (Val.rows x0.v.list), .sl (Fld.rows x0.v.fields)], .agg [.str x0.name, .int .i64 x0.v.kind, .int .i64 x0.v.n, .str x0.v.s, .sl (Val.rows x0.v.list), .sl (Fld.rows x0.v.fields)], .bx 0 13, .bx 0 17, .sl (Fld.rows (s_Ka p0).spec.fields), .int .i64 (i0 : Int), .rf [.str (List.getD (s_Ka p0).spec.fields i0 zF).name, .int .i64 (List.getD (s_Ka p0).spec.fields i0 zF).v.kind, .int .i64 (List.getD (s_Ka p0).spec.fields i0 zF).v.n, .str (List.getD (s_Ka p0).spec.fields i0 zF).v.s, .sl (Val.rows (List.getD (s_Ka p0).spec.fields i0 zF).v.list), .sl (Fld.rows (List.getD (s_Ka p0).spec.fields i0 zF).v.fields)], .agg [.str (List.getD (s_Ka p0).spec.fields i0 zF).name, .int .i64 (List.getD (s_Ka p0).spec.fields i0 zF).v.kind, .int .i64 (List.getD (s_Ka p0).spec.fields i0 zF).v.n, .str (List.getD (s_Ka p0).spec.fields i0 zF).v.s, .sl (Val.rows (List.getD (s_Ka p0).spec.fields i0 zF).v.list), .sl (Fld.rows (List.getD (s_Ka p0).spec.fields i0 zF).v.fields)], .int .i64 (i0 : Int), .int .i64 (Int.tmod p1 10), .bool false] ++ nuns 6 ++ [.bx 258 0, .str x0.name, .bx 834 0, .str (List.getD (s_Ka p0).spec.fields i0 zF).name, .bool false, .bool false, .bx 258 1, .agg [.int .i64 x0.v.kind, .int .i64 x0.v.n, .str x0.v.s, .sl (Val.rows x0.v.list), .sl (Fld.rows x0.v.fields)], .bx 834 1, .agg [.int .i64 (List.getD (s_Ka p0).spec.fields i0 zF).v.kind, .int .i64 (List.getD (s_Ka p0).spec.fields i0 zF).v.n, .str (List.getD (s_Ka p0).spec.fields i0 zF).v.s, .sl (Val.rows (List.getD (s_Ka p0).spec.fields i0 zF).v.list), .sl (Fld.rows (List.getD (s_Ka p0).spec.fields i0 zF).v.fields)], .bool false, .bool true, .bool true]
def Qo7 (p0 : Pod) (_p1 : Int) (i0 : Nat) (x0 : Fld) : List (Nat × List PV) :=
  [(0, [.str (s_Ka p0).meta_.kind, .str (s_Ka p0).meta_.namespace_, .str (s_Ka p0).meta_.name, .int .i64 (s_Ka p0).meta_.uid, .int .i64 (s_Ka p0).meta_.version, .int .i64 (s_Ka p0).meta_.generation, .int .i64 (s_Ka p0).meta_.created, .bool (s_Ka p0).meta_.deleting, .int .i64 (s_Ka p0).meta_.deleteAt, .sl (Label.rows (s_Ka p0).meta_.labels), .sl (Owner.rows (s_Ka p0).meta_.owners), .sl (Qe (s_Ka p0).meta_.finalizers), .sl (Manager.rows (s_Ka p0).meta_.managers), .int .i64 (s_Ka p0).spec.kind, .int .i64 (s_Ka p0).spec.n, .str (s_Ka p0).spec.s, .sl (Val.rows (s_Ka p0).spec.list), .sl (Fld.rows (s_Ka p0).spec.fields), .int .i64 (s_Ka p0).status.kind, .int .i64 (s_Ka p0).status.n, .str (s_Ka p0).status.s, .sl (Val.rows (s_Ka p0).status.list), .sl (Fld.rows (s_Ka p0).status.fields)]), (1, [.str (s_Ka Ql).meta_.kind, .str (s_Ka Ql).meta_.namespace_, .str (s_Ka Ql).meta_.name, .int .i64 (s_Ka Ql).meta_.uid, .int .i64 (s_Ka Ql).meta_.version, .int .i64 (s_Ka Ql).meta_.generation, .int .i64 (s_Ka Ql).meta_.created, .bool (s_Ka Ql).meta_.deleting, .int .i64 (s_Ka Ql).meta_.deleteAt, .sl (Label.rows (s_Ka Ql).meta_.labels), .sl (Owner.rows (s_Ka Ql).meta_.owners), .sl (Qe (s_Ka Ql).meta_.finalizers), .sl (Manager.rows (s_Ka Ql).meta_.managers), .int .i64 (s_Ka Ql).spec.kind, .int .i64 (s_Ka Ql).spec.n, .str (s_Ka Ql).spec.s, .sl (Val.rows (s_Ka Ql).spec.list), .sl (Fld.rows (s_Ka Ql).spec.fields), .int .i64 (s_Ka Ql).status.kind, .int .i64 (s_Ka Ql).status.n, .str (s_Ka Ql).status.s, .sl (Val.rows (s_Ka Ql).status.list), .sl (Fld.rows (s_Ka Ql).status.fields)]), (258, [.str x0.name, .int .i64 x0.v.kind, .int .i64 x0.v.n, .str x0.v.s, .sl (Val.rows x0.v.list), .sl (Fld.rows x0.v.fields)]), (834, [.str (List.getD (s_Ka p0).spec.fields i0 zF).name, .int .i64 (List.getD (s_Ka p0).spec.fields i0 zF).v.kind, .int .i64 (List.getD (s_Ka p0).spec.fields i0 zF).v.n, .str (List.getD (s_Ka p0).spec.fields i0 zF).v.s, .sl (Val.rows (List.getD (s_Ka p0).spec.fields i0 zF).v.list), .sl (Fld.rows (List.getD (s_Ka p0).spec.fields i0 zF).v.fields)])]
theorem Q1a1 (p0 : Pod) (p1 : Int) (H : Q6m p0 p1) (x0 : Fld) (i0 : Nat) (hx0 : (s_Ka (s_Kd (Q26 p0 p1)).1).spec.fields[i0]? = some x0) (_hi0 : i0 < List.length (s_Ka (s_Kd (Q26 p0 p1)).1).spec.fields) (hc0 : (decide ((i0 : Int) < ((List.length (s_Ka (s_Kd (Q26 p0 p1)).1).spec.fields) : Int))) = true) (h0 : ((i0 : Int) == (Int.tmod p1 10)) = false) (h1 : (sEq x0.name (List.getD (s_Ka p0).spec.fields i0 zF).name) = true) (h2 : (Q5f x0.v (List.getD (s_Ka p0).spec.fields i0 zF).v) = false) : Q8u p0 p1 (Q5l p0 p1 i0) (.k2) := by
 exact ⟨(envF (Qwz p0 p1 i0 x0)), (zoF (Qo7 p0 p1 i0 x0)), Qh VOK.nil (x := (.ret, Qcc p0 p1 (envF (Qwz p0 p1 i0 x0)) (zoF (Qo7 p0 p1 i0 x0)))) [hB 0 hc0, hP 1 (Q1k 6 (Fld.rows (s_Ka (s_Kd (Q26 p0 p1)).1).spec.fields) i0 _ (Fld.Qb hx0) rfl), hP 8 (Q1k 6 (Fld.rows (s_Ka p0).spec.fields) i0 _ (Fld.Qb (Q21 (s_Ka p0).spec.fields i0 zF ((H.2.1 i0 x0 hx0)))) rfl), hB 5 h0, hP 4 (dec (!(sEq x0.name (List.getD (s_Ka p0).spec.fields i0 zF).name)) false (by rw [h1]; rfl))] [aB (Qz8 x0.v (List.getD (s_Ka p0).spec.fields i0 zF).v ((H.2.2.2.2.1 i0 x0 hx0) h0 h1)) h2] (by kernel_rfl)⟩
def Qvu (p0 : Pod) (p1 : Int) (i0 : Nat) (x0 : Fld) : List PV :=
  nuns 5 ++ [.bx 0 0, .int .i64 (Int.tmod p1 10)] ++ nuns 7 ++ [.bx 1 0, .int .i64 (i0 : Int), .bx 258 0, .bx 834 0] ++ nuns 82 ++ [.sl (Fld.rows (s_Ka (s_Kd (Q26 p0 p1)).1).spec.fields), .int .i64 ((List.length (s_Ka (s_Kd (Q26 p0 p1)).1).spec.fields) : Int), .int .i64 (i0 : Int), .bool true, .int .i64 (i0 : Int), .rf [.str x0.name, .int .i64 x0.v.kind, .int .i64 x0.v.n, .str x0.v.s, .sl (Val.rows x0.v.list), .sl (Fld.rows x0.v.fields)], .agg [.str x0.name, .int .i64 x0.v.kind, .int .i64 x0.v.n, .str x0.v.s, .sl (Val.rows x0.v.list), .sl (Fld.rows x0.v.fields)], .bx 0 13, .bx 0 17, .sl (Fld.rows (s_Ka p0).spec.fields), .int .i64 (i0 : Int), .rf [.str (List.getD (s_Ka p0).spec.fields i0 zF).name, .int .i64 (List.getD (s_Ka p0).spec.fields i0 zF).v.kind, .int .i64 (List.getD (s_Ka p0).spec.fields i0 zF).v.n, .str (List.getD (s_Ka p0).spec.fields i0 zF).v.s, .sl (Val.rows (List.getD (s_Ka p0).spec.fields i0 zF).v.list), .sl (Fld.rows (List.getD (s_Ka p0).spec.fields i0 zF).v.fields)], .agg [.str (List.getD (s_Ka p0).spec.fields i0 zF).name, .int .i64 (List.getD (s_Ka p0).spec.fields i0 zF).v.kind, .int .i64 (List.getD (s_Ka p0).spec.fields i0 zF).v.n, .str (List.getD (s_Ka p0).spec.fields i0 zF).v.s, .sl (Val.rows (List.getD (s_Ka p0).spec.fields i0 zF).v.list), .sl (Fld.rows (List.getD (s_Ka p0).spec.fields i0 zF).v.fields)], .int .i64 (i0 : Int), .int .i64 (Int.tmod p1 10), .bool false] ++ nuns 6 ++ [.bx 258 0, .str x0.name, .bx 834 0, .str (List.getD (s_Ka p0).spec.fields i0 zF).name, .bool true, .bool true, .tup [], .tup [], .tup [], .tup [], .tup [], .tup [], .bool true]
def Qq7 (p0 : Pod) (_p1 : Int) (i0 : Nat) (x0 : Fld) : List (Nat × List PV) :=
  [(0, [.str (s_Ka p0).meta_.kind, .str (s_Ka p0).meta_.namespace_, .str (s_Ka p0).meta_.name, .int .i64 (s_Ka p0).meta_.uid, .int .i64 (s_Ka p0).meta_.version, .int .i64 (s_Ka p0).meta_.generation, .int .i64 (s_Ka p0).meta_.created, .bool (s_Ka p0).meta_.deleting, .int .i64 (s_Ka p0).meta_.deleteAt, .sl (Label.rows (s_Ka p0).meta_.labels), .sl (Owner.rows (s_Ka p0).meta_.owners), .sl (Qe (s_Ka p0).meta_.finalizers), .sl (Manager.rows (s_Ka p0).meta_.managers), .int .i64 (s_Ka p0).spec.kind, .int .i64 (s_Ka p0).spec.n, .str (s_Ka p0).spec.s, .sl (Val.rows (s_Ka p0).spec.list), .sl (Fld.rows (s_Ka p0).spec.fields), .int .i64 (s_Ka p0).status.kind, .int .i64 (s_Ka p0).status.n, .str (s_Ka p0).status.s, .sl (Val.rows (s_Ka p0).status.list), .sl (Fld.rows (s_Ka p0).status.fields)]), (1, [.str (s_Ka Ql).meta_.kind, .str (s_Ka Ql).meta_.namespace_, .str (s_Ka Ql).meta_.name, .int .i64 (s_Ka Ql).meta_.uid, .int .i64 (s_Ka Ql).meta_.version, .int .i64 (s_Ka Ql).meta_.generation, .int .i64 (s_Ka Ql).meta_.created, .bool (s_Ka Ql).meta_.deleting, .int .i64 (s_Ka Ql).meta_.deleteAt, .sl (Label.rows (s_Ka Ql).meta_.labels), .sl (Owner.rows (s_Ka Ql).meta_.owners), .sl (Qe (s_Ka Ql).meta_.finalizers), .sl (Manager.rows (s_Ka Ql).meta_.managers), .int .i64 (s_Ka Ql).spec.kind, .int .i64 (s_Ka Ql).spec.n, .str (s_Ka Ql).spec.s, .sl (Val.rows (s_Ka Ql).spec.list), .sl (Fld.rows (s_Ka Ql).spec.fields), .int .i64 (s_Ka Ql).status.kind, .int .i64 (s_Ka Ql).status.n, .str (s_Ka Ql).status.s, .sl (Val.rows (s_Ka Ql).status.list), .sl (Fld.rows (s_Ka Ql).status.fields)]), (258, [.str x0.name, .int .i64 x0.v.kind, .int .i64 x0.v.n, .str x0.v.s, .sl (Val.rows x0.v.list), .sl (Fld.rows x0.v.fields)]), (834, [.str (List.getD (s_Ka p0).spec.fields i0 zF).name, .int .i64 (List.getD (s_Ka p0).spec.fields i0 zF).v.kind, .int .i64 (List.getD (s_Ka p0).spec.fields i0 zF).v.n, .str (List.getD (s_Ka p0).spec.fields i0 zF).v.s, .sl (Val.rows (List.getD (s_Ka p0).spec.fields i0 zF).v.list), .sl (Fld.rows (List.getD (s_Ka p0).spec.fields i0 zF).v.fields)])]
theorem Q192 (p0 : Pod) (p1 : Int) (H : Q6m p0 p1) (x0 : Fld) (i0 : Nat) (hx0 : (s_Ka (s_Kd (Q26 p0 p1)).1).spec.fields[i0]? = some x0) (_hi0 : i0 < List.length (s_Ka (s_Kd (Q26 p0 p1)).1).spec.fields) (hc0 : (decide ((i0 : Int) < ((List.length (s_Ka (s_Kd (Q26 p0 p1)).1).spec.fields) : Int))) = true) (h0 : ((i0 : Int) == (Int.tmod p1 10)) = false) (h1 : (sEq x0.name (List.getD (s_Ka p0).spec.fields i0 zF).name) = false) : Q8u p0 p1 (Q5l p0 p1 i0) (.k2) := by
 exact ⟨(envF (Qvu p0 p1 i0 x0)), (zoF (Qq7 p0 p1 i0 x0)), Qh VOK.nil (x := (.ret, Qcc p0 p1 (envF (Qvu p0 p1 i0 x0)) (zoF (Qq7 p0 p1 i0 x0)))) [hB 0 hc0, hP 1 (Q1k 6 (Fld.rows (s_Ka (s_Kd (Q26 p0 p1)).1).spec.fields) i0 _ (Fld.Qb hx0) rfl), hP 8 (Q1k 6 (Fld.rows (s_Ka p0).spec.fields) i0 _ (Fld.Qb (Q21 (s_Ka p0).spec.fields i0 zF ((H.2.1 i0 x0 hx0)))) rfl), hB 5 h0, hP 4 (dec (!(sEq x0.name (List.getD (s_Ka p0).spec.fields i0 zF).name)) true (by rw [h1]; rfl))] [] (by kernel_rfl)⟩
theorem Qrv (p0 : Pod) (p1 : Int) (H : Q6m p0 p1) : ∀ (r0 : List Fld) (i0 : Nat), List.drop i0 (s_Ka (s_Kd (Q26 p0 p1)).1).spec.fields = r0 → Q8u p0 p1 (Q5l p0 p1 i0) (Q6l p0 p1 r0 i0)
 | [], i0, hd => by
  have hc0 : (decide ((i0 : Int) < ((List.length (s_Ka (s_Kd (Q26 p0 p1)).1).spec.fields) : Int))) = false := by have := Q1g hd; simp; omega
  rw [Q6l]
  exact Q18y p0 p1 H i0 hc0
 | x0 :: r0, i0, hd => by
  obtain ⟨hx0, hi0, hd'⟩ := Q12 hd
  have hc0 : (decide ((i0 : Int) < ((List.length (s_Ka (s_Kd (Q26 p0 p1)).1).spec.fields) : Int))) = true := by simp; omega
  rw [Q6l]
  cases h0 : ((i0 : Int) == (Int.tmod p1 10)) with
  | true =>
   cases h1 : (sEq x0.name (List.getD (s_Ka Ql).spec.fields i0 zF).name) with
   | true =>
    cases h2 : (Q5f x0.v (List.getD (s_Ka Ql).spec.fields i0 zF).v) with
    | true =>
     exact Qea p0 p1 (fun r hr => Q1ac p0 p1 H x0 i0 hx0 hi0 hc0 h0 h1 h2 hr) _ (Qrv p0 p1 H r0 (i0 + 1) hd')
    | false =>
     exact Q1bd p0 p1 H x0 i0 hx0 hi0 hc0 h0 h1 h2
   | false =>
    exact Q18e p0 p1 H x0 i0 hx0 hi0 hc0 h0 h1
  | false =>
   cases h1 : (sEq x0.name (List.getD (s_Ka p0).spec.fields i0 zF).name) with
   | true =>
    cases h2 : (Q5f x0.v (List.getD (s_Ka p0).spec.fields i0 zF).v) with
    | true =>
     exact Qea p0 p1 (fun r hr => Q19a p0 p1 H x0 i0 hx0 hi0 hc0 h0 h1 h2 hr) _ (Qrv p0 p1 H r0 (i0 + 1) hd')
    | false =>
     exact Q1a1 p0 p1 H x0 i0 hx0 hi0 hc0 h0 h1 h2
   | false =>
    exact Q192 p0 p1 H x0 i0 hx0 hi0 hc0 h0 h1
def s_K3 (p0 : Pod) (p1 : Int) : Bool :=
 bif (s_K6 p0) then
  bif (((List.length (s_Ka p0).spec.fields) : Int) == 10) then
   bif (((List.length (s_Ka p0).status.fields) : Int) == 9) then
    bif ((s_Kd (Q26 p0 p1)).2 == 0) then
     bif ((s_Kd (Q2q p0 p1)).2 == 0) then
      bif (Qa3 (s_Kd (Q26 p0 p1)).1 (s_Kd (Q2q p0 p1)).1) then
       bif (((List.length (s_Ka (s_Kd (Q26 p0 p1)).1).spec.fields) : Int) == 10) then
        bif (((List.length (s_Ka Ql).spec.fields) : Int) == 10) then
         (match (Q6l p0 p1 (s_Ka (s_Kd (Q26 p0 p1)).1).spec.fields 0) with
         | .k0 => true
         | .k1 => false
         | .k2 => false)
        else
         false
       else
        false
      else
       false
     else
      false
    else
     false
   else
    false
  else
   false
 else
  true
def c_K3 (p0 : Pod) (p1 : Int) : En := .call 4 [.agg (Pod.cells p0), .int .u8 p1] []
def a_K3 (p0 : Pod) (p1 : Int) : Rs := .ret (.bool (s_K3 p0 p1)) []
def H_K3 (p0 : Pod) (p1 : Int) : Prop := (H_K6 p0) ∧ ((s_K6 p0) = true → H_Ka p0) ∧ ((s_K6 p0) = true → (((List.length (s_Ka p0).spec.fields) : Int) == 10) = true → (((List.length (s_Ka p0).status.fields) : Int) == 9) = true → 0 ≤ p1 ∧ p1 ≤ 9223372036854775807) ∧ ((s_K6 p0) = true → (((List.length (s_Ka p0).spec.fields) : Int) == 10) = true → (((List.length (s_Ka p0).status.fields) : Int) == 9) = true → H_K8 (s_Ka p0).spec (Int.tmod p1 10)) ∧ ((s_K6 p0) = true → (((List.length (s_Ka p0).spec.fields) : Int) == 10) = true → (((List.length (s_Ka p0).status.fields) : Int) == 9) = true → (0 + List.length (s_Ka p0).spec.fields) * 96 ≤ 140737488355328) ∧ ((s_K6 p0) = true → (((List.length (s_Ka p0).spec.fields) : Int) == 10) = true → (((List.length (s_Ka p0).status.fields) : Int) == 9) = true → 0 ≤ (Int.tmod p1 10)) ∧ ((s_K6 p0) = true → (((List.length (s_Ka p0).spec.fields) : Int) == 10) = true → (((List.length (s_Ka p0).status.fields) : Int) == 9) = true → (Int.tmod p1 10) < (((List.length ([] ++ (s_Ka p0).spec.fields)) : Nat) : Int)) ∧ ((s_K6 p0) = true → (((List.length (s_Ka p0).spec.fields) : Int) == 10) = true → (((List.length (s_Ka p0).status.fields) : Int) == 9) = true → (Int.toNat (Int.tmod p1 10)) < List.length ([] ++ (s_Ka p0).spec.fields)) ∧ ((s_K6 p0) = true → (((List.length (s_Ka p0).spec.fields) : Int) == 10) = true → (((List.length (s_Ka p0).status.fields) : Int) == 9) = true → H_Kd (Q26 p0 p1)) ∧ ((s_K6 p0) = true → (((List.length (s_Ka p0).spec.fields) : Int) == 10) = true → (((List.length (s_Ka p0).status.fields) : Int) == 9) = true → H_Kd (Q2q p0 p1)) ∧ ((s_K6 p0) = true → (((List.length (s_Ka p0).spec.fields) : Int) == 10) = true → (((List.length (s_Ka p0).status.fields) : Int) == 9) = true → ((s_Kd (Q26 p0 p1)).2 == 0) = true → ((s_Kd (Q2q p0 p1)).2 == 0) = true → Q1az (s_Kd (Q26 p0 p1)).1 (s_Kd (Q2q p0 p1)).1) ∧ ((s_K6 p0) = true → (((List.length (s_Ka p0).spec.fields) : Int) == 10) = true → (((List.length (s_Ka p0).status.fields) : Int) == 9) = true → ((s_Kd (Q26 p0 p1)).2 == 0) = true → ((s_Kd (Q2q p0 p1)).2 == 0) = true → (Qa3 (s_Kd (Q26 p0 p1)).1 (s_Kd (Q2q p0 p1)).1) = true → H_Ka (s_Kd (Q26 p0 p1)).1) ∧ ((s_K6 p0) = true → (((List.length (s_Ka p0).spec.fields) : Int) == 10) = true → (((List.length (s_Ka p0).status.fields) : Int) == 9) = true → ((s_Kd (Q26 p0 p1)).2 == 0) = true → ((s_Kd (Q2q p0 p1)).2 == 0) = true → (Qa3 (s_Kd (Q26 p0 p1)).1 (s_Kd (Q2q p0 p1)).1) = true → H_Ka Ql) ∧ ((s_K6 p0) = true → (((List.length (s_Ka p0).spec.fields) : Int) == 10) = true → (((List.length (s_Ka p0).status.fields) : Int) == 9) = true → ((s_Kd (Q26 p0 p1)).2 == 0) = true → ((s_Kd (Q2q p0 p1)).2 == 0) = true → (Qa3 (s_Kd (Q26 p0 p1)).1 (s_Kd (Q2q p0 p1)).1) = true → (((List.length (s_Ka (s_Kd (Q26 p0 p1)).1).spec.fields) : Int) == 10) = true → (((List.length (s_Ka Ql).spec.fields) : Int) == 10) = true → Q6m p0 p1) ∧ True
theorem Q1km (p0 : Pod) (p1 : Int) (H : H_K3 p0 p1) (h0 : (s_K6 p0) = true) (h1 : (((List.length (s_Ka p0).spec.fields) : Int) == 10) = true) (h2 : (((List.length (s_Ka p0).status.fields) : Int) == 9) = true) (h3 : ((s_Kd (Q26 p0 p1)).2 == 0) = true) (h4 : ((s_Kd (Q2q p0 p1)).2 == 0) = true) (h5 : (Qa3 (s_Kd (Q26 p0 p1)).1 (s_Kd (Q2q p0 p1)).1) = true) (h6 : (((List.length (s_Ka (s_Kd (Q26 p0 p1)).1).spec.fields) : Int) == 10) = true) (h7 : (((List.length (s_Ka Ql).spec.fields) : Int) == 10) = true) (z8 : Nat → PV) (zo8 : Nat → List PV) (hl8 : Q6 G (Q5l p0 p1 0) (.st (.exit 0) (Qlq p0 p1 z8 zo8))) : Q6 G (c_K3 p0 p1) (.ret (.bool (true)) []) := by
 exact Q8 (fn := Ir.K3) rfl VOK.nil [hP 12 (Qf (Fld.rows (s_Ka p0).spec.fields) (List.length (s_Ka p0).spec.fields) (Fld.Q0 (s_Ka p0).spec.fields)), hP 0 (dec (!(((List.length (s_Ka p0).spec.fields) : Int) == 10)) false (by rw [h1]; rfl)), hP 4 (Qf (Fld.rows (s_Ka p0).status.fields) (List.length (s_Ka p0).status.fields) (Fld.Q0 (s_Ka p0).status.fields)), hP 0 (dec (!(((List.length (s_Ka p0).status.fields) : Int) == 9)) false (by rw [h2]; rfl)), hP 2 (Qe2 p1 (H.2.2.1 h0 h1 h2)), hV 18 [(2624, Fld.rows ([] ++ (s_Ka p0).spec.fields))] (Qa9 2368 2624 6 96 0 [] (Fld.rows []) (Fld.rows (s_Ka p0).spec.fields) (Fld.rows ([] ++ (s_Ka p0).spec.fields)) 0 (List.length ([] ++ (s_Ka p0).spec.fields)) rfl (Fld.Q0 []).symm (Fld.Q0 ([] ++ (s_Ka p0).spec.fields)).symm (Fld.Q2k [] (s_Ka p0).spec.fields) (Fld.Qd []) (Fld.Qd (s_Ka p0).spec.fields) (by rw [Fld.Q0]; exact (H.2.2.2.2.1 h0 h1 h2))), hS 0 true (Fld.Q7 ([] ++ (s_Ka p0).spec.fields) 6 rfl), hP 8 (Q3l 2624 6 (List.length ([] ++ (s_Ka p0).spec.fields)) (Int.tmod p1 10) (Int.toNat (Int.tmod p1 10)) rfl (H.2.2.2.2.2.1 h0 h1 h2) (H.2.2.2.2.2.2.1 h0 h1 h2)), hV 1 [(2624, Fld.rows (List.set ([] ++ (s_Ka p0).spec.fields) (Int.toNat (Int.tmod p1 10)) (Fld.mk (List.getD ([] ++ (s_Ka p0).spec.fields) (Int.toNat (Int.tmod p1 10)) zF).name (Val.mk 0 0 eB [] []))))] (Qd5 2624 6 true ((Fld.rows ([] ++ (s_Ka p0).spec.fields)).flatten) (Fld.rows ([] ++ (s_Ka p0).spec.fields)) (Fld.rows (List.set ([] ++ (s_Ka p0).spec.fields) (Int.toNat (Int.tmod p1 10)) (Fld.mk (List.getD ([] ++ (s_Ka p0).spec.fields) (Int.toNat (Int.tmod p1 10)) zF).name (Val.mk 0 0 eB [] [])))) 5 (Int.toNat (Int.tmod p1 10)) 1 ((Int.toNat (Int.tmod p1 10)) * 6 + 1) _ (.agg [.int .i64 0, .int .i64 0, .str eB, .sl [], .sl []]) rfl rfl (Fld.Qb (Q21 ([] ++ (s_Ka p0).spec.fields) (Int.toNat (Int.tmod p1 10)) zF (H.2.2.2.2.2.2.2.1 h0 h1 h2))) (Fld.Qd ([] ++ (s_Ka p0).spec.fields)) (by decide) rfl rfl (Fld.Q2j ([] ++ (s_Ka p0).spec.fields) (Int.toNat (Int.tmod p1 10)) (Fld.mk (List.getD ([] ++ (s_Ka p0).spec.fields) (Int.toNat (Int.tmod p1 10)) zF).name (Val.mk 0 0 eB [] [])))), hS 0 true (Fld.Q7 (List.set ([] ++ (s_Ka p0).spec.fields) (Int.toNat (Int.tmod p1 10)) (Fld.mk (List.getD ([] ++ (s_Ka p0).spec.fields) (Int.toNat (Int.tmod p1 10)) zF).name (Val.mk 0 0 eB [] []))) 6 rfl), hQ ((Fld.Q0 (List.set ([] ++ (s_Ka p0).spec.fields) (Int.toNat (Int.tmod p1 10)) (Fld.mk (List.getD ([] ++ (s_Ka p0).spec.fields) (Int.toNat (Int.tmod p1 10)) zF).name (Val.mk 0 0 eB [] [])))).trans (Q3p rfl (Int.toNat (Int.tmod p1 10)) (Fld.mk (List.getD ([] ++ (s_Ka p0).spec.fields) (Int.toNat (Int.tmod p1 10)) zF).name (Val.mk 0 0 eB [] [])))).symm, hP 17 (dec (!((s_Kd (Q26 p0 p1)).2 == 0)) false (by rw [h3]; rfl)), hP 2 (dec (!((s_Kd (Q2q p0 p1)).2 == 0)) false (by rw [h4]; rfl)), hP 18 (Qf (Fld.rows (s_Ka (s_Kd (Q26 p0 p1)).1).spec.fields) (List.length (s_Ka (s_Kd (Q26 p0 p1)).1).spec.fields) (Fld.Q0 (s_Ka (s_Kd (Q26 p0 p1)).1).spec.fields)), hP 0 (dec (!(((List.length (s_Ka (s_Kd (Q26 p0 p1)).1).spec.fields) : Int) == 10)) false (by rw [h6]; rfl)), hP 4 (Qf (Fld.rows (s_Ka Ql).spec.fields) (List.length (s_Ka Ql).spec.fields) (Fld.Q0 (s_Ka Ql).spec.fields)), hP 0 (dec (!(((List.length (s_Ka Ql).spec.fields) : Int) == 10)) false (by rw [h7]; rfl)), hP 4 (Qf (Fld.rows (s_Ka (s_Kd (Q26 p0 p1)).1).spec.fields) (List.length (s_Ka (s_Kd (Q26 p0 p1)).1).spec.fields) (Fld.Q0 (s_Ka (s_Kd (Q26 p0 p1)).1).spec.fields))] [aB (t_K6 p0 (H.1)) h0, aN (t_Ka p0 (H.2.1 h0)), aN (t_K8 (s_Ka p0).spec (Int.tmod p1 10) (H.2.2.2.1 h0 h1 h2)), aN (t_Kd (Q26 p0 p1) (H.2.2.2.2.2.2.2.2.1 h0 h1 h2)), aN (t_Kd (Q2q p0 p1) (H.2.2.2.2.2.2.2.2.2.1 h0 h1 h2)), aB (Q157 (s_Kd (Q26 p0 p1)).1 (s_Kd (Q2q p0 p1)).1 (H.2.2.2.2.2.2.2.2.2.2.1 h0 h1 h2 h3 h4)) h5, aN (t_Ka (s_Kd (Q26 p0 p1)).1 (H.2.2.2.2.2.2.2.2.2.2.2.1 h0 h1 h2 h3 h4 h5)), aN (t_Ka Ql (H.2.2.2.2.2.2.2.2.2.2.2.2.1 h0 h1 h2 h3 h4 h5)), aN hl8, aN t_K7] (by kernel_rfl)
theorem Q1k3 (p0 : Pod) (p1 : Int) (H : H_K3 p0 p1) (h0 : (s_K6 p0) = true) (h1 : (((List.length (s_Ka p0).spec.fields) : Int) == 10) = true) (h2 : (((List.length (s_Ka p0).status.fields) : Int) == 9) = true) (h3 : ((s_Kd (Q26 p0 p1)).2 == 0) = true) (h4 : ((s_Kd (Q2q p0 p1)).2 == 0) = true) (h5 : (Qa3 (s_Kd (Q26 p0 p1)).1 (s_Kd (Q2q p0 p1)).1) = true) (h6 : (((List.length (s_Ka (s_Kd (Q26 p0 p1)).1).spec.fields) : Int) == 10) = true) (h7 : (((List.length (s_Ka Ql).spec.fields) : Int) == 10) = true) (z8 : Nat → PV) (zo8 : Nat → List PV) (hl8 : Q6 G (Q5l p0 p1 0) (.st .ret (Qbk p0 p1 z8 zo8))) : Q6 G (c_K3 p0 p1) (.ret (.bool (false)) []) := by
 exact Q8 (fn := Ir.K3) rfl VOK.nil [hP 12 (Qf (Fld.rows (s_Ka p0).spec.fields) (List.length (s_Ka p0).spec.fields) (Fld.Q0 (s_Ka p0).spec.fields)), hP 0 (dec (!(((List.length (s_Ka p0).spec.fields) : Int) == 10)) false (by rw [h1]; rfl)), hP 4 (Qf (Fld.rows (s_Ka p0).status.fields) (List.length (s_Ka p0).status.fields) (Fld.Q0 (s_Ka p0).status.fields)), hP 0 (dec (!(((List.length (s_Ka p0).status.fields) : Int) == 9)) false (by rw [h2]; rfl)), hP 2 (Qe2 p1 (H.2.2.1 h0 h1 h2)), hV 18 [(2624, Fld.rows ([] ++ (s_Ka p0).spec.fields))] (Qa9 2368 2624 6 96 0 [] (Fld.rows []) (Fld.rows (s_Ka p0).spec.fields) (Fld.rows ([] ++ (s_Ka p0).spec.fields)) 0 (List.length ([] ++ (s_Ka p0).spec.fields)) rfl (Fld.Q0 []).symm (Fld.Q0 ([] ++ (s_Ka p0).spec.fields)).symm (Fld.Q2k [] (s_Ka p0).spec.fields) (Fld.Qd []) (Fld.Qd (s_Ka p0).spec.fields) (by rw [Fld.Q0]; exact (H.2.2.2.2.1 h0 h1 h2))), hS 0 true (Fld.Q7 ([] ++ (s_Ka p0).spec.fields) 6 rfl), hP 8 (Q3l 2624 6 (List.length ([] ++ (s_Ka p0).spec.fields)) (Int.tmod p1 10) (Int.toNat (Int.tmod p1 10)) rfl (H.2.2.2.2.2.1 h0 h1 h2) (H.2.2.2.2.2.2.1 h0 h1 h2)), hV 1 [(2624, Fld.rows (List.set ([] ++ (s_Ka p0).spec.fields) (Int.toNat (Int.tmod p1 10)) (Fld.mk (List.getD ([] ++ (s_Ka p0).spec.fields) (Int.toNat (Int.tmod p1 10)) zF).name (Val.mk 0 0 eB [] []))))] (Qd5 2624 6 true ((Fld.rows ([] ++ (s_Ka p0).spec.fields)).flatten) (Fld.rows ([] ++ (s_Ka p0).spec.fields)) (Fld.rows (List.set ([] ++ (s_Ka p0).spec.fields) (Int.toNat (Int.tmod p1 10)) (Fld.mk (List.getD ([] ++ (s_Ka p0).spec.fields) (Int.toNat (Int.tmod p1 10)) zF).name (Val.mk 0 0 eB [] [])))) 5 (Int.toNat (Int.tmod p1 10)) 1 ((Int.toNat (Int.tmod p1 10)) * 6 + 1) _ (.agg [.int .i64 0, .int .i64 0, .str eB, .sl [], .sl []]) rfl rfl (Fld.Qb (Q21 ([] ++ (s_Ka p0).spec.fields) (Int.toNat (Int.tmod p1 10)) zF (H.2.2.2.2.2.2.2.1 h0 h1 h2))) (Fld.Qd ([] ++ (s_Ka p0).spec.fields)) (by decide) rfl rfl (Fld.Q2j ([] ++ (s_Ka p0).spec.fields) (Int.toNat (Int.tmod p1 10)) (Fld.mk (List.getD ([] ++ (s_Ka p0).spec.fields) (Int.toNat (Int.tmod p1 10)) zF).name (Val.mk 0 0 eB [] [])))), hS 0 true (Fld.Q7 (List.set ([] ++ (s_Ka p0).spec.fields) (Int.toNat (Int.tmod p1 10)) (Fld.mk (List.getD ([] ++ (s_Ka p0).spec.fields) (Int.toNat (Int.tmod p1 10)) zF).name (Val.mk 0 0 eB [] []))) 6 rfl), hQ ((Fld.Q0 (List.set ([] ++ (s_Ka p0).spec.fields) (Int.toNat (Int.tmod p1 10)) (Fld.mk (List.getD ([] ++ (s_Ka p0).spec.fields) (Int.toNat (Int.tmod p1 10)) zF).name (Val.mk 0 0 eB [] [])))).trans (Q3p rfl (Int.toNat (Int.tmod p1 10)) (Fld.mk (List.getD ([] ++ (s_Ka p0).spec.fields) (Int.toNat (Int.tmod p1 10)) zF).name (Val.mk 0 0 eB [] [])))).symm, hP 17 (dec (!((s_Kd (Q26 p0 p1)).2 == 0)) false (by rw [h3]; rfl)), hP 2 (dec (!((s_Kd (Q2q p0 p1)).2 == 0)) false (by rw [h4]; rfl)), hP 18 (Qf (Fld.rows (s_Ka (s_Kd (Q26 p0 p1)).1).spec.fields) (List.length (s_Ka (s_Kd (Q26 p0 p1)).1).spec.fields) (Fld.Q0 (s_Ka (s_Kd (Q26 p0 p1)).1).spec.fields)), hP 0 (dec (!(((List.length (s_Ka (s_Kd (Q26 p0 p1)).1).spec.fields) : Int) == 10)) false (by rw [h6]; rfl)), hP 4 (Qf (Fld.rows (s_Ka Ql).spec.fields) (List.length (s_Ka Ql).spec.fields) (Fld.Q0 (s_Ka Ql).spec.fields)), hP 0 (dec (!(((List.length (s_Ka Ql).spec.fields) : Int) == 10)) false (by rw [h7]; rfl)), hP 4 (Qf (Fld.rows (s_Ka (s_Kd (Q26 p0 p1)).1).spec.fields) (List.length (s_Ka (s_Kd (Q26 p0 p1)).1).spec.fields) (Fld.Q0 (s_Ka (s_Kd (Q26 p0 p1)).1).spec.fields))] [aB (t_K6 p0 (H.1)) h0, aN (t_Ka p0 (H.2.1 h0)), aN (t_K8 (s_Ka p0).spec (Int.tmod p1 10) (H.2.2.2.1 h0 h1 h2)), aN (t_Kd (Q26 p0 p1) (H.2.2.2.2.2.2.2.2.1 h0 h1 h2)), aN (t_Kd (Q2q p0 p1) (H.2.2.2.2.2.2.2.2.2.1 h0 h1 h2)), aB (Q157 (s_Kd (Q26 p0 p1)).1 (s_Kd (Q2q p0 p1)).1 (H.2.2.2.2.2.2.2.2.2.2.1 h0 h1 h2 h3 h4)) h5, aN (t_Ka (s_Kd (Q26 p0 p1)).1 (H.2.2.2.2.2.2.2.2.2.2.2.1 h0 h1 h2 h3 h4 h5)), aN (t_Ka Ql (H.2.2.2.2.2.2.2.2.2.2.2.2.1 h0 h1 h2 h3 h4 h5)), aN hl8] (by kernel_rfl)
theorem Q1l2 (p0 : Pod) (p1 : Int) (H : H_K3 p0 p1) (h0 : (s_K6 p0) = true) (h1 : (((List.length (s_Ka p0).spec.fields) : Int) == 10) = true) (h2 : (((List.length (s_Ka p0).status.fields) : Int) == 9) = true) (h3 : ((s_Kd (Q26 p0 p1)).2 == 0) = true) (h4 : ((s_Kd (Q2q p0 p1)).2 == 0) = true) (h5 : (Qa3 (s_Kd (Q26 p0 p1)).1 (s_Kd (Q2q p0 p1)).1) = true) (h6 : (((List.length (s_Ka (s_Kd (Q26 p0 p1)).1).spec.fields) : Int) == 10) = true) (h7 : (((List.length (s_Ka Ql).spec.fields) : Int) == 10) = true) (z8 : Nat → PV) (zo8 : Nat → List PV) (hl8 : Q6 G (Q5l p0 p1 0) (.st .ret (Qcc p0 p1 z8 zo8))) : Q6 G (c_K3 p0 p1) (.ret (.bool (false)) []) := by
 exact Q8 (fn := Ir.K3) rfl VOK.nil [hP 12 (Qf (Fld.rows (s_Ka p0).spec.fields) (List.length (s_Ka p0).spec.fields) (Fld.Q0 (s_Ka p0).spec.fields)), hP 0 (dec (!(((List.length (s_Ka p0).spec.fields) : Int) == 10)) false (by rw [h1]; rfl)), hP 4 (Qf (Fld.rows (s_Ka p0).status.fields) (List.length (s_Ka p0).status.fields) (Fld.Q0 (s_Ka p0).status.fields)), hP 0 (dec (!(((List.length (s_Ka p0).status.fields) : Int) == 9)) false (by rw [h2]; rfl)), hP 2 (Qe2 p1 (H.2.2.1 h0 h1 h2)), hV 18 [(2624, Fld.rows ([] ++ (s_Ka p0).spec.fields))] (Qa9 2368 2624 6 96 0 [] (Fld.rows []) (Fld.rows (s_Ka p0).spec.fields) (Fld.rows ([] ++ (s_Ka p0).spec.fields)) 0 (List.length ([] ++ (s_Ka p0).spec.fields)) rfl (Fld.Q0 []).symm (Fld.Q0 ([] ++ (s_Ka p0).spec.fields)).symm (Fld.Q2k [] (s_Ka p0).spec.fields) (Fld.Qd []) (Fld.Qd (s_Ka p0).spec.fields) (by rw [Fld.Q0]; exact (H.2.2.2.2.1 h0 h1 h2))), hS 0 true (Fld.Q7 ([] ++ (s_Ka p0).spec.fields) 6 rfl), hP 8 (Q3l 2624 6 (List.length ([] ++ (s_Ka p0).spec.fields)) (Int.tmod p1 10) (Int.toNat (Int.tmod p1 10)) rfl (H.2.2.2.2.2.1 h0 h1 h2) (H.2.2.2.2.2.2.1 h0 h1 h2)), hV 1 [(2624, Fld.rows (List.set ([] ++ (s_Ka p0).spec.fields) (Int.toNat (Int.tmod p1 10)) (Fld.mk (List.getD ([] ++ (s_Ka p0).spec.fields) (Int.toNat (Int.tmod p1 10)) zF).name (Val.mk 0 0 eB [] []))))] (Qd5 2624 6 true ((Fld.rows ([] ++ (s_Ka p0).spec.fields)).flatten) (Fld.rows ([] ++ (s_Ka p0).spec.fields)) (Fld.rows (List.set ([] ++ (s_Ka p0).spec.fields) (Int.toNat (Int.tmod p1 10)) (Fld.mk (List.getD ([] ++ (s_Ka p0).spec.fields) (Int.toNat (Int.tmod p1 10)) zF).name (Val.mk 0 0 eB [] [])))) 5 (Int.toNat (Int.tmod p1 10)) 1 ((Int.toNat (Int.tmod p1 10)) * 6 + 1) _ (.agg [.int .i64 0, .int .i64 0, .str eB, .sl [], .sl []]) rfl rfl (Fld.Qb (Q21 ([] ++ (s_Ka p0).spec.fields) (Int.toNat (Int.tmod p1 10)) zF (H.2.2.2.2.2.2.2.1 h0 h1 h2))) (Fld.Qd ([] ++ (s_Ka p0).spec.fields)) (by decide) rfl rfl (Fld.Q2j ([] ++ (s_Ka p0).spec.fields) (Int.toNat (Int.tmod p1 10)) (Fld.mk (List.getD ([] ++ (s_Ka p0).spec.fields) (Int.toNat (Int.tmod p1 10)) zF).name (Val.mk 0 0 eB [] [])))), hS 0 true (Fld.Q7 (List.set ([] ++ (s_Ka p0).spec.fields) (Int.toNat (Int.tmod p1 10)) (Fld.mk (List.getD ([] ++ (s_Ka p0).spec.fields) (Int.toNat (Int.tmod p1 10)) zF).name (Val.mk 0 0 eB [] []))) 6 rfl), hQ ((Fld.Q0 (List.set ([] ++ (s_Ka p0).spec.fields) (Int.toNat (Int.tmod p1 10)) (Fld.mk (List.getD ([] ++ (s_Ka p0).spec.fields) (Int.toNat (Int.tmod p1 10)) zF).name (Val.mk 0 0 eB [] [])))).trans (Q3p rfl (Int.toNat (Int.tmod p1 10)) (Fld.mk (List.getD ([] ++ (s_Ka p0).spec.fields) (Int.toNat (Int.tmod p1 10)) zF).name (Val.mk 0 0 eB [] [])))).symm, hP 17 (dec (!((s_Kd (Q26 p0 p1)).2 == 0)) false (by rw [h3]; rfl)), hP 2 (dec (!((s_Kd (Q2q p0 p1)).2 == 0)) false (by rw [h4]; rfl)), hP 18 (Qf (Fld.rows (s_Ka (s_Kd (Q26 p0 p1)).1).spec.fields) (List.length (s_Ka (s_Kd (Q26 p0 p1)).1).spec.fields) (Fld.Q0 (s_Ka (s_Kd (Q26 p0 p1)).1).spec.fields)), hP 0 (dec (!(((List.length (s_Ka (s_Kd (Q26 p0 p1)).1).spec.fields) : Int) == 10)) false (by rw [h6]; rfl)), hP 4 (Qf (Fld.rows (s_Ka Ql).spec.fields) (List.length (s_Ka Ql).spec.fields) (Fld.Q0 (s_Ka Ql).spec.fields)), hP 0 (dec (!(((List.length (s_Ka Ql).spec.fields) : Int) == 10)) false (by rw [h7]; rfl)), hP 4 (Qf (Fld.rows (s_Ka (s_Kd (Q26 p0 p1)).1).spec.fields) (List.length (s_Ka (s_Kd (Q26 p0 p1)).1).spec.fields) (Fld.Q0 (s_Ka (s_Kd (Q26 p0 p1)).1).spec.fields))] [aB (t_K6 p0 (H.1)) h0, aN (t_Ka p0 (H.2.1 h0)), aN (t_K8 (s_Ka p0).spec (Int.tmod p1 10) (H.2.2.2.1 h0 h1 h2)), aN (t_Kd (Q26 p0 p1) (H.2.2.2.2.2.2.2.2.1 h0 h1 h2)), aN (t_Kd (Q2q p0 p1) (H.2.2.2.2.2.2.2.2.2.1 h0 h1 h2)), aB (Q157 (s_Kd (Q26 p0 p1)).1 (s_Kd (Q2q p0 p1)).1 (H.2.2.2.2.2.2.2.2.2.2.1 h0 h1 h2 h3 h4)) h5, aN (t_Ka (s_Kd (Q26 p0 p1)).1 (H.2.2.2.2.2.2.2.2.2.2.2.1 h0 h1 h2 h3 h4 h5)), aN (t_Ka Ql (H.2.2.2.2.2.2.2.2.2.2.2.2.1 h0 h1 h2 h3 h4 h5)), aN hl8] (by kernel_rfl)
theorem Q1lb (p0 : Pod) (p1 : Int) (H : H_K3 p0 p1) (h0 : (s_K6 p0) = true) (h1 : (((List.length (s_Ka p0).spec.fields) : Int) == 10) = true) (h2 : (((List.length (s_Ka p0).status.fields) : Int) == 9) = true) (h3 : ((s_Kd (Q26 p0 p1)).2 == 0) = true) (h4 : ((s_Kd (Q2q p0 p1)).2 == 0) = true) (h5 : (Qa3 (s_Kd (Q26 p0 p1)).1 (s_Kd (Q2q p0 p1)).1) = true) (h6 : (((List.length (s_Ka (s_Kd (Q26 p0 p1)).1).spec.fields) : Int) == 10) = true) (h7 : (((List.length (s_Ka Ql).spec.fields) : Int) == 10) = false) : Q6 G (c_K3 p0 p1) (.ret (.bool (false)) []) := by
 exact Q8 (fn := Ir.K3) rfl VOK.nil [hP 12 (Qf (Fld.rows (s_Ka p0).spec.fields) (List.length (s_Ka p0).spec.fields) (Fld.Q0 (s_Ka p0).spec.fields)), hP 0 (dec (!(((List.length (s_Ka p0).spec.fields) : Int) == 10)) false (by rw [h1]; rfl)), hP 4 (Qf (Fld.rows (s_Ka p0).status.fields) (List.length (s_Ka p0).status.fields) (Fld.Q0 (s_Ka p0).status.fields)), hP 0 (dec (!(((List.length (s_Ka p0).status.fields) : Int) == 9)) false (by rw [h2]; rfl)), hP 2 (Qe2 p1 (H.2.2.1 h0 h1 h2)), hV 18 [(2624, Fld.rows ([] ++ (s_Ka p0).spec.fields))] (Qa9 2368 2624 6 96 0 [] (Fld.rows []) (Fld.rows (s_Ka p0).spec.fields) (Fld.rows ([] ++ (s_Ka p0).spec.fields)) 0 (List.length ([] ++ (s_Ka p0).spec.fields)) rfl (Fld.Q0 []).symm (Fld.Q0 ([] ++ (s_Ka p0).spec.fields)).symm (Fld.Q2k [] (s_Ka p0).spec.fields) (Fld.Qd []) (Fld.Qd (s_Ka p0).spec.fields) (by rw [Fld.Q0]; exact (H.2.2.2.2.1 h0 h1 h2))), hS 0 true (Fld.Q7 ([] ++ (s_Ka p0).spec.fields) 6 rfl), hP 8 (Q3l 2624 6 (List.length ([] ++ (s_Ka p0).spec.fields)) (Int.tmod p1 10) (Int.toNat (Int.tmod p1 10)) rfl (H.2.2.2.2.2.1 h0 h1 h2) (H.2.2.2.2.2.2.1 h0 h1 h2)), hV 1 [(2624, Fld.rows (List.set ([] ++ (s_Ka p0).spec.fields) (Int.toNat (Int.tmod p1 10)) (Fld.mk (List.getD ([] ++ (s_Ka p0).spec.fields) (Int.toNat (Int.tmod p1 10)) zF).name (Val.mk 0 0 eB [] []))))] (Qd5 2624 6 true ((Fld.rows ([] ++ (s_Ka p0).spec.fields)).flatten) (Fld.rows ([] ++ (s_Ka p0).spec.fields)) (Fld.rows (List.set ([] ++ (s_Ka p0).spec.fields) (Int.toNat (Int.tmod p1 10)) (Fld.mk (List.getD ([] ++ (s_Ka p0).spec.fields) (Int.toNat (Int.tmod p1 10)) zF).name (Val.mk 0 0 eB [] [])))) 5 (Int.toNat (Int.tmod p1 10)) 1 ((Int.toNat (Int.tmod p1 10)) * 6 + 1) _ (.agg [.int .i64 0, .int .i64 0, .str eB, .sl [], .sl []]) rfl rfl (Fld.Qb (Q21 ([] ++ (s_Ka p0).spec.fields) (Int.toNat (Int.tmod p1 10)) zF (H.2.2.2.2.2.2.2.1 h0 h1 h2))) (Fld.Qd ([] ++ (s_Ka p0).spec.fields)) (by decide) rfl rfl (Fld.Q2j ([] ++ (s_Ka p0).spec.fields) (Int.toNat (Int.tmod p1 10)) (Fld.mk (List.getD ([] ++ (s_Ka p0).spec.fields) (Int.toNat (Int.tmod p1 10)) zF).name (Val.mk 0 0 eB [] [])))), hS 0 true (Fld.Q7 (List.set ([] ++ (s_Ka p0).spec.fields) (Int.toNat (Int.tmod p1 10)) (Fld.mk (List.getD ([] ++ (s_Ka p0).spec.fields) (Int.toNat (Int.tmod p1 10)) zF).name (Val.mk 0 0 eB [] []))) 6 rfl), hQ ((Fld.Q0 (List.set ([] ++ (s_Ka p0).spec.fields) (Int.toNat (Int.tmod p1 10)) (Fld.mk (List.getD ([] ++ (s_Ka p0).spec.fields) (Int.toNat (Int.tmod p1 10)) zF).name (Val.mk 0 0 eB [] [])))).trans (Q3p rfl (Int.toNat (Int.tmod p1 10)) (Fld.mk (List.getD ([] ++ (s_Ka p0).spec.fields) (Int.toNat (Int.tmod p1 10)) zF).name (Val.mk 0 0 eB [] [])))).symm, hP 17 (dec (!((s_Kd (Q26 p0 p1)).2 == 0)) false (by rw [h3]; rfl)), hP 2 (dec (!((s_Kd (Q2q p0 p1)).2 == 0)) false (by rw [h4]; rfl)), hP 18 (Qf (Fld.rows (s_Ka (s_Kd (Q26 p0 p1)).1).spec.fields) (List.length (s_Ka (s_Kd (Q26 p0 p1)).1).spec.fields) (Fld.Q0 (s_Ka (s_Kd (Q26 p0 p1)).1).spec.fields)), hP 0 (dec (!(((List.length (s_Ka (s_Kd (Q26 p0 p1)).1).spec.fields) : Int) == 10)) false (by rw [h6]; rfl)), hP 4 (Qf (Fld.rows (s_Ka Ql).spec.fields) (List.length (s_Ka Ql).spec.fields) (Fld.Q0 (s_Ka Ql).spec.fields)), hP 0 (dec (!(((List.length (s_Ka Ql).spec.fields) : Int) == 10)) true (by rw [h7]; rfl))] [aB (t_K6 p0 (H.1)) h0, aN (t_Ka p0 (H.2.1 h0)), aN (t_K8 (s_Ka p0).spec (Int.tmod p1 10) (H.2.2.2.1 h0 h1 h2)), aN (t_Kd (Q26 p0 p1) (H.2.2.2.2.2.2.2.2.1 h0 h1 h2)), aN (t_Kd (Q2q p0 p1) (H.2.2.2.2.2.2.2.2.2.1 h0 h1 h2)), aB (Q157 (s_Kd (Q26 p0 p1)).1 (s_Kd (Q2q p0 p1)).1 (H.2.2.2.2.2.2.2.2.2.2.1 h0 h1 h2 h3 h4)) h5, aN (t_Ka (s_Kd (Q26 p0 p1)).1 (H.2.2.2.2.2.2.2.2.2.2.2.1 h0 h1 h2 h3 h4 h5)), aN (t_Ka Ql (H.2.2.2.2.2.2.2.2.2.2.2.2.1 h0 h1 h2 h3 h4 h5))] (by kernel_rfl)
theorem Q1kq (p0 : Pod) (p1 : Int) (H : H_K3 p0 p1) (h0 : (s_K6 p0) = true) (h1 : (((List.length (s_Ka p0).spec.fields) : Int) == 10) = true) (h2 : (((List.length (s_Ka p0).status.fields) : Int) == 9) = true) (h3 : ((s_Kd (Q26 p0 p1)).2 == 0) = true) (h4 : ((s_Kd (Q2q p0 p1)).2 == 0) = true) (h5 : (Qa3 (s_Kd (Q26 p0 p1)).1 (s_Kd (Q2q p0 p1)).1) = true) (h6 : (((List.length (s_Ka (s_Kd (Q26 p0 p1)).1).spec.fields) : Int) == 10) = false) : Q6 G (c_K3 p0 p1) (.ret (.bool (false)) []) := by
 exact Q8 (fn := Ir.K3) rfl VOK.nil [hP 12 (Qf (Fld.rows (s_Ka p0).spec.fields) (List.length (s_Ka p0).spec.fields) (Fld.Q0 (s_Ka p0).spec.fields)), hP 0 (dec (!(((List.length (s_Ka p0).spec.fields) : Int) == 10)) false (by rw [h1]; rfl)), hP 4 (Qf (Fld.rows (s_Ka p0).status.fields) (List.length (s_Ka p0).status.fields) (Fld.Q0 (s_Ka p0).status.fields)), hP 0 (dec (!(((List.length (s_Ka p0).status.fields) : Int) == 9)) false (by rw [h2]; rfl)), hP 2 (Qe2 p1 (H.2.2.1 h0 h1 h2)), hV 18 [(2624, Fld.rows ([] ++ (s_Ka p0).spec.fields))] (Qa9 2368 2624 6 96 0 [] (Fld.rows []) (Fld.rows (s_Ka p0).spec.fields) (Fld.rows ([] ++ (s_Ka p0).spec.fields)) 0 (List.length ([] ++ (s_Ka p0).spec.fields)) rfl (Fld.Q0 []).symm (Fld.Q0 ([] ++ (s_Ka p0).spec.fields)).symm (Fld.Q2k [] (s_Ka p0).spec.fields) (Fld.Qd []) (Fld.Qd (s_Ka p0).spec.fields) (by rw [Fld.Q0]; exact (H.2.2.2.2.1 h0 h1 h2))), hS 0 true (Fld.Q7 ([] ++ (s_Ka p0).spec.fields) 6 rfl), hP 8 (Q3l 2624 6 (List.length ([] ++ (s_Ka p0).spec.fields)) (Int.tmod p1 10) (Int.toNat (Int.tmod p1 10)) rfl (H.2.2.2.2.2.1 h0 h1 h2) (H.2.2.2.2.2.2.1 h0 h1 h2)), hV 1 [(2624, Fld.rows (List.set ([] ++ (s_Ka p0).spec.fields) (Int.toNat (Int.tmod p1 10)) (Fld.mk (List.getD ([] ++ (s_Ka p0).spec.fields) (Int.toNat (Int.tmod p1 10)) zF).name (Val.mk 0 0 eB [] []))))] (Qd5 2624 6 true ((Fld.rows ([] ++ (s_Ka p0).spec.fields)).flatten) (Fld.rows ([] ++ (s_Ka p0).spec.fields)) (Fld.rows (List.set ([] ++ (s_Ka p0).spec.fields) (Int.toNat (Int.tmod p1 10)) (Fld.mk (List.getD ([] ++ (s_Ka p0).spec.fields) (Int.toNat (Int.tmod p1 10)) zF).name (Val.mk 0 0 eB [] [])))) 5 (Int.toNat (Int.tmod p1 10)) 1 ((Int.toNat (Int.tmod p1 10)) * 6 + 1) _ (.agg [.int .i64 0, .int .i64 0, .str eB, .sl [], .sl []]) rfl rfl (Fld.Qb (Q21 ([] ++ (s_Ka p0).spec.fields) (Int.toNat (Int.tmod p1 10)) zF (H.2.2.2.2.2.2.2.1 h0 h1 h2))) (Fld.Qd ([] ++ (s_Ka p0).spec.fields)) (by decide) rfl rfl (Fld.Q2j ([] ++ (s_Ka p0).spec.fields) (Int.toNat (Int.tmod p1 10)) (Fld.mk (List.getD ([] ++ (s_Ka p0).spec.fields) (Int.toNat (Int.tmod p1 10)) zF).name (Val.mk 0 0 eB [] [])))), hS 0 true (Fld.Q7 (List.set ([] ++ (s_Ka p0).spec.fields) (Int.toNat (Int.tmod p1 10)) (Fld.mk (List.getD ([] ++ (s_Ka p0).spec.fields) (Int.toNat (Int.tmod p1 10)) zF).name (Val.mk 0 0 eB [] []))) 6 rfl), hQ ((Fld.Q0 (List.set ([] ++ (s_Ka p0).spec.fields) (Int.toNat (Int.tmod p1 10)) (Fld.mk (List.getD ([] ++ (s_Ka p0).spec.fields) (Int.toNat (Int.tmod p1 10)) zF).name (Val.mk 0 0 eB [] [])))).trans (Q3p rfl (Int.toNat (Int.tmod p1 10)) (Fld.mk (List.getD ([] ++ (s_Ka p0).spec.fields) (Int.toNat (Int.tmod p1 10)) zF).name (Val.mk 0 0 eB [] [])))).symm, hP 17 (dec (!((s_Kd (Q26 p0 p1)).2 == 0)) false (by rw [h3]; rfl)), hP 2 (dec (!((s_Kd (Q2q p0 p1)).2 == 0)) false (by rw [h4]; rfl)), hP 18 (Qf (Fld.rows (s_Ka (s_Kd (Q26 p0 p1)).1).spec.fields) (List.length (s_Ka (s_Kd (Q26 p0 p1)).1).spec.fields) (Fld.Q0 (s_Ka (s_Kd (Q26 p0 p1)).1).spec.fields)), hP 0 (dec (!(((List.length (s_Ka (s_Kd (Q26 p0 p1)).1).spec.fields) : Int) == 10)) true (by rw [h6]; rfl))] [aB (t_K6 p0 (H.1)) h0, aN (t_Ka p0 (H.2.1 h0)), aN (t_K8 (s_Ka p0).spec (Int.tmod p1 10) (H.2.2.2.1 h0 h1 h2)), aN (t_Kd (Q26 p0 p1) (H.2.2.2.2.2.2.2.2.1 h0 h1 h2)), aN (t_Kd (Q2q p0 p1) (H.2.2.2.2.2.2.2.2.2.1 h0 h1 h2)), aB (Q157 (s_Kd (Q26 p0 p1)).1 (s_Kd (Q2q p0 p1)).1 (H.2.2.2.2.2.2.2.2.2.2.1 h0 h1 h2 h3 h4)) h5, aN (t_Ka (s_Kd (Q26 p0 p1)).1 (H.2.2.2.2.2.2.2.2.2.2.2.1 h0 h1 h2 h3 h4 h5)), aN (t_Ka Ql (H.2.2.2.2.2.2.2.2.2.2.2.2.1 h0 h1 h2 h3 h4 h5))] (by kernel_rfl)
theorem Q1ib (p0 : Pod) (p1 : Int) (H : H_K3 p0 p1) (h0 : (s_K6 p0) = true) (h1 : (((List.length (s_Ka p0).spec.fields) : Int) == 10) = true) (h2 : (((List.length (s_Ka p0).status.fields) : Int) == 9) = true) (h3 : ((s_Kd (Q26 p0 p1)).2 == 0) = true) (h4 : ((s_Kd (Q2q p0 p1)).2 == 0) = true) (h5 : (Qa3 (s_Kd (Q26 p0 p1)).1 (s_Kd (Q2q p0 p1)).1) = false) : Q6 G (c_K3 p0 p1) (.ret (.bool (false)) []) := by
 exact Q8 (fn := Ir.K3) rfl VOK.nil [hP 12 (Qf (Fld.rows (s_Ka p0).spec.fields) (List.length (s_Ka p0).spec.fields) (Fld.Q0 (s_Ka p0).spec.fields)), hP 0 (dec (!(((List.length (s_Ka p0).spec.fields) : Int) == 10)) false (by rw [h1]; rfl)), hP 4 (Qf (Fld.rows (s_Ka p0).status.fields) (List.length (s_Ka p0).status.fields) (Fld.Q0 (s_Ka p0).status.fields)), hP 0 (dec (!(((List.length (s_Ka p0).status.fields) : Int) == 9)) false (by rw [h2]; rfl)), hP 2 (Qe2 p1 (H.2.2.1 h0 h1 h2)), hV 18 [(2624, Fld.rows ([] ++ (s_Ka p0).spec.fields))] (Qa9 2368 2624 6 96 0 [] (Fld.rows []) (Fld.rows (s_Ka p0).spec.fields) (Fld.rows ([] ++ (s_Ka p0).spec.fields)) 0 (List.length ([] ++ (s_Ka p0).spec.fields)) rfl (Fld.Q0 []).symm (Fld.Q0 ([] ++ (s_Ka p0).spec.fields)).symm (Fld.Q2k [] (s_Ka p0).spec.fields) (Fld.Qd []) (Fld.Qd (s_Ka p0).spec.fields) (by rw [Fld.Q0]; exact (H.2.2.2.2.1 h0 h1 h2))), hS 0 true (Fld.Q7 ([] ++ (s_Ka p0).spec.fields) 6 rfl), hP 8 (Q3l 2624 6 (List.length ([] ++ (s_Ka p0).spec.fields)) (Int.tmod p1 10) (Int.toNat (Int.tmod p1 10)) rfl (H.2.2.2.2.2.1 h0 h1 h2) (H.2.2.2.2.2.2.1 h0 h1 h2)), hV 1 [(2624, Fld.rows (List.set ([] ++ (s_Ka p0).spec.fields) (Int.toNat (Int.tmod p1 10)) (Fld.mk (List.getD ([] ++ (s_Ka p0).spec.fields) (Int.toNat (Int.tmod p1 10)) zF).name (Val.mk 0 0 eB [] []))))] (Qd5 2624 6 true ((Fld.rows ([] ++ (s_Ka p0).spec.fields)).flatten) (Fld.rows ([] ++ (s_Ka p0).spec.fields)) (Fld.rows (List.set ([] ++ (s_Ka p0).spec.fields) (Int.toNat (Int.tmod p1 10)) (Fld.mk (List.getD ([] ++ (s_Ka p0).spec.fields) (Int.toNat (Int.tmod p1 10)) zF).name (Val.mk 0 0 eB [] [])))) 5 (Int.toNat (Int.tmod p1 10)) 1 ((Int.toNat (Int.tmod p1 10)) * 6 + 1) _ (.agg [.int .i64 0, .int .i64 0, .str eB, .sl [], .sl []]) rfl rfl (Fld.Qb (Q21 ([] ++ (s_Ka p0).spec.fields) (Int.toNat (Int.tmod p1 10)) zF (H.2.2.2.2.2.2.2.1 h0 h1 h2))) (Fld.Qd ([] ++ (s_Ka p0).spec.fields)) (by decide) rfl rfl (Fld.Q2j ([] ++ (s_Ka p0).spec.fields) (Int.toNat (Int.tmod p1 10)) (Fld.mk (List.getD ([] ++ (s_Ka p0).spec.fields) (Int.toNat (Int.tmod p1 10)) zF).name (Val.mk 0 0 eB [] [])))), hS 0 true (Fld.Q7 (List.set ([] ++ (s_Ka p0).spec.fields) (Int.toNat (Int.tmod p1 10)) (Fld.mk (List.getD ([] ++ (s_Ka p0).spec.fields) (Int.toNat (Int.tmod p1 10)) zF).name (Val.mk 0 0 eB [] []))) 6 rfl), hQ ((Fld.Q0 (List.set ([] ++ (s_Ka p0).spec.fields) (Int.toNat (Int.tmod p1 10)) (Fld.mk (List.getD ([] ++ (s_Ka p0).spec.fields) (Int.toNat (Int.tmod p1 10)) zF).name (Val.mk 0 0 eB [] [])))).trans (Q3p rfl (Int.toNat (Int.tmod p1 10)) (Fld.mk (List.getD ([] ++ (s_Ka p0).spec.fields) (Int.toNat (Int.tmod p1 10)) zF).name (Val.mk 0 0 eB [] [])))).symm, hP 17 (dec (!((s_Kd (Q26 p0 p1)).2 == 0)) false (by rw [h3]; rfl)), hP 2 (dec (!((s_Kd (Q2q p0 p1)).2 == 0)) false (by rw [h4]; rfl))] [aB (t_K6 p0 (H.1)) h0, aN (t_Ka p0 (H.2.1 h0)), aN (t_K8 (s_Ka p0).spec (Int.tmod p1 10) (H.2.2.2.1 h0 h1 h2)), aN (t_Kd (Q26 p0 p1) (H.2.2.2.2.2.2.2.2.1 h0 h1 h2)), aN (t_Kd (Q2q p0 p1) (H.2.2.2.2.2.2.2.2.2.1 h0 h1 h2)), aB (Q157 (s_Kd (Q26 p0 p1)).1 (s_Kd (Q2q p0 p1)).1 (H.2.2.2.2.2.2.2.2.2.2.1 h0 h1 h2 h3 h4)) h5] (by kernel_rfl)
theorem Q1k8 (p0 : Pod) (p1 : Int) (H : H_K3 p0 p1) (h0 : (s_K6 p0) = true) (h1 : (((List.length (s_Ka p0).spec.fields) : Int) == 10) = true) (h2 : (((List.length (s_Ka p0).status.fields) : Int) == 9) = true) (h3 : ((s_Kd (Q26 p0 p1)).2 == 0) = true) (h4 : ((s_Kd (Q2q p0 p1)).2 == 0) = false) : Q6 G (c_K3 p0 p1) (.ret (.bool (false)) []) := by
 exact Q8 (fn := Ir.K3) rfl VOK.nil [hP 12 (Qf (Fld.rows (s_Ka p0).spec.fields) (List.length (s_Ka p0).spec.fields) (Fld.Q0 (s_Ka p0).spec.fields)), hP 0 (dec (!(((List.length (s_Ka p0).spec.fields) : Int) == 10)) false (by rw [h1]; rfl)), hP 4 (Qf (Fld.rows (s_Ka p0).status.fields) (List.length (s_Ka p0).status.fields) (Fld.Q0 (s_Ka p0).status.fields)), hP 0 (dec (!(((List.length (s_Ka p0).status.fields) : Int) == 9)) false (by rw [h2]; rfl)), hP 2 (Qe2 p1 (H.2.2.1 h0 h1 h2)), hV 18 [(2624, Fld.rows ([] ++ (s_Ka p0).spec.fields))] (Qa9 2368 2624 6 96 0 [] (Fld.rows []) (Fld.rows (s_Ka p0).spec.fields) (Fld.rows ([] ++ (s_Ka p0).spec.fields)) 0 (List.length ([] ++ (s_Ka p0).spec.fields)) rfl (Fld.Q0 []).symm (Fld.Q0 ([] ++ (s_Ka p0).spec.fields)).symm (Fld.Q2k [] (s_Ka p0).spec.fields) (Fld.Qd []) (Fld.Qd (s_Ka p0).spec.fields) (by rw [Fld.Q0]; exact (H.2.2.2.2.1 h0 h1 h2))), hS 0 true (Fld.Q7 ([] ++ (s_Ka p0).spec.fields) 6 rfl), hP 8 (Q3l 2624 6 (List.length ([] ++ (s_Ka p0).spec.fields)) (Int.tmod p1 10) (Int.toNat (Int.tmod p1 10)) rfl (H.2.2.2.2.2.1 h0 h1 h2) (H.2.2.2.2.2.2.1 h0 h1 h2)), hV 1 [(2624, Fld.rows (List.set ([] ++ (s_Ka p0).spec.fields) (Int.toNat (Int.tmod p1 10)) (Fld.mk (List.getD ([] ++ (s_Ka p0).spec.fields) (Int.toNat (Int.tmod p1 10)) zF).name (Val.mk 0 0 eB [] []))))] (Qd5 2624 6 true ((Fld.rows ([] ++ (s_Ka p0).spec.fields)).flatten) (Fld.rows ([] ++ (s_Ka p0).spec.fields)) (Fld.rows (List.set ([] ++ (s_Ka p0).spec.fields) (Int.toNat (Int.tmod p1 10)) (Fld.mk (List.getD ([] ++ (s_Ka p0).spec.fields) (Int.toNat (Int.tmod p1 10)) zF).name (Val.mk 0 0 eB [] [])))) 5 (Int.toNat (Int.tmod p1 10)) 1 ((Int.toNat (Int.tmod p1 10)) * 6 + 1) _ (.agg [.int .i64 0, .int .i64 0, .str eB, .sl [], .sl []]) rfl rfl (Fld.Qb (Q21 ([] ++ (s_Ka p0).spec.fields) (Int.toNat (Int.tmod p1 10)) zF (H.2.2.2.2.2.2.2.1 h0 h1 h2))) (Fld.Qd ([] ++ (s_Ka p0).spec.fields)) (by decide) rfl rfl (Fld.Q2j ([] ++ (s_Ka p0).spec.fields) (Int.toNat (Int.tmod p1 10)) (Fld.mk (List.getD ([] ++ (s_Ka p0).spec.fields) (Int.toNat (Int.tmod p1 10)) zF).name (Val.mk 0 0 eB [] [])))), hS 0 true (Fld.Q7 (List.set ([] ++ (s_Ka p0).spec.fields) (Int.toNat (Int.tmod p1 10)) (Fld.mk (List.getD ([] ++ (s_Ka p0).spec.fields) (Int.toNat (Int.tmod p1 10)) zF).name (Val.mk 0 0 eB [] []))) 6 rfl), hQ ((Fld.Q0 (List.set ([] ++ (s_Ka p0).spec.fields) (Int.toNat (Int.tmod p1 10)) (Fld.mk (List.getD ([] ++ (s_Ka p0).spec.fields) (Int.toNat (Int.tmod p1 10)) zF).name (Val.mk 0 0 eB [] [])))).trans (Q3p rfl (Int.toNat (Int.tmod p1 10)) (Fld.mk (List.getD ([] ++ (s_Ka p0).spec.fields) (Int.toNat (Int.tmod p1 10)) zF).name (Val.mk 0 0 eB [] [])))).symm, hP 17 (dec (!((s_Kd (Q26 p0 p1)).2 == 0)) false (by rw [h3]; rfl)), hP 2 (dec (!((s_Kd (Q2q p0 p1)).2 == 0)) true (by rw [h4]; rfl))] [aB (t_K6 p0 (H.1)) h0, aN (t_Ka p0 (H.2.1 h0)), aN (t_K8 (s_Ka p0).spec (Int.tmod p1 10) (H.2.2.2.1 h0 h1 h2)), aN (t_Kd (Q26 p0 p1) (H.2.2.2.2.2.2.2.2.1 h0 h1 h2)), aN (t_Kd (Q2q p0 p1) (H.2.2.2.2.2.2.2.2.2.1 h0 h1 h2))] (by kernel_rfl)
theorem Q1ke (p0 : Pod) (p1 : Int) (H : H_K3 p0 p1) (h0 : (s_K6 p0) = true) (h1 : (((List.length (s_Ka p0).spec.fields) : Int) == 10) = true) (h2 : (((List.length (s_Ka p0).status.fields) : Int) == 9) = true) (h3 : ((s_Kd (Q26 p0 p1)).2 == 0) = false) : Q6 G (c_K3 p0 p1) (.ret (.bool (false)) []) := by
 exact Q8 (fn := Ir.K3) rfl VOK.nil [hP 12 (Qf (Fld.rows (s_Ka p0).spec.fields) (List.length (s_Ka p0).spec.fields) (Fld.Q0 (s_Ka p0).spec.fields)), hP 0 (dec (!(((List.length (s_Ka p0).spec.fields) : Int) == 10)) false (by rw [h1]; rfl)), hP 4 (Qf (Fld.rows (s_Ka p0).status.fields) (List.length (s_Ka p0).status.fields) (Fld.Q0 (s_Ka p0).status.fields)), hP 0 (dec (!(((List.length (s_Ka p0).status.fields) : Int) == 9)) false (by rw [h2]; rfl)), hP 2 (Qe2 p1 (H.2.2.1 h0 h1 h2)), hV 18 [(2624, Fld.rows ([] ++ (s_Ka p0).spec.fields))] (Qa9 2368 2624 6 96 0 [] (Fld.rows []) (Fld.rows (s_Ka p0).spec.fields) (Fld.rows ([] ++ (s_Ka p0).spec.fields)) 0 (List.length ([] ++ (s_Ka p0).spec.fields)) rfl (Fld.Q0 []).symm (Fld.Q0 ([] ++ (s_Ka p0).spec.fields)).symm (Fld.Q2k [] (s_Ka p0).spec.fields) (Fld.Qd []) (Fld.Qd (s_Ka p0).spec.fields) (by rw [Fld.Q0]; exact (H.2.2.2.2.1 h0 h1 h2))), hS 0 true (Fld.Q7 ([] ++ (s_Ka p0).spec.fields) 6 rfl), hP 8 (Q3l 2624 6 (List.length ([] ++ (s_Ka p0).spec.fields)) (Int.tmod p1 10) (Int.toNat (Int.tmod p1 10)) rfl (H.2.2.2.2.2.1 h0 h1 h2) (H.2.2.2.2.2.2.1 h0 h1 h2)), hV 1 [(2624, Fld.rows (List.set ([] ++ (s_Ka p0).spec.fields) (Int.toNat (Int.tmod p1 10)) (Fld.mk (List.getD ([] ++ (s_Ka p0).spec.fields) (Int.toNat (Int.tmod p1 10)) zF).name (Val.mk 0 0 eB [] []))))] (Qd5 2624 6 true ((Fld.rows ([] ++ (s_Ka p0).spec.fields)).flatten) (Fld.rows ([] ++ (s_Ka p0).spec.fields)) (Fld.rows (List.set ([] ++ (s_Ka p0).spec.fields) (Int.toNat (Int.tmod p1 10)) (Fld.mk (List.getD ([] ++ (s_Ka p0).spec.fields) (Int.toNat (Int.tmod p1 10)) zF).name (Val.mk 0 0 eB [] [])))) 5 (Int.toNat (Int.tmod p1 10)) 1 ((Int.toNat (Int.tmod p1 10)) * 6 + 1) _ (.agg [.int .i64 0, .int .i64 0, .str eB, .sl [], .sl []]) rfl rfl (Fld.Qb (Q21 ([] ++ (s_Ka p0).spec.fields) (Int.toNat (Int.tmod p1 10)) zF (H.2.2.2.2.2.2.2.1 h0 h1 h2))) (Fld.Qd ([] ++ (s_Ka p0).spec.fields)) (by decide) rfl rfl (Fld.Q2j ([] ++ (s_Ka p0).spec.fields) (Int.toNat (Int.tmod p1 10)) (Fld.mk (List.getD ([] ++ (s_Ka p0).spec.fields) (Int.toNat (Int.tmod p1 10)) zF).name (Val.mk 0 0 eB [] [])))), hS 0 true (Fld.Q7 (List.set ([] ++ (s_Ka p0).spec.fields) (Int.toNat (Int.tmod p1 10)) (Fld.mk (List.getD ([] ++ (s_Ka p0).spec.fields) (Int.toNat (Int.tmod p1 10)) zF).name (Val.mk 0 0 eB [] []))) 6 rfl), hQ ((Fld.Q0 (List.set ([] ++ (s_Ka p0).spec.fields) (Int.toNat (Int.tmod p1 10)) (Fld.mk (List.getD ([] ++ (s_Ka p0).spec.fields) (Int.toNat (Int.tmod p1 10)) zF).name (Val.mk 0 0 eB [] [])))).trans (Q3p rfl (Int.toNat (Int.tmod p1 10)) (Fld.mk (List.getD ([] ++ (s_Ka p0).spec.fields) (Int.toNat (Int.tmod p1 10)) zF).name (Val.mk 0 0 eB [] [])))).symm, hP 17 (dec (!((s_Kd (Q26 p0 p1)).2 == 0)) true (by rw [h3]; rfl))] [aB (t_K6 p0 (H.1)) h0, aN (t_Ka p0 (H.2.1 h0)), aN (t_K8 (s_Ka p0).spec (Int.tmod p1 10) (H.2.2.2.1 h0 h1 h2)), aN (t_Kd (Q26 p0 p1) (H.2.2.2.2.2.2.2.2.1 h0 h1 h2)), aN (t_Kd (Q2q p0 p1) (H.2.2.2.2.2.2.2.2.2.1 h0 h1 h2))] (by kernel_rfl)
theorem Q1l5 (p0 : Pod) (p1 : Int) (H : H_K3 p0 p1) (h0 : (s_K6 p0) = true) (h1 : (((List.length (s_Ka p0).spec.fields) : Int) == 10) = true) (h2 : (((List.length (s_Ka p0).status.fields) : Int) == 9) = false) : Q6 G (c_K3 p0 p1) (.ret (.bool (false)) []) := by
 exact Q8 (fn := Ir.K3) rfl VOK.nil [hP 12 (Qf (Fld.rows (s_Ka p0).spec.fields) (List.length (s_Ka p0).spec.fields) (Fld.Q0 (s_Ka p0).spec.fields)), hP 0 (dec (!(((List.length (s_Ka p0).spec.fields) : Int) == 10)) false (by rw [h1]; rfl)), hP 4 (Qf (Fld.rows (s_Ka p0).status.fields) (List.length (s_Ka p0).status.fields) (Fld.Q0 (s_Ka p0).status.fields)), hP 0 (dec (!(((List.length (s_Ka p0).status.fields) : Int) == 9)) true (by rw [h2]; rfl))] [aB (t_K6 p0 (H.1)) h0, aN (t_Ka p0 (H.2.1 h0))] (by kernel_rfl)
theorem Q1i5 (p0 : Pod) (p1 : Int) (H : H_K3 p0 p1) (h0 : (s_K6 p0) = true) (h1 : (((List.length (s_Ka p0).spec.fields) : Int) == 10) = false) : Q6 G (c_K3 p0 p1) (.ret (.bool (false)) []) := by
 exact Q8 (fn := Ir.K3) rfl VOK.nil [hP 12 (Qf (Fld.rows (s_Ka p0).spec.fields) (List.length (s_Ka p0).spec.fields) (Fld.Q0 (s_Ka p0).spec.fields)), hP 0 (dec (!(((List.length (s_Ka p0).spec.fields) : Int) == 10)) true (by rw [h1]; rfl))] [aB (t_K6 p0 (H.1)) h0, aN (t_Ka p0 (H.2.1 h0))] (by kernel_rfl)
theorem Q1gl (p0 : Pod) (p1 : Int) (H : H_K3 p0 p1) (h0 : (s_K6 p0) = false) : Q6 G (c_K3 p0 p1) (.ret (.bool (true)) []) := by
 exact Q8 (fn := Ir.K3) rfl VOK.nil [] [aB (t_K6 p0 (H.1)) h0, aN t_K7] (by kernel_rfl)
theorem t_K3 (p0 : Pod) (p1 : Int) (H : H_K3 p0 p1) : Q6 G (c_K3 p0 p1) (a_K3 p0 p1) := by
 unfold a_K3 s_K3
 cases h0 : (s_K6 p0) with
 | true =>
  cases h1 : (((List.length (s_Ka p0).spec.fields) : Int) == 10) with
  | true =>
   cases h2 : (((List.length (s_Ka p0).status.fields) : Int) == 9) with
   | true =>
    cases h3 : ((s_Kd (Q26 p0 p1)).2 == 0) with
    | true =>
     cases h4 : ((s_Kd (Q2q p0 p1)).2 == 0) with
     | true =>
      cases h5 : (Qa3 (s_Kd (Q26 p0 p1)).1 (s_Kd (Q2q p0 p1)).1) with
      | true =>
       cases h6 : (((List.length (s_Ka (s_Kd (Q26 p0 p1)).1).spec.fields) : Int) == 10) with
       | true =>
        cases h7 : (((List.length (s_Ka Ql).spec.fields) : Int) == 10) with
        | true =>
         have hl8 := Qrv p0 p1 (H.2.2.2.2.2.2.2.2.2.2.2.2.2.1 h0 h1 h2 h3 h4 h5 h6 h7) (s_Ka (s_Kd (Q26 p0 p1)).1).spec.fields 0 (by simp)
         cases hr8 : (Q6l p0 p1 (s_Ka (s_Kd (Q26 p0 p1)).1).spec.fields 0) with
         | k0 =>
          rw [hr8] at hl8
          obtain ⟨z8, zo8, hl8⟩ := hl8
          exact Q1km p0 p1 H h0 h1 h2 h3 h4 h5 h6 h7 z8 zo8 hl8
         | k1 =>
          rw [hr8] at hl8
          obtain ⟨z8, zo8, hl8⟩ := hl8
          exact Q1k3 p0 p1 H h0 h1 h2 h3 h4 h5 h6 h7 z8 zo8 hl8
         | k2 =>
          rw [hr8] at hl8
          obtain ⟨z8, zo8, hl8⟩ := hl8
          exact Q1l2 p0 p1 H h0 h1 h2 h3 h4 h5 h6 h7 z8 zo8 hl8
        | false =>
         exact Q1lb p0 p1 H h0 h1 h2 h3 h4 h5 h6 h7
       | false =>
        exact Q1kq p0 p1 H h0 h1 h2 h3 h4 h5 h6
      | false =>
       exact Q1ib p0 p1 H h0 h1 h2 h3 h4 h5
     | false =>
      exact Q1k8 p0 p1 H h0 h1 h2 h3 h4
    | false =>
     exact Q1ke p0 p1 H h0 h1 h2 h3
   | false =>
    exact Q1l5 p0 p1 H h0 h1 h2
  | false =>
   exact Q1i5 p0 p1 H h0 h1
 | false =>
  exact Q1gl p0 p1 H h0
def tysPodcodecMissing : List Ty := [Q1ee, .int .u8]
theorem purePodcodecMissing {N : Nat} (hp : ∀ (p0 : Pod) (p1 : Int), Q1an p0 → okU8 p1 → (Qsc N) p0 → H_K3 p0 p1 ∧ s_K3 p0 p1 = true) : ∀ qs, Q1au Γ N tysPodcodecMissing qs → ∃ n, runs G n (.call 4 qs []) = some (.ret (.bool true) []) := by
  intro qs h
  cases qs with
  | nil => cases h
  | cons q0 qs =>
  obtain ⟨h0, h⟩ := h
  cases qs with
  | nil => cases h
  | cons q1 qs =>
  obtain ⟨h1, h⟩ := h
  cases qs with
  | cons _ _ => cases h
  | nil =>
  obtain ⟨c0, rfl, g0, b0⟩ := h0.agg rfl
  obtain ⟨p0, rfl, k0⟩ := (Q1c1 g0)
  obtain ⟨g1, b1⟩ := h1.one rfl
  obtain ⟨p1, e1, k1⟩ := g1.u8
  injection e1 with e1
  subst e1
  have e := hp p0 p1 k0 k1 (Q18v b0)
  have t := t_K3 p0 p1 e.1
  unfold a_K3 at t
  rw [e.2] at t
  exact t
end Go.Proofs.YtiflaadeikaghaaGreat
end

section
/- Equal metadata and objects; what is small; decoding what was encoded, in plain words. -/
namespace Go.Proofs.YtiflaadeikaghaaGreat
open Go.Pv
theorem Q1a2 (p : List Label) : ∀ (l : List Label) (i : Nat), List.drop i p = l → Q61 p p l i = .k0
  | [], _, _ => by rw [Q61]
  | x :: l, i, hd => by
    obtain ⟨h1, _, h3⟩ := Q12 hd
    rw [Q61, List.getD_eq_getElem?_getD, h1, Option.getD_some, Q2c, Q2c]
    exact Q1a2 p l (i + 1) h3
theorem Q10f {α : Type} (l : List α) : ((l.length : Int) == (l.length : Int)) = true := beq_self_eq_true _
theorem Q1b6 (p : List Label) : Qcw p p = true := by
  unfold Qcw
  rw [Q10f, cond_true, Q1a2 p p 0 rfl]
theorem Q19m (p : List ByteArray) : ∀ (l : List ByteArray) (i : Nat), List.drop i p = l → Q65 p p l i = .k0
  | [], _, _ => by rw [Q65]
  | x :: l, i, hd => by
    obtain ⟨h1, _, h3⟩ := Q12 hd
    rw [Q65, List.getD_eq_getElem?_getD, h1, Option.getD_some, Q2c]
    exact Q19m p l (i + 1) h3
theorem Qwk (p : List ByteArray) : Qa5 p p = true := by
  unfold Qa5
  rw [Q10f, cond_true, Q19m p p 0 rfl]
theorem Q1b4 (m : Meta) : ∀ (l : List Owner) (i : Nat), List.drop i m.owners = l → Q66 m m l i = .k0
  | [], _, _ => by rw [Q66]
  | x :: l, i, hd => by
    obtain ⟨h1, _, h3⟩ := Q12 hd
    rw [Q66, List.getD_eq_getElem?_getD, h1, Option.getD_some]
    simp only [Q2c, beq_self_eq_true, Bool.and_true, cond_true]
    exact Q1b4 m l (i + 1) h3
theorem Q1ae (m : Meta) : ∀ (l : List Manager) (i : Nat), List.drop i m.managers = l → Q62 m m l i = .k0
  | [], _, _ => by rw [Q62]
  | x :: l, i, hd => by
    obtain ⟨h1, _, h3⟩ := Q12 hd
    rw [Q62, List.getD_eq_getElem?_getD, h1, Option.getD_some, Q2c, Qwk, cond_true, cond_true]
    exact Q1ae m l (i + 1) h3
theorem Q19z (m : Meta) : Q179 m m = true := by
  unfold Q179
  simp only [Q2c, beq_self_eq_true, cond_true, Q1b6, Qwk]
  rw [Q1b4 m m.owners 0 rfl, Q1ae m m.managers 0 rfl]
theorem Q1df (o : Object) : Q1bb o o = true := by
  unfold Q1bb
  rw [Q19z, Q9x, Q9x]
  rfl
theorem Q1dh (p : Pod) : Qa3 p p = true := by
  unfold Qa3
  rw [Q2c, Q1df]
  rfl
theorem Q1hb {m : Meta} (k : Qao m) (s : BA) (h : s.size ≤ 140737488351232) : Qao { m with kind := s } := ⟨h, k.2⟩
theorem Q1a6 {m : Meta} (k : Qao m) : H_Kf m ∧ H_K5 m ∧ Q7e m m := by
  obtain ⟨_, _, _, _, _, _, _, _, _, kl, ko, kf, km⟩ := k
  have hl := kl.1
  have ho := ko.1
  have hf := kf.1
  have hm := km.1
  have hx : ∀ x ∈ m.managers, x.fields.length * 16 ≤ 140737488351232 := fun x hx => (km.2 x hx).2.1
  have lt : ∀ {α : Type} {l : List α} {i : Nat} {x : α}, l[i]? = some x → i < l.length := fun h => (List.getElem?_eq_some_iff.1 h).1
  refine ⟨⟨by omega, by omega, by omega, by omega, ⟨by omega, fun x h => by have := hx x h; omega, trivial⟩, trivial⟩, ⟨⟨by omega, trivial⟩, ⟨by omega, trivial⟩, ⟨by omega, trivial⟩, ⟨by omega, fun i x h => ⟨by have := hx x (List.mem_of_getElem? h); omega, trivial⟩, trivial⟩, trivial⟩,
    ⟨fun _ => ⟨by omega, fun i x h => lt h, trivial⟩, trivial⟩, ⟨fun _ => ⟨by omega, fun i x h => lt h, trivial⟩, trivial⟩, fun _ _ => ⟨by omega, fun i x h => lt h, trivial⟩, fun _ _ => ⟨by omega, fun i x h => lt h, fun i x h => ?_, trivial⟩, trivial⟩
  rw [List.getD_eq_getElem?_getD, h, Option.getD_some]
  have := hx x (List.mem_of_getElem? h)
  exact ⟨fun _ => ⟨by omega, fun i x h => lt h, trivial⟩, trivial⟩
theorem alH {v : Val} (h : Val.Sm sB v) : Q7c v := h.mono (Nat.le_of_ble_eq_true rfl)
theorem fewH {v : Val} (h : Val.Sm sB v) (n : Int) : Q17c v n := ⟨h.mono (Nat.le_of_ble_eq_true rfl), trivial⟩
theorem objH {o : Object} (h : Q7e o.meta_ o.meta_) (g : Object.sm o) : Q1bn o o := ⟨h, alH g.1, alH g.2, trivial⟩
theorem Q1i6 {p : Pod} (c : Qsc 1048576 p) : Pod.sm p := ⟨PodSpec.Q38 (Nat.le_of_ble_eq_true rfl) c.2.1, PodStatus.Q38 (Nat.le_of_ble_eq_true rfl) c.2.2⟩
theorem Q1bp {p : Pod} (h : Q7e p.meta_ p.meta_) (g : Pod.sm p) : Q1az p p := by
  have o : Q1bn (Pod.obj p) (Pod.obj p) := objH h (Pod.Qv7 g)
  unfold Q1az
  repeat' with_reducible apply And.intro
  all_goals first | exact True.intro | exact g | exact o | (intros; exact g) | (intros; exact o)
theorem Q19v {p : Pod} (k : Qao p.meta_) (g : Pod.sm p) : H_K6 p := by
  have o := Pod.Qv7 g
  have a : Q17c (Q8c p).spec 20000 := fewH o.1 _
  have b : Q17c (Q8c p).status 20000 := fewH o.2 _
  unfold H_K6
  repeat' with_reducible apply And.intro
  all_goals first | exact True.intro | exact g | exact (Q1a6 k).2.1 | (intros; exact a) | (intros; exact b) | (intros; exact (Q1a6 k).2.1)
end Go.Proofs.YtiflaadeikaghaaGreat
end

section
/- A specification's fields: put, taken out; what decoding makes of it (printed by a program). -/
namespace Go.Proofs.YtiflaadeikaghaaGreat
open Go.Pv
theorem Q3o {v : Val} (hm : isM v = true) {a0 : (List Container) × Bool} {a1 : Int × Bool} {a2 : ByteArray × Bool} {a3 : (List Requirement) × Bool} {a4 : (List NodeTerm) × Bool} {a5 : (List PodTerm) × Bool} {a6 : Int × Bool} {a7 : Int × Bool} {a8 : (List SpreadRule) × Bool} {a9 : (List Toleration) × Bool} (h0 : xE Container.dec (prt v Qc) = a0) (h1 : xN (prt v Q1p) = a1) (h2 : xS (prt v Q1y) = a2) (h3 : xE Requirement.dec (prt v Qg) = a3) (h4 : xE NodeTerm.dec (prt v Qp) = a4) (h5 : xE PodTerm.dec (prt v Qt) = a5) (h6 : xN (prt v Qs) = a6) (h7 : xN (prt v Qy) = a7) (h8 : xE SpreadRule.dec (prt v Q14) = a8) (h9 : xE Toleration.dec (prt v Qn) = a9) : PodSpec.dec v = (PodSpec.mk a2.1 a6.1 a7.1 a1.1 a0.1 a3.1 a4.1 a5.1 a8.1 a9.1, a0.2 && a1.2 && a2.2 && a3.2 && a4.2 && a5.2 && a6.2 && a7.2 && a8.2 && a9.2) := by
  unfold PodSpec.dec
  simp only [dN, dS, dE]
  rw [hm, h0, h1, h2, h3, h4, h5, h6, h7, h8, h9]
  rfl
theorem fp0 {v : Val} {s : PodSpec} (h : prt v Qc = vL (s.containers.map Container.enc)) : xE Container.dec (prt v Qc) = (s.containers, true) := by rw [h]; exact Q4f Container.Q1h _
theorem fp1 {v : Val} {s : PodSpec} (h : prt v Q1p = vN s.grace) : xN (prt v Q1p) = (s.grace, true) := by rw [h]; exact rfl
theorem fp2 {v : Val} {s : PodSpec} (h : prt v Q1y = vS s.node) : xS (prt v Q1y) = (s.node, true) := by rw [h]; exact rfl
theorem fp3 {v : Val} {s : PodSpec} (h : prt v Qg = vL (s.nodeSelector.map Requirement.enc)) : xE Requirement.dec (prt v Qg) = (s.nodeSelector, true) := by rw [h]; exact Q4f Requirement.Q1h _
theorem fp4 {v : Val} {s : PodSpec} (h : prt v Qp = vL (s.nodeTerms.map NodeTerm.enc)) : xE NodeTerm.dec (prt v Qp) = (s.nodeTerms, true) := by rw [h]; exact Q4f NodeTerm.Q1h _
theorem fp5 {v : Val} {s : PodSpec} (h : prt v Qt = vL (s.podTerms.map PodTerm.enc)) : xE PodTerm.dec (prt v Qt) = (s.podTerms, true) := by rw [h]; exact Q4f PodTerm.Q1h _
theorem fp6 {v : Val} {s : PodSpec} (h : prt v Qs = vN s.priority) : xN (prt v Qs) = (s.priority, true) := by rw [h]; exact rfl
theorem fp7 {v : Val} {s : PodSpec} (h : prt v Qy = vN s.restart) : xN (prt v Qy) = (s.restart, true) := by rw [h]; exact rfl
theorem fp8 {v : Val} {s : PodSpec} (h : prt v Q14 = vL (s.spread.map SpreadRule.enc)) : xE SpreadRule.dec (prt v Q14) = (s.spread, true) := by rw [h]; exact Q4f SpreadRule.Q1h _
theorem fp9 {v : Val} {s : PodSpec} (h : prt v Qn = vL (s.tolerations.map Toleration.enc)) : xE Toleration.dec (prt v Qn) = (s.tolerations, true) := by rw [h]; exact Q4f Toleration.Q1h _
def put0 (s : PodSpec) (w : Val) : Val := vM [.mk Qc w, .mk Q1p (vN s.grace), .mk Q1y (vS s.node), .mk Qg (vL (s.nodeSelector.map Requirement.enc)), .mk Qp (vL (s.nodeTerms.map NodeTerm.enc)), .mk Qt (vL (s.podTerms.map PodTerm.enc)), .mk Qs (vN s.priority), .mk Qy (vN s.restart), .mk Q14 (vL (s.spread.map SpreadRule.enc)), .mk Qn (vL (s.tolerations.map Toleration.enc))]
def cut0 (s : PodSpec) : Val := vM [.mk Q1p (vN s.grace), .mk Q1y (vS s.node), .mk Qg (vL (s.nodeSelector.map Requirement.enc)), .mk Qp (vL (s.nodeTerms.map NodeTerm.enc)), .mk Qt (vL (s.podTerms.map PodTerm.enc)), .mk Qs (vN s.priority), .mk Qy (vN s.restart), .mk Q14 (vL (s.spread.map SpreadRule.enc)), .mk Qn (vL (s.tolerations.map Toleration.enc))]
def zap0 (s : PodSpec) : PodSpec := { s with containers := [] }
theorem Q1ct (s : PodSpec) (w : Val) : PodSpec.dec (put0 s w) = ({ s with containers := (xE Container.dec w).1 }, (xE Container.dec w).2) := by
  rw [Q3o (v := put0 s w) rfl (congrArg (xE Container.dec) (show prt (put0 s w) Qc = w by kernel_rfl)) (fp1 (s := s) (by kernel_rfl)) (fp2 (s := s) (by kernel_rfl)) (fp3 (s := s) (by kernel_rfl)) (fp4 (s := s) (by kernel_rfl)) (fp5 (s := s) (by kernel_rfl)) (fp6 (s := s) (by kernel_rfl)) (fp7 (s := s) (by kernel_rfl)) (fp8 (s := s) (by kernel_rfl)) (fp9 (s := s) (by kernel_rfl))]
  exact Prod.ext rfl (by cases (xE Container.dec w).2 <;> rfl)
theorem Q1cs (s : PodSpec) : PodSpec.dec (cut0 s) = (zap0 s, true) := by
  rw [Q3o (v := cut0 s) rfl (congrArg (xE Container.dec) (show prt (cut0 s) Qc = vZ by kernel_rfl)) (fp1 (s := s) (by kernel_rfl)) (fp2 (s := s) (by kernel_rfl)) (fp3 (s := s) (by kernel_rfl)) (fp4 (s := s) (by kernel_rfl)) (fp5 (s := s) (by kernel_rfl)) (fp6 (s := s) (by kernel_rfl)) (fp7 (s := s) (by kernel_rfl)) (fp8 (s := s) (by kernel_rfl)) (fp9 (s := s) (by kernel_rfl))]
  rfl
def put1 (s : PodSpec) (w : Val) : Val := vM [.mk Qc (vL (s.containers.map Container.enc)), .mk Q1p w, .mk Q1y (vS s.node), .mk Qg (vL (s.nodeSelector.map Requirement.enc)), .mk Qp (vL (s.nodeTerms.map NodeTerm.enc)), .mk Qt (vL (s.podTerms.map PodTerm.enc)), .mk Qs (vN s.priority), .mk Qy (vN s.restart), .mk Q14 (vL (s.spread.map SpreadRule.enc)), .mk Qn (vL (s.tolerations.map Toleration.enc))]
def cut1 (s : PodSpec) : Val := vM [.mk Qc (vL (s.containers.map Container.enc)), .mk Q1y (vS s.node), .mk Qg (vL (s.nodeSelector.map Requirement.enc)), .mk Qp (vL (s.nodeTerms.map NodeTerm.enc)), .mk Qt (vL (s.podTerms.map PodTerm.enc)), .mk Qs (vN s.priority), .mk Qy (vN s.restart), .mk Q14 (vL (s.spread.map SpreadRule.enc)), .mk Qn (vL (s.tolerations.map Toleration.enc))]
def zap1 (s : PodSpec) : PodSpec := { s with grace := 0 }
theorem Q1d6 (s : PodSpec) (w : Val) : PodSpec.dec (put1 s w) = ({ s with grace := (xN w).1 }, (xN w).2) := by
  rw [Q3o (v := put1 s w) rfl (fp0 (s := s) (by kernel_rfl)) (congrArg (xN) (show prt (put1 s w) Q1p = w by kernel_rfl)) (fp2 (s := s) (by kernel_rfl)) (fp3 (s := s) (by kernel_rfl)) (fp4 (s := s) (by kernel_rfl)) (fp5 (s := s) (by kernel_rfl)) (fp6 (s := s) (by kernel_rfl)) (fp7 (s := s) (by kernel_rfl)) (fp8 (s := s) (by kernel_rfl)) (fp9 (s := s) (by kernel_rfl))]
  exact Prod.ext rfl (by cases (xN w).2 <;> rfl)
theorem Q1bl (s : PodSpec) : PodSpec.dec (cut1 s) = (zap1 s, true) := by
  rw [Q3o (v := cut1 s) rfl (fp0 (s := s) (by kernel_rfl)) (congrArg (xN) (show prt (cut1 s) Q1p = vZ by kernel_rfl)) (fp2 (s := s) (by kernel_rfl)) (fp3 (s := s) (by kernel_rfl)) (fp4 (s := s) (by kernel_rfl)) (fp5 (s := s) (by kernel_rfl)) (fp6 (s := s) (by kernel_rfl)) (fp7 (s := s) (by kernel_rfl)) (fp8 (s := s) (by kernel_rfl)) (fp9 (s := s) (by kernel_rfl))]
  rfl
def put2 (s : PodSpec) (w : Val) : Val := vM [.mk Qc (vL (s.containers.map Container.enc)), .mk Q1p (vN s.grace), .mk Q1y w, .mk Qg (vL (s.nodeSelector.map Requirement.enc)), .mk Qp (vL (s.nodeTerms.map NodeTerm.enc)), .mk Qt (vL (s.podTerms.map PodTerm.enc)), .mk Qs (vN s.priority), .mk Qy (vN s.restart), .mk Q14 (vL (s.spread.map SpreadRule.enc)), .mk Qn (vL (s.tolerations.map Toleration.enc))]
def cut2 (s : PodSpec) : Val := vM [.mk Qc (vL (s.containers.map Container.enc)), .mk Q1p (vN s.grace), .mk Qg (vL (s.nodeSelector.map Requirement.enc)), .mk Qp (vL (s.nodeTerms.map NodeTerm.enc)), .mk Qt (vL (s.podTerms.map PodTerm.enc)), .mk Qs (vN s.priority), .mk Qy (vN s.restart), .mk Q14 (vL (s.spread.map SpreadRule.enc)), .mk Qn (vL (s.tolerations.map Toleration.enc))]
def zap2 (s : PodSpec) : PodSpec := { s with node := eB }
theorem Q1d2 (s : PodSpec) (w : Val) : PodSpec.dec (put2 s w) = ({ s with node := (xS w).1 }, (xS w).2) := by
  rw [Q3o (v := put2 s w) rfl (fp0 (s := s) (by kernel_rfl)) (fp1 (s := s) (by kernel_rfl)) (congrArg (xS) (show prt (put2 s w) Q1y = w by kernel_rfl)) (fp3 (s := s) (by kernel_rfl)) (fp4 (s := s) (by kernel_rfl)) (fp5 (s := s) (by kernel_rfl)) (fp6 (s := s) (by kernel_rfl)) (fp7 (s := s) (by kernel_rfl)) (fp8 (s := s) (by kernel_rfl)) (fp9 (s := s) (by kernel_rfl))]
  exact Prod.ext rfl (by cases (xS w).2 <;> rfl)
theorem Q1bz (s : PodSpec) : PodSpec.dec (cut2 s) = (zap2 s, true) := by
  rw [Q3o (v := cut2 s) rfl (fp0 (s := s) (by kernel_rfl)) (fp1 (s := s) (by kernel_rfl)) (congrArg (xS) (show prt (cut2 s) Q1y = vZ by kernel_rfl)) (fp3 (s := s) (by kernel_rfl)) (fp4 (s := s) (by kernel_rfl)) (fp5 (s := s) (by kernel_rfl)) (fp6 (s := s) (by kernel_rfl)) (fp7 (s := s) (by kernel_rfl)) (fp8 (s := s) (by kernel_rfl)) (fp9 (s := s) (by kernel_rfl))]
  rfl
def put3 (s : PodSpec) (w : Val) : Val := vM [.mk Qc (vL (s.containers.map Container.enc)), .mk Q1p (vN s.grace), .mk Q1y (vS s.node), .mk Qg w, .mk Qp (vL (s.nodeTerms.map NodeTerm.enc)), .mk Qt (vL (s.podTerms.map PodTerm.enc)), .mk Qs (vN s.priority), .mk Qy (vN s.restart), .mk Q14 (vL (s.spread.map SpreadRule.enc)), .mk Qn (vL (s.tolerations.map Toleration.enc))]
def cut3 (s : PodSpec) : Val := vM [.mk Qc (vL (s.containers.map Container.enc)), .mk Q1p (vN s.grace), .mk Q1y (vS s.node), .mk Qp (vL (s.nodeTerms.map NodeTerm.enc)), .mk Qt (vL (s.podTerms.map PodTerm.enc)), .mk Qs (vN s.priority), .mk Qy (vN s.restart), .mk Q14 (vL (s.spread.map SpreadRule.enc)), .mk Qn (vL (s.tolerations.map Toleration.enc))]
def zap3 (s : PodSpec) : PodSpec := { s with nodeSelector := [] }
theorem Q1by (s : PodSpec) (w : Val) : PodSpec.dec (put3 s w) = ({ s with nodeSelector := (xE Requirement.dec w).1 }, (xE Requirement.dec w).2) := by
  rw [Q3o (v := put3 s w) rfl (fp0 (s := s) (by kernel_rfl)) (fp1 (s := s) (by kernel_rfl)) (fp2 (s := s) (by kernel_rfl)) (congrArg (xE Requirement.dec) (show prt (put3 s w) Qg = w by kernel_rfl)) (fp4 (s := s) (by kernel_rfl)) (fp5 (s := s) (by kernel_rfl)) (fp6 (s := s) (by kernel_rfl)) (fp7 (s := s) (by kernel_rfl)) (fp8 (s := s) (by kernel_rfl)) (fp9 (s := s) (by kernel_rfl))]
  exact Prod.ext rfl (by cases (xE Requirement.dec w).2 <;> rfl)
theorem Q1d5 (s : PodSpec) : PodSpec.dec (cut3 s) = (zap3 s, true) := by
  rw [Q3o (v := cut3 s) rfl (fp0 (s := s) (by kernel_rfl)) (fp1 (s := s) (by kernel_rfl)) (fp2 (s := s) (by kernel_rfl)) (congrArg (xE Requirement.dec) (show prt (cut3 s) Qg = vZ by kernel_rfl)) (fp4 (s := s) (by kernel_rfl)) (fp5 (s := s) (by kernel_rfl)) (fp6 (s := s) (by kernel_rfl)) (fp7 (s := s) (by kernel_rfl)) (fp8 (s := s) (by kernel_rfl)) (fp9 (s := s) (by kernel_rfl))]
  rfl
def put4 (s : PodSpec) (w : Val) : Val := vM [.mk Qc (vL (s.containers.map Container.enc)), .mk Q1p (vN s.grace), .mk Q1y (vS s.node), .mk Qg (vL (s.nodeSelector.map Requirement.enc)), .mk Qp w, .mk Qt (vL (s.podTerms.map PodTerm.enc)), .mk Qs (vN s.priority), .mk Qy (vN s.restart), .mk Q14 (vL (s.spread.map SpreadRule.enc)), .mk Qn (vL (s.tolerations.map Toleration.enc))]
def cut4 (s : PodSpec) : Val := vM [.mk Qc (vL (s.containers.map Container.enc)), .mk Q1p (vN s.grace), .mk Q1y (vS s.node), .mk Qg (vL (s.nodeSelector.map Requirement.enc)), .mk Qt (vL (s.podTerms.map PodTerm.enc)), .mk Qs (vN s.priority), .mk Qy (vN s.restart), .mk Q14 (vL (s.spread.map SpreadRule.enc)), .mk Qn (vL (s.tolerations.map Toleration.enc))]
def zap4 (s : PodSpec) : PodSpec := { s with nodeTerms := [] }
theorem Q1ci (s : PodSpec) (w : Val) : PodSpec.dec (put4 s w) = ({ s with nodeTerms := (xE NodeTerm.dec w).1 }, (xE NodeTerm.dec w).2) := by
  rw [Q3o (v := put4 s w) rfl (fp0 (s := s) (by kernel_rfl)) (fp1 (s := s) (by kernel_rfl)) (fp2 (s := s) (by kernel_rfl)) (fp3 (s := s) (by kernel_rfl)) (congrArg (xE NodeTerm.dec) (show prt (put4 s w) Qp = w by kernel_rfl)) (fp5 (s := s) (by kernel_rfl)) (fp6 (s := s) (by kernel_rfl)) (fp7 (s := s) (by kernel_rfl)) (fp8 (s := s) (by kernel_rfl)) (fp9 (s := s) (by kernel_rfl))]
  exact Prod.ext rfl (by cases (xE NodeTerm.dec w).2 <;> rfl)
theorem Q1dj (s : PodSpec) : PodSpec.dec (cut4 s) = (zap4 s, true) := by
  rw [Q3o (v := cut4 s) rfl (fp0 (s := s) (by kernel_rfl)) (fp1 (s := s) (by kernel_rfl)) (fp2 (s := s) (by kernel_rfl)) (fp3 (s := s) (by kernel_rfl)) (congrArg (xE NodeTerm.dec) (show prt (cut4 s) Qp = vZ by kernel_rfl)) (fp5 (s := s) (by kernel_rfl)) (fp6 (s := s) (by kernel_rfl)) (fp7 (s := s) (by kernel_rfl)) (fp8 (s := s) (by kernel_rfl)) (fp9 (s := s) (by kernel_rfl))]
  rfl
def put5 (s : PodSpec) (w : Val) : Val := vM [.mk Qc (vL (s.containers.map Container.enc)), .mk Q1p (vN s.grace), .mk Q1y (vS s.node), .mk Qg (vL (s.nodeSelector.map Requirement.enc)), .mk Qp (vL (s.nodeTerms.map NodeTerm.enc)), .mk Qt w, .mk Qs (vN s.priority), .mk Qy (vN s.restart), .mk Q14 (vL (s.spread.map SpreadRule.enc)), .mk Qn (vL (s.tolerations.map Toleration.enc))]
def cut5 (s : PodSpec) : Val := vM [.mk Qc (vL (s.containers.map Container.enc)), .mk Q1p (vN s.grace), .mk Q1y (vS s.node), .mk Qg (vL (s.nodeSelector.map Requirement.enc)), .mk Qp (vL (s.nodeTerms.map NodeTerm.enc)), .mk Qs (vN s.priority), .mk Qy (vN s.restart), .mk Q14 (vL (s.spread.map SpreadRule.enc)), .mk Qn (vL (s.tolerations.map Toleration.enc))]
def zap5 (s : PodSpec) : PodSpec := { s with podTerms := [] }
theorem Q1dg (s : PodSpec) (w : Val) : PodSpec.dec (put5 s w) = ({ s with podTerms := (xE PodTerm.dec w).1 }, (xE PodTerm.dec w).2) := by
  rw [Q3o (v := put5 s w) rfl (fp0 (s := s) (by kernel_rfl)) (fp1 (s := s) (by kernel_rfl)) (fp2 (s := s) (by kernel_rfl)) (fp3 (s := s) (by kernel_rfl)) (fp4 (s := s) (by kernel_rfl)) (congrArg (xE PodTerm.dec) (show prt (put5 s w) Qt = w by kernel_rfl)) (fp6 (s := s) (by kernel_rfl)) (fp7 (s := s) (by kernel_rfl)) (fp8 (s := s) (by kernel_rfl)) (fp9 (s := s) (by kernel_rfl))]
  exact Prod.ext rfl (by cases (xE PodTerm.dec w).2 <;> rfl)
theorem Q1bk (s : PodSpec) : PodSpec.dec (cut5 s) = (zap5 s, true) := by
  rw [Q3o (v := cut5 s) rfl (fp0 (s := s) (by kernel_rfl)) (fp1 (s := s) (by kernel_rfl)) (fp2 (s := s) (by kernel_rfl)) (fp3 (s := s) (by kernel_rfl)) (fp4 (s := s) (by kernel_rfl)) (congrArg (xE PodTerm.dec) (show prt (cut5 s) Qt = vZ by kernel_rfl)) (fp6 (s := s) (by kernel_rfl)) (fp7 (s := s) (by kernel_rfl)) (fp8 (s := s) (by kernel_rfl)) (fp9 (s := s) (by kernel_rfl))]
  rfl
def put6 (s : PodSpec) (w : Val) : Val := vM [.mk Qc (vL (s.containers.map Container.enc)), .mk Q1p (vN s.grace), .mk Q1y (vS s.node), .mk Qg (vL (s.nodeSelector.map Requirement.enc)), .mk Qp (vL (s.nodeTerms.map NodeTerm.enc)), .mk Qt (vL (s.podTerms.map PodTerm.enc)), .mk Qs w, .mk Qy (vN s.restart), .mk Q14 (vL (s.spread.map SpreadRule.enc)), .mk Qn (vL (s.tolerations.map Toleration.enc))]
def cut6 (s : PodSpec) : Val := vM [.mk Qc (vL (s.containers.map Container.enc)), .mk Q1p (vN s.grace), .mk Q1y (vS s.node), .mk Qg (vL (s.nodeSelector.map Requirement.enc)), .mk Qp (vL (s.nodeTerms.map NodeTerm.enc)), .mk Qt (vL (s.podTerms.map PodTerm.enc)), .mk Qy (vN s.restart), .mk Q14 (vL (s.spread.map SpreadRule.enc)), .mk Qn (vL (s.tolerations.map Toleration.enc))]
def zap6 (s : PodSpec) : PodSpec := { s with priority := 0 }
theorem Q1ce (s : PodSpec) (w : Val) : PodSpec.dec (put6 s w) = ({ s with priority := (xN w).1 }, (xN w).2) := by
  rw [Q3o (v := put6 s w) rfl (fp0 (s := s) (by kernel_rfl)) (fp1 (s := s) (by kernel_rfl)) (fp2 (s := s) (by kernel_rfl)) (fp3 (s := s) (by kernel_rfl)) (fp4 (s := s) (by kernel_rfl)) (fp5 (s := s) (by kernel_rfl)) (congrArg (xN) (show prt (put6 s w) Qs = w by kernel_rfl)) (fp7 (s := s) (by kernel_rfl)) (fp8 (s := s) (by kernel_rfl)) (fp9 (s := s) (by kernel_rfl))]
  exact Prod.ext rfl (by cases (xN w).2 <;> rfl)
theorem Q1bv (s : PodSpec) : PodSpec.dec (cut6 s) = (zap6 s, true) := by
  rw [Q3o (v := cut6 s) rfl (fp0 (s := s) (by kernel_rfl)) (fp1 (s := s) (by kernel_rfl)) (fp2 (s := s) (by kernel_rfl)) (fp3 (s := s) (by kernel_rfl)) (fp4 (s := s) (by kernel_rfl)) (fp5 (s := s) (by kernel_rfl)) (congrArg (xN) (show prt (cut6 s) Qs = vZ by kernel_rfl)) (fp7 (s := s) (by kernel_rfl)) (fp8 (s := s) (by kernel_rfl)) (fp9 (s := s) (by kernel_rfl))]
  rfl
def put7 (s : PodSpec) (w : Val) : Val := vM [.mk Qc (vL (s.containers.map Container.enc)), .mk Q1p (vN s.grace), .mk Q1y (vS s.node), .mk Qg (vL (s.nodeSelector.map Requirement.enc)), .mk Qp (vL (s.nodeTerms.map NodeTerm.enc)), .mk Qt (vL (s.podTerms.map PodTerm.enc)), .mk Qs (vN s.priority), .mk Qy w, .mk Q14 (vL (s.spread.map SpreadRule.enc)), .mk Qn (vL (s.tolerations.map Toleration.enc))]
def cut7 (s : PodSpec) : Val := vM [.mk Qc (vL (s.containers.map Container.enc)), .mk Q1p (vN s.grace), .mk Q1y (vS s.node), .mk Qg (vL (s.nodeSelector.map Requirement.enc)), .mk Qp (vL (s.nodeTerms.map NodeTerm.enc)), .mk Qt (vL (s.podTerms.map PodTerm.enc)), .mk Qs (vN s.priority), .mk Q14 (vL (s.spread.map SpreadRule.enc)), .mk Qn (vL (s.tolerations.map Toleration.enc))]
def zap7 (s : PodSpec) : PodSpec := { s with restart := 0 }
theorem Q1cq (s : PodSpec) (w : Val) : PodSpec.dec (put7 s w) = ({ s with restart := (xN w).1 }, (xN w).2) := by
  rw [Q3o (v := put7 s w) rfl (fp0 (s := s) (by kernel_rfl)) (fp1 (s := s) (by kernel_rfl)) (fp2 (s := s) (by kernel_rfl)) (fp3 (s := s) (by kernel_rfl)) (fp4 (s := s) (by kernel_rfl)) (fp5 (s := s) (by kernel_rfl)) (fp6 (s := s) (by kernel_rfl)) (congrArg (xN) (show prt (put7 s w) Qy = w by kernel_rfl)) (fp8 (s := s) (by kernel_rfl)) (fp9 (s := s) (by kernel_rfl))]
  exact Prod.ext rfl (by cases (xN w).2 <;> rfl)
theorem Q1dm (s : PodSpec) : PodSpec.dec (cut7 s) = (zap7 s, true) := by
  rw [Q3o (v := cut7 s) rfl (fp0 (s := s) (by kernel_rfl)) (fp1 (s := s) (by kernel_rfl)) (fp2 (s := s) (by kernel_rfl)) (fp3 (s := s) (by kernel_rfl)) (fp4 (s := s) (by kernel_rfl)) (fp5 (s := s) (by kernel_rfl)) (fp6 (s := s) (by kernel_rfl)) (congrArg (xN) (show prt (cut7 s) Qy = vZ by kernel_rfl)) (fp8 (s := s) (by kernel_rfl)) (fp9 (s := s) (by kernel_rfl))]
  rfl
def put8 (s : PodSpec) (w : Val) : Val := vM [.mk Qc (vL (s.containers.map Container.enc)), .mk Q1p (vN s.grace), .mk Q1y (vS s.node), .mk Qg (vL (s.nodeSelector.map Requirement.enc)), .mk Qp (vL (s.nodeTerms.map NodeTerm.enc)), .mk Qt (vL (s.podTerms.map PodTerm.enc)), .mk Qs (vN s.priority), .mk Qy (vN s.restart), .mk Q14 w, .mk Qn (vL (s.tolerations.map Toleration.enc))]
def cut8 (s : PodSpec) : Val := vM [.mk Qc (vL (s.containers.map Container.enc)), .mk Q1p (vN s.grace), .mk Q1y (vS s.node), .mk Qg (vL (s.nodeSelector.map Requirement.enc)), .mk Qp (vL (s.nodeTerms.map NodeTerm.enc)), .mk Qt (vL (s.podTerms.map PodTerm.enc)), .mk Qs (vN s.priority), .mk Qy (vN s.restart), .mk Qn (vL (s.tolerations.map Toleration.enc))]
def zap8 (s : PodSpec) : PodSpec := { s with spread := [] }
theorem Q1du (s : PodSpec) (w : Val) : PodSpec.dec (put8 s w) = ({ s with spread := (xE SpreadRule.dec w).1 }, (xE SpreadRule.dec w).2) := by
  rw [Q3o (v := put8 s w) rfl (fp0 (s := s) (by kernel_rfl)) (fp1 (s := s) (by kernel_rfl)) (fp2 (s := s) (by kernel_rfl)) (fp3 (s := s) (by kernel_rfl)) (fp4 (s := s) (by kernel_rfl)) (fp5 (s := s) (by kernel_rfl)) (fp6 (s := s) (by kernel_rfl)) (fp7 (s := s) (by kernel_rfl)) (congrArg (xE SpreadRule.dec) (show prt (put8 s w) Q14 = w by kernel_rfl)) (fp9 (s := s) (by kernel_rfl))]
  exact Prod.ext rfl (by cases (xE SpreadRule.dec w).2 <;> rfl)
theorem Q1cf (s : PodSpec) : PodSpec.dec (cut8 s) = (zap8 s, true) := by
  rw [Q3o (v := cut8 s) rfl (fp0 (s := s) (by kernel_rfl)) (fp1 (s := s) (by kernel_rfl)) (fp2 (s := s) (by kernel_rfl)) (fp3 (s := s) (by kernel_rfl)) (fp4 (s := s) (by kernel_rfl)) (fp5 (s := s) (by kernel_rfl)) (fp6 (s := s) (by kernel_rfl)) (fp7 (s := s) (by kernel_rfl)) (congrArg (xE SpreadRule.dec) (show prt (cut8 s) Q14 = vZ by kernel_rfl)) (fp9 (s := s) (by kernel_rfl))]
  rfl
def put9 (s : PodSpec) (w : Val) : Val := vM [.mk Qc (vL (s.containers.map Container.enc)), .mk Q1p (vN s.grace), .mk Q1y (vS s.node), .mk Qg (vL (s.nodeSelector.map Requirement.enc)), .mk Qp (vL (s.nodeTerms.map NodeTerm.enc)), .mk Qt (vL (s.podTerms.map PodTerm.enc)), .mk Qs (vN s.priority), .mk Qy (vN s.restart), .mk Q14 (vL (s.spread.map SpreadRule.enc)), .mk Qn w]
def cut9 (s : PodSpec) : Val := vM [.mk Qc (vL (s.containers.map Container.enc)), .mk Q1p (vN s.grace), .mk Q1y (vS s.node), .mk Qg (vL (s.nodeSelector.map Requirement.enc)), .mk Qp (vL (s.nodeTerms.map NodeTerm.enc)), .mk Qt (vL (s.podTerms.map PodTerm.enc)), .mk Qs (vN s.priority), .mk Qy (vN s.restart), .mk Q14 (vL (s.spread.map SpreadRule.enc))]
def zap9 (s : PodSpec) : PodSpec := { s with tolerations := [] }
theorem Q1d9 (s : PodSpec) (w : Val) : PodSpec.dec (put9 s w) = ({ s with tolerations := (xE Toleration.dec w).1 }, (xE Toleration.dec w).2) := by
  rw [Q3o (v := put9 s w) rfl (fp0 (s := s) (by kernel_rfl)) (fp1 (s := s) (by kernel_rfl)) (fp2 (s := s) (by kernel_rfl)) (fp3 (s := s) (by kernel_rfl)) (fp4 (s := s) (by kernel_rfl)) (fp5 (s := s) (by kernel_rfl)) (fp6 (s := s) (by kernel_rfl)) (fp7 (s := s) (by kernel_rfl)) (fp8 (s := s) (by kernel_rfl)) (congrArg (xE Toleration.dec) (show prt (put9 s w) Qn = w by kernel_rfl))]
  exact Prod.ext rfl (by cases (xE Toleration.dec w).2 <;> rfl)
theorem Q1db (s : PodSpec) : PodSpec.dec (cut9 s) = (zap9 s, true) := by
  rw [Q3o (v := cut9 s) rfl (fp0 (s := s) (by kernel_rfl)) (fp1 (s := s) (by kernel_rfl)) (fp2 (s := s) (by kernel_rfl)) (fp3 (s := s) (by kernel_rfl)) (fp4 (s := s) (by kernel_rfl)) (fp5 (s := s) (by kernel_rfl)) (fp6 (s := s) (by kernel_rfl)) (fp7 (s := s) (by kernel_rfl)) (fp8 (s := s) (by kernel_rfl)) (congrArg (xE Toleration.dec) (show prt (cut9 s) Qn = vZ by kernel_rfl))]
  rfl
theorem Q1g9 {o : Object} (h : Object.sm o) : Pod.sm (podR o).1 := by
  unfold podR
  cases (!(sEq o.meta_.kind Q2n) || !(podQ o)) with
  | true => exact ⟨⟨LSm.nil, LSm.nil, LSm.nil, LSm.nil, LSm.nil, LSm.nil, trivial⟩, ⟨LSm.nil, trivial⟩⟩
  | false => exact Q1cg h
theorem Q1er {p : Int} (h : 0 ≤ p ∧ p ≤ 255) : 0 ≤ Int.tmod p 10 ∧ Int.tmod p 10 < 10 := by
  rw [Int.tmod_eq_emod_of_nonneg h.1]
  omega
theorem ten {i : Int} (h : 0 ≤ i ∧ i < 10) : i = 0 ∨ i = 1 ∨ i = 2 ∨ i = 3 ∨ i = 4 ∨ i = 5 ∨ i = 6 ∨ i = 7 ∨ i = 8 ∨ i = 9 := by omega
end Go.Proofs.YtiflaadeikaghaaGreat
end

section
/- The law PodcodecMissing in plain words: without a field, or with null in it, a specification is decoded with zero there. -/
namespace Go.Proofs.YtiflaadeikaghaaGreat
open Go.Pv
abbrev zFld : Fld := Fld.mk eB vZ
def Q9b (p0 : Pod) (p1 : Int) (z : PodSpec) : Prop :=
  podR (Q26 p0 p1) = (⟨{ p0.meta_ with kind := Q2n }, z, p0.status⟩, 0) ∧ podR (Q2q p0 p1) = (⟨{ p0.meta_ with kind := Q2n }, z, p0.status⟩, 0) ∧
    ∀ (j : Nat) (x : Fld), (PodSpec.enc z).fields[j]? = some x → x = bif ((j : Int) == Int.tmod p1 10) then List.getD (PodSpec.enc Ql.spec).fields j zFld else List.getD (PodSpec.enc p0.spec).fields j zFld
theorem Q1oi (p0 : Pod) (p1 : Int) (e : Int.tmod p1 10 = 0) : Q9b p0 p1 (zap0 p0.spec) := by
  refine ⟨?_, ?_, ?_⟩
  · unfold Q26 s_K8
    rw [e]
    show podR ⟨{ p0.meta_ with kind := Q2n }, cut0 p0.spec, PodStatus.enc p0.status⟩ = _
    unfold podR podQ Q6q
    simp only [Q1cs, PodStatus.Q1h, Q2c]
    rfl
  · unfold Q2q
    rw [e]
    show podR ⟨{ p0.meta_ with kind := Q2n }, put0 p0.spec vZ, PodStatus.enc p0.status⟩ = _
    unfold podR podQ Q6q
    simp only [Q1ct, PodStatus.Q1h, Q2c]
    rfl
  · intro j x hx
    rw [e]
    exact match j, hx with
    | 0, hx => Option.some.inj hx ▸ rfl
    | 1, hx => Option.some.inj hx ▸ rfl
    | 2, hx => Option.some.inj hx ▸ rfl
    | 3, hx => Option.some.inj hx ▸ rfl
    | 4, hx => Option.some.inj hx ▸ rfl
    | 5, hx => Option.some.inj hx ▸ rfl
    | 6, hx => Option.some.inj hx ▸ rfl
    | 7, hx => Option.some.inj hx ▸ rfl
    | 8, hx => Option.some.inj hx ▸ rfl
    | 9, hx => Option.some.inj hx ▸ rfl
    | _ + 10, hx => by cases hx
theorem Q1pe (p0 : Pod) (p1 : Int) (e : Int.tmod p1 10 = 1) : Q9b p0 p1 (zap1 p0.spec) := by
  refine ⟨?_, ?_, ?_⟩
  · unfold Q26 s_K8
    rw [e]
    show podR ⟨{ p0.meta_ with kind := Q2n }, cut1 p0.spec, PodStatus.enc p0.status⟩ = _
    unfold podR podQ Q6q
    simp only [Q1bl, PodStatus.Q1h, Q2c]
    rfl
  · unfold Q2q
    rw [e]
    show podR ⟨{ p0.meta_ with kind := Q2n }, put1 p0.spec vZ, PodStatus.enc p0.status⟩ = _
    unfold podR podQ Q6q
    simp only [Q1d6, PodStatus.Q1h, Q2c]
    rfl
  · intro j x hx
    rw [e]
    exact match j, hx with
    | 0, hx => Option.some.inj hx ▸ rfl
    | 1, hx => Option.some.inj hx ▸ rfl
    | 2, hx => Option.some.inj hx ▸ rfl
    | 3, hx => Option.some.inj hx ▸ rfl
    | 4, hx => Option.some.inj hx ▸ rfl
    | 5, hx => Option.some.inj hx ▸ rfl
    | 6, hx => Option.some.inj hx ▸ rfl
    | 7, hx => Option.some.inj hx ▸ rfl
    | 8, hx => Option.some.inj hx ▸ rfl
    | 9, hx => Option.some.inj hx ▸ rfl
    | _ + 10, hx => by cases hx
theorem Q1lx (p0 : Pod) (p1 : Int) (e : Int.tmod p1 10 = 2) : Q9b p0 p1 (zap2 p0.spec) := by
  refine ⟨?_, ?_, ?_⟩
  · unfold Q26 s_K8
    rw [e]
    show podR ⟨{ p0.meta_ with kind := Q2n }, cut2 p0.spec, PodStatus.enc p0.status⟩ = _
    unfold podR podQ Q6q
    simp only [Q1bz, PodStatus.Q1h, Q2c]
    rfl
  · unfold Q2q
    rw [e]
    show podR ⟨{ p0.meta_ with kind := Q2n }, put2 p0.spec vZ, PodStatus.enc p0.status⟩ = _
    unfold podR podQ Q6q
    simp only [Q1d2, PodStatus.Q1h, Q2c]
    rfl
  · intro j x hx
    rw [e]
    exact match j, hx with
    | 0, hx => Option.some.inj hx ▸ rfl
    | 1, hx => Option.some.inj hx ▸ rfl
    | 2, hx => Option.some.inj hx ▸ rfl
    | 3, hx => Option.some.inj hx ▸ rfl
    | 4, hx => Option.some.inj hx ▸ rfl
    | 5, hx => Option.some.inj hx ▸ rfl
    | 6, hx => Option.some.inj hx ▸ rfl
    | 7, hx => Option.some.inj hx ▸ rfl
    | 8, hx => Option.some.inj hx ▸ rfl
    | 9, hx => Option.some.inj hx ▸ rfl
    | _ + 10, hx => by cases hx
theorem Q1ro (p0 : Pod) (p1 : Int) (e : Int.tmod p1 10 = 3) : Q9b p0 p1 (zap3 p0.spec) := by
  refine ⟨?_, ?_, ?_⟩
  · unfold Q26 s_K8
    rw [e]
    show podR ⟨{ p0.meta_ with kind := Q2n }, cut3 p0.spec, PodStatus.enc p0.status⟩ = _
    unfold podR podQ Q6q
    simp only [Q1d5, PodStatus.Q1h, Q2c]
    rfl
  · unfold Q2q
    rw [e]
    show podR ⟨{ p0.meta_ with kind := Q2n }, put3 p0.spec vZ, PodStatus.enc p0.status⟩ = _
    unfold podR podQ Q6q
    simp only [Q1by, PodStatus.Q1h, Q2c]
    rfl
  · intro j x hx
    rw [e]
    exact match j, hx with
    | 0, hx => Option.some.inj hx ▸ rfl
    | 1, hx => Option.some.inj hx ▸ rfl
    | 2, hx => Option.some.inj hx ▸ rfl
    | 3, hx => Option.some.inj hx ▸ rfl
    | 4, hx => Option.some.inj hx ▸ rfl
    | 5, hx => Option.some.inj hx ▸ rfl
    | 6, hx => Option.some.inj hx ▸ rfl
    | 7, hx => Option.some.inj hx ▸ rfl
    | 8, hx => Option.some.inj hx ▸ rfl
    | 9, hx => Option.some.inj hx ▸ rfl
    | _ + 10, hx => by cases hx
theorem Q1nm (p0 : Pod) (p1 : Int) (e : Int.tmod p1 10 = 4) : Q9b p0 p1 (zap4 p0.spec) := by
  refine ⟨?_, ?_, ?_⟩
  · unfold Q26 s_K8
    rw [e]
    show podR ⟨{ p0.meta_ with kind := Q2n }, cut4 p0.spec, PodStatus.enc p0.status⟩ = _
    unfold podR podQ Q6q
    simp only [Q1dj, PodStatus.Q1h, Q2c]
    rfl
  · unfold Q2q
    rw [e]
    show podR ⟨{ p0.meta_ with kind := Q2n }, put4 p0.spec vZ, PodStatus.enc p0.status⟩ = _
    unfold podR podQ Q6q
    simp only [Q1ci, PodStatus.Q1h, Q2c]
    rfl
  · intro j x hx
    rw [e]
    exact match j, hx with
    | 0, hx => Option.some.inj hx ▸ rfl
    | 1, hx => Option.some.inj hx ▸ rfl
    | 2, hx => Option.some.inj hx ▸ rfl
    | 3, hx => Option.some.inj hx ▸ rfl
    | 4, hx => Option.some.inj hx ▸ rfl
    | 5, hx => Option.some.inj hx ▸ rfl
    | 6, hx => Option.some.inj hx ▸ rfl
    | 7, hx => Option.some.inj hx ▸ rfl
    | 8, hx => Option.some.inj hx ▸ rfl
    | 9, hx => Option.some.inj hx ▸ rfl
    | _ + 10, hx => by cases hx
theorem Q1ne (p0 : Pod) (p1 : Int) (e : Int.tmod p1 10 = 5) : Q9b p0 p1 (zap5 p0.spec) := by
  refine ⟨?_, ?_, ?_⟩
  · unfold Q26 s_K8
    rw [e]
    show podR ⟨{ p0.meta_ with kind := Q2n }, cut5 p0.spec, PodStatus.enc p0.status⟩ = _
    unfold podR podQ Q6q
    simp only [Q1bk, PodStatus.Q1h, Q2c]
    rfl
  · unfold Q2q
    rw [e]
    show podR ⟨{ p0.meta_ with kind := Q2n }, put5 p0.spec vZ, PodStatus.enc p0.status⟩ = _
    unfold podR podQ Q6q
    simp only [Q1dg, PodStatus.Q1h, Q2c]
    rfl
  · intro j x hx
    rw [e]
    exact match j, hx with
    | 0, hx => Option.some.inj hx ▸ rfl
    | 1, hx => Option.some.inj hx ▸ rfl
    | 2, hx => Option.some.inj hx ▸ rfl
    | 3, hx => Option.some.inj hx ▸ rfl
    | 4, hx => Option.some.inj hx ▸ rfl
    | 5, hx => Option.some.inj hx ▸ rfl
    | 6, hx => Option.some.inj hx ▸ rfl
    | 7, hx => Option.some.inj hx ▸ rfl
    | 8, hx => Option.some.inj hx ▸ rfl
    | 9, hx => Option.some.inj hx ▸ rfl
    | _ + 10, hx => by cases hx
theorem Q1q4 (p0 : Pod) (p1 : Int) (e : Int.tmod p1 10 = 6) : Q9b p0 p1 (zap6 p0.spec) := by
  refine ⟨?_, ?_, ?_⟩
  · unfold Q26 s_K8
    rw [e]
    show podR ⟨{ p0.meta_ with kind := Q2n }, cut6 p0.spec, PodStatus.enc p0.status⟩ = _
    unfold podR podQ Q6q
    simp only [Q1bv, PodStatus.Q1h, Q2c]
    rfl
  · unfold Q2q
    rw [e]
    show podR ⟨{ p0.meta_ with kind := Q2n }, put6 p0.spec vZ, PodStatus.enc p0.status⟩ = _
    unfold podR podQ Q6q
    simp only [Q1ce, PodStatus.Q1h, Q2c]
    rfl
  · intro j x hx
    rw [e]
    exact match j, hx with
    | 0, hx => Option.some.inj hx ▸ rfl
    | 1, hx => Option.some.inj hx ▸ rfl
    | 2, hx => Option.some.inj hx ▸ rfl
    | 3, hx => Option.some.inj hx ▸ rfl
    | 4, hx => Option.some.inj hx ▸ rfl
    | 5, hx => Option.some.inj hx ▸ rfl
    | 6, hx => Option.some.inj hx ▸ rfl
    | 7, hx => Option.some.inj hx ▸ rfl
    | 8, hx => Option.some.inj hx ▸ rfl
    | 9, hx => Option.some.inj hx ▸ rfl
    | _ + 10, hx => by cases hx
theorem Q1rb (p0 : Pod) (p1 : Int) (e : Int.tmod p1 10 = 7) : Q9b p0 p1 (zap7 p0.spec) := by
  refine ⟨?_, ?_, ?_⟩
  · unfold Q26 s_K8
    rw [e]
    show podR ⟨{ p0.meta_ with kind := Q2n }, cut7 p0.spec, PodStatus.enc p0.status⟩ = _
    unfold podR podQ Q6q
    simp only [Q1dm, PodStatus.Q1h, Q2c]
    rfl
  · unfold Q2q
    rw [e]
    show podR ⟨{ p0.meta_ with kind := Q2n }, put7 p0.spec vZ, PodStatus.enc p0.status⟩ = _
    unfold podR podQ Q6q
    simp only [Q1cq, PodStatus.Q1h, Q2c]
    rfl
  · intro j x hx
    rw [e]
    exact match j, hx with
    | 0, hx => Option.some.inj hx ▸ rfl
    | 1, hx => Option.some.inj hx ▸ rfl
    | 2, hx => Option.some.inj hx ▸ rfl
    | 3, hx => Option.some.inj hx ▸ rfl
    | 4, hx => Option.some.inj hx ▸ rfl
    | 5, hx => Option.some.inj hx ▸ rfl
    | 6, hx => Option.some.inj hx ▸ rfl
    | 7, hx => Option.some.inj hx ▸ rfl
    | 8, hx => Option.some.inj hx ▸ rfl
    | 9, hx => Option.some.inj hx ▸ rfl
    | _ + 10, hx => by cases hx
theorem Q1ps (p0 : Pod) (p1 : Int) (e : Int.tmod p1 10 = 8) : Q9b p0 p1 (zap8 p0.spec) := by
  refine ⟨?_, ?_, ?_⟩
  · unfold Q26 s_K8
    rw [e]
    show podR ⟨{ p0.meta_ with kind := Q2n }, cut8 p0.spec, PodStatus.enc p0.status⟩ = _
    unfold podR podQ Q6q
    simp only [Q1cf, PodStatus.Q1h, Q2c]
    rfl
  · unfold Q2q
    rw [e]
    show podR ⟨{ p0.meta_ with kind := Q2n }, put8 p0.spec vZ, PodStatus.enc p0.status⟩ = _
    unfold podR podQ Q6q
    simp only [Q1du, PodStatus.Q1h, Q2c]
    rfl
  · intro j x hx
    rw [e]
    exact match j, hx with
    | 0, hx => Option.some.inj hx ▸ rfl
    | 1, hx => Option.some.inj hx ▸ rfl
    | 2, hx => Option.some.inj hx ▸ rfl
    | 3, hx => Option.some.inj hx ▸ rfl
    | 4, hx => Option.some.inj hx ▸ rfl
    | 5, hx => Option.some.inj hx ▸ rfl
    | 6, hx => Option.some.inj hx ▸ rfl
    | 7, hx => Option.some.inj hx ▸ rfl
    | 8, hx => Option.some.inj hx ▸ rfl
    | 9, hx => Option.some.inj hx ▸ rfl
    | _ + 10, hx => by cases hx
theorem Q1n6 (p0 : Pod) (p1 : Int) (e : Int.tmod p1 10 = 9) : Q9b p0 p1 (zap9 p0.spec) := by
  refine ⟨?_, ?_, ?_⟩
  · unfold Q26 s_K8
    rw [e]
    show podR ⟨{ p0.meta_ with kind := Q2n }, cut9 p0.spec, PodStatus.enc p0.status⟩ = _
    unfold podR podQ Q6q
    simp only [Q1db, PodStatus.Q1h, Q2c]
    rfl
  · unfold Q2q
    rw [e]
    show podR ⟨{ p0.meta_ with kind := Q2n }, put9 p0.spec vZ, PodStatus.enc p0.status⟩ = _
    unfold podR podQ Q6q
    simp only [Q1d9, PodStatus.Q1h, Q2c]
    rfl
  · intro j x hx
    rw [e]
    exact match j, hx with
    | 0, hx => Option.some.inj hx ▸ rfl
    | 1, hx => Option.some.inj hx ▸ rfl
    | 2, hx => Option.some.inj hx ▸ rfl
    | 3, hx => Option.some.inj hx ▸ rfl
    | 4, hx => Option.some.inj hx ▸ rfl
    | 5, hx => Option.some.inj hx ▸ rfl
    | 6, hx => Option.some.inj hx ▸ rfl
    | 7, hx => Option.some.inj hx ▸ rfl
    | 8, hx => Option.some.inj hx ▸ rfl
    | 9, hx => Option.some.inj hx ▸ rfl
    | _ + 10, hx => by cases hx
theorem miss (p0 : Pod) (p1 : Int) (h : 0 ≤ p1 ∧ p1 ≤ 255) : ∃ z, Q9b p0 p1 z := by
  rcases ten (Q1er h) with e | e | e | e | e | e | e | e | e | e
  · exact ⟨_, Q1oi p0 p1 e⟩
  · exact ⟨_, Q1pe p0 p1 e⟩
  · exact ⟨_, Q1lx p0 p1 e⟩
  · exact ⟨_, Q1ro p0 p1 e⟩
  · exact ⟨_, Q1nm p0 p1 e⟩
  · exact ⟨_, Q1ne p0 p1 e⟩
  · exact ⟨_, Q1q4 p0 p1 e⟩
  · exact ⟨_, Q1rb p0 p1 e⟩
  · exact ⟨_, Q1ps p0 p1 e⟩
  · exact ⟨_, Q1n6 p0 p1 e⟩
theorem Qjj (p0 : Pod) (p1 : Int) (F : List Fld) (h : ∀ (j : Nat) (x : Fld), F[j]? = some x → x = bif ((j : Int) == Int.tmod p1 10) then List.getD (PodSpec.enc Ql.spec).fields j zFld else List.getD (PodSpec.enc p0.spec).fields j zFld) :
    ∀ (l : List Fld) (i : Nat), List.drop i F = l → Q6l p0 p1 l i = .k0
  | [], _, _ => by rw [Q6l]
  | x :: l, i, hd => by
    obtain ⟨h1, _, h3⟩ := Q12 hd
    have hx := h i x h1
    rw [Q6l]
    cases c : ((i : Int) == Int.tmod p1 10) with
    | true =>
      rw [c, cond_true] at hx
      have e : x = List.getD (s_Ka Ql).spec.fields i zFld := hx
      rw [cond_true, ← e, Q2c, cond_true, Q9x, cond_true]
      exact Qjj p0 p1 F h l (i + 1) h3
    | false =>
      rw [c, cond_false] at hx
      have e : x = List.getD (s_Ka p0).spec.fields i zFld := hx
      rw [cond_false, ← e, Q2c, cond_true, Q9x, cond_true]
      exact Qjj p0 p1 F h l (i + 1) h3
theorem missing (p0 : Pod) (p1 : Int) (k0 : Q1an p0) (k1 : okU8 p1) (c0 : Qsc 1048576 p0) : H_K3 p0 p1 ∧ s_K3 p0 p1 = true := by
  have hp : 0 ≤ p1 ∧ p1 ≤ 255 := k1
  obtain ⟨z, e0, e1, ez⟩ := miss p0 p1 hp
  have ht := Q1er hp
  have g := Q1i6 c0
  have m0 := Q1a6 (Q1hb k0.1 Q2n (show 3 ≤ 140737488351232 by decide))
  have mc := Q1a6 k0.1
  have sp := Q19v k0.1 g
  have so := Pod.Qv7 g
  have hlen : (s_Ka p0).spec.fields.length = 10 := rfl
  have f1 : H_Ka p0 := ⟨mc.1, g⟩
  have o0 : Object.sm (Q26 p0 p1) := ⟨.mk _ (Nat.zero_le _) (by
      show (([] ++ List.take _ (s_Ka p0).spec.fields) ++ List.drop _ (s_Ka p0).spec.fields).length ≤ 1000000000
      rw [List.length_append, List.nil_append, List.length_take, List.length_drop, hlen]; omega) (fun _ h => by cases h) (fun x hx => by
      have hx : x ∈ ([] ++ List.take _ (s_Ka p0).spec.fields) ++ List.drop _ (s_Ka p0).spec.fields := hx
      rw [List.nil_append] at hx
      rcases List.mem_append.1 hx with h | h
      · exact so.1.all.2.2.2 x (List.mem_of_mem_take h)
      · exact so.1.all.2.2.2 x (List.mem_of_mem_drop h)), so.2⟩
  have o1 : Object.sm (Q2q p0 p1) := ⟨.mk _ (Nat.zero_le _) (by
      show (List.set ([] ++ (s_Ka p0).spec.fields) _ _).length ≤ 1000000000
      rw [List.length_set, List.nil_append, hlen]; omega) (fun _ h => by cases h) (fun x hx => by
      rcases List.mem_or_eq_of_mem_set hx with h | h
      · exact so.1.all.2.2.2 x h
      · subst h; exact Q1id), so.2⟩
  have a1 : H_K8 (s_Ka p0).spec (Int.tmod p1 10) := by
    refine ⟨by omega, by rw [hlen]; omega, ?_, ⟨by omega, by omega⟩, by omega, by rw [hlen]; omega, ?_, trivial⟩
    · rw [List.length_take, hlen]; omega
    · rw [List.nil_append, List.length_take, List.length_drop, hlen]; omega
  have a2 : (0 + List.length (s_Ka p0).spec.fields) * 96 ≤ 140737488355328 := by rw [hlen]; omega
  have a3 : (Int.tmod p1 10) < (((List.length ([] ++ (s_Ka p0).spec.fields)) : Nat) : Int) := by rw [List.nil_append, hlen]; omega
  have a4 : (Int.toNat (Int.tmod p1 10)) < List.length ([] ++ (s_Ka p0).spec.fields) := by rw [List.nil_append, hlen]; omega
  have t0 : H_Kd (Q26 p0 p1) := ⟨m0.1, o0⟩
  have t1 : H_Kd (Q2q p0 p1) := ⟨m0.1, o1⟩
  have E0 : s_Kd (Q26 p0 p1) = (⟨{ p0.meta_ with kind := Q2n }, z, p0.status⟩, 0) := e0
  have E1 : s_Kd (Q2q p0 p1) = (⟨{ p0.meta_ with kind := Q2n }, z, p0.status⟩, 0) := e1
  have gz : Pod.sm ⟨{ p0.meta_ with kind := Q2n }, z, p0.status⟩ := by
    have := Q1g9 o0
    rw [e0] at this
    exact this
  have s1 : Q1az (s_Kd (Q26 p0 p1)).1 (s_Kd (Q2q p0 p1)).1 := by
    rw [E0, E1]
    exact Q1bp m0.2.2 gz
  have f2 : H_Ka (s_Kd (Q26 p0 p1)).1 := by
    rw [E0]
    exact ⟨m0.1, gz⟩
  have zm : Qao (⟨⟨#[]⟩, ⟨#[]⟩, ⟨#[]⟩, 0, 0, 0, 0, false, 0, [], [], [], []⟩ : Meta) := by
    have i : Q3s 0 := ⟨by decide, by decide⟩
    exact ⟨Nat.zero_le _, Nat.zero_le _, Nat.zero_le _, i, i, i, i, trivial, i, ⟨Nat.zero_le _, fun _ h => by cases h⟩, ⟨Nat.zero_le _, fun _ h => by cases h⟩, ⟨Nat.zero_le _, fun _ h => by cases h⟩, ⟨Nat.zero_le _, fun _ h => by cases h⟩⟩
  have f3 : H_Ka Ql := ⟨(Q1a6 zm).1, ⟨⟨LSm.nil, LSm.nil, LSm.nil, LSm.nil, LSm.nil, LSm.nil, trivial⟩, ⟨LSm.nil, trivial⟩⟩⟩
  have hb : Q6m p0 p1 := by
    unfold Q6m
    rw [E0]
    have so2 := Pod.Qv7 gz
    have lt : ∀ (i : Nat) (x : Fld), (Pod.obj ⟨{ p0.meta_ with kind := Q2n }, z, p0.status⟩).spec.fields[i]? = some x → i < 10 := fun i x h => (List.getElem?_eq_some_iff.1 h).1
    have al : ∀ (i : Nat) (x : Fld), (Pod.obj ⟨{ p0.meta_ with kind := Q2n }, z, p0.status⟩).spec.fields[i]? = some x → Q7c x.v := fun i x h => alH (so2.1.all.2.2.2 x (List.mem_of_getElem? h))
    exact ⟨show 10 ≤ 4611686018427387904 by decide, lt, fun i x h _ => lt i x h, fun i x h _ _ => al i x h, fun i x h _ _ => al i x h, trivial⟩
  refine ⟨?_, ?_⟩
  · unfold H_K3
    repeat' with_reducible apply And.intro
    all_goals first | exact True.intro | exact sp | (intros; exact f1) | (intros; exact a1) | (intros; exact a2) | (intros; exact a3) | (intros; exact a4) | (intros; exact t0) | (intros; exact t1) | (intros; exact s1) | (intros; exact f2) | (intros; exact f3) | (intros; exact hb) | (intros; omega) | (intros; exact ⟨hp.1, by omega⟩)
  · have l0 : Q6l p0 p1 (s_Ka (s_Kd (Q26 p0 p1)).1).spec.fields 0 = .k0 := by
      rw [E0]
      exact Qjj p0 p1 _ ez _ 0 rfl
    have c1 : (((List.length (s_Ka p0).spec.fields) : Int) == 10) = true := rfl
    have c2 : (((List.length (s_Ka p0).status.fields) : Int) == 9) = true := rfl
    have c3 : (((List.length (s_Ka (s_Kd (Q26 p0 p1)).1).spec.fields) : Int) == 10) = true := rfl
    have c4 : (((List.length (s_Ka Ql).spec.fields) : Int) == 10) = true := rfl
    have d1 : ((s_Kd (Q26 p0 p1)).2 == 0) = true := by rw [E0]; rfl
    have d2 : ((s_Kd (Q2q p0 p1)).2 == 0) = true := by rw [E1]; rfl
    have d3 : Qa3 (s_Kd (Q26 p0 p1)).1 (s_Kd (Q2q p0 p1)).1 = true := by rw [E0, E1]; exact Q1dh _
    unfold s_K3
    rw [c1, c2, c3, c4, d1, d2, d3, l0]
    cases s_K6 p0 <;> rfl
end Go.Proofs.YtiflaadeikaghaaGreat
end

section
/- The library's comparison of two strings, walked: it answers as the evaluator's cmpL. -/
namespace Go.Proofs.YtiflaadeikaghaaGreat
open Go.Pv
theorem cmpL_eq : ∀ (a b : List UInt8), cmpL a b = Lib.compareBytes a b
  | [], [] => rfl
  | [], _ :: _ => rfl
  | _ :: _, [] => rfl
  | a :: x, b :: y => by
    rw [Lib.compareBytes, ← cmpL_eq x y]
    rfl
set_option maxHeartbeats 1000000 in
set_option maxRecDepth 100000 in
theorem comparing (a b : BA) (w : World) :
    Calls Tryz.prog 152 #[.string a, .string b] w fun e w' => e = .returned (.int .i64 (Lib.compareBytes a.data.toList b.data.toList)) ∧ w' = w := by
  go_enter Tryz.func152, Tryz.ntmps152
  go_wp2
  rw [run_callFunc_extern Tryz.func157 (by kernel_rfl) (by kernel_rfl) (by kernel_rfl) (e := Extern.BytealgCompare.compare) (by kernel_rfl), Lib.run_compareString]
  simp only [Result.andThen]
  rw [Oper.upon_value]
  go_wp2
  go_ret
  exact ⟨rfl, rfl⟩
theorem cmpOK : Q1dw Tryz.prog 152 := by
  refine ⟨⟨_, Tryz.func152, by kernel_rfl, by kernel_rfl⟩, fun x y w => ?_⟩
  have h := comparing x y w
  rw [← cmpL_eq, ← toList_data, ← toList_data] at h
  exact h
end Go.Proofs.YtiflaadeikaghaaGreat
end

section
/- What is of bounded bulk holds nothing longer. -/
namespace Go.Proofs.YtiflaadeikaghaaGreat.bulks
open Go.Pv
theorem one_le {H : Type} (d : DataW H) : 1 ≤ Rows.uptoBulk d := by
  cases d with
  | lit l => cases l <;> simp [Rows.uptoBulk]
  | nil => simp [Rows.uptoBulk]
  | ptr d => simp [Rows.uptoBulk]
  | slice elems spare => simp [Rows.uptoBulk]
  | agg parts => simp [Rows.uptoBulk]
  | iface t d => simp [Rows.uptoBulk]
  | map entries => simp [Rows.uptoBulk]
  | held h => simp [Rows.uptoBulk]
theorem Qzx {H : Type} {d : DataW H} {l : List (DataW H)} (h : d ∈ l) : Rows.uptoBulk d ≤ Rows.uptoBulkAll l := by
  induction l with
  | nil => cases h
  | cons x r ih =>
    simp only [Rows.uptoBulkAll]
    rcases List.mem_cons.1 h with e | e
    · subst e; omega
    · have := ih e; omega
theorem length_le {H : Type} (l : List (DataW H)) : l.length ≤ Rows.uptoBulkAll l := by
  induction l with
  | nil => simp [Rows.uptoBulkAll]
  | cons x r ih => have := one_le x; simp only [Rows.uptoBulkAll, List.length_cons]; omega
theorem Q1ah {H : Type} {N : Nat} : ∀ (k : Nat) (d : DataW H), Rows.uptoBulk d ≤ k → k ≤ N → CapD N d
  | 0, d, h, _ => by have := one_le d; omega
  | k + 1, d, h, hk => by
    cases d with
    | lit l => exact .lit l (fun b e => by subst e; simp only [Rows.uptoBulk] at h; omega)
    | nil => exact .nil
    | ptr d => exact .ptr d
    | slice elems spare =>
      simp only [Rows.uptoBulk] at h
      exact .slice elems spare (by have := length_le elems; omega) (fun z hz => Q1ah k z (by have := Qzx hz; omega) (by omega))
    | agg parts =>
      simp only [Rows.uptoBulk] at h
      exact .agg parts (fun z hz => Q1ah k z (by have := Qzx hz; omega) (by omega))
    | iface t d => exact .iface t d
    | map entries => exact .map entries
    | held x => exact .held x
theorem caps {H : Type} {ds gs : List (DataW H)} (hk : Rows.uptoSmall H (ds ++ gs) = true) : ∀ d ∈ ds, CapD 1048576 d := fun d hd =>
  Q1ah 1048576 d (Nat.le_trans (Qzx (List.mem_append_left _ hd)) (of_decide_eq_true hk)) (Nat.le_refl _)
end Go.Proofs.YtiflaadeikaghaaGreat.bulks
end

