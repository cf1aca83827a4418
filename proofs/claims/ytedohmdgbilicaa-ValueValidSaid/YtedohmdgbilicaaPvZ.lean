/-
  Strings: equality and order.
-/
import Derived.Test.YtedohmdgbilicaaPvY
namespace Go.Pv
theorem toList_loop (b : ByteArray) : ∀ (n i : Nat) (acc : List UInt8), b.size - i = n → ByteArray.toList.loop b i acc = acc.reverse ++ b.data.toList.drop i := by
  intro n
  induction n with
  | zero =>
    intro i acc h
    unfold ByteArray.toList.loop
    have h1 : ¬ i < b.size := by omega
    rw [if_neg h1]
    have : b.data.toList.drop i = [] := by
      rw [List.drop_eq_nil_iff]
      have : b.data.toList.length = b.size := Array.length_toList
      omega
    rw [this, List.append_nil]
  | succ n ih =>
    intro i acc h
    unfold ByteArray.toList.loop
    have h1 : i < b.size := by omega
    rw [if_pos h1, ih (i + 1) _ (by omega)]
    have hl : i < b.data.toList.length := by rw [show b.data.toList.length = b.size from Array.length_toList]; exact h1
    rw [List.drop_eq_getElem_cons hl, List.reverse_cons, List.append_assoc]
    congr 1
    simp only [List.singleton_append, List.cons.injEq, and_true]
    have : b.data.size = b.size := rfl
    simp [ByteArray.get!, h1, this]
theorem toList_data (b : ByteArray) : b.toList = b.data.toList := by
  unfold ByteArray.toList
  rw [toList_loop b _ 0 [] rfl]
  simp
theorem toList_inj {a b : ByteArray} (h : a.toList = b.toList) : a = b := by
  rw [toList_data, toList_data] at h
  cases a
  cases b
  simp at h
  rw [h]
theorem sEq_iff {a b : ByteArray} : sEq a b = true ↔ a = b := by
  unfold sEq
  rw [beq_iff_eq]
  exact ⟨toList_inj, fun h => by rw [h]⟩
theorem sEq_self (a : ByteArray) : sEq a a = true := sEq_iff.2 rfl
theorem sEq_dec (a b : ByteArray) : sEq a b = decide (a = b) := by
  rw [Bool.eq_iff_iff, sEq_iff]
  simp
theorem sEq_comm (a b : ByteArray) : sEq a b = sEq b a := by
  rw [sEq_dec, sEq_dec]
  simp only [eq_comm]

/-! ### value trees -/
mutual
inductive Val where
  | mk (kind n : Int) (s : ByteArray) (list : List Val) (fields : List Fld)
inductive Fld where
  | mk (name : ByteArray) (v : Val)
end
def Val.kind : Val → Int
  | .mk k _ _ _ _ => k
def Val.n : Val → Int
  | .mk _ n _ _ _ => n
def Val.s : Val → ByteArray
  | .mk _ _ s _ _ => s
def Val.list : Val → List Val
  | .mk _ _ _ l _ => l
def Val.fields : Val → List Fld
  | .mk _ _ _ _ f => f
def Fld.name : Fld → ByteArray
  | .mk n _ => n
def Fld.v : Fld → Val
  | .mk _ v => v
theorem Val.eta (v : Val) : Val.mk v.kind v.n v.s v.list v.fields = v := by cases v; rfl
theorem Fld.eta (f : Fld) : Fld.mk f.name f.v = f := by cases f; rfl
mutual
def Val.cs : Val → List PV
  | .mk k n s l f => [.int .i64 k, .int .i64 n, .str s, .sl (Val.css l), .sl (Fld.css f)]
def Val.css : List Val → List (List PV)
  | [] => []
  | v :: r => v.cs :: Val.css r
def Fld.css : List Fld → List (List PV)
  | [] => []
  | f :: r => f.cs :: Fld.css r
def Fld.cs : Fld → List PV
  | .mk n v => .str n :: v.cs
end
def Val.rows (l : List Val) : List (List PV) := Val.css l
def Fld.rows (l : List Fld) : List (List PV) := Fld.css l
def Val.cells (v : Val) : List PV := [.int .i64 v.kind, .int .i64 v.n, .str v.s, .sl (Val.rows v.list), .sl (Fld.rows v.fields)]
def Fld.cells (f : Fld) : List PV := [.str f.name, .int .i64 f.v.kind, .int .i64 f.v.n, .str f.v.s, .sl (Val.rows f.v.list), .sl (Fld.rows f.v.fields)]
theorem Val.cs_eq (v : Val) : v.cs = v.cells := by cases v; rfl
theorem Fld.cs_eq (f : Fld) : f.cs = f.cells := by
  cases f with
  | mk n v => cases v; rfl
theorem Val.rowsNil : Val.rows [] = [] := rfl
theorem Fld.rowsNil : Fld.rows [] = [] := rfl
theorem Val.rowsCons (v : Val) (l : List Val) : Val.rows (v :: l) = v.cells :: Val.rows l := by
  rw [← Val.cs_eq]
  rfl
theorem Fld.rowsCons (v : Fld) (l : List Fld) : Fld.rows (v :: l) = v.cells :: Fld.rows l := by
  rw [← Fld.cs_eq]
  rfl
theorem Val.rowsMap : ∀ l : List Val, Val.rows l = l.map Val.cells
  | [] => rfl
  | v :: r => by rw [Val.rowsCons, Val.rowsMap r]; rfl
theorem Fld.rowsMap : ∀ l : List Fld, Fld.rows l = l.map Fld.cells
  | [] => rfl
  | v :: r => by rw [Fld.rowsCons, Fld.rowsMap r]; rfl
theorem Val.rowsLen (l : List Val) : (Val.rows l).length = l.length := by simp [Val.rowsMap]
theorem Fld.rowsLen (l : List Fld) : (Fld.rows l).length = l.length := by simp [Fld.rowsMap]
theorem Val.rowsGet {l : List Val} {i : Nat} {x : Val} (h : l[i]? = some x) : (Val.rows l)[i]? = some (Val.cells x) := by rw [Val.rowsMap]; exact Go.Pv.rowsGet h
theorem Fld.rowsGet {l : List Fld} {i : Nat} {x : Fld} (h : l[i]? = some x) : (Fld.rows l)[i]? = some (Fld.cells x) := by rw [Fld.rowsMap]; exact Go.Pv.rowsGet h
theorem Val.rowsSnoc (l : List Val) (x : Val) : Val.rows (l ++ [x]) = Val.rows l ++ [Val.cells x] := by simp [Val.rowsMap]
theorem Fld.rowsSnoc (l : List Fld) (x : Fld) : Fld.rows (l ++ [x]) = Fld.rows l ++ [Fld.cells x] := by simp [Fld.rowsMap]
theorem Val.rowsTake (l : List Val) (n : Nat) : Val.rows (l.take n) = (Val.rows l).take n := by simp [Val.rowsMap, List.map_take]
theorem Fld.rowsTake (l : List Fld) (n : Nat) : Fld.rows (l.take n) = (Fld.rows l).take n := by simp [Fld.rowsMap, List.map_take]
theorem Val.rowsDrop (l : List Val) (n : Nat) : Val.rows (l.drop n) = (Val.rows l).drop n := by simp [Val.rowsMap, List.map_drop]
theorem Fld.rowsDrop (l : List Fld) (n : Nat) : Fld.rows (l.drop n) = (Fld.rows l).drop n := by simp [Fld.rowsMap, List.map_drop]
theorem Val.rowsApp (l m : List Val) : Val.rows (l ++ m) = Val.rows l ++ Val.rows m := by simp [Val.rowsMap]
theorem Fld.rowsApp (l m : List Fld) : Fld.rows (l ++ m) = Fld.rows l ++ Fld.rows m := by simp [Fld.rowsMap]
theorem Val.rowsSize (l : List Val) : ∀ r ∈ Val.rows l, r.length = 5 := by rw [Val.rowsMap]; exact mapSize (f := Val.cells) (fun _ => rfl) l
theorem Fld.rowsSize (l : List Fld) : ∀ r ∈ Fld.rows l, r.length = 6 := by rw [Fld.rowsMap]; exact mapSize (f := Fld.cells) (fun _ => rfl) l
theorem Val.rowsView (l : List Val) (sz : Nat) (h : sz = 5) : ViewOK sz (Val.rows l).flatten (Val.rows l) := by subst h; exact ⟨rfl, Val.rowsSize l, by rw [Val.rowsMap]; exact mapPlain (f := Val.cells) (fun _ => rfl) l⟩
theorem Fld.rowsView (l : List Fld) (sz : Nat) (h : sz = 6) : ViewOK sz (Fld.rows l).flatten (Fld.rows l) := by subst h; exact ⟨rfl, Fld.rowsSize l, by rw [Fld.rowsMap]; exact mapPlain (f := Fld.cells) (fun _ => rfl) l⟩

theorem Val.lt_list (v : Val) : SizeOf.sizeOf v.list < SizeOf.sizeOf v := by
  cases v with
  | mk k n s l f => simp only [Val.list, Val.mk.sizeOf_spec]; omega
theorem Val.lt_fields (v : Val) : SizeOf.sizeOf v.fields < SizeOf.sizeOf v := by
  cases v with
  | mk k n s l f => simp only [Val.fields, Val.mk.sizeOf_spec]; omega
theorem Fld.lt_v (f : Fld) : SizeOf.sizeOf f.v < SizeOf.sizeOf f := by
  cases f with
  | mk n v => simp only [Fld.v, Fld.mk.sizeOf_spec]; omega
theorem szL {v x : Val} {i : Nat} (h : v.list[i]? = some x) : SizeOf.sizeOf x < SizeOf.sizeOf v :=
  Nat.lt_trans (List.sizeOf_lt_of_mem (mem_get h)) v.lt_list
theorem szF {v : Val} {x : Fld} {i : Nat} (h : v.fields[i]? = some x) : SizeOf.sizeOf x.v < SizeOf.sizeOf v :=
  Nat.lt_trans x.lt_v (Nat.lt_trans (List.sizeOf_lt_of_mem (mem_get h)) v.lt_fields)

/-- every list within is of at most B elements -/
inductive Val.Sm (B : Nat) : Val → Prop
  | mk (v : Val) (hl : v.list.length ≤ B) (hf : v.fields.length ≤ B) (sl : ∀ x ∈ v.list, Val.Sm B x) (sf : ∀ x ∈ v.fields, Val.Sm B x.v) : Val.Sm B v
theorem Val.Sm.all {B : Nat} {v : Val} (h : Val.Sm B v) : v.list.length ≤ B ∧ v.fields.length ≤ B ∧ (∀ x ∈ v.list, Val.Sm B x) ∧ (∀ x ∈ v.fields, Val.Sm B x.v) := by
  cases h with
  | mk _ h1 h2 h3 h4 => exact ⟨h1, h2, h3, h4⟩
theorem Val.Sm.mono {B C : Nat} (hb : B ≤ C) {v : Val} (h : Val.Sm B v) : Val.Sm C v := by
  induction h with
  | mk v h1 h2 _ _ i1 i2 => exact .mk v (by omega) (by omega) i1 i2
theorem Val.Sm.leaf {B : Nat} (k n : Int) (s : ByteArray) : Val.Sm B (.mk k n s [] []) := .mk _ (Nat.zero_le _) (Nat.zero_le _) (fun _ h => by cases h) (fun _ h => by cases h)
theorem Val.Sm.getD {B : Nat} {l : List Val} (h : ∀ x ∈ l, Val.Sm B x) (i : Nat) (k n : Int) (s : ByteArray) : Val.Sm B (l.getD i (.mk k n s [] [])) := by
  by_cases c : i < l.length
  · have := getD_ok l i (.mk k n s [] []) c
    exact h _ (mem_get this)
  · rw [List.getD_eq_getElem?_getD, List.getElem?_eq_none (by omega)]
    exact .leaf k n s
theorem Val.Sm.getF {B : Nat} {l : List Fld} (h : ∀ x ∈ l, Val.Sm B x.v) (i : Nat) (m : ByteArray) (k n : Int) (s : ByteArray) : Val.Sm B (l.getD i (.mk m (.mk k n s [] []))).v := by
  by_cases c : i < l.length
  · have := getD_ok l i (.mk m (.mk k n s [] [])) c
    exact h _ (mem_get this)
  · rw [List.getD_eq_getElem?_getD, List.getElem?_eq_none (by omega)]
    exact .leaf k n s

/-- what is known of a tree that a law is handed -/
inductive Val_ok : Val → Prop
  | mk (v : Val) (h1 : okI64 v.kind) (h2 : okI64 v.n) (h3 : okS v.s) (hl : v.list.length * 80 ≤ 140737488351232) (hf : v.fields.length * 96 ≤ 140737488351232) (sl : ∀ x ∈ v.list, Val_ok x) (sn : ∀ x ∈ v.fields, okS x.name) (sf : ∀ x ∈ v.fields, Val_ok x.v) : Val_ok v
def Fld_ok (f : Fld) : Prop := okS f.name ∧ Val_ok f.v
theorem Val_ok.all {v : Val} (h : Val_ok v) : okI64 v.kind ∧ okI64 v.n ∧ okS v.s ∧ v.list.length * 80 ≤ 140737488351232 ∧ v.fields.length * 96 ≤ 140737488351232 ∧ (∀ x ∈ v.list, Val_ok x) ∧ (∀ x ∈ v.fields, okS x.name ∧ Val_ok x.v) := by
  cases h with
  | mk _ a b c d e f n g => exact ⟨a, b, c, d, e, f, fun x hx => ⟨n x hx, g x hx⟩⟩
theorem Val_ok.sm {v : Val} (h : Val_ok v) : Val.Sm 4611686018427387904 v := by
  induction h with
  | mk v _ _ _ hl hf _ _ _ i1 i2 => exact .mk v (by omega) (by omega) i1 i2
def Val_body (t : Nat) : Ty := .st [.int .i64, .int .i64, .str, .sl 80 (.nm t), .sl 96 (.st [.str, .nm t])]
theorem Val_openN {Γ : Nat → Option Ty} {t : Nat} (hΓ : Γ t = some (Val_body t)) : ∀ (k : Nat) (c : List PV), SizeOf.sizeOf c < k → Of Γ (.nm t) c → ∃ v : Val, c = v.cells ∧ Val_ok v
  | 0, _, h, _ => absurd h (Nat.not_lt_zero _)
  | k + 1, c, hk, h => by
    have hb : Of Γ (Val_body t) c := by
      cases h with
      | nm _ ty _ hg h =>
        rw [hΓ] at hg
        injection hg with hg
        subst hg
        exact h
    have g0 := hb.st1
    obtain ⟨a0, b0, rfl, h0, g1⟩ := g0.uncons
    obtain ⟨x0, rfl, k0⟩ := h0.i64
    obtain ⟨a1, b1, rfl, h1, g2⟩ := g1.uncons
    obtain ⟨x1, rfl, k1⟩ := h1.i64
    obtain ⟨a2, b2, rfl, h2, g3⟩ := g2.uncons
    obtain ⟨x2, rfl, k2⟩ := h2.str1
    obtain ⟨a3, b3, rfl, h3, g4⟩ := g3.uncons
    obtain ⟨a4, b4, rfl, h4, g5⟩ := g4.uncons
    have e := g5.empty
    subst e
    cases h3 with
    | sl _ _ l3 hl3 hr3 =>
    cases h4 with
    | sl _ _ l4 hl4 hr4 =>
    have s3 : SizeOf.sizeOf l3 < k := by simp at hk; omega
    have s4 : SizeOf.sizeOf l4 < k := by simp at hk; omega
    obtain ⟨x3, rfl, k3⟩ := choose_rows (f := Val.cells) (ok := Val_ok) l3 (fun r hr' => Val_openN hΓ k r (by have := List.sizeOf_lt_of_mem hr'; omega) (hr3 r hr'))
    obtain ⟨x4, rfl, k4⟩ := choose_rows (f := Fld.cells) (ok := Fld_ok) l4 (fun r hr' => by
      have q0 := (hr4 r hr').st1
      obtain ⟨c0, d0, rfl, i0, q1⟩ := q0.uncons
      obtain ⟨y0, rfl, m0⟩ := i0.str1
      obtain ⟨c1, d1, rfl, i1, q2⟩ := q1.uncons
      have e := q2.empty
      subst e
      obtain ⟨y1, rfl, m1⟩ := Val_openN hΓ k c1 (by have := List.sizeOf_lt_of_mem hr'; simp at this; omega) i1
      exact ⟨.mk y0 y1, by simp [Fld.cells, Val.cells, Fld.name, Fld.v], m0, m1⟩)
    rw [List.length_map] at hl3 hl4
    refine ⟨.mk x0 x1 x2 x3 x4, ?_, .mk _ k0 k1 k2 hl3 hl4 k3 (fun x hx => (k4 x hx).1) (fun x hx => (k4 x hx).2)⟩
    simp [Val.cells, Val.kind, Val.n, Val.s, Val.list, Val.fields, Val.rowsMap, Fld.rowsMap]
theorem Val_open {Γ : Nat → Option Ty} {t : Nat} (hΓ : Γ t = some (Val_body t)) {c : List PV} (h : Of Γ (.nm t) c) : ∃ v : Val, c = v.cells ∧ Val_ok v := Val_openN hΓ _ c (Nat.lt_succ_self _) h
theorem Fld_open {Γ : Nat → Option Ty} {t : Nat} (hΓ : Γ t = some (Val_body t)) {c : List PV} (h : Of Γ (.st [.str, .nm t]) c) : ∃ v : Fld, c = v.cells ∧ Fld_ok v := by
  have q0 := h.st1
  obtain ⟨c0, d0, rfl, i0, q1⟩ := q0.uncons
  obtain ⟨y0, rfl, m0⟩ := i0.str1
  obtain ⟨c1, d1, rfl, i1, q2⟩ := q1.uncons
  have e := q2.empty
  subst e
  obtain ⟨y1, rfl, m1⟩ := Val_open hΓ i1
  exact ⟨.mk y0 y1, by simp [Fld.cells, Val.cells, Fld.name, Fld.v], m0, m1⟩
theorem lt_head {α : Type} [SizeOf α] (x : α) (r : List α) : SizeOf.sizeOf x < SizeOf.sizeOf (x :: r) := by
  simp only [List.cons.sizeOf_spec]
  omega
theorem lt_tail {α : Type} [SizeOf α] (x : α) (r : List α) : SizeOf.sizeOf r < SizeOf.sizeOf (x :: r) := by
  simp only [List.cons.sizeOf_spec]
  omega
theorem lt_headv (x : Fld) (r : List Fld) : SizeOf.sizeOf x.v < SizeOf.sizeOf (x :: r) := Nat.lt_trans x.lt_v (lt_head x r)
def gam (t : Nat) : Nat → Option Ty := fun k => bif Nat.beq k t then some (Val_body t) else none
theorem gam_at (t : Nat) : gam t t = some (Val_body t) := by simp [gam]
theorem gam_tab {P : Program} {t : Nat} (h : chkTy P (gam t) (Val_body t) t = true) : TabOK P (gam t) := by
  intro k ty hk
  unfold gam at hk
  cases c : Nat.beq k t with
  | false => rw [c] at hk; cases hk
  | true =>
    rw [c] at hk
    simp only [cond_true, Option.some.injEq] at hk
    subst hk
    rw [Nat.eq_of_beq_eq_true c]
    exact ⟨rfl, h⟩
end Go.Pv
namespace Go.Pv
theorem toldE {G : Nat → Option Fun} {e e' : En} {r : Rs} (h : Tells G e r) (he : e = e') : Tells G e' r := he ▸ h
end Go.Pv
