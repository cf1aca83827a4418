/- Texts of the claim, merged by a program; what the statement does not reach is left out. -/
import Derived.Test.YtedohmdgbilicaaBValueBuilds2
import Derived.ChangeArms
import Derived.ChangeSlices
import Derived.ChangeOld
import Derived.Carry
import GoSem.ClaimJoined

section
/-
  Strings: equality and order.
-/
namespace Go.Pv
theorem Qka (b : ByteArray) : ∀ (n i : Nat) (acc : List UInt8), b.size - i = n → ByteArray.toList.loop b i acc = acc.reverse ++ b.data.toList.drop i := by
  intro n
  induction n with
  | zero =>
    intro i acc h
    unfold ByteArray.toList.loop
    have h1 : ¬ i < b.size := by omega
    rw [if_neg h1]
    have : b.data.toList.drop i = [] := by
      rw [List.drop_eq_nil_iff]
      have : b.data.toList.length = b.size := Array.length_toList
      omega
    rw [this, List.append_nil]
  | succ n ih =>
    intro i acc h
    unfold ByteArray.toList.loop
    have h1 : i < b.size := by omega
    rw [if_pos h1, ih (i + 1) _ (by omega)]
    have hl : i < b.data.toList.length := by rw [show b.data.toList.length = b.size from Array.length_toList]; exact h1
    rw [List.drop_eq_getElem_cons hl, List.reverse_cons, List.append_assoc]
    congr 1
    simp only [List.singleton_append, List.cons.injEq, and_true]
    have : b.data.size = b.size := rfl
    simp [ByteArray.get!, h1, this]
theorem toList_data (b : ByteArray) : b.toList = b.data.toList := by
  unfold ByteArray.toList
  rw [Qka b _ 0 [] rfl]
  simp
theorem toList_inj {a b : ByteArray} (h : a.toList = b.toList) : a = b := by
  rw [toList_data, toList_data] at h
  cases a
  cases b
  simp at h
  rw [h]
theorem Q84 {a b : ByteArray} : sEq a b = true ↔ a = b := by
  unfold sEq
  rw [beq_iff_eq]
  exact ⟨toList_inj, fun h => by rw [h]⟩
theorem Qt5 (a b : ByteArray) : sEq a b = decide (a = b) := by
  rw [Bool.eq_iff_iff, Q84]
  simp
mutual
inductive Val where
  | mk (kind n : Int) (s : ByteArray) (list : List Val) (fields : List Fld)
inductive Fld where
  | mk (name : ByteArray) (v : Val)
end
def Val.kind : Val → Int
  | .mk k _ _ _ _ => k
def Val.n : Val → Int
  | .mk _ n _ _ _ => n
def Val.s : Val → ByteArray
  | .mk _ _ s _ _ => s
def Val.list : Val → List Val
  | .mk _ _ _ l _ => l
def Val.fields : Val → List Fld
  | .mk _ _ _ _ f => f
def Fld.name : Fld → ByteArray
  | .mk n _ => n
def Fld.v : Fld → Val
  | .mk _ v => v
theorem Val.eta (v : Val) : Val.mk v.kind v.n v.s v.list v.fields = v := by cases v; rfl
theorem Fld.eta (f : Fld) : Fld.mk f.name f.v = f := by cases f; rfl
mutual
def Val.cs : Val → List PV
  | .mk k n s l f => [.int .i64 k, .int .i64 n, .str s, .sl (Val.css l), .sl (Fld.css f)]
def Val.css : List Val → List (List PV)
  | [] => []
  | v :: r => v.cs :: Val.css r
def Fld.css : List Fld → List (List PV)
  | [] => []
  | f :: r => f.cs :: Fld.css r
def Fld.cs : Fld → List PV
  | .mk n v => .str n :: v.cs
end
def Val.rows (l : List Val) : List (List PV) := Val.css l
def Fld.rows (l : List Fld) : List (List PV) := Fld.css l
def Val.cells (v : Val) : List PV := [.int .i64 v.kind, .int .i64 v.n, .str v.s, .sl (Val.rows v.list), .sl (Fld.rows v.fields)]
def Fld.cells (f : Fld) : List PV := [.str f.name, .int .i64 f.v.kind, .int .i64 f.v.n, .str f.v.s, .sl (Val.rows f.v.list), .sl (Fld.rows f.v.fields)]
theorem Val.Qt1 (v : Val) : v.cs = v.cells := by cases v; rfl
theorem Fld.Qt1 (f : Fld) : f.cs = f.cells := by
  cases f with
  | mk n v => cases v; rfl
theorem Val.Qfj (v : Val) (l : List Val) : Val.rows (v :: l) = v.cells :: Val.rows l := by
  rw [← Val.Qt1]
  rfl
theorem Fld.Qfj (v : Fld) (l : List Fld) : Fld.rows (v :: l) = v.cells :: Fld.rows l := by
  rw [← Fld.Qt1]
  rfl
theorem Val.Q1y : ∀ l : List Val, Val.rows l = l.map Val.cells
  | [] => rfl
  | v :: r => by rw [Val.Qfj, Val.Q1y r]; rfl
theorem Fld.Q1y : ∀ l : List Fld, Fld.rows l = l.map Fld.cells
  | [] => rfl
  | v :: r => by rw [Fld.Qfj, Fld.Q1y r]; rfl
theorem Val.Q9 (l : List Val) : (Val.rows l).length = l.length := by simp [Val.Q1y]
theorem Fld.Q9 (l : List Fld) : (Fld.rows l).length = l.length := by simp [Fld.Q1y]
theorem Val.Qj {l : List Val} {i : Nat} {x : Val} (h : l[i]? = some x) : (Val.rows l)[i]? = some (Val.cells x) := by rw [Val.Q1y]; exact Go.Pv.Qj h
theorem Fld.Qj {l : List Fld} {i : Nat} {x : Fld} (h : l[i]? = some x) : (Fld.rows l)[i]? = some (Fld.cells x) := by rw [Fld.Q1y]; exact Go.Pv.Qj h
theorem Val.Q2i (l : List Val) (x : Val) : Val.rows (l ++ [x]) = Val.rows l ++ [Val.cells x] := by simp [Val.Q1y]
theorem Fld.Q2i (l : List Fld) (x : Fld) : Fld.rows (l ++ [x]) = Fld.rows l ++ [Fld.cells x] := by simp [Fld.Q1y]
theorem Val.Qm (l : List Val) : ∀ r ∈ Val.rows l, r.length = 5 := by rw [Val.Q1y]; exact Qpq (f := Val.cells) (fun _ => rfl) l
theorem Fld.Qm (l : List Fld) : ∀ r ∈ Fld.rows l, r.length = 6 := by rw [Fld.Q1y]; exact Qpq (f := Fld.cells) (fun _ => rfl) l
theorem Val.Q0 (l : List Val) (sz : Nat) (h : sz = 5) : ViewOK sz (Val.rows l).flatten (Val.rows l) := by subst h; exact ⟨rfl, Val.Qm l, by rw [Val.Q1y]; exact Qme (f := Val.cells) (fun _ => rfl) l⟩
theorem Fld.Q0 (l : List Fld) (sz : Nat) (h : sz = 6) : ViewOK sz (Fld.rows l).flatten (Fld.rows l) := by subst h; exact ⟨rfl, Fld.Qm l, by rw [Fld.Q1y]; exact Qme (f := Fld.cells) (fun _ => rfl) l⟩
theorem Val.Q3m (v : Val) : SizeOf.sizeOf v.list < SizeOf.sizeOf v := by
  cases v with
  | mk k n s l f => simp only [Val.list, Val.mk.sizeOf_spec]; omega
theorem Val.Q23 (v : Val) : SizeOf.sizeOf v.fields < SizeOf.sizeOf v := by
  cases v with
  | mk k n s l f => simp only [Val.fields, Val.mk.sizeOf_spec]; omega
theorem Fld.lt_v (f : Fld) : SizeOf.sizeOf f.v < SizeOf.sizeOf f := by
  cases f with
  | mk n v => simp only [Fld.v, Fld.mk.sizeOf_spec]; omega
theorem szL {v x : Val} {i : Nat} (h : v.list[i]? = some x) : SizeOf.sizeOf x < SizeOf.sizeOf v :=
  Nat.lt_trans (List.sizeOf_lt_of_mem (Q2l h)) v.Q3m
theorem szF {v : Val} {x : Fld} {i : Nat} (h : v.fields[i]? = some x) : SizeOf.sizeOf x.v < SizeOf.sizeOf v :=
  Nat.lt_trans x.lt_v (Nat.lt_trans (List.sizeOf_lt_of_mem (Q2l h)) v.Q23)
inductive Val.Sm (B : Nat) : Val → Prop
  | mk (v : Val) (hl : v.list.length ≤ B) (hf : v.fields.length ≤ B) (sl : ∀ x ∈ v.list, Val.Sm B x) (sf : ∀ x ∈ v.fields, Val.Sm B x.v) : Val.Sm B v
theorem Val.Sm.all {B : Nat} {v : Val} (h : Val.Sm B v) : v.list.length ≤ B ∧ v.fields.length ≤ B ∧ (∀ x ∈ v.list, Val.Sm B x) ∧ (∀ x ∈ v.fields, Val.Sm B x.v) := by
  cases h with
  | mk _ h1 h2 h3 h4 => exact ⟨h1, h2, h3, h4⟩
theorem Val.Sm.mono {B C : Nat} (hb : B ≤ C) {v : Val} (h : Val.Sm B v) : Val.Sm C v := by
  induction h with
  | mk v h1 h2 _ _ i1 i2 => exact .mk v (by omega) (by omega) i1 i2
theorem Val.Sm.leaf {B : Nat} (k n : Int) (s : ByteArray) : Val.Sm B (.mk k n s [] []) := .mk _ (Nat.zero_le _) (Nat.zero_le _) (fun _ h => by cases h) (fun _ h => by cases h)
theorem Val.Sm.getD {B : Nat} {l : List Val} (h : ∀ x ∈ l, Val.Sm B x) (i : Nat) (k n : Int) (s : ByteArray) : Val.Sm B (l.getD i (.mk k n s [] [])) := by
  by_cases c : i < l.length
  · have := Qu l i (.mk k n s [] []) c
    exact h _ (Q2l this)
  · rw [List.getD_eq_getElem?_getD, List.getElem?_eq_none (by omega)]
    exact .leaf k n s
inductive Q36 : Val → Prop
  | mk (v : Val) (h1 : Qkg v.kind) (h2 : Qkg v.n) (h3 : okS v.s) (hl : v.list.length * 80 ≤ 140737488351232) (hf : v.fields.length * 96 ≤ 140737488351232) (sl : ∀ x ∈ v.list, Q36 x) (sn : ∀ x ∈ v.fields, okS x.name) (sf : ∀ x ∈ v.fields, Q36 x.v) : Q36 v
def Qh9 (f : Fld) : Prop := okS f.name ∧ Q36 f.v
theorem Q36.all {v : Val} (h : Q36 v) : Qkg v.kind ∧ Qkg v.n ∧ okS v.s ∧ v.list.length * 80 ≤ 140737488351232 ∧ v.fields.length * 96 ≤ 140737488351232 ∧ (∀ x ∈ v.list, Q36 x) ∧ (∀ x ∈ v.fields, okS x.name ∧ Q36 x.v) := by
  cases h with
  | mk _ a b c d e f n g => exact ⟨a, b, c, d, e, f, fun x hx => ⟨n x hx, g x hx⟩⟩
theorem Q36.sm {v : Val} (h : Q36 v) : Val.Sm 4611686018427387904 v := by
  induction h with
  | mk v _ _ _ hl hf _ _ _ i1 i2 => exact .mk v (by omega) (by omega) i1 i2
def Q4g (t : Nat) : Ty := .st [.int .i64, .int .i64, .str, .sl 80 (.nm t), .sl 96 (.st [.str, .nm t])]
theorem Qam {Γ : Nat → Option Ty} {t : Nat} (hΓ : Γ t = some (Q4g t)) : ∀ (k : Nat) (c : List PV), SizeOf.sizeOf c < k → Of Γ (.nm t) c → ∃ v : Val, c = v.cells ∧ Q36 v
  | 0, _, h, _ => absurd h (Nat.not_lt_zero _)
  | k + 1, c, hk, h => by
    have hb : Of Γ (Q4g t) c := by
      cases h with
      | nm _ ty _ hg h =>
        rw [hΓ] at hg
        injection hg with hg
        subst hg
        exact h
    have g0 := hb.st1
    obtain ⟨a0, b0, rfl, h0, g1⟩ := g0.Q4y
    obtain ⟨x0, rfl, k0⟩ := h0.i64
    obtain ⟨a1, b1, rfl, h1, g2⟩ := g1.Q4y
    obtain ⟨x1, rfl, k1⟩ := h1.i64
    obtain ⟨a2, b2, rfl, h2, g3⟩ := g2.Q4y
    obtain ⟨x2, rfl, k2⟩ := h2.str1
    obtain ⟨a3, b3, rfl, h3, g4⟩ := g3.Q4y
    obtain ⟨a4, b4, rfl, h4, g5⟩ := g4.Q4y
    have e := g5.empty
    subst e
    cases h3 with
    | sl _ _ l3 hl3 hr3 =>
    cases h4 with
    | sl _ _ l4 hl4 hr4 =>
    have s3 : SizeOf.sizeOf l3 < k := by simp at hk; omega
    have s4 : SizeOf.sizeOf l4 < k := by simp at hk; omega
    obtain ⟨x3, rfl, k3⟩ := Q4v (f := Val.cells) (ok := Q36) l3 (fun r hr' => Qam hΓ k r (by have := List.sizeOf_lt_of_mem hr'; omega) (hr3 r hr'))
    obtain ⟨x4, rfl, k4⟩ := Q4v (f := Fld.cells) (ok := Qh9) l4 (fun r hr' => by
      have q0 := (hr4 r hr').st1
      obtain ⟨c0, d0, rfl, i0, q1⟩ := q0.Q4y
      obtain ⟨y0, rfl, m0⟩ := i0.str1
      obtain ⟨c1, d1, rfl, i1, q2⟩ := q1.Q4y
      have e := q2.empty
      subst e
      obtain ⟨y1, rfl, m1⟩ := Qam hΓ k c1 (by have := List.sizeOf_lt_of_mem hr'; simp at this; omega) i1
      exact ⟨.mk y0 y1, by simp [Fld.cells, Val.cells, Fld.name, Fld.v], m0, m1⟩)
    rw [List.length_map] at hl3 hl4
    refine ⟨.mk x0 x1 x2 x3 x4, ?_, .mk _ k0 k1 k2 hl3 hl4 k3 (fun x hx => (k4 x hx).1) (fun x hx => (k4 x hx).2)⟩
    simp [Val.cells, Val.kind, Val.n, Val.s, Val.list, Val.fields, Val.Q1y, Fld.Q1y]
theorem Qm0 {Γ : Nat → Option Ty} {t : Nat} (hΓ : Γ t = some (Q4g t)) {c : List PV} (h : Of Γ (.nm t) c) : ∃ v : Val, c = v.cells ∧ Q36 v := Qam hΓ _ c (Nat.lt_succ_self _) h
theorem Qrk {Γ : Nat → Option Ty} {t : Nat} (hΓ : Γ t = some (Q4g t)) {c : List PV} (h : Of Γ (.st [.str, .nm t]) c) : ∃ v : Fld, c = v.cells ∧ Qh9 v := by
  have q0 := h.st1
  obtain ⟨c0, d0, rfl, i0, q1⟩ := q0.Q4y
  obtain ⟨y0, rfl, m0⟩ := i0.str1
  obtain ⟨c1, d1, rfl, i1, q2⟩ := q1.Q4y
  have e := q2.empty
  subst e
  obtain ⟨y1, rfl, m1⟩ := Qm0 hΓ i1
  exact ⟨.mk y0 y1, by simp [Fld.cells, Val.cells, Fld.name, Fld.v], m0, m1⟩
theorem Q43 {α : Type} [SizeOf α] (x : α) (r : List α) : SizeOf.sizeOf x < SizeOf.sizeOf (x :: r) := by
  simp only [List.cons.sizeOf_spec]
  omega
theorem Q4p {α : Type} [SizeOf α] (x : α) (r : List α) : SizeOf.sizeOf r < SizeOf.sizeOf (x :: r) := by
  simp only [List.cons.sizeOf_spec]
  omega
theorem Q3c (x : Fld) (r : List Fld) : SizeOf.sizeOf x.v < SizeOf.sizeOf (x :: r) := Nat.lt_trans x.lt_v (Q43 x r)
def gam (t : Nat) : Nat → Option Ty := fun k => bif Nat.beq k t then some (Q4g t) else none
theorem Qsr (t : Nat) : gam t t = some (Q4g t) := by simp [gam]
theorem gam_tab {P : Program} {t : Nat} (h : Q6g P (gam t) (Q4g t) t = true) : TabOK P (gam t) := by
  intro k ty hk
  unfold gam at hk
  cases c : Nat.beq k t with
  | false => rw [c] at hk; cases hk
  | true =>
    rw [c] at hk
    simp only [cond_true, Option.some.injEq] at hk
    subst hk
    rw [Nat.eq_of_beq_eq_true c]
    exact ⟨rfl, h⟩
end Go.Pv
namespace Go.Pv
end Go.Pv
end

section
/- Strings byte by byte; rows that are cloned. -/
namespace Go.Pv
theorem Qmp : ∀ p, plain p = true → bare p = true := fun p h => by cases p <;> first | rfl | (cases h)
theorem Q2y {G : Nat → Option Fun} {f sz bytes : Nat} (hG : G f = some (.ax (Qdd sz bytes))) {rows : List (List PV)} {n : Nat} (hn : rows.length = n) (hv : ViewOK sz rows.flatten rows) (hb : n * bytes ≤ 140737488355328) :
    Qb G (.call f [.sl rows] []) (.ret (.ms 0 sz 0 n) [⟨sz, 0, true, rows.flatten⟩]) := by
  refine ⟨1, ?_⟩
  subst hn
  simp only [runs, phi, hG, Qdd]
  have h1 : Q4x rows sz = true := Qon hv.size
  have h2 : rows.flatten.all bare = true := List.all_eq_true.2 fun p hp => Qmp p (hv.all p hp)
  rw [h1, h2, Nat.ble_eq_true_of_le hb]
  rfl
end Go.Pv
namespace Go.Pv
theorem szM {v x : Val} (h : x ∈ v.list) : SizeOf.sizeOf x < SizeOf.sizeOf v := Nat.lt_trans (List.sizeOf_lt_of_mem h) v.Q3m
theorem szN {v : Val} {x : Fld} (h : x ∈ v.fields) : SizeOf.sizeOf x.v < SizeOf.sizeOf v := Nat.lt_trans x.lt_v (Nat.lt_trans (List.sizeOf_lt_of_mem h) v.Q23)
end Go.Pv
end

section
/-
  What a law is handed, where its bulk is bounded: nothing within is longer.
-/
namespace Go.Pv
open Go.RowKit
inductive Cap (N : Nat) : PV → Prop
  | bool (b : Bool) : Cap N (.bool b)
  | int (k : IntKind) (n : Int) : Cap N (.int k n)
  | str (s : ByteArray) (h : s.size ≤ N) : Cap N (.str s)
  | sl (l : List (List PV)) (h : l.length ≤ N) (hl : ∀ r ∈ l, ∀ p ∈ r, Cap N p) : Cap N (.sl l)
def CapL (N : Nat) (c : List PV) : Prop := ∀ p ∈ c, Cap N p
theorem CapL.one {N : Nat} {p : PV} (h : Cap N p) : CapL N [p] := fun q hq => by
  rw [List.mem_singleton] at hq
  subst hq
  exact h
inductive CapD {H : Type} (N : Nat) : DataW H → Prop
  | lit (l : Lit) (h : ∀ b, l = .string b → b.length ≤ N) : CapD N (.lit l)
  | agg (parts : List (DataW H)) (h : ∀ d ∈ parts, CapD N d) : CapD N (.agg parts)
  | slice (elems spare : List (DataW H)) (h : elems.length ≤ N) (hl : ∀ d ∈ elems, CapD N d) : CapD N (.slice elems spare)
  | nil : CapD N .nil
  | ptr (d : DataW H) : CapD N (.ptr d)
  | iface (t : String) (d : DataW H) : CapD N (.iface t d)
  | map (e : List (Lit × DataW H)) : CapD N (.map e)
  | held (h : H) : CapD N (.held h)
def ArgB (Γ : Nat → Option Ty) (N : Nat) (ty : Ty) (p : PV) : Prop := ∃ c, Of Γ ty c ∧ CapL N c ∧ (bif ty.isSt Γ then p = .agg c else c = [p])
section
variable {H : Type} {enc : TypeId × Value → H} {P : Program} {w : World} {base : Nat} {sp : Nat → Bool} {held : Bool} {Γ : Nat → Option Ty} {N : Nat}
end
theorem ArgB.one {Γ : Nat → Option Ty} {N : Nat} {ty : Ty} {p : PV} (h : ArgB Γ N ty p) (hs : ty.isSt Γ = false) : Of Γ ty [p] ∧ CapL N [p] := by
  obtain ⟨c, hc, hb, hp⟩ := h
  rw [hs] at hp
  have hp : c = [p] := hp
  subst hp
  exact ⟨hc, hb⟩
theorem ArgB.agg {Γ : Nat → Option Ty} {N : Nat} {ty : Ty} {p : PV} (h : ArgB Γ N ty p) (hs : ty.isSt Γ = true) : ∃ c, p = .agg c ∧ Of Γ ty c ∧ CapL N c := by
  obtain ⟨c, hc, hb, hp⟩ := h
  rw [hs] at hp
  exact ⟨c, hp, hc, hb⟩
end Go.Pv
end

section
/- Parts of a slice of one's own, and appends of them. -/
namespace Go.Pv
end Go.Pv
end

section
/- Slices that are made with a length: their rows. -/
namespace Go.Pv
end Go.Pv
end

section
/- Rows of one's own: cleared behind a place, appended to from a place on. -/
namespace Go.Pv
theorem Val.Q34 (l : List Val) (k : Nat) (x : Val) : Val.rows (l.set k x) = (Val.rows l).set k (Val.cells x) := by simp [Val.Q1y, List.map_set]
theorem Fld.Q34 (l : List Fld) (k : Nat) (x : Fld) : Fld.rows (l.set k x) = (Fld.rows l).set k (Fld.cells x) := by simp [Fld.Q1y, List.map_set]
theorem Qpa {l : List (List PV)} {k : Nat} {r : List PV} (h : l[k]? = some r) : l = l.set k r := by
  apply List.ext_getElem?
  intro i
  rw [List.getElem?_set]
  by_cases e : k = i
  · subst e
    rw [if_pos rfl, h, if_pos (List.getElem?_eq_some_iff.1 h).1]
  · rw [if_neg e]
end Go.Pv
end

section
/- Arrays of bools, asked at an index of a loop. -/
namespace Go.Pv
def zr (z : Nat → PV) (i : Nat) : Nat → List PV
  | 0 => []
  | k + 1 => z i :: zr z (i + 1) k
end Go.Pv
end

section
/- A function that is told by a contract of its own: its text, evaluated once over what a table tells. Copies of values whose rows are the caller's own. -/
namespace Go.Pv
theorem Qvq {G : Nat → Option Fun} {f : Nat} {fn : IFn} {args : List PV} {h : List Ob} {vw : Views} (hv : VOK (look (number 0 h)) vw) {r : Rs} (l : List It) (q : List (An G)) (ht : Qr2 fn args h vw (hsOf l) (asOf q) = some (r, owOf l, akOf q)) :
    ∃ n, phi (fun _ => some (.ir fn)) (runs G n) (.call f args h) = some r := by
  have hp := Qqh l
  have hq := Qjf q
  have key : phi (fun _ => some (.ir fn)) (lim G) (.call f args h) = some r := by
    unfold Qr2 at ht
    simp only [phi]
    cases hl : Nat.beq args.length fn.np with
    | false => rw [hl] at ht; cases ht
    | true =>
      rw [hl] at ht
      simp only [cond_true] at ht ⊢
      obtain ⟨x, hx, ht⟩ := Qf ht
      obtain ⟨ex, st, vw1, hs1, as1, ow1, ak1⟩ := x
      cases ex with
      | exit j => cases ht
      | normal =>
        simp only at ht
        obtain ⟨r', hr, ht⟩ := Qf ht
        simp only [Option.some.injEq, Prod.mk.injEq] at ht
        obtain ⟨h1, h2, h3⟩ := ht
        rw [← h2] at hp
        rw [← h3] at hq
        obtain ⟨r1, r2⟩ := Q10 _ _ _ vw _ _ hx hv hp.left hq
        rw [r1, Option.bind_some, ← h1]
        exact Q5o r2 hr hp.right
      | ret =>
        simp only at ht
        obtain ⟨r', hr, ht⟩ := Qf ht
        simp only [Option.some.injEq, Prod.mk.injEq] at ht
        obtain ⟨h1, h2, h3⟩ := ht
        rw [← h2] at hp
        rw [← h3] at hq
        obtain ⟨r1, r2⟩ := Q10 _ _ _ vw _ _ hx hv hp.left hq
        rw [r1, Option.bind_some, ← h1]
        exact Q5o r2 hr hp.right
  obtain ⟨n, hn⟩ := Qr0 (L := lim G) (ch := runs G) Q6p.conv (fun _ => some (.ir fn)) (.call f args h) r key
  exact ⟨n, hn n (Nat.le_refl _)⟩
theorem Qos {P : Program} (hm : P.follows .mixedOrders = true) {G : Nat → Option Fun} (hT : Tie P G) {f : Nat} {Fn : Func} {fn : IFn} (hf : P.funcs[f]? = some Fn) (hc : Q19 P Fn fn = true) {args : List PV} {h : List Ob} {r : PV} {h' : List Ob}
    (hr : ∃ n, phi (fun _ => some (.ir fn)) (runs G n) (.call f args h) = some (.ret r h')) : Q3d P f ∧ Qck P f args h r h' := by
  obtain ⟨n, hr⟩ := hr
  obtain ⟨hX, hL⟩ := Q5h hm hT n
  simp only [phi] at hr
  obtain ⟨hal, hr⟩ := Qo hr
  have hal := Nat.eq_of_beq_eq_true hal
  obtain ⟨⟨x, s⟩, hrun, hr⟩ := bind_some hr
  cases x with
  | exit j => cases hr
  | normal => exact Q8o hm hX hL hf hc hal hrun (fun j h => by cases h) hr
  | ret => exact Q8o hm hX hL hf hc hal hrun (fun j h => by cases h) hr
def ownV : List PV → PV × List Ob
  | [.agg [k, n, s, .sl l, .sl f]] => (.agg [k, n, s, .ms 0 5 0 l.length, .ms 1 6 0 f.length], [⟨5, 0, true, l.flatten⟩, ⟨6, 0, true, f.flatten⟩])
  | _ => (.un, [])
noncomputable def Qjn (N : Nat) (args : List PV) : Option (PV × List Ob) := open Classical in
  if ∃ v : Val, args = [.agg (Val.cells v)] ∧ Val.Sm N v then some (ownV args) else none
theorem Qrz {N : Nat} {v : Val} (h : Val.Sm N v) : Qjn N [.agg (Val.cells v)] = some (ownV [.agg (Val.cells v)]) := by
  unfold Qjn
  rw [if_pos ⟨v, rfl, h⟩]
theorem axK {P : Program} {N f : Nat} (h : ∀ v : Val, Val.Sm N v → Q3d P f ∧ Qck P f [.agg (Val.cells v)] [] (ownV [.agg (Val.cells v)]).1 (ownV [.agg (Val.cells v)]).2) : AxOK P f (Qjn N) := by
  intro args r h' hr
  unfold Qjn at hr
  split at hr
  · rename_i hv
    obtain ⟨v, rfl, hs⟩ := hv
    have := h v hs
    simp only [Option.some.injEq] at hr
    rw [hr] at this
    exact this
  · cases hr
def yesF : List PV → Option (PV × List Ob)
  | [] => some (.bool true, [])
  | _ => none
theorem Qw4 {P : Program} (hm : P.follows .mixedOrders = true) {G : Nat → Option Fun} (hT : Tie P G) {f : Nat} (h : Qb G (.call f [] []) (.ret (.bool true) [])) : AxOK P f yesF := by
  intro args r h' hr
  cases args with
  | nil =>
    simp only [yesF, Option.some.injEq, Prod.mk.injEq] at hr
    obtain ⟨rfl, rfl⟩ := hr
    obtain ⟨n, hn⟩ := h
    exact (Q5h hm hT n).1 _ _ _ _ _ hn
  | cons a b => cases hr
theorem Qpx {P : Program} {G : Nat → Option Fun} (hT : Tie P G) {f : Nat} {φ : List PV → Option (PV × List Ob)} (h : AxOK P f φ) : Tie P (fun g => bif Nat.beq f g then some (.ax φ) else G g) := by
  intro g d hd
  cases c : Nat.beq f g with
  | true =>
    have e := Nat.eq_of_beq_eq_true c
    subst e
    simp only [c, cond_true, Option.some.injEq] at hd
    subst hd
    exact h
  | false =>
    simp only [c, cond_false] at hd
    exact hT g d hd
theorem Qo4 {G : Nat → Option Fun} {N f : Nat} (hG : G f = some (.ax (Qjn N))) {v : Val} (h : Val.Sm N v) : Qb G (.call f [.agg (Val.cells v)] []) (.ret (ownV [.agg (Val.cells v)]).1 (ownV [.agg (Val.cells v)]).2) :=
  ⟨1, by simp only [runs, phi, hG, Qrz h, Option.bind_some]⟩
def Q86 (x y : Int) : Int := IntKind.i64.wrap ((BitVec.ofInt 64 x ^^^ BitVec.ofInt 64 y).toNat : Int)
theorem Q72 {G : Nat → Option Fun} {f : Nat} (hG : G f = some (.ax yesF)) : Qb G (.call f [] []) (.ret (.bool true) []) :=
  ⟨1, by simp only [runs, phi, hG, yesF, Option.bind_some]⟩
end Go.Pv
end

section
/- What the functions of the chapter on values compute (printed by a program). -/
namespace Go.Proofs.Ytedohmdgbilicaa
open Go.Pv
abbrev G0 : Nat → Option Fun := tabG Ir.table
abbrev G1 : Nat → Option Fun := fun g => bif Nat.beq 10 g then some (.ax yesF) else G0 g
noncomputable abbrev G : Nat → Option Fun := fun g => bif Nat.beq 48 g then some (.ax (Qjn 1000)) else G1 g
abbrev Γ : Nat → Option Ty := gam 25
theorem Qs0 (a b : ByteArray) : Qb G (.call 62 [.str a, .str b] []) (.ret (.int .i64 (sCmp a b)) []) := ⟨1, by kernel_rfl⟩
inductive Qkj where
  | k0 (q0 : Int)
  | k1
mutual
def s_Ks (p0 : Val) (p1 : Int) (p2 : Int) : Int :=
 bif (decide (p1 ≤ 0)) then
  (-1)
 else
  bif (decide (p2 ≤ 0)) then
   (-1)
  else
   bif (decide (1000 < (ByteArray.size p0.s : Int))) then
    (-1)
   else
    (match (Q21 p0 p2 p0.fields 0 (Q25 p0 p2 p0.list 0 (w64 (p1 - 1)))) with
    | .k0 y4_0 => y4_0
    | .k1 => (-1))
termination_by SizeOf.sizeOf p0
decreasing_by all_goals first | exact Val.Q3m _ | exact Val.Q23 _ | exact Q43 _ _ | exact Q4p _ _ | exact Q3c _ _
def Q25 (p0 : Val) (p2 : Int) : List Val → Nat → Int → Int
 | [], _i0, v0_1 =>
  v0_1
 | x0 :: r0, i0, v0_1 =>
  bif (decide (0 ≤ v0_1)) then
   Q25 p0 p2 r0 (i0 + 1) (s_Ks x0 v0_1 (w64 (p2 - 1)))
  else
   v0_1
termination_by l => SizeOf.sizeOf l
decreasing_by all_goals first | exact Val.Q3m _ | exact Val.Q23 _ | exact Q43 _ _ | exact Q4p _ _ | exact Q3c _ _
def Q21 (p0 : Val) (p2 : Int) : List Fld → Nat → Int → Qkj
 | [], _i1, v1_1 =>
  (.k0 v1_1)
 | x1 :: r1, i1, v1_1 =>
  bif (decide (0 ≤ v1_1)) then
   bif (decide (1000 < (ByteArray.size x1.name : Int))) then
    (.k1)
   else
    Q21 p0 p2 r1 (i1 + 1) (s_Ks x1.v v1_1 (w64 (p2 - 1)))
  else
   (.k0 v1_1)
termination_by l => SizeOf.sizeOf l
decreasing_by all_goals first | exact Val.Q3m _ | exact Val.Q23 _ | exact Q43 _ _ | exact Q4p _ _ | exact Q3c _ _
end
def Qlq (_p0 : Val) (p2 : Int) (i0 : Nat) (v0_1 : Int) : List PV :=
  [.un, .int .i64 v0_1, .int .i64 p2, .bx 0 0, .un, .un, .un, .int .i64 (i0 : Int)] ++ nuns 65
def Qkw (p0 : Val) (_p2 : Int) (_i0 : Nat) (_v0_1 : Int) : List Ob :=
  [⟨5, 0, true, [.int .i64 p0.kind, .int .i64 p0.n, .str p0.s, .sl (Val.rows p0.list), .sl (Fld.rows p0.fields)]⟩]
def Q9n (p0 : Val) (p2 : Int) (i0 : Nat) (v0_1 : Int) : En := .loop 0 Ir.Qdu Ir.Qu1 (Qlq p0 p2 i0 v0_1) (Qkw p0 p2 i0 v0_1)
def Qb6 (p0 : Val) (p2 : Int) (q0 : Int) (z : Nat → PV) (_zo : Nat → List PV) : St :=
  ⟨[z 0, .int .i64 q0, .int .i64 p2, .bx 0 0] ++ zr z 4 69, [(0, ⟨5, 0, true, [.int .i64 p0.kind, .int .i64 p0.n, .str p0.s, .sl (Val.rows p0.list), .sl (Fld.rows p0.fields)]⟩)], 577⟩
def Qc1 (p0 : Val) (p2 : Int) (e : En) (q : Int) : Prop := ∃ z zo, Qb G e (.st (.exit 0) (Qb6 p0 p2 q z zo))
theorem Qi1 (p0 : Val) (p2 : Int) {e e' : En} (h : ∀ r, Qb G e r → Qb G e' r) : ∀ q, Qc1 p0 p2 e q → Qc1 p0 p2 e' q
  | _, ⟨z, zo, hz⟩ => ⟨z, zo, h _ hz⟩
def Qlr (_p0 : Val) (p2 : Int) (i1 : Nat) (v1_1 : Int) : List PV :=
  [.un, .int .i64 v1_1, .int .i64 p2, .bx 0 0, .un, .un, .un, .un, .int .i64 (i1 : Int)] ++ nuns 64
def Qlu (p0 : Val) (_p2 : Int) (_i1 : Nat) (_v1_1 : Int) : List Ob :=
  [⟨5, 0, true, [.int .i64 p0.kind, .int .i64 p0.n, .str p0.s, .sl (Val.rows p0.list), .sl (Fld.rows p0.fields)]⟩]
def Q7v (p0 : Val) (p2 : Int) (i1 : Nat) (v1_1 : Int) : En := .loop 0 Ir.Qdr Ir.Quk (Qlr p0 p2 i1 v1_1) (Qlu p0 p2 i1 v1_1)
def Qab (p0 : Val) (_p2 : Int) (q0 : Int) (z : Nat → PV) (_zo : Nat → List PV) : St :=
  ⟨[z 0, .int .i64 q0] ++ zr z 2 71, [(0, ⟨5, 0, true, [.int .i64 p0.kind, .int .i64 p0.n, .str p0.s, .sl (Val.rows p0.list), .sl (Fld.rows p0.fields)]⟩)], 577⟩
def Qhb (_p0 : Val) (_p2 : Int) (z : Nat → PV) (zo : Nat → List PV) : St :=
  ⟨zr z 0 6 ++ [.int .i64 (-1)] ++ zr z 7 66, [(0, ⟨5, 0, true, zo 0⟩)], 1153⟩
def Q7r (p0 : Val) (p2 : Int) (e : En) : Qkj → Prop
  | .k0 q0 => ∃ z zo, Qb G e (.st (.exit 2) (Qab p0 p2 q0 z zo))
  | .k1 => ∃ z zo, Qb G e (.st .ret (Qhb p0 p2 z zo))
theorem Qj1 (p0 : Val) (p2 : Int) {e e' : En} (h : ∀ r, Qb G e r → Qb G e' r) : ∀ q, Q7r p0 p2 e q → Q7r p0 p2 e' q
  | .k0 _, ⟨z, zo, hz⟩ => ⟨z, zo, h _ hz⟩
  | .k1, ⟨z, zo, hz⟩ => ⟨z, zo, h _ hz⟩
def c_Ks (p0 : Val) (p1 : Int) (p2 : Int) : En := .call 56 [.agg (Val.cells p0), .int .i64 p1, .int .i64 p2] []
def a_Ks (p0 : Val) (p1 : Int) (p2 : Int) : Rs := .ret (.int .i64 (s_Ks p0 p1 p2)) []
abbrev H_Ks (p0 : Val) : Prop := Val.Sm 4611686018427387904 p0
def Q5x (p0 : Val) : Prop := ∀ (q : Val), SizeOf.sizeOf q < SizeOf.sizeOf p0 → ∀ (p1 : Int), ∀ (p2 : Int), H_Ks q → Qb G (c_Ks q p1 p2) (a_Ks q p1 p2)
def Q83 (p0 : Val) (_p2 : Int) : Prop := (List.length p0.list ≤ 4611686018427387904) ∧ (∀ x0 ∈ p0.list, H_Ks x0) ∧ True
def Q60 (p0 : Val) (_p2 : Int) : Prop := (List.length p0.fields ≤ 4611686018427387904) ∧ (∀ x1 ∈ p0.fields, H_Ks x1.v) ∧ True
theorem Qqq (p0 : Val) (_p1 : Int) (p2 : Int) (H : H_Ks p0) : (Q83 p0 p2) ∧ (Q60 p0 p2) ∧ True := by
  obtain ⟨h1, h2, h3, h4⟩ := H.all
  simp only [Q83, Q60]
  exact ⟨⟨h1, h3, trivial⟩, ⟨h2, h4, trivial⟩, trivial⟩
def Qhf (p0 : Val) (_p2 : Int) (i0 : Nat) (_v0_1 : Int) : List PV :=
  nuns 7 ++ [.int .i64 (i0 : Int)] ++ nuns 15 ++ [.int .i64 (i0 : Int), .bx 0 3, .sl (Val.rows p0.list), .int .i64 ((List.length p0.list) : Int), .bool false, .bool false, .tup [], .tup [], .bool false]
def Qdz (_p0 : Val) (_p2 : Int) (_i0 : Nat) (_v0_1 : Int) : List (Nat × List PV) :=
  []
theorem Qpc (p0 : Val) (p2 : Int) (_H : Q83 p0 p2) (_rec : Q5x p0) (i0 : Nat) (v0_1 : Int) (hc0 : (decide ((i0 : Int) < ((List.length p0.list) : Int))) = false) : Qc1 p0 p2 (Q9n p0 p2 i0 v0_1) v0_1 := by
 exact ⟨(envF (Qhf p0 p2 i0 v0_1)), (zoF (Qdz p0 p2 i0 v0_1)), Qn VOK.nil (x := ((.exit 0), Qb6 p0 p2 v0_1 (envF (Qhf p0 p2 i0 v0_1)) (zoF (Qdz p0 p2 i0 v0_1)))) [hP 3 (Qk (Val.rows p0.list) (List.length p0.list) (Val.Q9 p0.list)), hB 0 hc0] [] (by kernel_rfl)⟩
theorem Qpl (p0 : Val) (p2 : Int) (H : Q83 p0 p2) (rec : Q5x p0) (x0 : Val) (i0 : Nat) (v0_1 : Int) (hx0 : p0.list[i0]? = some x0) (hi0 : i0 < List.length p0.list) (hc0 : (decide ((i0 : Int) < ((List.length p0.list) : Int))) = true) (h0 : (decide (0 ≤ v0_1)) = true) {r : Rs} (hr : Qb G (Q9n p0 p2 (i0 + 1) (s_Ks x0 v0_1 (w64 (p2 - 1)))) r) : Qb G (Q9n p0 p2 i0 v0_1) r := by
 have hB0 := H.1; have e0 := of_decide_eq_true h0
 exact Qi VOK.nil (y := (Qlq p0 p2 (i0 + 1) (s_Ks x0 v0_1 (w64 (p2 - 1))), Qkw p0 p2 (i0 + 1) (s_Ks x0 v0_1 (w64 (p2 - 1))))) [hP 3 (Qk (Val.rows p0.list) (List.length p0.list) (Val.Q9 p0.list)), hB 0 hc0, hB 2 h0, hP 4 (Q2p 5 (Val.rows p0.list) i0 _ (Val.Qj hx0) rfl), hP 7 (Q20 i0 (by omega))] [aN (rec x0 (szL hx0) v0_1 (w64 (p2 - 1)) (H.2.1 x0 (Q2l hx0)))] (by kernel_rfl) hr
def Qiz (p0 : Val) (_p2 : Int) (i0 : Nat) (v0_1 : Int) (_x0 : Val) : List PV :=
  nuns 7 ++ [.int .i64 (i0 : Int)] ++ nuns 15 ++ [.int .i64 (i0 : Int), .bx 0 3, .sl (Val.rows p0.list), .int .i64 ((List.length p0.list) : Int), .bool true, .bool true, .int .i64 v0_1, .bool false, .bool false]
def Qdw (_p0 : Val) (_p2 : Int) (_i0 : Nat) (_v0_1 : Int) (_x0 : Val) : List (Nat × List PV) :=
  []
theorem Qpm (p0 : Val) (p2 : Int) (_H : Q83 p0 p2) (_rec : Q5x p0) (x0 : Val) (i0 : Nat) (v0_1 : Int) (_hx0 : p0.list[i0]? = some x0) (_hi0 : i0 < List.length p0.list) (hc0 : (decide ((i0 : Int) < ((List.length p0.list) : Int))) = true) (h0 : (decide (0 ≤ v0_1)) = false) : Qc1 p0 p2 (Q9n p0 p2 i0 v0_1) v0_1 := by
 exact ⟨(envF (Qiz p0 p2 i0 v0_1 x0)), (zoF (Qdw p0 p2 i0 v0_1 x0)), Qn VOK.nil (x := ((.exit 0), Qb6 p0 p2 v0_1 (envF (Qiz p0 p2 i0 v0_1 x0)) (zoF (Qdw p0 p2 i0 v0_1 x0)))) [hP 3 (Qk (Val.rows p0.list) (List.length p0.list) (Val.Q9 p0.list)), hB 0 hc0, hB 2 h0] [] (by kernel_rfl)⟩
theorem Qlo (p0 : Val) (p2 : Int) (H : Q83 p0 p2) (rec : Q5x p0) : ∀ (r0 : List Val) (i0 : Nat) (v0_1 : Int), List.drop i0 p0.list = r0 → Qc1 p0 p2 (Q9n p0 p2 i0 v0_1) (Q25 p0 p2 r0 i0 v0_1)
 | [], i0, v0_1, hd => by
  have hc0 : (decide ((i0 : Int) < ((List.length p0.list) : Int))) = false := by have := Q2j hd; simp; omega
  rw [Q25]
  exact Qpc p0 p2 H rec i0 v0_1 hc0
 | x0 :: r0, i0, v0_1, hd => by
  obtain ⟨hx0, hi0, hd'⟩ := Q1s hd
  have hc0 : (decide ((i0 : Int) < ((List.length p0.list) : Int))) = true := by simp; omega
  rw [Q25]
  cases h0 : (decide (0 ≤ v0_1)) with
  | true =>
   exact Qi1 p0 p2 (fun r hr => Qpl p0 p2 H rec x0 i0 v0_1 hx0 hi0 hc0 h0 hr) _ (Qlo p0 p2 H rec r0 (i0 + 1) (s_Ks x0 v0_1 (w64 (p2 - 1))) hd')
  | false =>
   exact Qpm p0 p2 H rec x0 i0 v0_1 hx0 hi0 hc0 h0
def Qh2 (p0 : Val) (p2 : Int) (i1 : Nat) (_v1_1 : Int) : List PV :=
  [.un, .un, .int .i64 p2, .bx 0 0, .un, .un, .un, .un, .int .i64 (i1 : Int)] ++ nuns 34 ++ [.int .i64 (i1 : Int), .bx 0 4, .sl (Fld.rows p0.fields), .int .i64 ((List.length p0.fields) : Int), .bool false, .bool false, .tup [], .tup [], .bool false]
def Qcr (_p0 : Val) (_p2 : Int) (_i1 : Nat) (_v1_1 : Int) : List (Nat × List PV) :=
  []
theorem Qoi (p0 : Val) (p2 : Int) (_H : Q60 p0 p2) (_rec : Q5x p0) (i1 : Nat) (v1_1 : Int) (hc1 : (decide ((i1 : Int) < ((List.length p0.fields) : Int))) = false) : Q7r p0 p2 (Q7v p0 p2 i1 v1_1) (.k0 v1_1) := by
 exact ⟨(envF (Qh2 p0 p2 i1 v1_1)), (zoF (Qcr p0 p2 i1 v1_1)), Qn VOK.nil (x := ((.exit 2), Qab p0 p2 v1_1 (envF (Qh2 p0 p2 i1 v1_1)) (zoF (Qcr p0 p2 i1 v1_1)))) [hP 3 (Qk (Fld.rows p0.fields) (List.length p0.fields) (Fld.Q9 p0.fields)), hB 0 hc1] [] (by kernel_rfl)⟩
def Qjc (p0 : Val) (p2 : Int) (i1 : Nat) (v1_1 : Int) (x1 : Fld) : List PV :=
  [.un, .int .i64 v1_1, .int .i64 p2, .bx 0 0, .un, .un, .un, .un, .int .i64 (i1 : Int)] ++ nuns 34 ++ [.int .i64 (i1 : Int), .bx 0 4, .sl (Fld.rows p0.fields), .int .i64 ((List.length p0.fields) : Int), .bool true, .bool true, .int .i64 v1_1, .bool true, .bool true, .un, .un, .bx 0 4, .sl (Fld.rows p0.fields), .int .i64 (i1 : Int), .rf [.str x1.name, .int .i64 x1.v.kind, .int .i64 x1.v.n, .str x1.v.s, .sl (Val.rows x1.v.list), .sl (Fld.rows x1.v.fields)], .rf [.str x1.name, .int .i64 x1.v.kind, .int .i64 x1.v.n, .str x1.v.s, .sl (Val.rows x1.v.list), .sl (Fld.rows x1.v.fields)], .str x1.name, .int .i64 (ByteArray.size x1.name : Int), .bool true]
def Qde (p0 : Val) (_p2 : Int) (_i1 : Nat) (_v1_1 : Int) (_x1 : Fld) : List (Nat × List PV) :=
  [(0, [.int .i64 p0.kind, .int .i64 p0.n, .str p0.s, .sl (Val.rows p0.list), .sl (Fld.rows p0.fields)])]
theorem Qpo (p0 : Val) (p2 : Int) (_H : Q60 p0 p2) (_rec : Q5x p0) (x1 : Fld) (i1 : Nat) (v1_1 : Int) (hx1 : p0.fields[i1]? = some x1) (_hi1 : i1 < List.length p0.fields) (hc1 : (decide ((i1 : Int) < ((List.length p0.fields) : Int))) = true) (h0 : (decide (0 ≤ v1_1)) = true) (h1 : (decide (1000 < (ByteArray.size x1.name : Int))) = true) : Q7r p0 p2 (Q7v p0 p2 i1 v1_1) (.k1) := by
 exact ⟨(envF (Qjc p0 p2 i1 v1_1 x1)), (zoF (Qde p0 p2 i1 v1_1 x1)), Qn VOK.nil (x := (.ret, Qhb p0 p2 (envF (Qjc p0 p2 i1 v1_1 x1)) (zoF (Qde p0 p2 i1 v1_1 x1)))) [hP 3 (Qk (Fld.rows p0.fields) (List.length p0.fields) (Fld.Q9 p0.fields)), hB 0 hc1, hB 2 h0, hP 4 (Q2p 6 (Fld.rows p0.fields) i1 _ (Fld.Qj hx1) rfl), hB 3 h1] [] (by kernel_rfl)⟩
theorem Qqv (p0 : Val) (p2 : Int) (H : Q60 p0 p2) (rec : Q5x p0) (x1 : Fld) (i1 : Nat) (v1_1 : Int) (hx1 : p0.fields[i1]? = some x1) (hi1 : i1 < List.length p0.fields) (hc1 : (decide ((i1 : Int) < ((List.length p0.fields) : Int))) = true) (h0 : (decide (0 ≤ v1_1)) = true) (h1 : (decide (1000 < (ByteArray.size x1.name : Int))) = false) {r : Rs} (hr : Qb G (Q7v p0 p2 (i1 + 1) (s_Ks x1.v v1_1 (w64 (p2 - 1)))) r) : Qb G (Q7v p0 p2 i1 v1_1) r := by
 have hB0 := H.1; have e0 := of_decide_eq_true h0; have e1 := of_decide_eq_false h1
 exact Qi VOK.nil (y := (Qlr p0 p2 (i1 + 1) (s_Ks x1.v v1_1 (w64 (p2 - 1))), Qlu p0 p2 (i1 + 1) (s_Ks x1.v v1_1 (w64 (p2 - 1))))) [hP 3 (Qk (Fld.rows p0.fields) (List.length p0.fields) (Fld.Q9 p0.fields)), hB 0 hc1, hB 2 h0, hP 4 (Q2p 6 (Fld.rows p0.fields) i1 _ (Fld.Qj hx1) rfl), hB 3 h1, hP 3 (Q2p 6 (Fld.rows p0.fields) i1 _ (Fld.Qj hx1) rfl), hP 8 (Q20 i1 (by omega))] [aN (rec x1.v (szF hx1) v1_1 (w64 (p2 - 1)) (H.2.1 x1 (Q2l hx1)))] (by kernel_rfl) hr
def Qje (p0 : Val) (p2 : Int) (i1 : Nat) (v1_1 : Int) (_x1 : Fld) : List PV :=
  [.un, .un, .int .i64 p2, .bx 0 0, .un, .un, .un, .un, .int .i64 (i1 : Int)] ++ nuns 34 ++ [.int .i64 (i1 : Int), .bx 0 4, .sl (Fld.rows p0.fields), .int .i64 ((List.length p0.fields) : Int), .bool true, .bool true, .int .i64 v1_1, .bool false, .bool false]
def Qeb (_p0 : Val) (_p2 : Int) (_i1 : Nat) (_v1_1 : Int) (_x1 : Fld) : List (Nat × List PV) :=
  []
theorem Qp3 (p0 : Val) (p2 : Int) (_H : Q60 p0 p2) (_rec : Q5x p0) (x1 : Fld) (i1 : Nat) (v1_1 : Int) (_hx1 : p0.fields[i1]? = some x1) (_hi1 : i1 < List.length p0.fields) (hc1 : (decide ((i1 : Int) < ((List.length p0.fields) : Int))) = true) (h0 : (decide (0 ≤ v1_1)) = false) : Q7r p0 p2 (Q7v p0 p2 i1 v1_1) (.k0 v1_1) := by
 exact ⟨(envF (Qje p0 p2 i1 v1_1 x1)), (zoF (Qeb p0 p2 i1 v1_1 x1)), Qn VOK.nil (x := ((.exit 2), Qab p0 p2 v1_1 (envF (Qje p0 p2 i1 v1_1 x1)) (zoF (Qeb p0 p2 i1 v1_1 x1)))) [hP 3 (Qk (Fld.rows p0.fields) (List.length p0.fields) (Fld.Q9 p0.fields)), hB 0 hc1, hB 2 h0] [] (by kernel_rfl)⟩
theorem Ql9 (p0 : Val) (p2 : Int) (H : Q60 p0 p2) (rec : Q5x p0) : ∀ (r1 : List Fld) (i1 : Nat) (v1_1 : Int), List.drop i1 p0.fields = r1 → Q7r p0 p2 (Q7v p0 p2 i1 v1_1) (Q21 p0 p2 r1 i1 v1_1)
 | [], i1, v1_1, hd => by
  have hc1 : (decide ((i1 : Int) < ((List.length p0.fields) : Int))) = false := by have := Q2j hd; simp; omega
  rw [Q21]
  exact Qoi p0 p2 H rec i1 v1_1 hc1
 | x1 :: r1, i1, v1_1, hd => by
  obtain ⟨hx1, hi1, hd'⟩ := Q1s hd
  have hc1 : (decide ((i1 : Int) < ((List.length p0.fields) : Int))) = true := by simp; omega
  rw [Q21]
  cases h0 : (decide (0 ≤ v1_1)) with
  | true =>
   cases h1 : (decide (1000 < (ByteArray.size x1.name : Int))) with
   | true =>
    exact Qpo p0 p2 H rec x1 i1 v1_1 hx1 hi1 hc1 h0 h1
   | false =>
    exact Qj1 p0 p2 (fun r hr => Qqv p0 p2 H rec x1 i1 v1_1 hx1 hi1 hc1 h0 h1 hr) _ (Ql9 p0 p2 H rec r1 (i1 + 1) (s_Ks x1.v v1_1 (w64 (p2 - 1))) hd')
  | false =>
   exact Qp3 p0 p2 H rec x1 i1 v1_1 hx1 hi1 hc1 h0
theorem r_Ks (p0 : Val) (p1 : Int) (p2 : Int) (H : H_Ks p0) (rec : Q5x p0) : Qb G (c_Ks p0 p1 p2) (a_Ks p0 p1 p2) := by
  unfold a_Ks
  rw [s_Ks]
  cases h0 : (decide (p1 ≤ 0)) with
  | true =>
   exact Qc (fn := Ir.Ks) rfl VOK.nil [hB 3 h0] [] (by kernel_rfl)
  | false =>
   cases h1 : (decide (p2 ≤ 0)) with
   | true =>
    exact Qc (fn := Ir.Ks) rfl VOK.nil [hB 3 h0, hB 2 h1] [] (by kernel_rfl)
   | false =>
    cases h2 : (decide (1000 < (ByteArray.size p0.s : Int))) with
    | true =>
     exact Qc (fn := Ir.Ks) rfl VOK.nil [hB 3 h0, hB 2 h1, hB 5 h2] [] (by kernel_rfl)
    | false =>
     have hl3 := Qlo p0 p2 ((Qqq p0 p1 p2 H).1) rec p0.list 0 (w64 (p1 - 1)) (by simp)
     obtain ⟨z3, zo3, hl3⟩ := hl3
     have hl4 := Ql9 p0 p2 ((Qqq p0 p1 p2 H).2.1) rec p0.fields 0 (Q25 p0 p2 p0.list 0 (w64 (p1 - 1))) (by simp)
     cases hr4 : (Q21 p0 p2 p0.fields 0 (Q25 p0 p2 p0.list 0 (w64 (p1 - 1)))) with
     | k0 y4_0 =>
       rw [hr4] at hl4
       obtain ⟨z4, zo4, hl4⟩ := hl4
       exact Qc (fn := Ir.Ks) rfl VOK.nil [hB 3 h0, hB 2 h1, hB 5 h2] [aN hl3, aN hl4] (by kernel_rfl)
     | k1 =>
       rw [hr4] at hl4
       obtain ⟨z4, zo4, hl4⟩ := hl4
       exact Qc (fn := Ir.Ks) rfl VOK.nil [hB 3 h0, hB 2 h1, hB 5 h2] [aN hl3, aN hl4] (by kernel_rfl)
theorem i_Ks : ∀ (k : Nat) (p0 : Val), SizeOf.sizeOf p0 < k → ∀ (p1 : Int), ∀ (p2 : Int), H_Ks p0 → Qb G (c_Ks p0 p1 p2) (a_Ks p0 p1 p2)
  | 0, _, h, _, _, _ => absurd h (Nat.not_lt_zero _)
  | k + 1, p0, h, p1, p2, H => r_Ks p0 p1 p2 H (fun q hq p1 p2 hH => i_Ks k q (by omega) p1 p2 hH)
theorem t_Ks (p0 : Val) (p1 : Int) (p2 : Int) (H : H_Ks p0) : Qb G (c_Ks p0 p1 p2) (a_Ks p0 p1 p2) := i_Ks _ p0 (Nat.lt_succ_self _) p1 p2 H
def s_Kl (p0 : Val) (p1 : Int) : Bool :=
 (decide (0 ≤ (s_Ks p0 p1 p1)))
def c_Kl (p0 : Val) (p1 : Int) : En := .call 37 [.agg (Val.cells p0), .int .i64 p1] []
def a_Kl (p0 : Val) (p1 : Int) : Rs := .ret (.bool (s_Kl p0 p1)) []
def H_Kl (p0 : Val) (_p1 : Int) : Prop := (H_Ks p0) ∧ True
theorem t_Kl (p0 : Val) (p1 : Int) (H : H_Kl p0 p1) : Qb G (c_Kl p0 p1) (a_Kl p0 p1) := by
 unfold a_Kl s_Kl
 exact Qc (fn := Ir.Kl) rfl VOK.nil [] [aN (t_Ks p0 p1 p1 H.1)] (by kernel_rfl)
def s_Ka (p0 : Val) : Bool :=
 (s_Kl p0 400)
def c_Ka (p0 : Val) : En := .call 9 [.agg (Val.cells p0)] []
def a_Ka (p0 : Val) : Rs := .ret (.bool (s_Ka p0)) []
def H_Ka (p0 : Val) : Prop := (H_Kl p0 400) ∧ True
theorem t_Ka (p0 : Val) (H : H_Ka p0) : Qb G (c_Ka p0) (a_Ka p0) := by
 unfold a_Ka s_Ka
 exact Qc (fn := Ir.Ka) rfl VOK.nil [] [aN (t_Kl p0 400 H.1)] (by kernel_rfl)
def s_Kt (p0 : Bool) (p1 : Bool) : Int :=
 bif p0 then
  bif p1 then
   (-1)
  else
   (-1)
 else
  bif p1 then
   1
  else
   0
def c_Kt (p0 : Bool) (p1 : Bool) : En := .call 47 [.bool p0, .bool p1] []
def a_Kt (p0 : Bool) (p1 : Bool) : Rs := .ret (.int .i64 (s_Kt p0 p1)) []
theorem t_Kt (p0 : Bool) (p1 : Bool) : Qb G (c_Kt p0 p1) (a_Kt p0 p1) := by
 unfold a_Kt s_Kt
 cases h0 : p0 with
 | true =>
  cases h1 : p1 with
  | true =>
   exact Qc (fn := Ir.Kt) rfl VOK.nil [] [] (by kernel_rfl)
  | false =>
   exact Qc (fn := Ir.Kt) rfl VOK.nil [] [] (by kernel_rfl)
 | false =>
  cases h1 : p1 with
  | true =>
   exact Qc (fn := Ir.Kt) rfl VOK.nil [] [] (by kernel_rfl)
  | false =>
   exact Qc (fn := Ir.Kt) rfl VOK.nil [] [] (by kernel_rfl)
abbrev zF : Fld := (Fld.mk (⟨#[]⟩ : ByteArray) (Val.mk 0 0 (⟨#[]⟩ : ByteArray) [] []))
mutual
def s_Kc (p0 : Val) (p1 : Val) : Int :=
 bif ((s_Kt (decide (p0.kind < p1.kind)) (decide (p1.kind < p0.kind))) == 0) then
  bif ((s_Kt (decide (p0.n < p1.n)) (decide (p1.n < p0.n))) == 0) then
   bif ((Qt p0 p1 p0.list 0 (s_Kt (sLt p0.s p1.s) (!((sLt p0.s p1.s) || (sEq p0.s p1.s))))) == 0) then
    bif ((Qx p0 p1 p0.fields 0 (s_Kt (decide (((List.length p0.list) : Int) < ((List.length p1.list) : Int))) (decide (((List.length p1.list) : Int) < ((List.length p0.list) : Int))))) == 0) then
     (s_Kt (decide (((List.length p0.fields) : Int) < ((List.length p1.fields) : Int))) (decide (((List.length p1.fields) : Int) < ((List.length p0.fields) : Int))))
    else
     (Qx p0 p1 p0.fields 0 (s_Kt (decide (((List.length p0.list) : Int) < ((List.length p1.list) : Int))) (decide (((List.length p1.list) : Int) < ((List.length p0.list) : Int)))))
   else
    bif ((Qx p0 p1 p0.fields 0 (Qt p0 p1 p0.list 0 (s_Kt (sLt p0.s p1.s) (!((sLt p0.s p1.s) || (sEq p0.s p1.s)))))) == 0) then
     (s_Kt (decide (((List.length p0.fields) : Int) < ((List.length p1.fields) : Int))) (decide (((List.length p1.fields) : Int) < ((List.length p0.fields) : Int))))
    else
     (Qx p0 p1 p0.fields 0 (Qt p0 p1 p0.list 0 (s_Kt (sLt p0.s p1.s) (!((sLt p0.s p1.s) || (sEq p0.s p1.s))))))
  else
   bif ((Qt p0 p1 p0.list 0 (s_Kt (decide (p0.n < p1.n)) (decide (p1.n < p0.n)))) == 0) then
    bif ((Qx p0 p1 p0.fields 0 (s_Kt (decide (((List.length p0.list) : Int) < ((List.length p1.list) : Int))) (decide (((List.length p1.list) : Int) < ((List.length p0.list) : Int))))) == 0) then
     (s_Kt (decide (((List.length p0.fields) : Int) < ((List.length p1.fields) : Int))) (decide (((List.length p1.fields) : Int) < ((List.length p0.fields) : Int))))
    else
     (Qx p0 p1 p0.fields 0 (s_Kt (decide (((List.length p0.list) : Int) < ((List.length p1.list) : Int))) (decide (((List.length p1.list) : Int) < ((List.length p0.list) : Int)))))
   else
    bif ((Qx p0 p1 p0.fields 0 (Qt p0 p1 p0.list 0 (s_Kt (decide (p0.n < p1.n)) (decide (p1.n < p0.n))))) == 0) then
     (s_Kt (decide (((List.length p0.fields) : Int) < ((List.length p1.fields) : Int))) (decide (((List.length p1.fields) : Int) < ((List.length p0.fields) : Int))))
    else
     (Qx p0 p1 p0.fields 0 (Qt p0 p1 p0.list 0 (s_Kt (decide (p0.n < p1.n)) (decide (p1.n < p0.n)))))
 else
  bif ((Qt p0 p1 p0.list 0 (s_Kt (decide (p0.kind < p1.kind)) (decide (p1.kind < p0.kind)))) == 0) then
   bif ((Qx p0 p1 p0.fields 0 (s_Kt (decide (((List.length p0.list) : Int) < ((List.length p1.list) : Int))) (decide (((List.length p1.list) : Int) < ((List.length p0.list) : Int))))) == 0) then
    (s_Kt (decide (((List.length p0.fields) : Int) < ((List.length p1.fields) : Int))) (decide (((List.length p1.fields) : Int) < ((List.length p0.fields) : Int))))
   else
    (Qx p0 p1 p0.fields 0 (s_Kt (decide (((List.length p0.list) : Int) < ((List.length p1.list) : Int))) (decide (((List.length p1.list) : Int) < ((List.length p0.list) : Int)))))
  else
   bif ((Qx p0 p1 p0.fields 0 (Qt p0 p1 p0.list 0 (s_Kt (decide (p0.kind < p1.kind)) (decide (p1.kind < p0.kind))))) == 0) then
    (s_Kt (decide (((List.length p0.fields) : Int) < ((List.length p1.fields) : Int))) (decide (((List.length p1.fields) : Int) < ((List.length p0.fields) : Int))))
   else
    (Qx p0 p1 p0.fields 0 (Qt p0 p1 p0.list 0 (s_Kt (decide (p0.kind < p1.kind)) (decide (p1.kind < p0.kind)))))
termination_by SizeOf.sizeOf p0
decreasing_by all_goals first | exact Val.Q3m _ | exact Val.Q23 _ | exact Q43 _ _ | exact Q4p _ _ | exact Q3c _ _
def Qt (p0 : Val) (p1 : Val) : List Val → Nat → Int → Int
 | [], _i0, v0_1 =>
  v0_1
 | x0 :: r0, i0, v0_1 =>
  bif (decide ((i0 : Int) < ((List.length p1.list) : Int))) then
   bif (v0_1 == 0) then
    Qt p0 p1 r0 (i0 + 1) (s_Kc x0 (List.getD p1.list i0 (Val.mk 0 0 (⟨#[]⟩ : ByteArray) [] [])))
   else
    v0_1
  else
   v0_1
termination_by l => SizeOf.sizeOf l
decreasing_by all_goals first | exact Val.Q3m _ | exact Val.Q23 _ | exact Q43 _ _ | exact Q4p _ _ | exact Q3c _ _
def Qx (p0 : Val) (p1 : Val) : List Fld → Nat → Int → Int
 | [], _i1, v1_1 =>
  v1_1
 | x1 :: r1, i1, v1_1 =>
  bif (decide ((i1 : Int) < ((List.length p1.fields) : Int))) then
   bif (v1_1 == 0) then
    bif ((s_Kt (sLt x1.name (List.getD p1.fields i1 zF).name) (!((sLt x1.name (List.getD p1.fields i1 zF).name) || (sEq x1.name (List.getD p1.fields i1 zF).name)))) == 0) then
     Qx p0 p1 r1 (i1 + 1) (s_Kc x1.v (List.getD p1.fields i1 zF).v)
    else
     Qx p0 p1 r1 (i1 + 1) (s_Kt (sLt x1.name (List.getD p1.fields i1 zF).name) (!((sLt x1.name (List.getD p1.fields i1 zF).name) || (sEq x1.name (List.getD p1.fields i1 zF).name))))
   else
    v1_1
  else
   v1_1
termination_by l => SizeOf.sizeOf l
decreasing_by all_goals first | exact Val.Q3m _ | exact Val.Q23 _ | exact Q43 _ _ | exact Q4p _ _ | exact Q3c _ _
end
def Qlt (_p0 : Val) (_p1 : Val) (i0 : Nat) (v0_1 : Int) : List PV :=
  [.un, .un, .bx 0 0, .bx 1 0, .un, .int .i64 v0_1, .int .i64 (i0 : Int)] ++ nuns 162
def Qm6 (p0 : Val) (p1 : Val) (_i0 : Nat) (_v0_1 : Int) : List Ob :=
  [⟨5, 0, true, [.int .i64 p0.kind, .int .i64 p0.n, .str p0.s, .sl (Val.rows p0.list), .sl (Fld.rows p0.fields)]⟩, ⟨5, 0, true, [.int .i64 p1.kind, .int .i64 p1.n, .str p1.s, .sl (Val.rows p1.list), .sl (Fld.rows p1.fields)]⟩]
def Q32 (p0 : Val) (p1 : Val) (i0 : Nat) (v0_1 : Int) : En := .loop 0 Ir.Qe4 Ir.Qu6 (Qlt p0 p1 i0 v0_1) (Qm6 p0 p1 i0 v0_1)
def Q2e (p0 : Val) (p1 : Val) (q0 : Int) (z : Nat → PV) (_zo : Nat → List PV) : St :=
  ⟨[z 0, z 1, .bx 0 0, .bx 1 0, z 4, .int .i64 q0] ++ zr z 6 163, [(0, ⟨5, 0, true, [.int .i64 p0.kind, .int .i64 p0.n, .str p0.s, .sl (Val.rows p0.list), .sl (Fld.rows p0.fields)]⟩), (1, ⟨5, 0, true, [.int .i64 p1.kind, .int .i64 p1.n, .str p1.s, .sl (Val.rows p1.list), .sl (Fld.rows p1.fields)]⟩)], 1026⟩
def Q82 (p0 : Val) (p1 : Val) (e : En) (q : Int) : Prop := ∃ z zo, Qb G e (.st (.exit 0) (Q2e p0 p1 q z zo))
theorem Qj2 (p0 : Val) (p1 : Val) {e e' : En} (h : ∀ r, Qb G e r → Qb G e' r) : ∀ q, Q82 p0 p1 e q → Q82 p0 p1 e' q
  | _, ⟨z, zo, hz⟩ => ⟨z, zo, h _ hz⟩
def Qfu (_p0 : Val) (_p1 : Val) (i1 : Nat) (v1_1 : Int) : List PV :=
  [.un, .un, .bx 0 0, .bx 1 0, .un, .int .i64 v1_1, .un, .int .i64 (i1 : Int)] ++ nuns 161
def Qg9 (p0 : Val) (p1 : Val) (_i1 : Nat) (_v1_1 : Int) : List Ob :=
  [⟨5, 0, true, [.int .i64 p0.kind, .int .i64 p0.n, .str p0.s, .sl (Val.rows p0.list), .sl (Fld.rows p0.fields)]⟩, ⟨5, 0, true, [.int .i64 p1.kind, .int .i64 p1.n, .str p1.s, .sl (Val.rows p1.list), .sl (Fld.rows p1.fields)]⟩]
def Q2s (p0 : Val) (p1 : Val) (i1 : Nat) (v1_1 : Int) : En := .loop 0 Ir.Qdj Ir.Qui (Qfu p0 p1 i1 v1_1) (Qg9 p0 p1 i1 v1_1)
def Q2g (p0 : Val) (p1 : Val) (q0 : Int) (z : Nat → PV) (_zo : Nat → List PV) : St :=
  ⟨[z 0, z 1, .bx 0 0, .bx 1 0, z 4, .int .i64 q0] ++ zr z 6 163, [(0, ⟨5, 0, true, [.int .i64 p0.kind, .int .i64 p0.n, .str p0.s, .sl (Val.rows p0.list), .sl (Fld.rows p0.fields)]⟩), (1, ⟨5, 0, true, [.int .i64 p1.kind, .int .i64 p1.n, .str p1.s, .sl (Val.rows p1.list), .sl (Fld.rows p1.fields)]⟩)], 1026⟩
def Q7n (p0 : Val) (p1 : Val) (e : En) (q : Int) : Prop := ∃ z zo, Qb G e (.st (.exit 2) (Q2g p0 p1 q z zo))
theorem Q8c (p0 : Val) (p1 : Val) {e e' : En} (h : ∀ r, Qb G e r → Qb G e' r) : ∀ q, Q7n p0 p1 e q → Q7n p0 p1 e' q
  | _, ⟨z, zo, hz⟩ => ⟨z, zo, h _ hz⟩
def c_Kc (p0 : Val) (p1 : Val) : En := .call 18 [.agg (Val.cells p0), .agg (Val.cells p1)] []
def a_Kc (p0 : Val) (p1 : Val) : Rs := .ret (.int .i64 (s_Kc p0 p1)) []
abbrev H_Kc (p0 : Val) : Prop := Val.Sm 4611686018427387904 p0
def Q2u (p0 : Val) : Prop := ∀ (q : Val), SizeOf.sizeOf q < SizeOf.sizeOf p0 → ∀ (p1 : Val), H_Kc q → Qb G (c_Kc q p1) (a_Kc q p1)
def Q62 (p0 : Val) (_p1 : Val) : Prop := (List.length p0.list ≤ 4611686018427387904) ∧ (∀ x0 ∈ p0.list, H_Kc x0) ∧ True
def Q5e (p0 : Val) (_p1 : Val) : Prop := (List.length p0.fields ≤ 4611686018427387904) ∧ (∀ x1 ∈ p0.fields, H_Kc x1.v) ∧ True
theorem Q4q (p0 : Val) (p1 : Val) (H : H_Kc p0) : (Q62 p0 p1) ∧ (Q5e p0 p1) ∧ True := by
  obtain ⟨h1, h2, h3, h4⟩ := H.all
  simp only [Q62, Q5e]
  exact ⟨⟨h1, h3, trivial⟩, ⟨h2, h4, trivial⟩, trivial⟩
def Qik (p0 : Val) (_p1 : Val) (i0 : Nat) (_v0_1 : Int) : List PV :=
  nuns 6 ++ [.int .i64 (i0 : Int)] ++ nuns 38 ++ [.int .i64 (i0 : Int), .bx 0 3, .sl (Val.rows p0.list), .int .i64 ((List.length p0.list) : Int), .bool false, .bool false, .tup [], .tup [], .tup [], .tup [], .tup [], .bool false, .bool false, .tup [], .tup [], .bool false]
def Qed (_p0 : Val) (_p1 : Val) (_i0 : Nat) (_v0_1 : Int) : List (Nat × List PV) :=
  []
theorem Qr3 (p0 : Val) (p1 : Val) (_H : Q62 p0 p1) (_rec : Q2u p0) (i0 : Nat) (v0_1 : Int) (hc0 : (decide ((i0 : Int) < ((List.length p0.list) : Int))) = false) : Q82 p0 p1 (Q32 p0 p1 i0 v0_1) v0_1 := by
 exact ⟨(envF (Qik p0 p1 i0 v0_1)), (zoF (Qed p0 p1 i0 v0_1)), Qn VOK.nil (x := ((.exit 0), Q2e p0 p1 v0_1 (envF (Qik p0 p1 i0 v0_1)) (zoF (Qed p0 p1 i0 v0_1)))) [hP 3 (Qk (Val.rows p0.list) (List.length p0.list) (Val.Q9 p0.list)), hB 0 hc0] [] (by kernel_rfl)⟩
theorem Qq4 (p0 : Val) (p1 : Val) (H : Q62 p0 p1) (rec : Q2u p0) (x0 : Val) (i0 : Nat) (v0_1 : Int) (hx0 : p0.list[i0]? = some x0) (hi0 : i0 < List.length p0.list) (hc0 : (decide ((i0 : Int) < ((List.length p0.list) : Int))) = true) (h0 : (decide ((i0 : Int) < ((List.length p1.list) : Int))) = true) (h1 : (v0_1 == 0) = true) {r : Rs} (hr : Qb G (Q32 p0 p1 (i0 + 1) (s_Kc x0 (List.getD p1.list i0 (Val.mk 0 0 (⟨#[]⟩ : ByteArray) [] [])))) r) : Qb G (Q32 p0 p1 i0 v0_1) r := by
 have hB0 := H.1; have e0 := of_decide_eq_true h0; have e1 := eq_of_beq h1
 exact Qi VOK.nil (y := (Qlt p0 p1 (i0 + 1) (s_Kc x0 (List.getD p1.list i0 (Val.mk 0 0 (⟨#[]⟩ : ByteArray) [] []))), Qm6 p0 p1 (i0 + 1) (s_Kc x0 (List.getD p1.list i0 (Val.mk 0 0 (⟨#[]⟩ : ByteArray) [] []))))) [hP 3 (Qk (Val.rows p0.list) (List.length p0.list) (Val.Q9 p0.list)), hB 0 hc0, hP 4 (Qk (Val.rows p1.list) (List.length p1.list) (Val.Q9 p1.list)), hB 0 h0, hB 3 h1, hP 4 (Q2p 5 (Val.rows p0.list) i0 _ (Val.Qj hx0) rfl), hP 4 (Qeg 5 (Val.rows p1.list) (i0 : Int) _ (by omega) (Val.Qj (Qu p1.list (Int.toNat (i0 : Int)) (Val.mk 0 0 (⟨#[]⟩ : ByteArray) [] []) (by omega))) rfl), hP 4 (Q20 i0 (by omega))] [aN (rec x0 (szL hx0) (List.getD p1.list i0 (Val.mk 0 0 (⟨#[]⟩ : ByteArray) [] [])) (H.2.1 x0 (Q2l hx0)))] (by kernel_rfl) hr
def Qjh (p0 : Val) (p1 : Val) (i0 : Nat) (v0_1 : Int) (_x0 : Val) : List PV :=
  nuns 6 ++ [.int .i64 (i0 : Int)] ++ nuns 38 ++ [.int .i64 (i0 : Int), .bx 0 3, .sl (Val.rows p0.list), .int .i64 ((List.length p0.list) : Int), .bool true, .bool true, .int .i64 (i0 : Int), .bx 1 3, .sl (Val.rows p1.list), .int .i64 ((List.length p1.list) : Int), .bool true, .bool true, .bool true, .int .i64 v0_1, .bool false, .bool false]
def Qd1 (_p0 : Val) (_p1 : Val) (_i0 : Nat) (_v0_1 : Int) (_x0 : Val) : List (Nat × List PV) :=
  []
theorem Qq8 (p0 : Val) (p1 : Val) (_H : Q62 p0 p1) (_rec : Q2u p0) (x0 : Val) (i0 : Nat) (v0_1 : Int) (_hx0 : p0.list[i0]? = some x0) (_hi0 : i0 < List.length p0.list) (hc0 : (decide ((i0 : Int) < ((List.length p0.list) : Int))) = true) (h0 : (decide ((i0 : Int) < ((List.length p1.list) : Int))) = true) (h1 : (v0_1 == 0) = false) : Q82 p0 p1 (Q32 p0 p1 i0 v0_1) v0_1 := by
 exact ⟨(envF (Qjh p0 p1 i0 v0_1 x0)), (zoF (Qd1 p0 p1 i0 v0_1 x0)), Qn VOK.nil (x := ((.exit 0), Q2e p0 p1 v0_1 (envF (Qjh p0 p1 i0 v0_1 x0)) (zoF (Qd1 p0 p1 i0 v0_1 x0)))) [hP 3 (Qk (Val.rows p0.list) (List.length p0.list) (Val.Q9 p0.list)), hB 0 hc0, hP 4 (Qk (Val.rows p1.list) (List.length p1.list) (Val.Q9 p1.list)), hB 0 h0, hB 3 h1] [] (by kernel_rfl)⟩
def Qht (p0 : Val) (p1 : Val) (i0 : Nat) (_v0_1 : Int) (_x0 : Val) : List PV :=
  nuns 6 ++ [.int .i64 (i0 : Int)] ++ nuns 38 ++ [.int .i64 (i0 : Int), .bx 0 3, .sl (Val.rows p0.list), .int .i64 ((List.length p0.list) : Int), .bool true, .bool true, .int .i64 (i0 : Int), .bx 1 3, .sl (Val.rows p1.list), .int .i64 ((List.length p1.list) : Int), .bool false, .bool false, .bool false, .tup [], .tup [], .bool false]
def Qee (_p0 : Val) (_p1 : Val) (_i0 : Nat) (_v0_1 : Int) (_x0 : Val) : List (Nat × List PV) :=
  []
theorem Qof (p0 : Val) (p1 : Val) (_H : Q62 p0 p1) (_rec : Q2u p0) (x0 : Val) (i0 : Nat) (v0_1 : Int) (_hx0 : p0.list[i0]? = some x0) (_hi0 : i0 < List.length p0.list) (hc0 : (decide ((i0 : Int) < ((List.length p0.list) : Int))) = true) (h0 : (decide ((i0 : Int) < ((List.length p1.list) : Int))) = false) : Q82 p0 p1 (Q32 p0 p1 i0 v0_1) v0_1 := by
 exact ⟨(envF (Qht p0 p1 i0 v0_1 x0)), (zoF (Qee p0 p1 i0 v0_1 x0)), Qn VOK.nil (x := ((.exit 0), Q2e p0 p1 v0_1 (envF (Qht p0 p1 i0 v0_1 x0)) (zoF (Qee p0 p1 i0 v0_1 x0)))) [hP 3 (Qk (Val.rows p0.list) (List.length p0.list) (Val.Q9 p0.list)), hB 0 hc0, hP 4 (Qk (Val.rows p1.list) (List.length p1.list) (Val.Q9 p1.list)), hB 0 h0] [] (by kernel_rfl)⟩
theorem Q92 (p0 : Val) (p1 : Val) (H : Q62 p0 p1) (rec : Q2u p0) : ∀ (r0 : List Val) (i0 : Nat) (v0_1 : Int), List.drop i0 p0.list = r0 → Q82 p0 p1 (Q32 p0 p1 i0 v0_1) (Qt p0 p1 r0 i0 v0_1)
 | [], i0, v0_1, hd => by
  have hc0 : (decide ((i0 : Int) < ((List.length p0.list) : Int))) = false := by have := Q2j hd; simp; omega
  rw [Qt]
  exact Qr3 p0 p1 H rec i0 v0_1 hc0
 | x0 :: r0, i0, v0_1, hd => by
  obtain ⟨hx0, hi0, hd'⟩ := Q1s hd
  have hc0 : (decide ((i0 : Int) < ((List.length p0.list) : Int))) = true := by simp; omega
  rw [Qt]
  cases h0 : (decide ((i0 : Int) < ((List.length p1.list) : Int))) with
  | true =>
   cases h1 : (v0_1 == 0) with
   | true =>
    exact Qj2 p0 p1 (fun r hr => Qq4 p0 p1 H rec x0 i0 v0_1 hx0 hi0 hc0 h0 h1 hr) _ (Q92 p0 p1 H rec r0 (i0 + 1) (s_Kc x0 (List.getD p1.list i0 (Val.mk 0 0 (⟨#[]⟩ : ByteArray) [] []))) hd')
   | false =>
    exact Qq8 p0 p1 H rec x0 i0 v0_1 hx0 hi0 hc0 h0 h1
  | false =>
   exact Qof p0 p1 H rec x0 i0 v0_1 hx0 hi0 hc0 h0
def Qhy (p0 : Val) (_p1 : Val) (i1 : Nat) (_v1_1 : Int) : List PV :=
  nuns 7 ++ [.int .i64 (i1 : Int)] ++ nuns 83 ++ [.int .i64 (i1 : Int), .bx 0 4, .sl (Fld.rows p0.fields), .int .i64 ((List.length p0.fields) : Int), .bool false, .bool false, .tup [], .tup [], .tup [], .tup [], .tup [], .bool false, .bool false, .tup [], .tup [], .bool false]
def Qcp (_p0 : Val) (_p1 : Val) (_i1 : Nat) (_v1_1 : Int) : List (Nat × List PV) :=
  []
theorem Qp6 (p0 : Val) (p1 : Val) (_H : Q5e p0 p1) (_rec : Q2u p0) (i1 : Nat) (v1_1 : Int) (hc1 : (decide ((i1 : Int) < ((List.length p0.fields) : Int))) = false) : Q7n p0 p1 (Q2s p0 p1 i1 v1_1) v1_1 := by
 exact ⟨(envF (Qhy p0 p1 i1 v1_1)), (zoF (Qcp p0 p1 i1 v1_1)), Qn VOK.nil (x := ((.exit 2), Q2g p0 p1 v1_1 (envF (Qhy p0 p1 i1 v1_1)) (zoF (Qcp p0 p1 i1 v1_1)))) [hP 3 (Qk (Fld.rows p0.fields) (List.length p0.fields) (Fld.Q9 p0.fields)), hB 0 hc1] [] (by kernel_rfl)⟩
theorem Qq0 (p0 : Val) (p1 : Val) (H : Q5e p0 p1) (rec : Q2u p0) (x1 : Fld) (i1 : Nat) (v1_1 : Int) (hx1 : p0.fields[i1]? = some x1) (hi1 : i1 < List.length p0.fields) (hc1 : (decide ((i1 : Int) < ((List.length p0.fields) : Int))) = true) (h0 : (decide ((i1 : Int) < ((List.length p1.fields) : Int))) = true) (h1 : (v1_1 == 0) = true) (h2 : ((s_Kt (sLt x1.name (List.getD p1.fields i1 zF).name) (!((sLt x1.name (List.getD p1.fields i1 zF).name) || (sEq x1.name (List.getD p1.fields i1 zF).name)))) == 0) = true) {r : Rs} (hr : Qb G (Q2s p0 p1 (i1 + 1) (s_Kc x1.v (List.getD p1.fields i1 zF).v)) r) : Qb G (Q2s p0 p1 i1 v1_1) r := by
 have hB0 := H.1; have e0 := of_decide_eq_true h0; have e1 := eq_of_beq h1; have e2 := eq_of_beq h2
 exact Qi VOK.nil (y := (Qfu p0 p1 (i1 + 1) (s_Kc x1.v (List.getD p1.fields i1 zF).v), Qg9 p0 p1 (i1 + 1) (s_Kc x1.v (List.getD p1.fields i1 zF).v))) [hP 3 (Qk (Fld.rows p0.fields) (List.length p0.fields) (Fld.Q9 p0.fields)), hB 0 hc1, hP 4 (Qk (Fld.rows p1.fields) (List.length p1.fields) (Fld.Q9 p1.fields)), hB 0 h0, hB 3 h1, hP 4 (Q2p 6 (Fld.rows p0.fields) i1 _ (Fld.Qj hx1) rfl), hP 5 (Qeg 6 (Fld.rows p1.fields) (i1 : Int) _ (by omega) (Fld.Qj (Qu p1.fields (Int.toNat (i1 : Int)) zF (by omega))) rfl), hP 6 (Q2p 6 (Fld.rows p0.fields) i1 _ (Fld.Qj hx1) rfl), hP 5 (Qeg 6 (Fld.rows p1.fields) (i1 : Int) _ (by omega) (Fld.Qj (Qu p1.fields (Int.toNat (i1 : Int)) zF (by omega))) rfl), hB 6 h2, hP 3 (Q2p 6 (Fld.rows p0.fields) i1 _ (Fld.Qj hx1) rfl), hP 5 (Qeg 6 (Fld.rows p1.fields) (i1 : Int) _ (by omega) (Fld.Qj (Qu p1.fields (Int.toNat (i1 : Int)) zF (by omega))) rfl), hP 5 (Q20 i1 (by omega))] [aN (t_Kt (sLt x1.name (List.getD p1.fields i1 zF).name) (!((sLt x1.name (List.getD p1.fields i1 zF).name) || (sEq x1.name (List.getD p1.fields i1 zF).name)))), aN (rec x1.v (szF hx1) (List.getD p1.fields i1 zF).v (H.2.1 x1 (Q2l hx1)))] (by kernel_rfl) hr
theorem Qqg (p0 : Val) (p1 : Val) (H : Q5e p0 p1) (_rec : Q2u p0) (x1 : Fld) (i1 : Nat) (v1_1 : Int) (hx1 : p0.fields[i1]? = some x1) (hi1 : i1 < List.length p0.fields) (hc1 : (decide ((i1 : Int) < ((List.length p0.fields) : Int))) = true) (h0 : (decide ((i1 : Int) < ((List.length p1.fields) : Int))) = true) (h1 : (v1_1 == 0) = true) (h2 : ((s_Kt (sLt x1.name (List.getD p1.fields i1 zF).name) (!((sLt x1.name (List.getD p1.fields i1 zF).name) || (sEq x1.name (List.getD p1.fields i1 zF).name)))) == 0) = false) {r : Rs} (hr : Qb G (Q2s p0 p1 (i1 + 1) (s_Kt (sLt x1.name (List.getD p1.fields i1 zF).name) (!((sLt x1.name (List.getD p1.fields i1 zF).name) || (sEq x1.name (List.getD p1.fields i1 zF).name))))) r) : Qb G (Q2s p0 p1 i1 v1_1) r := by
 have hB0 := H.1; have e0 := of_decide_eq_true h0; have e1 := eq_of_beq h1; have e2 := beq_eq_false_iff_ne.1 h2
 exact Qi VOK.nil (y := (Qfu p0 p1 (i1 + 1) (s_Kt (sLt x1.name (List.getD p1.fields i1 zF).name) (!((sLt x1.name (List.getD p1.fields i1 zF).name) || (sEq x1.name (List.getD p1.fields i1 zF).name)))), Qg9 p0 p1 (i1 + 1) (s_Kt (sLt x1.name (List.getD p1.fields i1 zF).name) (!((sLt x1.name (List.getD p1.fields i1 zF).name) || (sEq x1.name (List.getD p1.fields i1 zF).name)))))) [hP 3 (Qk (Fld.rows p0.fields) (List.length p0.fields) (Fld.Q9 p0.fields)), hB 0 hc1, hP 4 (Qk (Fld.rows p1.fields) (List.length p1.fields) (Fld.Q9 p1.fields)), hB 0 h0, hB 3 h1, hP 4 (Q2p 6 (Fld.rows p0.fields) i1 _ (Fld.Qj hx1) rfl), hP 5 (Qeg 6 (Fld.rows p1.fields) (i1 : Int) _ (by omega) (Fld.Qj (Qu p1.fields (Int.toNat (i1 : Int)) zF (by omega))) rfl), hP 6 (Q2p 6 (Fld.rows p0.fields) i1 _ (Fld.Qj hx1) rfl), hP 5 (Qeg 6 (Fld.rows p1.fields) (i1 : Int) _ (by omega) (Fld.Qj (Qu p1.fields (Int.toNat (i1 : Int)) zF (by omega))) rfl), hB 6 h2, hP 1 (Q20 i1 (by omega))] [aN (t_Kt (sLt x1.name (List.getD p1.fields i1 zF).name) (!((sLt x1.name (List.getD p1.fields i1 zF).name) || (sEq x1.name (List.getD p1.fields i1 zF).name))))] (by kernel_rfl) hr
def Qij (p0 : Val) (p1 : Val) (i1 : Nat) (v1_1 : Int) (_x1 : Fld) : List PV :=
  nuns 7 ++ [.int .i64 (i1 : Int)] ++ nuns 83 ++ [.int .i64 (i1 : Int), .bx 0 4, .sl (Fld.rows p0.fields), .int .i64 ((List.length p0.fields) : Int), .bool true, .bool true, .int .i64 (i1 : Int), .bx 1 4, .sl (Fld.rows p1.fields), .int .i64 ((List.length p1.fields) : Int), .bool true, .bool true, .bool true, .int .i64 v1_1, .bool false, .bool false]
def Qdv (_p0 : Val) (_p1 : Val) (_i1 : Nat) (_v1_1 : Int) (_x1 : Fld) : List (Nat × List PV) :=
  []
theorem Qpt (p0 : Val) (p1 : Val) (_H : Q5e p0 p1) (_rec : Q2u p0) (x1 : Fld) (i1 : Nat) (v1_1 : Int) (_hx1 : p0.fields[i1]? = some x1) (_hi1 : i1 < List.length p0.fields) (hc1 : (decide ((i1 : Int) < ((List.length p0.fields) : Int))) = true) (h0 : (decide ((i1 : Int) < ((List.length p1.fields) : Int))) = true) (h1 : (v1_1 == 0) = false) : Q7n p0 p1 (Q2s p0 p1 i1 v1_1) v1_1 := by
 exact ⟨(envF (Qij p0 p1 i1 v1_1 x1)), (zoF (Qdv p0 p1 i1 v1_1 x1)), Qn VOK.nil (x := ((.exit 2), Q2g p0 p1 v1_1 (envF (Qij p0 p1 i1 v1_1 x1)) (zoF (Qdv p0 p1 i1 v1_1 x1)))) [hP 3 (Qk (Fld.rows p0.fields) (List.length p0.fields) (Fld.Q9 p0.fields)), hB 0 hc1, hP 4 (Qk (Fld.rows p1.fields) (List.length p1.fields) (Fld.Q9 p1.fields)), hB 0 h0, hB 3 h1] [] (by kernel_rfl)⟩
def Qj3 (p0 : Val) (p1 : Val) (i1 : Nat) (_v1_1 : Int) (_x1 : Fld) : List PV :=
  nuns 7 ++ [.int .i64 (i1 : Int)] ++ nuns 83 ++ [.int .i64 (i1 : Int), .bx 0 4, .sl (Fld.rows p0.fields), .int .i64 ((List.length p0.fields) : Int), .bool true, .bool true, .int .i64 (i1 : Int), .bx 1 4, .sl (Fld.rows p1.fields), .int .i64 ((List.length p1.fields) : Int), .bool false, .bool false, .bool false, .tup [], .tup [], .bool false]
def Qcl (_p0 : Val) (_p1 : Val) (_i1 : Nat) (_v1_1 : Int) (_x1 : Fld) : List (Nat × List PV) :=
  []
theorem Qpb (p0 : Val) (p1 : Val) (_H : Q5e p0 p1) (_rec : Q2u p0) (x1 : Fld) (i1 : Nat) (v1_1 : Int) (_hx1 : p0.fields[i1]? = some x1) (_hi1 : i1 < List.length p0.fields) (hc1 : (decide ((i1 : Int) < ((List.length p0.fields) : Int))) = true) (h0 : (decide ((i1 : Int) < ((List.length p1.fields) : Int))) = false) : Q7n p0 p1 (Q2s p0 p1 i1 v1_1) v1_1 := by
 exact ⟨(envF (Qj3 p0 p1 i1 v1_1 x1)), (zoF (Qcl p0 p1 i1 v1_1 x1)), Qn VOK.nil (x := ((.exit 2), Q2g p0 p1 v1_1 (envF (Qj3 p0 p1 i1 v1_1 x1)) (zoF (Qcl p0 p1 i1 v1_1 x1)))) [hP 3 (Qk (Fld.rows p0.fields) (List.length p0.fields) (Fld.Q9 p0.fields)), hB 0 hc1, hP 4 (Qk (Fld.rows p1.fields) (List.length p1.fields) (Fld.Q9 p1.fields)), hB 0 h0] [] (by kernel_rfl)⟩
theorem Q3v (p0 : Val) (p1 : Val) (H : Q5e p0 p1) (rec : Q2u p0) : ∀ (r1 : List Fld) (i1 : Nat) (v1_1 : Int), List.drop i1 p0.fields = r1 → Q7n p0 p1 (Q2s p0 p1 i1 v1_1) (Qx p0 p1 r1 i1 v1_1)
 | [], i1, v1_1, hd => by
  have hc1 : (decide ((i1 : Int) < ((List.length p0.fields) : Int))) = false := by have := Q2j hd; simp; omega
  rw [Qx]
  exact Qp6 p0 p1 H rec i1 v1_1 hc1
 | x1 :: r1, i1, v1_1, hd => by
  obtain ⟨hx1, hi1, hd'⟩ := Q1s hd
  have hc1 : (decide ((i1 : Int) < ((List.length p0.fields) : Int))) = true := by simp; omega
  rw [Qx]
  cases h0 : (decide ((i1 : Int) < ((List.length p1.fields) : Int))) with
  | true =>
   cases h1 : (v1_1 == 0) with
   | true =>
    cases h2 : ((s_Kt (sLt x1.name (List.getD p1.fields i1 zF).name) (!((sLt x1.name (List.getD p1.fields i1 zF).name) || (sEq x1.name (List.getD p1.fields i1 zF).name)))) == 0) with
    | true =>
     exact Q8c p0 p1 (fun r hr => Qq0 p0 p1 H rec x1 i1 v1_1 hx1 hi1 hc1 h0 h1 h2 hr) _ (Q3v p0 p1 H rec r1 (i1 + 1) (s_Kc x1.v (List.getD p1.fields i1 zF).v) hd')
    | false =>
     exact Q8c p0 p1 (fun r hr => Qqg p0 p1 H rec x1 i1 v1_1 hx1 hi1 hc1 h0 h1 h2 hr) _ (Q3v p0 p1 H rec r1 (i1 + 1) (s_Kt (sLt x1.name (List.getD p1.fields i1 zF).name) (!((sLt x1.name (List.getD p1.fields i1 zF).name) || (sEq x1.name (List.getD p1.fields i1 zF).name)))) hd')
   | false =>
    exact Qpt p0 p1 H rec x1 i1 v1_1 hx1 hi1 hc1 h0 h1
  | false =>
   exact Qpb p0 p1 H rec x1 i1 v1_1 hx1 hi1 hc1 h0
theorem Qtj (p0 : Val) (p1 : Val) (_H : H_Kc p0) (_rec : Q2u p0) (h0 : ((s_Kt (decide (p0.kind < p1.kind)) (decide (p1.kind < p0.kind))) == 0) = true) (h1 : ((s_Kt (decide (p0.n < p1.n)) (decide (p1.n < p0.n))) == 0) = true) (z2 : Nat → PV) (zo2 : Nat → List PV) (hl2 : Qb G (Q32 p0 p1 0 (s_Kt (sLt p0.s p1.s) (!((sLt p0.s p1.s) || (sEq p0.s p1.s))))) (.st (.exit 0) (Q2e p0 p1 (Qt p0 p1 p0.list 0 (s_Kt (sLt p0.s p1.s) (!((sLt p0.s p1.s) || (sEq p0.s p1.s))))) z2 zo2))) (h2 : ((Qt p0 p1 p0.list 0 (s_Kt (sLt p0.s p1.s) (!((sLt p0.s p1.s) || (sEq p0.s p1.s))))) == 0) = true) (z4 : Nat → PV) (zo4 : Nat → List PV) (hl4 : Qb G (Q2s p0 p1 0 (s_Kt (decide (((List.length p0.list) : Int) < ((List.length p1.list) : Int))) (decide (((List.length p1.list) : Int) < ((List.length p0.list) : Int))))) (.st (.exit 2) (Q2g p0 p1 (Qx p0 p1 p0.fields 0 (s_Kt (decide (((List.length p0.list) : Int) < ((List.length p1.list) : Int))) (decide (((List.length p1.list) : Int) < ((List.length p0.list) : Int))))) z4 zo4))) : Qb G (c_Kc p0 p1) (.ret (.int .i64 (bif ((Qx p0 p1 p0.fields 0 (s_Kt (decide (((List.length p0.list) : Int) < ((List.length p1.list) : Int))) (decide (((List.length p1.list) : Int) < ((List.length p0.list) : Int))))) == 0) then
   (s_Kt (decide (((List.length p0.fields) : Int) < ((List.length p1.fields) : Int))) (decide (((List.length p1.fields) : Int) < ((List.length p0.fields) : Int))))
 else
   (Qx p0 p1 p0.fields 0 (s_Kt (decide (((List.length p0.list) : Int) < ((List.length p1.list) : Int))) (decide (((List.length p1.list) : Int) < ((List.length p0.list) : Int))))))) []) := by
 cases h3 : ((Qx p0 p1 p0.fields 0 (s_Kt (decide (((List.length p0.list) : Int) < ((List.length p1.list) : Int))) (decide (((List.length p1.list) : Int) < ((List.length p0.list) : Int))))) == 0) with
 | true =>
  exact Qc (fn := Ir.Kc) rfl VOK.nil [hB 16 h0, hB 13 h1, hB 14 h2, hP 2 (Qk (Val.rows p0.list) (List.length p0.list) (Val.Q9 p0.list)), hP 2 (Qk (Val.rows p1.list) (List.length p1.list) (Val.Q9 p1.list)), hP 3 (Qk (Val.rows p0.list) (List.length p0.list) (Val.Q9 p0.list)), hP 2 (Qk (Val.rows p1.list) (List.length p1.list) (Val.Q9 p1.list)), hB 5 h3, hP 2 (Qk (Fld.rows p0.fields) (List.length p0.fields) (Fld.Q9 p0.fields)), hP 2 (Qk (Fld.rows p1.fields) (List.length p1.fields) (Fld.Q9 p1.fields)), hP 3 (Qk (Fld.rows p0.fields) (List.length p0.fields) (Fld.Q9 p0.fields)), hP 2 (Qk (Fld.rows p1.fields) (List.length p1.fields) (Fld.Q9 p1.fields))] [aN (t_Kt (decide (p0.kind < p1.kind)) (decide (p1.kind < p0.kind))), aN (t_Kt (decide (p0.n < p1.n)) (decide (p1.n < p0.n))), aN (t_Kt (sLt p0.s p1.s) (!((sLt p0.s p1.s) || (sEq p0.s p1.s)))), aN hl2, aN (t_Kt (decide (((List.length p0.list) : Int) < ((List.length p1.list) : Int))) (decide (((List.length p1.list) : Int) < ((List.length p0.list) : Int)))), aN hl4, aN (t_Kt (decide (((List.length p0.fields) : Int) < ((List.length p1.fields) : Int))) (decide (((List.length p1.fields) : Int) < ((List.length p0.fields) : Int))))] (by kernel_rfl)
 | false =>
  exact Qc (fn := Ir.Kc) rfl VOK.nil [hB 16 h0, hB 13 h1, hB 14 h2, hP 2 (Qk (Val.rows p0.list) (List.length p0.list) (Val.Q9 p0.list)), hP 2 (Qk (Val.rows p1.list) (List.length p1.list) (Val.Q9 p1.list)), hP 3 (Qk (Val.rows p0.list) (List.length p0.list) (Val.Q9 p0.list)), hP 2 (Qk (Val.rows p1.list) (List.length p1.list) (Val.Q9 p1.list)), hB 5 h3] [aN (t_Kt (decide (p0.kind < p1.kind)) (decide (p1.kind < p0.kind))), aN (t_Kt (decide (p0.n < p1.n)) (decide (p1.n < p0.n))), aN (t_Kt (sLt p0.s p1.s) (!((sLt p0.s p1.s) || (sEq p0.s p1.s)))), aN hl2, aN (t_Kt (decide (((List.length p0.list) : Int) < ((List.length p1.list) : Int))) (decide (((List.length p1.list) : Int) < ((List.length p0.list) : Int)))), aN hl4] (by kernel_rfl)
theorem Qth (p0 : Val) (p1 : Val) (_H : H_Kc p0) (_rec : Q2u p0) (h0 : ((s_Kt (decide (p0.kind < p1.kind)) (decide (p1.kind < p0.kind))) == 0) = true) (h1 : ((s_Kt (decide (p0.n < p1.n)) (decide (p1.n < p0.n))) == 0) = true) (z2 : Nat → PV) (zo2 : Nat → List PV) (hl2 : Qb G (Q32 p0 p1 0 (s_Kt (sLt p0.s p1.s) (!((sLt p0.s p1.s) || (sEq p0.s p1.s))))) (.st (.exit 0) (Q2e p0 p1 (Qt p0 p1 p0.list 0 (s_Kt (sLt p0.s p1.s) (!((sLt p0.s p1.s) || (sEq p0.s p1.s))))) z2 zo2))) (h2 : ((Qt p0 p1 p0.list 0 (s_Kt (sLt p0.s p1.s) (!((sLt p0.s p1.s) || (sEq p0.s p1.s))))) == 0) = false) (z4 : Nat → PV) (zo4 : Nat → List PV) (hl4 : Qb G (Q2s p0 p1 0 (Qt p0 p1 p0.list 0 (s_Kt (sLt p0.s p1.s) (!((sLt p0.s p1.s) || (sEq p0.s p1.s)))))) (.st (.exit 2) (Q2g p0 p1 (Qx p0 p1 p0.fields 0 (Qt p0 p1 p0.list 0 (s_Kt (sLt p0.s p1.s) (!((sLt p0.s p1.s) || (sEq p0.s p1.s)))))) z4 zo4))) : Qb G (c_Kc p0 p1) (.ret (.int .i64 (bif ((Qx p0 p1 p0.fields 0 (Qt p0 p1 p0.list 0 (s_Kt (sLt p0.s p1.s) (!((sLt p0.s p1.s) || (sEq p0.s p1.s)))))) == 0) then
   (s_Kt (decide (((List.length p0.fields) : Int) < ((List.length p1.fields) : Int))) (decide (((List.length p1.fields) : Int) < ((List.length p0.fields) : Int))))
 else
   (Qx p0 p1 p0.fields 0 (Qt p0 p1 p0.list 0 (s_Kt (sLt p0.s p1.s) (!((sLt p0.s p1.s) || (sEq p0.s p1.s)))))))) []) := by
 cases h3 : ((Qx p0 p1 p0.fields 0 (Qt p0 p1 p0.list 0 (s_Kt (sLt p0.s p1.s) (!((sLt p0.s p1.s) || (sEq p0.s p1.s)))))) == 0) with
 | true =>
  exact Qc (fn := Ir.Kc) rfl VOK.nil [hB 16 h0, hB 13 h1, hB 14 h2, hB 2 h3, hP 2 (Qk (Fld.rows p0.fields) (List.length p0.fields) (Fld.Q9 p0.fields)), hP 2 (Qk (Fld.rows p1.fields) (List.length p1.fields) (Fld.Q9 p1.fields)), hP 3 (Qk (Fld.rows p0.fields) (List.length p0.fields) (Fld.Q9 p0.fields)), hP 2 (Qk (Fld.rows p1.fields) (List.length p1.fields) (Fld.Q9 p1.fields))] [aN (t_Kt (decide (p0.kind < p1.kind)) (decide (p1.kind < p0.kind))), aN (t_Kt (decide (p0.n < p1.n)) (decide (p1.n < p0.n))), aN (t_Kt (sLt p0.s p1.s) (!((sLt p0.s p1.s) || (sEq p0.s p1.s)))), aN hl2, aN hl4, aN (t_Kt (decide (((List.length p0.fields) : Int) < ((List.length p1.fields) : Int))) (decide (((List.length p1.fields) : Int) < ((List.length p0.fields) : Int))))] (by kernel_rfl)
 | false =>
  exact Qc (fn := Ir.Kc) rfl VOK.nil [hB 16 h0, hB 13 h1, hB 14 h2, hB 2 h3] [aN (t_Kt (decide (p0.kind < p1.kind)) (decide (p1.kind < p0.kind))), aN (t_Kt (decide (p0.n < p1.n)) (decide (p1.n < p0.n))), aN (t_Kt (sLt p0.s p1.s) (!((sLt p0.s p1.s) || (sEq p0.s p1.s)))), aN hl2, aN hl4] (by kernel_rfl)
theorem Quq (p0 : Val) (p1 : Val) (_H : H_Kc p0) (_rec : Q2u p0) (h0 : ((s_Kt (decide (p0.kind < p1.kind)) (decide (p1.kind < p0.kind))) == 0) = true) (h1 : ((s_Kt (decide (p0.n < p1.n)) (decide (p1.n < p0.n))) == 0) = false) (z2 : Nat → PV) (zo2 : Nat → List PV) (hl2 : Qb G (Q32 p0 p1 0 (s_Kt (decide (p0.n < p1.n)) (decide (p1.n < p0.n)))) (.st (.exit 0) (Q2e p0 p1 (Qt p0 p1 p0.list 0 (s_Kt (decide (p0.n < p1.n)) (decide (p1.n < p0.n)))) z2 zo2))) (h2 : ((Qt p0 p1 p0.list 0 (s_Kt (decide (p0.n < p1.n)) (decide (p1.n < p0.n)))) == 0) = true) (z4 : Nat → PV) (zo4 : Nat → List PV) (hl4 : Qb G (Q2s p0 p1 0 (s_Kt (decide (((List.length p0.list) : Int) < ((List.length p1.list) : Int))) (decide (((List.length p1.list) : Int) < ((List.length p0.list) : Int))))) (.st (.exit 2) (Q2g p0 p1 (Qx p0 p1 p0.fields 0 (s_Kt (decide (((List.length p0.list) : Int) < ((List.length p1.list) : Int))) (decide (((List.length p1.list) : Int) < ((List.length p0.list) : Int))))) z4 zo4))) : Qb G (c_Kc p0 p1) (.ret (.int .i64 (bif ((Qx p0 p1 p0.fields 0 (s_Kt (decide (((List.length p0.list) : Int) < ((List.length p1.list) : Int))) (decide (((List.length p1.list) : Int) < ((List.length p0.list) : Int))))) == 0) then
   (s_Kt (decide (((List.length p0.fields) : Int) < ((List.length p1.fields) : Int))) (decide (((List.length p1.fields) : Int) < ((List.length p0.fields) : Int))))
 else
   (Qx p0 p1 p0.fields 0 (s_Kt (decide (((List.length p0.list) : Int) < ((List.length p1.list) : Int))) (decide (((List.length p1.list) : Int) < ((List.length p0.list) : Int))))))) []) := by
 cases h3 : ((Qx p0 p1 p0.fields 0 (s_Kt (decide (((List.length p0.list) : Int) < ((List.length p1.list) : Int))) (decide (((List.length p1.list) : Int) < ((List.length p0.list) : Int))))) == 0) with
 | true =>
  exact Qc (fn := Ir.Kc) rfl VOK.nil [hB 16 h0, hB 13 h1, hB 2 h2, hP 2 (Qk (Val.rows p0.list) (List.length p0.list) (Val.Q9 p0.list)), hP 2 (Qk (Val.rows p1.list) (List.length p1.list) (Val.Q9 p1.list)), hP 3 (Qk (Val.rows p0.list) (List.length p0.list) (Val.Q9 p0.list)), hP 2 (Qk (Val.rows p1.list) (List.length p1.list) (Val.Q9 p1.list)), hB 5 h3, hP 2 (Qk (Fld.rows p0.fields) (List.length p0.fields) (Fld.Q9 p0.fields)), hP 2 (Qk (Fld.rows p1.fields) (List.length p1.fields) (Fld.Q9 p1.fields)), hP 3 (Qk (Fld.rows p0.fields) (List.length p0.fields) (Fld.Q9 p0.fields)), hP 2 (Qk (Fld.rows p1.fields) (List.length p1.fields) (Fld.Q9 p1.fields))] [aN (t_Kt (decide (p0.kind < p1.kind)) (decide (p1.kind < p0.kind))), aN (t_Kt (decide (p0.n < p1.n)) (decide (p1.n < p0.n))), aN hl2, aN (t_Kt (decide (((List.length p0.list) : Int) < ((List.length p1.list) : Int))) (decide (((List.length p1.list) : Int) < ((List.length p0.list) : Int)))), aN hl4, aN (t_Kt (decide (((List.length p0.fields) : Int) < ((List.length p1.fields) : Int))) (decide (((List.length p1.fields) : Int) < ((List.length p0.fields) : Int))))] (by kernel_rfl)
 | false =>
  exact Qc (fn := Ir.Kc) rfl VOK.nil [hB 16 h0, hB 13 h1, hB 2 h2, hP 2 (Qk (Val.rows p0.list) (List.length p0.list) (Val.Q9 p0.list)), hP 2 (Qk (Val.rows p1.list) (List.length p1.list) (Val.Q9 p1.list)), hP 3 (Qk (Val.rows p0.list) (List.length p0.list) (Val.Q9 p0.list)), hP 2 (Qk (Val.rows p1.list) (List.length p1.list) (Val.Q9 p1.list)), hB 5 h3] [aN (t_Kt (decide (p0.kind < p1.kind)) (decide (p1.kind < p0.kind))), aN (t_Kt (decide (p0.n < p1.n)) (decide (p1.n < p0.n))), aN hl2, aN (t_Kt (decide (((List.length p0.list) : Int) < ((List.length p1.list) : Int))) (decide (((List.length p1.list) : Int) < ((List.length p0.list) : Int)))), aN hl4] (by kernel_rfl)
theorem Qty (p0 : Val) (p1 : Val) (_H : H_Kc p0) (_rec : Q2u p0) (h0 : ((s_Kt (decide (p0.kind < p1.kind)) (decide (p1.kind < p0.kind))) == 0) = true) (h1 : ((s_Kt (decide (p0.n < p1.n)) (decide (p1.n < p0.n))) == 0) = false) (z2 : Nat → PV) (zo2 : Nat → List PV) (hl2 : Qb G (Q32 p0 p1 0 (s_Kt (decide (p0.n < p1.n)) (decide (p1.n < p0.n)))) (.st (.exit 0) (Q2e p0 p1 (Qt p0 p1 p0.list 0 (s_Kt (decide (p0.n < p1.n)) (decide (p1.n < p0.n)))) z2 zo2))) (h2 : ((Qt p0 p1 p0.list 0 (s_Kt (decide (p0.n < p1.n)) (decide (p1.n < p0.n)))) == 0) = false) (z4 : Nat → PV) (zo4 : Nat → List PV) (hl4 : Qb G (Q2s p0 p1 0 (Qt p0 p1 p0.list 0 (s_Kt (decide (p0.n < p1.n)) (decide (p1.n < p0.n))))) (.st (.exit 2) (Q2g p0 p1 (Qx p0 p1 p0.fields 0 (Qt p0 p1 p0.list 0 (s_Kt (decide (p0.n < p1.n)) (decide (p1.n < p0.n))))) z4 zo4))) : Qb G (c_Kc p0 p1) (.ret (.int .i64 (bif ((Qx p0 p1 p0.fields 0 (Qt p0 p1 p0.list 0 (s_Kt (decide (p0.n < p1.n)) (decide (p1.n < p0.n))))) == 0) then
   (s_Kt (decide (((List.length p0.fields) : Int) < ((List.length p1.fields) : Int))) (decide (((List.length p1.fields) : Int) < ((List.length p0.fields) : Int))))
 else
   (Qx p0 p1 p0.fields 0 (Qt p0 p1 p0.list 0 (s_Kt (decide (p0.n < p1.n)) (decide (p1.n < p0.n))))))) []) := by
 cases h3 : ((Qx p0 p1 p0.fields 0 (Qt p0 p1 p0.list 0 (s_Kt (decide (p0.n < p1.n)) (decide (p1.n < p0.n))))) == 0) with
 | true =>
  exact Qc (fn := Ir.Kc) rfl VOK.nil [hB 16 h0, hB 13 h1, hB 2 h2, hB 2 h3, hP 2 (Qk (Fld.rows p0.fields) (List.length p0.fields) (Fld.Q9 p0.fields)), hP 2 (Qk (Fld.rows p1.fields) (List.length p1.fields) (Fld.Q9 p1.fields)), hP 3 (Qk (Fld.rows p0.fields) (List.length p0.fields) (Fld.Q9 p0.fields)), hP 2 (Qk (Fld.rows p1.fields) (List.length p1.fields) (Fld.Q9 p1.fields))] [aN (t_Kt (decide (p0.kind < p1.kind)) (decide (p1.kind < p0.kind))), aN (t_Kt (decide (p0.n < p1.n)) (decide (p1.n < p0.n))), aN hl2, aN hl4, aN (t_Kt (decide (((List.length p0.fields) : Int) < ((List.length p1.fields) : Int))) (decide (((List.length p1.fields) : Int) < ((List.length p0.fields) : Int))))] (by kernel_rfl)
 | false =>
  exact Qc (fn := Ir.Kc) rfl VOK.nil [hB 16 h0, hB 13 h1, hB 2 h2, hB 2 h3] [aN (t_Kt (decide (p0.kind < p1.kind)) (decide (p1.kind < p0.kind))), aN (t_Kt (decide (p0.n < p1.n)) (decide (p1.n < p0.n))), aN hl2, aN hl4] (by kernel_rfl)
theorem Quu (p0 : Val) (p1 : Val) (_H : H_Kc p0) (_rec : Q2u p0) (h0 : ((s_Kt (decide (p0.kind < p1.kind)) (decide (p1.kind < p0.kind))) == 0) = false) (z1 : Nat → PV) (zo1 : Nat → List PV) (hl1 : Qb G (Q32 p0 p1 0 (s_Kt (decide (p0.kind < p1.kind)) (decide (p1.kind < p0.kind)))) (.st (.exit 0) (Q2e p0 p1 (Qt p0 p1 p0.list 0 (s_Kt (decide (p0.kind < p1.kind)) (decide (p1.kind < p0.kind)))) z1 zo1))) (h1 : ((Qt p0 p1 p0.list 0 (s_Kt (decide (p0.kind < p1.kind)) (decide (p1.kind < p0.kind)))) == 0) = true) (z3 : Nat → PV) (zo3 : Nat → List PV) (hl3 : Qb G (Q2s p0 p1 0 (s_Kt (decide (((List.length p0.list) : Int) < ((List.length p1.list) : Int))) (decide (((List.length p1.list) : Int) < ((List.length p0.list) : Int))))) (.st (.exit 2) (Q2g p0 p1 (Qx p0 p1 p0.fields 0 (s_Kt (decide (((List.length p0.list) : Int) < ((List.length p1.list) : Int))) (decide (((List.length p1.list) : Int) < ((List.length p0.list) : Int))))) z3 zo3))) : Qb G (c_Kc p0 p1) (.ret (.int .i64 (bif ((Qx p0 p1 p0.fields 0 (s_Kt (decide (((List.length p0.list) : Int) < ((List.length p1.list) : Int))) (decide (((List.length p1.list) : Int) < ((List.length p0.list) : Int))))) == 0) then
   (s_Kt (decide (((List.length p0.fields) : Int) < ((List.length p1.fields) : Int))) (decide (((List.length p1.fields) : Int) < ((List.length p0.fields) : Int))))
 else
   (Qx p0 p1 p0.fields 0 (s_Kt (decide (((List.length p0.list) : Int) < ((List.length p1.list) : Int))) (decide (((List.length p1.list) : Int) < ((List.length p0.list) : Int))))))) []) := by
 cases h2 : ((Qx p0 p1 p0.fields 0 (s_Kt (decide (((List.length p0.list) : Int) < ((List.length p1.list) : Int))) (decide (((List.length p1.list) : Int) < ((List.length p0.list) : Int))))) == 0) with
 | true =>
  exact Qc (fn := Ir.Kc) rfl VOK.nil [hB 16 h0, hB 1 h0, hB 2 h1, hP 2 (Qk (Val.rows p0.list) (List.length p0.list) (Val.Q9 p0.list)), hP 2 (Qk (Val.rows p1.list) (List.length p1.list) (Val.Q9 p1.list)), hP 3 (Qk (Val.rows p0.list) (List.length p0.list) (Val.Q9 p0.list)), hP 2 (Qk (Val.rows p1.list) (List.length p1.list) (Val.Q9 p1.list)), hB 5 h2, hP 2 (Qk (Fld.rows p0.fields) (List.length p0.fields) (Fld.Q9 p0.fields)), hP 2 (Qk (Fld.rows p1.fields) (List.length p1.fields) (Fld.Q9 p1.fields)), hP 3 (Qk (Fld.rows p0.fields) (List.length p0.fields) (Fld.Q9 p0.fields)), hP 2 (Qk (Fld.rows p1.fields) (List.length p1.fields) (Fld.Q9 p1.fields))] [aN (t_Kt (decide (p0.kind < p1.kind)) (decide (p1.kind < p0.kind))), aN hl1, aN (t_Kt (decide (((List.length p0.list) : Int) < ((List.length p1.list) : Int))) (decide (((List.length p1.list) : Int) < ((List.length p0.list) : Int)))), aN hl3, aN (t_Kt (decide (((List.length p0.fields) : Int) < ((List.length p1.fields) : Int))) (decide (((List.length p1.fields) : Int) < ((List.length p0.fields) : Int))))] (by kernel_rfl)
 | false =>
  exact Qc (fn := Ir.Kc) rfl VOK.nil [hB 16 h0, hB 1 h0, hB 2 h1, hP 2 (Qk (Val.rows p0.list) (List.length p0.list) (Val.Q9 p0.list)), hP 2 (Qk (Val.rows p1.list) (List.length p1.list) (Val.Q9 p1.list)), hP 3 (Qk (Val.rows p0.list) (List.length p0.list) (Val.Q9 p0.list)), hP 2 (Qk (Val.rows p1.list) (List.length p1.list) (Val.Q9 p1.list)), hB 5 h2] [aN (t_Kt (decide (p0.kind < p1.kind)) (decide (p1.kind < p0.kind))), aN hl1, aN (t_Kt (decide (((List.length p0.list) : Int) < ((List.length p1.list) : Int))) (decide (((List.length p1.list) : Int) < ((List.length p0.list) : Int)))), aN hl3] (by kernel_rfl)
theorem Qv1 (p0 : Val) (p1 : Val) (_H : H_Kc p0) (_rec : Q2u p0) (h0 : ((s_Kt (decide (p0.kind < p1.kind)) (decide (p1.kind < p0.kind))) == 0) = false) (z1 : Nat → PV) (zo1 : Nat → List PV) (hl1 : Qb G (Q32 p0 p1 0 (s_Kt (decide (p0.kind < p1.kind)) (decide (p1.kind < p0.kind)))) (.st (.exit 0) (Q2e p0 p1 (Qt p0 p1 p0.list 0 (s_Kt (decide (p0.kind < p1.kind)) (decide (p1.kind < p0.kind)))) z1 zo1))) (h1 : ((Qt p0 p1 p0.list 0 (s_Kt (decide (p0.kind < p1.kind)) (decide (p1.kind < p0.kind)))) == 0) = false) (z3 : Nat → PV) (zo3 : Nat → List PV) (hl3 : Qb G (Q2s p0 p1 0 (Qt p0 p1 p0.list 0 (s_Kt (decide (p0.kind < p1.kind)) (decide (p1.kind < p0.kind))))) (.st (.exit 2) (Q2g p0 p1 (Qx p0 p1 p0.fields 0 (Qt p0 p1 p0.list 0 (s_Kt (decide (p0.kind < p1.kind)) (decide (p1.kind < p0.kind))))) z3 zo3))) : Qb G (c_Kc p0 p1) (.ret (.int .i64 (bif ((Qx p0 p1 p0.fields 0 (Qt p0 p1 p0.list 0 (s_Kt (decide (p0.kind < p1.kind)) (decide (p1.kind < p0.kind))))) == 0) then
   (s_Kt (decide (((List.length p0.fields) : Int) < ((List.length p1.fields) : Int))) (decide (((List.length p1.fields) : Int) < ((List.length p0.fields) : Int))))
 else
   (Qx p0 p1 p0.fields 0 (Qt p0 p1 p0.list 0 (s_Kt (decide (p0.kind < p1.kind)) (decide (p1.kind < p0.kind))))))) []) := by
 cases h2 : ((Qx p0 p1 p0.fields 0 (Qt p0 p1 p0.list 0 (s_Kt (decide (p0.kind < p1.kind)) (decide (p1.kind < p0.kind))))) == 0) with
 | true =>
  exact Qc (fn := Ir.Kc) rfl VOK.nil [hB 16 h0, hB 1 h0, hB 2 h1, hB 2 h2, hP 2 (Qk (Fld.rows p0.fields) (List.length p0.fields) (Fld.Q9 p0.fields)), hP 2 (Qk (Fld.rows p1.fields) (List.length p1.fields) (Fld.Q9 p1.fields)), hP 3 (Qk (Fld.rows p0.fields) (List.length p0.fields) (Fld.Q9 p0.fields)), hP 2 (Qk (Fld.rows p1.fields) (List.length p1.fields) (Fld.Q9 p1.fields))] [aN (t_Kt (decide (p0.kind < p1.kind)) (decide (p1.kind < p0.kind))), aN hl1, aN hl3, aN (t_Kt (decide (((List.length p0.fields) : Int) < ((List.length p1.fields) : Int))) (decide (((List.length p1.fields) : Int) < ((List.length p0.fields) : Int))))] (by kernel_rfl)
 | false =>
  exact Qc (fn := Ir.Kc) rfl VOK.nil [hB 16 h0, hB 1 h0, hB 2 h1, hB 2 h2] [aN (t_Kt (decide (p0.kind < p1.kind)) (decide (p1.kind < p0.kind))), aN hl1, aN hl3] (by kernel_rfl)
theorem r_Kc (p0 : Val) (p1 : Val) (H : H_Kc p0) (rec : Q2u p0) : Qb G (c_Kc p0 p1) (a_Kc p0 p1) := by
  unfold a_Kc
  rw [s_Kc]
  cases h0 : ((s_Kt (decide (p0.kind < p1.kind)) (decide (p1.kind < p0.kind))) == 0) with
  | true =>
   cases h1 : ((s_Kt (decide (p0.n < p1.n)) (decide (p1.n < p0.n))) == 0) with
   | true =>
    have hl2 := Q92 p0 p1 ((Q4q p0 p1 H).1) rec p0.list 0 (s_Kt (sLt p0.s p1.s) (!((sLt p0.s p1.s) || (sEq p0.s p1.s)))) (by simp)
    obtain ⟨z2, zo2, hl2⟩ := hl2
    cases h2 : ((Qt p0 p1 p0.list 0 (s_Kt (sLt p0.s p1.s) (!((sLt p0.s p1.s) || (sEq p0.s p1.s))))) == 0) with
    | true =>
     have hl4 := Q3v p0 p1 ((Q4q p0 p1 H).2.1) rec p0.fields 0 (s_Kt (decide (((List.length p0.list) : Int) < ((List.length p1.list) : Int))) (decide (((List.length p1.list) : Int) < ((List.length p0.list) : Int)))) (by simp)
     obtain ⟨z4, zo4, hl4⟩ := hl4
     exact Qtj p0 p1 H rec h0 h1 z2 zo2 hl2 h2 z4 zo4 hl4
    | false =>
     have hl4 := Q3v p0 p1 ((Q4q p0 p1 H).2.1) rec p0.fields 0 (Qt p0 p1 p0.list 0 (s_Kt (sLt p0.s p1.s) (!((sLt p0.s p1.s) || (sEq p0.s p1.s))))) (by simp)
     obtain ⟨z4, zo4, hl4⟩ := hl4
     exact Qth p0 p1 H rec h0 h1 z2 zo2 hl2 h2 z4 zo4 hl4
   | false =>
    have hl2 := Q92 p0 p1 ((Q4q p0 p1 H).1) rec p0.list 0 (s_Kt (decide (p0.n < p1.n)) (decide (p1.n < p0.n))) (by simp)
    obtain ⟨z2, zo2, hl2⟩ := hl2
    cases h2 : ((Qt p0 p1 p0.list 0 (s_Kt (decide (p0.n < p1.n)) (decide (p1.n < p0.n)))) == 0) with
    | true =>
     have hl4 := Q3v p0 p1 ((Q4q p0 p1 H).2.1) rec p0.fields 0 (s_Kt (decide (((List.length p0.list) : Int) < ((List.length p1.list) : Int))) (decide (((List.length p1.list) : Int) < ((List.length p0.list) : Int)))) (by simp)
     obtain ⟨z4, zo4, hl4⟩ := hl4
     exact Quq p0 p1 H rec h0 h1 z2 zo2 hl2 h2 z4 zo4 hl4
    | false =>
     have hl4 := Q3v p0 p1 ((Q4q p0 p1 H).2.1) rec p0.fields 0 (Qt p0 p1 p0.list 0 (s_Kt (decide (p0.n < p1.n)) (decide (p1.n < p0.n)))) (by simp)
     obtain ⟨z4, zo4, hl4⟩ := hl4
     exact Qty p0 p1 H rec h0 h1 z2 zo2 hl2 h2 z4 zo4 hl4
  | false =>
   have hl1 := Q92 p0 p1 ((Q4q p0 p1 H).1) rec p0.list 0 (s_Kt (decide (p0.kind < p1.kind)) (decide (p1.kind < p0.kind))) (by simp)
   obtain ⟨z1, zo1, hl1⟩ := hl1
   cases h1 : ((Qt p0 p1 p0.list 0 (s_Kt (decide (p0.kind < p1.kind)) (decide (p1.kind < p0.kind)))) == 0) with
   | true =>
    have hl3 := Q3v p0 p1 ((Q4q p0 p1 H).2.1) rec p0.fields 0 (s_Kt (decide (((List.length p0.list) : Int) < ((List.length p1.list) : Int))) (decide (((List.length p1.list) : Int) < ((List.length p0.list) : Int)))) (by simp)
    obtain ⟨z3, zo3, hl3⟩ := hl3
    exact Quu p0 p1 H rec h0 z1 zo1 hl1 h1 z3 zo3 hl3
   | false =>
    have hl3 := Q3v p0 p1 ((Q4q p0 p1 H).2.1) rec p0.fields 0 (Qt p0 p1 p0.list 0 (s_Kt (decide (p0.kind < p1.kind)) (decide (p1.kind < p0.kind)))) (by simp)
    obtain ⟨z3, zo3, hl3⟩ := hl3
    exact Qv1 p0 p1 H rec h0 z1 zo1 hl1 h1 z3 zo3 hl3
theorem i_Kc : ∀ (k : Nat) (p0 : Val), SizeOf.sizeOf p0 < k → ∀ (p1 : Val), H_Kc p0 → Qb G (c_Kc p0 p1) (a_Kc p0 p1)
  | 0, _, h, _, _ => absurd h (Nat.not_lt_zero _)
  | k + 1, p0, h, p1, H => r_Kc p0 p1 H (fun q hq p1 hH => i_Kc k q (by omega) p1 hH)
theorem t_Kc (p0 : Val) (p1 : Val) (H : H_Kc p0) : Qb G (c_Kc p0 p1) (a_Kc p0 p1) := i_Kc _ p0 (Nat.lt_succ_self _) p1 H
def s_Kf (p0 : Val) (p1 : Val) : Bool :=
 ((s_Kc p0 p1) == 0)
def c_Kf (p0 : Val) (p1 : Val) : En := .call 20 [.agg (Val.cells p0), .agg (Val.cells p1)] []
def a_Kf (p0 : Val) (p1 : Val) : Rs := .ret (.bool (s_Kf p0 p1)) []
def H_Kf (p0 : Val) (_p1 : Val) : Prop := (H_Kc p0) ∧ True
theorem t_Kf (p0 : Val) (p1 : Val) (H : H_Kf p0 p1) : Qb G (c_Kf p0 p1) (a_Kf p0 p1) := by
 unfold a_Kf s_Kf
 exact Qc (fn := Ir.Kf) rfl VOK.nil [] [aN (t_Kc p0 p1 H.1)] (by kernel_rfl)
def Q7o (p0 : Int) : Val :=
 (Val.mk 2 p0 (⟨#[]⟩ : ByteArray) [] [])
def Qvk (p0 : Int) : En := .call 25 [.int .i64 p0] []
def Qun (p0 : Int) : Rs := .ret (.agg (Val.cells (Q7o p0))) []
theorem Qrw (p0 : Int) : Qb G (Qvk p0) (Qun p0) := by
 unfold Qun Q7o
 exact Qc (fn := Ir.K1f) rfl VOK.nil [] [] (by kernel_rfl)
def Qc8 (p0 : ByteArray) : Val :=
 (Val.mk 3 0 p0 [] [])
def Qw2 (p0 : ByteArray) : En := .call 27 [.str p0] []
def Qtf (p0 : ByteArray) : Rs := .ret (.agg (Val.cells (Qc8 p0))) []
theorem Qt6 (p0 : ByteArray) : Qb G (Qw2 p0) (Qtf p0) := by
 unfold Qtf Qc8
 exact Qc (fn := Ir.K1l) rfl VOK.nil [] [] (by kernel_rfl)
def Qfv (p0 : Bool) : Val :=
 bif p0 then
  (Val.mk 1 1 (⟨#[]⟩ : ByteArray) [] [])
 else
  (Val.mk 1 0 (⟨#[]⟩ : ByteArray) [] [])
def Qvw (p0 : Bool) : En := .call 29 [.bool p0] []
def Qv6 (p0 : Bool) : Rs := .ret (.agg (Val.cells (Qfv p0))) []
theorem Quf (p0 : Bool) : Qb G (Qvw p0) (Qv6 p0) := by
 unfold Qv6 Qfv
 cases h0 : p0 with
 | true =>
  exact Qc (fn := Ir.K19) rfl VOK.nil [] [] (by kernel_rfl)
 | false =>
  exact Qc (fn := Ir.K19) rfl VOK.nil [] [] (by kernel_rfl)
def s_Kh (p0 : Int) : Val :=
 (Val.mk 2 p0 (⟨#[]⟩ : ByteArray) [] [])
def c_Kh (p0 : Int) : En := .call 26 [.int .i64 p0] []
def a_Kh (p0 : Int) : Rs := .ret (.agg (Val.cells (s_Kh p0))) []
theorem t_Kh (p0 : Int) : Qb G (c_Kh p0) (a_Kh p0) := by
 unfold a_Kh s_Kh
 exact Qc (fn := Ir.Kh) rfl VOK.nil [] [] (by kernel_rfl)
def s_Km (p0 : ByteArray) : Val :=
 (Val.mk 3 0 p0 [] [])
def c_Km (p0 : ByteArray) : En := .call 28 [.str p0] []
def a_Km (p0 : ByteArray) : Rs := .ret (.agg (Val.cells (s_Km p0))) []
theorem t_Km (p0 : ByteArray) : Qb G (c_Km p0) (a_Km p0) := by
 unfold a_Km s_Km
 exact Qc (fn := Ir.Km) rfl VOK.nil [] [] (by kernel_rfl)
def s_Kb (p0 : Bool) : Val :=
 bif p0 then
  (Val.mk 1 1 (⟨#[]⟩ : ByteArray) [] [])
 else
  (Val.mk 1 0 (⟨#[]⟩ : ByteArray) [] [])
def c_Kb (p0 : Bool) : En := .call 30 [.bool p0] []
def a_Kb (p0 : Bool) : Rs := .ret (.agg (Val.cells (s_Kb p0))) []
theorem t_Kb (p0 : Bool) : Qb G (c_Kb p0) (a_Kb p0) := by
 unfold a_Kb s_Kb
 cases h0 : p0 with
 | true =>
  exact Qc (fn := Ir.Kb) rfl VOK.nil [] [] (by kernel_rfl)
 | false =>
  exact Qc (fn := Ir.Kb) rfl VOK.nil [] [] (by kernel_rfl)
mutual
def s_Kd (p0 : Val) : Val :=
 (Val.mk p0.kind p0.n p0.s (Q1u p0 p0.list 0 []) (Q3p p0 p0.fields 0 []))
termination_by SizeOf.sizeOf p0
decreasing_by all_goals first | exact Val.Q3m _ | exact Val.Q23 _ | exact Q43 _ _ | exact Q4p _ _ | exact Q3c _ _
def Q1u (p0 : Val) : List Val → Nat → (List Val) → List Val
 | [], _i0, v0_1 =>
  v0_1
 | x0 :: r0, i0, v0_1 =>
  Q1u p0 r0 (i0 + 1) (v0_1 ++ [(s_Kd x0)])
termination_by l => SizeOf.sizeOf l
decreasing_by all_goals first | exact Val.Q3m _ | exact Val.Q23 _ | exact Q43 _ _ | exact Q4p _ _ | exact Q3c _ _
def Q3p (p0 : Val) : List Fld → Nat → (List Fld) → List Fld
 | [], _i1, v1_1 =>
  v1_1
 | x1 :: r1, i1, v1_1 =>
  Q3p p0 r1 (i1 + 1) (v1_1 ++ [(Fld.mk x1.name (s_Kd x1.v))])
termination_by l => SizeOf.sizeOf l
decreasing_by all_goals first | exact Val.Q3m _ | exact Val.Q23 _ | exact Q43 _ _ | exact Q4p _ _ | exact Q3c _ _
end
def Qlm (_p0 : Val) (i0 : Nat) (_v0_1 : List Val) : List PV :=
  [.un, .bx 0 0, .bx 1 0, .bx 2 0, .int .i64 (i0 : Int)] ++ nuns 53
def Qg7 (p0 : Val) (_i0 : Nat) (v0_1 : List Val) : List Ob :=
  [⟨5, 0, true, [.int .i64 p0.kind, .int .i64 p0.n, .str p0.s, .sl (Val.rows p0.list), .sl (Fld.rows p0.fields)]⟩, ⟨5, 0, true, [.int .i64 0, .int .i64 0, .str (⟨#[]⟩ : ByteArray), .ms 3 5 0 0, .ms 4 6 0 0]⟩, ⟨5, 0, true, [.int .i64 p0.kind, .int .i64 p0.n, .str p0.s, .ms 5 5 0 (List.length v0_1), .ms 6 6 0 0]⟩, ⟨5, 0, true, []⟩, ⟨6, 0, true, []⟩, ⟨5, 0, true, (Val.rows v0_1).flatten⟩, ⟨6, 0, true, []⟩]
def Qfz (p0 : Val) (i0 : Nat) (v0_1 : List Val) : En := .loop 0 Ir.Qd9 Ir.Qtx (Qlm p0 i0 v0_1) (Qg7 p0 i0 v0_1)
def Qhe (p0 : Val) (q0 : List Val) (z : Nat → PV) (_zo : Nat → List PV) : St :=
  ⟨[z 0, .bx 0 0, .bx 1 0, .bx 2 0] ++ zr z 4 54, [(0, ⟨5, 0, true, [.int .i64 p0.kind, .int .i64 p0.n, .str p0.s, .sl (Val.rows p0.list), .sl (Fld.rows p0.fields)]⟩), (1, ⟨5, 0, true, [.int .i64 0, .int .i64 0, .str (⟨#[]⟩ : ByteArray), .ms 3 5 0 0, .ms 4 6 0 0]⟩), (2, ⟨5, 0, true, [.int .i64 p0.kind, .int .i64 p0.n, .str p0.s, .ms 5 5 0 (List.length q0), .ms 6 6 0 0]⟩), (3, ⟨5, 0, true, []⟩), (4, ⟨6, 0, true, []⟩), (5, ⟨5, 0, true, (Val.rows q0).flatten⟩), (6, ⟨6, 0, true, []⟩)], 327⟩
theorem Qqb (p0 : Val) (i0 : Nat) (v0_1 : List Val) : VOK (Go.Pv.look (number 0 (Qg7 p0 i0 v0_1))) [(5, Val.rows v0_1)] := (VOK.cons (show Seen _ _ from Q2q (ob := ⟨5, 0, true, (Val.rows v0_1).flatten⟩) (Val.Q0 v0_1 5 rfl)) VOK.nil)
def Qev (p0 : Val) (e : En) (q : List Val) : Prop := ∃ z zo, Qb G e (.st (.exit 0) (Qhe p0 q z zo))
theorem Qgv (p0 : Val) {e e' : En} (h : ∀ r, Qb G e r → Qb G e' r) : ∀ q, Qev p0 e q → Qev p0 e' q
  | _, ⟨z, zo, hz⟩ => ⟨z, zo, h _ hz⟩
def Qma (_p0 : Val) (i1 : Nat) (_v1_1 : List Fld) : List PV :=
  [.un, .bx 0 0, .bx 1 0, .bx 2 0, .un, .int .i64 (i1 : Int)] ++ nuns 52
def Qfh (p0 : Val) (_i1 : Nat) (v1_1 : List Fld) : List Ob :=
  [⟨5, 0, true, [.int .i64 p0.kind, .int .i64 p0.n, .str p0.s, .sl (Val.rows p0.list), .sl (Fld.rows p0.fields)]⟩, ⟨5, 0, true, [.int .i64 0, .int .i64 0, .str (⟨#[]⟩ : ByteArray), .ms 3 5 0 0, .ms 4 6 0 0]⟩, ⟨5, 0, true, [.int .i64 p0.kind, .int .i64 p0.n, .str p0.s, .ms 5 5 0 (List.length (Q1u p0 p0.list 0 [])), .ms 6 6 0 (List.length v1_1)]⟩, ⟨5, 0, true, []⟩, ⟨6, 0, true, []⟩, ⟨5, 0, true, (Val.rows (Q1u p0 p0.list 0 [])).flatten⟩, ⟨6, 0, true, (Fld.rows v1_1).flatten⟩]
def Qfi (p0 : Val) (i1 : Nat) (v1_1 : List Fld) : En := .loop 0 Ir.Qdf Ir.Qtv (Qma p0 i1 v1_1) (Qfh p0 i1 v1_1)
def Qii (p0 : Val) (q0 : List Fld) (z : Nat → PV) (_zo : Nat → List PV) : St :=
  ⟨[z 0, z 1, .bx 1 0, .bx 2 0] ++ zr z 4 54, [(0, ⟨5, 0, true, [.int .i64 p0.kind, .int .i64 p0.n, .str p0.s, .sl (Val.rows p0.list), .sl (Fld.rows p0.fields)]⟩), (1, ⟨5, 0, true, [.int .i64 0, .int .i64 0, .str (⟨#[]⟩ : ByteArray), .ms 3 5 0 0, .ms 4 6 0 0]⟩), (2, ⟨5, 0, true, [.int .i64 p0.kind, .int .i64 p0.n, .str p0.s, .ms 5 5 0 (List.length (Q1u p0 p0.list 0 [])), .ms 6 6 0 (List.length q0)]⟩), (3, ⟨5, 0, true, []⟩), (4, ⟨6, 0, true, []⟩), (5, ⟨5, 0, true, (Val.rows (Q1u p0 p0.list 0 [])).flatten⟩), (6, ⟨6, 0, true, (Fld.rows q0).flatten⟩)], 327⟩
theorem Qr1 (p0 : Val) (i1 : Nat) (v1_1 : List Fld) : VOK (Go.Pv.look (number 0 (Qfh p0 i1 v1_1))) [(5, Val.rows (Q1u p0 p0.list 0 [])), (6, Fld.rows v1_1)] := (VOK.cons (show Seen _ _ from Q2q (ob := ⟨5, 0, true, (Val.rows (Q1u p0 p0.list 0 [])).flatten⟩) (Val.Q0 (Q1u p0 p0.list 0 []) 5 rfl)) (VOK.cons (show Seen _ _ from Q2q (ob := ⟨6, 0, true, (Fld.rows v1_1).flatten⟩) (Fld.Q0 v1_1 6 rfl)) VOK.nil))
def Qfp (p0 : Val) (e : En) (q : List Fld) : Prop := ∃ z zo, Qb G e (.st (.exit 2) (Qii p0 q z zo))
theorem Qif (p0 : Val) {e e' : En} (h : ∀ r, Qb G e r → Qb G e' r) : ∀ q, Qfp p0 e q → Qfp p0 e' q
  | _, ⟨z, zo, hz⟩ => ⟨z, zo, h _ hz⟩
def c_Kd (p0 : Val) : En := .call 52 [.agg (Val.cells p0)] []
def a_Kd (p0 : Val) : Rs := .ret (.agg (Val.cells (s_Kd p0))) []
abbrev H_Kd (p0 : Val) : Prop := Val.Sm 1000 p0
def Qbu (p0 : Val) : Prop := ∀ (q : Val), SizeOf.sizeOf q < SizeOf.sizeOf p0 → H_Kd q → Qb G (c_Kd q) (a_Kd q)
def Qf2 (p0 : Val) : Prop := (List.length p0.list ≤ 137438953472) ∧ (∀ x0 ∈ p0.list, H_Kd x0) ∧ True
def Qf5 (p0 : Val) : Prop := (List.length p0.fields ≤ 137438953472) ∧ (∀ x1 ∈ p0.fields, H_Kd x1.v) ∧ True
theorem Qov (p0 : Val) (H : H_Kd p0) : (Qf2 p0) ∧ (Qf5 p0) ∧ True := by
  obtain ⟨h1, h2, h3, h4⟩ := H.all
  exact ⟨⟨by omega, h3, trivial⟩, ⟨by omega, h4, trivial⟩, trivial⟩
def Qiy (p0 : Val) (i0 : Nat) (_v0_1 : List Val) : List PV :=
  [.un, .un, .un, .un, .int .i64 (i0 : Int)] ++ nuns 8 ++ [.int .i64 (i0 : Int), .bx 0 3, .sl (Val.rows p0.list), .int .i64 ((List.length p0.list) : Int), .bool false]
def Qcy (_p0 : Val) (_i0 : Nat) (_v0_1 : List Val) : List (Nat × List PV) :=
  []
theorem Qpd (p0 : Val) (_H : Qf2 p0) (_rec : Qbu p0) (i0 : Nat) (v0_1 : List Val) (_ho0_0 : List.length v0_1 ≤ i0) (hc0 : (decide ((i0 : Int) < ((List.length p0.list) : Int))) = false) : Qev p0 (Qfz p0 i0 v0_1) v0_1 := by
 exact ⟨(envF (Qiy p0 i0 v0_1)), (zoF (Qcy p0 i0 v0_1)), Qn (Qqb p0 i0 v0_1) (x := ((.exit 0), Qhe p0 v0_1 (envF (Qiy p0 i0 v0_1)) (zoF (Qcy p0 i0 v0_1)))) [hP 3 (Qk (Val.rows p0.list) (List.length p0.list) (Val.Q9 p0.list)), hB 0 hc0] [] (by kernel_rfl)⟩
theorem Qq2 (p0 : Val) (H : Qf2 p0) (rec : Qbu p0) (x0 : Val) (i0 : Nat) (v0_1 : List Val) (hx0 : p0.list[i0]? = some x0) (hi0 : i0 < List.length p0.list) (ho0_0 : List.length v0_1 ≤ i0) (hc0 : (decide ((i0 : Int) < ((List.length p0.list) : Int))) = true) {r : Rs} (hr : Qb G (Qfz p0 (i0 + 1) (v0_1 ++ [(s_Kd x0)])) r) : Qb G (Qfz p0 i0 v0_1) r := by
 have hB0 := H.1
 exact Qi (Qqb p0 i0 v0_1) (y := (Qlm p0 (i0 + 1) (v0_1 ++ [(s_Kd x0)]), Qg7 p0 (i0 + 1) (v0_1 ++ [(s_Kd x0)]))) [hP 3 (Qk (Val.rows p0.list) (List.length p0.list) (Val.Q9 p0.list)), hB 0 hc0, hP 5 (Q2p 5 (Val.rows p0.list) i0 _ (Val.Qj hx0) rfl), hV 3 [(903, Val.rows (v0_1 ++ [(s_Kd x0)]))] (Qbc 5 839 903 5 80 0 0 true (Val.rows v0_1) (Val.rows (v0_1 ++ [(s_Kd x0)])) (Val.cells (s_Kd x0)) (List.length v0_1) (List.length (v0_1 ++ [(s_Kd x0)])) rfl (Val.Q9 v0_1).symm (Val.Q9 (v0_1 ++ [(s_Kd x0)])).symm (Val.Q2i v0_1 (s_Kd x0)) (Val.Qm v0_1) rfl (by omega)), hS 0 true (Val.Q0 (v0_1 ++ [(s_Kd x0)]) 5 rfl), hP 3 (Q20 i0 (by omega))] [aN (rec x0 (szL hx0) (H.2.1 x0 (Q2l hx0)))] (by kernel_rfl) hr
theorem Qlc (p0 : Val) (H : Qf2 p0) (rec : Qbu p0) : ∀ (r0 : List Val) (i0 : Nat) (v0_1 : List Val), List.drop i0 p0.list = r0 → List.length v0_1 ≤ i0 → Qev p0 (Qfz p0 i0 v0_1) (Q1u p0 r0 i0 v0_1)
 | [], i0, v0_1, hd, ho0_0 => by
  have hc0 : (decide ((i0 : Int) < ((List.length p0.list) : Int))) = false := by have := Q2j hd; simp; omega
  rw [Q1u]
  exact Qpd p0 H rec i0 v0_1 ho0_0 hc0
 | x0 :: r0, i0, v0_1, hd, ho0_0 => by
  obtain ⟨hx0, hi0, hd'⟩ := Q1s hd
  have hc0 : (decide ((i0 : Int) < ((List.length p0.list) : Int))) = true := by simp; omega
  rw [Q1u]
  exact Qgv p0 (fun r hr => Qq2 p0 H rec x0 i0 v0_1 hx0 hi0 ho0_0 hc0 hr) _ (Qlc p0 H rec r0 (i0 + 1) (v0_1 ++ [(s_Kd x0)]) hd' (by first | omega | (simp; omega)))
def Qgs (p0 : Val) (i1 : Nat) (_v1_1 : List Fld) : List PV :=
  [.un, .bx 0 0, .un, .un, .un, .int .i64 (i1 : Int)] ++ nuns 25 ++ [.int .i64 (i1 : Int), .bx 0 4, .sl (Fld.rows p0.fields), .int .i64 ((List.length p0.fields) : Int), .bool false]
def Qct (_p0 : Val) (_i1 : Nat) (_v1_1 : List Fld) : List (Nat × List PV) :=
  []
theorem Qox (p0 : Val) (_H : Qf5 p0) (_rec : Qbu p0) (i1 : Nat) (v1_1 : List Fld) (_ho1_0 : List.length v1_1 ≤ i1) (hc1 : (decide ((i1 : Int) < ((List.length p0.fields) : Int))) = false) : Qfp p0 (Qfi p0 i1 v1_1) v1_1 := by
 exact ⟨(envF (Qgs p0 i1 v1_1)), (zoF (Qct p0 i1 v1_1)), Qn (Qr1 p0 i1 v1_1) (x := ((.exit 2), Qii p0 v1_1 (envF (Qgs p0 i1 v1_1)) (zoF (Qct p0 i1 v1_1)))) [hP 3 (Qk (Fld.rows p0.fields) (List.length p0.fields) (Fld.Q9 p0.fields)), hB 0 hc1] [] (by kernel_rfl)⟩
theorem Qqj (p0 : Val) (H : Qf5 p0) (rec : Qbu p0) (x1 : Fld) (i1 : Nat) (v1_1 : List Fld) (hx1 : p0.fields[i1]? = some x1) (hi1 : i1 < List.length p0.fields) (ho1_0 : List.length v1_1 ≤ i1) (hc1 : (decide ((i1 : Int) < ((List.length p0.fields) : Int))) = true) {r : Rs} (hr : Qb G (Qfi p0 (i1 + 1) (v1_1 ++ [(Fld.mk x1.name (s_Kd x1.v))])) r) : Qb G (Qfi p0 i1 v1_1) r := by
 have hB0 := H.1
 exact Qi (Qr1 p0 i1 v1_1) (y := (Qma p0 (i1 + 1) (v1_1 ++ [(Fld.mk x1.name (s_Kd x1.v))]), Qfh p0 (i1 + 1) (v1_1 ++ [(Fld.mk x1.name (s_Kd x1.v))]))) [hP 3 (Qk (Fld.rows p0.fields) (List.length p0.fields) (Fld.Q9 p0.fields)), hB 0 hc1, hP 5 (Q2p 6 (Fld.rows p0.fields) i1 _ (Fld.Qj hx1) rfl), hP 5 (Q2p 6 (Fld.rows p0.fields) i1 _ (Fld.Qj hx1) rfl), hV 5 [(1415, Fld.rows (v1_1 ++ [(Fld.mk x1.name (s_Kd x1.v))]))] (Qbc 6 1351 1415 6 96 0 0 true (Fld.rows v1_1) (Fld.rows (v1_1 ++ [(Fld.mk x1.name (s_Kd x1.v))])) (Fld.cells (Fld.mk x1.name (s_Kd x1.v))) (List.length v1_1) (List.length (v1_1 ++ [(Fld.mk x1.name (s_Kd x1.v))])) rfl (Fld.Q9 v1_1).symm (Fld.Q9 (v1_1 ++ [(Fld.mk x1.name (s_Kd x1.v))])).symm (Fld.Q2i v1_1 (Fld.mk x1.name (s_Kd x1.v))) (Fld.Qm v1_1) rfl (by omega)), hS 0 true (Fld.Q0 (v1_1 ++ [(Fld.mk x1.name (s_Kd x1.v))]) 6 rfl), hP 3 (Q20 i1 (by omega))] [aN (rec x1.v (szF hx1) (H.2.1 x1 (Q2l hx1)))] (by kernel_rfl) hr
theorem Qm3 (p0 : Val) (H : Qf5 p0) (rec : Qbu p0) : ∀ (r1 : List Fld) (i1 : Nat) (v1_1 : List Fld), List.drop i1 p0.fields = r1 → List.length v1_1 ≤ i1 → Qfp p0 (Qfi p0 i1 v1_1) (Q3p p0 r1 i1 v1_1)
 | [], i1, v1_1, hd, ho1_0 => by
  have hc1 : (decide ((i1 : Int) < ((List.length p0.fields) : Int))) = false := by have := Q2j hd; simp; omega
  rw [Q3p]
  exact Qox p0 H rec i1 v1_1 ho1_0 hc1
 | x1 :: r1, i1, v1_1, hd, ho1_0 => by
  obtain ⟨hx1, hi1, hd'⟩ := Q1s hd
  have hc1 : (decide ((i1 : Int) < ((List.length p0.fields) : Int))) = true := by simp; omega
  rw [Q3p]
  exact Qif p0 (fun r hr => Qqj p0 H rec x1 i1 v1_1 hx1 hi1 ho1_0 hc1 hr) _ (Qm3 p0 H rec r1 (i1 + 1) (v1_1 ++ [(Fld.mk x1.name (s_Kd x1.v))]) hd' (by first | omega | (simp; omega)))
theorem r_Kd (p0 : Val) (H : H_Kd p0) (rec : Qbu p0) : Qb G (c_Kd p0) (a_Kd p0) := by
  unfold a_Kd
  rw [s_Kd]
  have hl0 := Qlc p0 ((Qov p0 H).1) rec p0.list 0 [] (by simp) (by simp)
  obtain ⟨z0, zo0, hl0⟩ := hl0
  have hl1 := Qm3 p0 ((Qov p0 H).2.1) rec p0.fields 0 [] (by simp) (by simp)
  obtain ⟨z1, zo1, hl1⟩ := hl1
  exact Qc (fn := Ir.Kd) rfl VOK.nil [hS 0 true (Val.Q0 (Q1u p0 p0.list 0 []) 5 rfl), hS 0 true (Val.Q0 (Q1u p0 p0.list 0 []) 5 rfl), hS 0 true (Fld.Q0 (Q3p p0 p0.fields 0 []) 6 rfl), hQ (Val.Q9 (Q1u p0 p0.list 0 [])).symm, hQ (Fld.Q9 (Q3p p0 p0.fields 0 [])).symm] [aV [(5, Val.rows (Q1u p0 p0.list 0 []))] hl0, aV [(5, Val.rows (Q1u p0 p0.list 0 [])), (6, Fld.rows (Q3p p0 p0.fields 0 []))] hl1] (by kernel_rfl)
theorem i_Kd : ∀ (k : Nat) (p0 : Val), SizeOf.sizeOf p0 < k → H_Kd p0 → Qb G (c_Kd p0) (a_Kd p0)
  | 0, _, h, _ => absurd h (Nat.not_lt_zero _)
  | k + 1, p0, h, H => r_Kd p0 H (fun q hq hH => i_Kd k q (by omega) hH)
theorem t_Kd (p0 : Val) (H : H_Kd p0) : Qb G (c_Kd p0) (a_Kd p0) := i_Kd _ p0 (Nat.lt_succ_self _) H
def Qy (p0 : List Fld) (p1 : Fld) : List Fld → Nat → (List Fld) → Bool → (List Fld) × Bool
 | [], _i0, v0_1, v0_2 =>
  (v0_1, v0_2)
 | x0 :: r0, i0, v0_1, v0_2 =>
  bif (v0_2 == true) then
   bif (sEq x0.name p1.name) then
    Qy p0 p1 r0 (i0 + 1) v0_1 v0_2
   else
    Qy p0 p1 r0 (i0 + 1) (v0_1 ++ [x0]) v0_2
  else
   bif ((sLt p1.name x0.name) || (sEq p1.name x0.name)) then
    bif (sEq x0.name p1.name) then
     Qy p0 p1 r0 (i0 + 1) (v0_1 ++ [p1]) true
    else
     Qy p0 p1 r0 (i0 + 1) ((v0_1 ++ [p1]) ++ [x0]) true
   else
    bif (sEq x0.name p1.name) then
     Qy p0 p1 r0 (i0 + 1) v0_1 v0_2
    else
     Qy p0 p1 r0 (i0 + 1) (v0_1 ++ [x0]) v0_2
def Q4r (p0 : List Fld) (_p1 : Fld) (i0 : Nat) (v0_1 : List Fld) (v0_2 : Bool) : List PV :=
  [.sl (Fld.rows p0), .un, .un, .bx 0 0, .un, .ms 1 6 0 (List.length v0_1), .bool v0_2, .int .i64 (i0 : Int)] ++ nuns 44
def Q3x (_p0 : List Fld) (p1 : Fld) (_i0 : Nat) (v0_1 : List Fld) (_v0_2 : Bool) : List Ob :=
  [⟨6, 0, true, [.str p1.name, .int .i64 p1.v.kind, .int .i64 p1.v.n, .str p1.v.s, .sl (Val.rows p1.v.list), .sl (Fld.rows p1.v.fields)]⟩, ⟨6, 0, true, (Fld.rows v0_1).flatten⟩]
def Q2r (p0 : List Fld) (p1 : Fld) (i0 : Nat) (v0_1 : List Fld) (v0_2 : Bool) : En := .loop 0 Ir.Qdt Ir.Qv7 (Q4r p0 p1 i0 v0_1 v0_2) (Q3x p0 p1 i0 v0_1 v0_2)
def Qic (_p0 : List Fld) (p1 : Fld) (q0 : List Fld) (q1 : Bool) (z : Nat → PV) (_zo : Nat → List PV) : St :=
  ⟨[z 0, z 1, z 2, .bx 0 0, z 4, .ms 1 6 0 (List.length q0), .bool q1] ++ zr z 7 45, [(0, ⟨6, 0, true, [.str p1.name, .int .i64 p1.v.kind, .int .i64 p1.v.n, .str p1.v.s, .sl (Val.rows p1.v.list), .sl (Fld.rows p1.v.fields)]⟩), (1, ⟨6, 0, true, (Fld.rows q0).flatten⟩)], 258⟩
theorem Q6e (p0 : List Fld) (p1 : Fld) (i0 : Nat) (v0_1 : List Fld) (v0_2 : Bool) : VOK (Go.Pv.look (number 0 (Q3x p0 p1 i0 v0_1 v0_2))) [(1, Fld.rows v0_1)] := (VOK.cons (show Seen _ _ from Q2q (ob := ⟨6, 0, true, (Fld.rows v0_1).flatten⟩) (Fld.Q0 v0_1 6 rfl)) VOK.nil)
def Qge (p0 : List Fld) (p1 : Fld) (e : En) (q : (List Fld) × Bool) : Prop := ∃ z zo, Qb G e (.st (.exit 0) (Qic p0 p1 q.1 q.2 z zo))
theorem Q2n (p0 : List Fld) (p1 : Fld) {e e' : En} (h : ∀ r, Qb G e r → Qb G e' r) : ∀ q, Qge p0 p1 e q → Qge p0 p1 e' q
  | _, ⟨z, zo, hz⟩ => ⟨z, zo, h _ hz⟩
def Q4h (p0 : List Fld) (_p1 : Fld) : Prop := (List.length p0 ≤ 137438953472) ∧ True
def Qj9 (p0 : List Fld) (_p1 : Fld) (i0 : Nat) (_v0_1 : List Fld) (_v0_2 : Bool) : List PV :=
  [.sl (Fld.rows p0)] ++ nuns 6 ++ [.int .i64 (i0 : Int), .int .i64 (i0 : Int), .sl (Fld.rows p0), .int .i64 ((List.length p0) : Int), .bool false]
def Qcn (_p0 : List Fld) (_p1 : Fld) (_i0 : Nat) (_v0_1 : List Fld) (_v0_2 : Bool) : List (Nat × List PV) :=
  []
theorem Qqd (p0 : List Fld) (p1 : Fld) (_H : Q4h p0 p1) (i0 : Nat) (v0_1 : List Fld) (v0_2 : Bool) (_ho0_0 : List.length v0_1 ≤ 2 * i0) (hc0 : (decide ((i0 : Int) < ((List.length p0) : Int))) = false) : Qge p0 p1 (Q2r p0 p1 i0 v0_1 v0_2) (v0_1, v0_2) := by
 exact ⟨(envF (Qj9 p0 p1 i0 v0_1 v0_2)), (zoF (Qcn p0 p1 i0 v0_1 v0_2)), Qn (Q6e p0 p1 i0 v0_1 v0_2) (x := ((.exit 0), Qic p0 p1 v0_1 v0_2 (envF (Qj9 p0 p1 i0 v0_1 v0_2)) (zoF (Qcn p0 p1 i0 v0_1 v0_2)))) [hP 2 (Qk (Fld.rows p0) (List.length p0) (Fld.Q9 p0)), hB 0 hc0] [] (by kernel_rfl)⟩
theorem Qp5 (p0 : List Fld) (p1 : Fld) (H : Q4h p0 p1) (x0 : Fld) (i0 : Nat) (v0_1 : List Fld) (v0_2 : Bool) (hx0 : p0[i0]? = some x0) (hi0 : i0 < List.length p0) (_ho0_0 : List.length v0_1 ≤ 2 * i0) (hc0 : (decide ((i0 : Int) < ((List.length p0) : Int))) = true) (h0 : (v0_2 == true) = true) (h1 : (sEq x0.name p1.name) = true) {r : Rs} (hr : Qb G (Q2r p0 p1 (i0 + 1) v0_1 v0_2) r) : Qb G (Q2r p0 p1 i0 v0_1 v0_2) r := by
 have hB0 := H.1
 exact Qi (Q6e p0 p1 i0 v0_1 v0_2) (y := (Q4r p0 p1 (i0 + 1) v0_1 v0_2, Q3x p0 p1 (i0 + 1) v0_1 v0_2)) [hP 2 (Qk (Fld.rows p0) (List.length p0) (Fld.Q9 p0)), hB 0 hc0, hB 0 (beqT h0), hP 13 (Q2p 6 (Fld.rows p0) i0 _ (Fld.Qj hx0) rfl), hP 4 (dec (!(sEq x0.name p1.name)) false (by rw [h1]; rfl)), hP 1 (Q20 i0 (by omega))] [] (by kernel_rfl) hr
theorem Qq6 (p0 : List Fld) (p1 : Fld) (H : Q4h p0 p1) (x0 : Fld) (i0 : Nat) (v0_1 : List Fld) (v0_2 : Bool) (hx0 : p0[i0]? = some x0) (hi0 : i0 < List.length p0) (ho0_0 : List.length v0_1 ≤ 2 * i0) (hc0 : (decide ((i0 : Int) < ((List.length p0) : Int))) = true) (h0 : (v0_2 == true) = true) (h1 : (sEq x0.name p1.name) = false) {r : Rs} (hr : Qb G (Q2r p0 p1 (i0 + 1) (v0_1 ++ [x0]) v0_2) r) : Qb G (Q2r p0 p1 i0 v0_1 v0_2) r := by
 have hB0 := H.1
 exact Qi (Q6e p0 p1 i0 v0_1 v0_2) (y := (Q4r p0 p1 (i0 + 1) (v0_1 ++ [x0]) v0_2, Q3x p0 p1 (i0 + 1) (v0_1 ++ [x0]) v0_2)) [hP 2 (Qk (Fld.rows p0) (List.length p0) (Fld.Q9 p0)), hB 0 hc0, hB 0 (beqT h0), hP 13 (Q2p 6 (Fld.rows p0) i0 _ (Fld.Qj hx0) rfl), hP 4 (dec (!(sEq x0.name p1.name)) true (by rw [h1]; rfl)), hP 3 (Q2p 6 (Fld.rows p0) i0 _ (Fld.Qj hx0) rfl), hV 2 [(1922, Fld.rows (v0_1 ++ [x0]))] (Qbc 1 1858 1922 6 96 0 0 true (Fld.rows v0_1) (Fld.rows (v0_1 ++ [x0])) (Fld.cells x0) (List.length v0_1) (List.length (v0_1 ++ [x0])) rfl (Fld.Q9 v0_1).symm (Fld.Q9 (v0_1 ++ [x0])).symm (Fld.Q2i v0_1 x0) (Fld.Qm v0_1) rfl (by omega)), hS 0 true (Fld.Q0 (v0_1 ++ [x0]) 6 rfl), hP 2 (Q20 i0 (by omega))] [] (by kernel_rfl) hr
theorem Qoq (p0 : List Fld) (p1 : Fld) (H : Q4h p0 p1) (x0 : Fld) (i0 : Nat) (v0_1 : List Fld) (v0_2 : Bool) (hx0 : p0[i0]? = some x0) (hi0 : i0 < List.length p0) (ho0_0 : List.length v0_1 ≤ 2 * i0) (hc0 : (decide ((i0 : Int) < ((List.length p0) : Int))) = true) (h0 : (v0_2 == true) = false) (h1 : ((sLt p1.name x0.name) || (sEq p1.name x0.name)) = true) (h2 : (sEq x0.name p1.name) = true) {r : Rs} (hr : Qb G (Q2r p0 p1 (i0 + 1) (v0_1 ++ [p1]) true) r) : Qb G (Q2r p0 p1 i0 v0_1 v0_2) r := by
 have hB0 := H.1
 exact Qi (Q6e p0 p1 i0 v0_1 v0_2) (y := (Q4r p0 p1 (i0 + 1) (v0_1 ++ [p1]) true, Q3x p0 p1 (i0 + 1) (v0_1 ++ [p1]) true)) [hP 2 (Qk (Fld.rows p0) (List.length p0) (Fld.Q9 p0)), hB 0 hc0, hB 0 (beqT h0), hP 6 (Q2p 6 (Fld.rows p0) i0 _ (Fld.Qj hx0) rfl), hB 2 h1, hV 4 [(1218, Fld.rows (v0_1 ++ [p1]))] (Qbc 1 1154 1218 6 96 0 0 true (Fld.rows v0_1) (Fld.rows (v0_1 ++ [p1])) (Fld.cells p1) (List.length v0_1) (List.length (v0_1 ++ [p1])) rfl (Fld.Q9 v0_1).symm (Fld.Q9 (v0_1 ++ [p1])).symm (Fld.Q2i v0_1 p1) (Fld.Qm v0_1) rfl (by omega)), hS 0 true (Fld.Q0 (v0_1 ++ [p1]) 6 rfl), hP 4 (Q2p 6 (Fld.rows p0) i0 _ (Fld.Qj hx0) rfl), hP 4 (dec (!(sEq x0.name p1.name)) false (by rw [h2]; rfl)), hP 1 (Q20 i0 (by omega))] [] (by kernel_rfl) hr
theorem Qql (p0 : List Fld) (p1 : Fld) (H : Q4h p0 p1) (x0 : Fld) (i0 : Nat) (v0_1 : List Fld) (v0_2 : Bool) (hx0 : p0[i0]? = some x0) (hi0 : i0 < List.length p0) (ho0_0 : List.length v0_1 ≤ 2 * i0) (hc0 : (decide ((i0 : Int) < ((List.length p0) : Int))) = true) (h0 : (v0_2 == true) = false) (h1 : ((sLt p1.name x0.name) || (sEq p1.name x0.name)) = true) (h2 : (sEq x0.name p1.name) = false) {r : Rs} (hr : Qb G (Q2r p0 p1 (i0 + 1) ((v0_1 ++ [p1]) ++ [x0]) true) r) : Qb G (Q2r p0 p1 i0 v0_1 v0_2) r := by
 have hB0 := H.1
 exact Qi (Q6e p0 p1 i0 v0_1 v0_2) (y := (Q4r p0 p1 (i0 + 1) ((v0_1 ++ [p1]) ++ [x0]) true, Q3x p0 p1 (i0 + 1) ((v0_1 ++ [p1]) ++ [x0]) true)) [hP 2 (Qk (Fld.rows p0) (List.length p0) (Fld.Q9 p0)), hB 0 hc0, hB 0 (beqT h0), hP 6 (Q2p 6 (Fld.rows p0) i0 _ (Fld.Qj hx0) rfl), hB 2 h1, hV 4 [(1218, Fld.rows (v0_1 ++ [p1]))] (Qbc 1 1154 1218 6 96 0 0 true (Fld.rows v0_1) (Fld.rows (v0_1 ++ [p1])) (Fld.cells p1) (List.length v0_1) (List.length (v0_1 ++ [p1])) rfl (Fld.Q9 v0_1).symm (Fld.Q9 (v0_1 ++ [p1])).symm (Fld.Q2i v0_1 p1) (Fld.Qm v0_1) rfl (by omega)), hS 0 true (Fld.Q0 (v0_1 ++ [p1]) 6 rfl), hP 4 (Q2p 6 (Fld.rows p0) i0 _ (Fld.Qj hx0) rfl), hP 4 (dec (!(sEq x0.name p1.name)) true (by rw [h2]; rfl)), hP 3 (Q2p 6 (Fld.rows p0) i0 _ (Fld.Qj hx0) rfl), hV 2 [(2306, Fld.rows ((v0_1 ++ [p1]) ++ [x0]))] (Qbc 1218 2242 2306 6 96 0 0 true (Fld.rows (v0_1 ++ [p1])) (Fld.rows ((v0_1 ++ [p1]) ++ [x0])) (Fld.cells x0) (List.length (v0_1 ++ [p1])) (List.length ((v0_1 ++ [p1]) ++ [x0])) rfl (Fld.Q9 (v0_1 ++ [p1])).symm (Fld.Q9 ((v0_1 ++ [p1]) ++ [x0])).symm (Fld.Q2i (v0_1 ++ [p1]) x0) (Fld.Qm (v0_1 ++ [p1])) rfl (by try simp only [List.length_append, List.length_cons, List.length_nil]; omega)), hS 0 true (Fld.Q0 ((v0_1 ++ [p1]) ++ [x0]) 6 rfl), hP 2 (Q20 i0 (by omega))] [] (by kernel_rfl) hr
theorem Qr6 (p0 : List Fld) (p1 : Fld) (H : Q4h p0 p1) (x0 : Fld) (i0 : Nat) (v0_1 : List Fld) (v0_2 : Bool) (hx0 : p0[i0]? = some x0) (hi0 : i0 < List.length p0) (_ho0_0 : List.length v0_1 ≤ 2 * i0) (hc0 : (decide ((i0 : Int) < ((List.length p0) : Int))) = true) (h0 : (v0_2 == true) = false) (h1 : ((sLt p1.name x0.name) || (sEq p1.name x0.name)) = false) (h2 : (sEq x0.name p1.name) = true) {r : Rs} (hr : Qb G (Q2r p0 p1 (i0 + 1) v0_1 v0_2) r) : Qb G (Q2r p0 p1 i0 v0_1 v0_2) r := by
 have hB0 := H.1
 exact Qi (Q6e p0 p1 i0 v0_1 v0_2) (y := (Q4r p0 p1 (i0 + 1) v0_1 v0_2, Q3x p0 p1 (i0 + 1) v0_1 v0_2)) [hP 2 (Qk (Fld.rows p0) (List.length p0) (Fld.Q9 p0)), hB 0 hc0, hB 0 (beqT h0), hP 6 (Q2p 6 (Fld.rows p0) i0 _ (Fld.Qj hx0) rfl), hB 2 h1, hP 3 (Q2p 6 (Fld.rows p0) i0 _ (Fld.Qj hx0) rfl), hP 4 (dec (!(sEq x0.name p1.name)) false (by rw [h2]; rfl)), hP 1 (Q20 i0 (by omega))] [] (by kernel_rfl) hr
theorem Qpi (p0 : List Fld) (p1 : Fld) (H : Q4h p0 p1) (x0 : Fld) (i0 : Nat) (v0_1 : List Fld) (v0_2 : Bool) (hx0 : p0[i0]? = some x0) (hi0 : i0 < List.length p0) (ho0_0 : List.length v0_1 ≤ 2 * i0) (hc0 : (decide ((i0 : Int) < ((List.length p0) : Int))) = true) (h0 : (v0_2 == true) = false) (h1 : ((sLt p1.name x0.name) || (sEq p1.name x0.name)) = false) (h2 : (sEq x0.name p1.name) = false) {r : Rs} (hr : Qb G (Q2r p0 p1 (i0 + 1) (v0_1 ++ [x0]) v0_2) r) : Qb G (Q2r p0 p1 i0 v0_1 v0_2) r := by
 have hB0 := H.1
 exact Qi (Q6e p0 p1 i0 v0_1 v0_2) (y := (Q4r p0 p1 (i0 + 1) (v0_1 ++ [x0]) v0_2, Q3x p0 p1 (i0 + 1) (v0_1 ++ [x0]) v0_2)) [hP 2 (Qk (Fld.rows p0) (List.length p0) (Fld.Q9 p0)), hB 0 hc0, hB 0 (beqT h0), hP 6 (Q2p 6 (Fld.rows p0) i0 _ (Fld.Qj hx0) rfl), hB 2 h1, hP 3 (Q2p 6 (Fld.rows p0) i0 _ (Fld.Qj hx0) rfl), hP 4 (dec (!(sEq x0.name p1.name)) true (by rw [h2]; rfl)), hP 3 (Q2p 6 (Fld.rows p0) i0 _ (Fld.Qj hx0) rfl), hV 2 [(1922, Fld.rows (v0_1 ++ [x0]))] (Qbc 1 1858 1922 6 96 0 0 true (Fld.rows v0_1) (Fld.rows (v0_1 ++ [x0])) (Fld.cells x0) (List.length v0_1) (List.length (v0_1 ++ [x0])) rfl (Fld.Q9 v0_1).symm (Fld.Q9 (v0_1 ++ [x0])).symm (Fld.Q2i v0_1 x0) (Fld.Qm v0_1) rfl (by omega)), hS 0 true (Fld.Q0 (v0_1 ++ [x0]) 6 rfl), hP 2 (Q20 i0 (by omega))] [] (by kernel_rfl) hr
theorem Q4i (p0 : List Fld) (p1 : Fld) (H : Q4h p0 p1) : ∀ (r0 : List Fld) (i0 : Nat) (v0_1 : List Fld) (v0_2 : Bool), List.drop i0 p0 = r0 → List.length v0_1 ≤ 2 * i0 → Qge p0 p1 (Q2r p0 p1 i0 v0_1 v0_2) (Qy p0 p1 r0 i0 v0_1 v0_2)
 | [], i0, v0_1, v0_2, hd, ho0_0 => by
  have hc0 : (decide ((i0 : Int) < ((List.length p0) : Int))) = false := by have := Q2j hd; simp; omega
  rw [Qy]
  exact Qqd p0 p1 H i0 v0_1 v0_2 ho0_0 hc0
 | x0 :: r0, i0, v0_1, v0_2, hd, ho0_0 => by
  obtain ⟨hx0, hi0, hd'⟩ := Q1s hd
  have hc0 : (decide ((i0 : Int) < ((List.length p0) : Int))) = true := by simp; omega
  rw [Qy]
  cases h0 : (v0_2 == true) with
  | true =>
   cases h1 : (sEq x0.name p1.name) with
   | true =>
    exact Q2n p0 p1 (fun r hr => Qp5 p0 p1 H x0 i0 v0_1 v0_2 hx0 hi0 ho0_0 hc0 h0 h1 hr) _ (Q4i p0 p1 H r0 (i0 + 1) v0_1 v0_2 hd' (by first | omega | (simp; omega)))
   | false =>
    exact Q2n p0 p1 (fun r hr => Qq6 p0 p1 H x0 i0 v0_1 v0_2 hx0 hi0 ho0_0 hc0 h0 h1 hr) _ (Q4i p0 p1 H r0 (i0 + 1) (v0_1 ++ [x0]) v0_2 hd' (by first | omega | (simp; omega)))
  | false =>
   cases h1 : ((sLt p1.name x0.name) || (sEq p1.name x0.name)) with
   | true =>
    cases h2 : (sEq x0.name p1.name) with
    | true =>
     exact Q2n p0 p1 (fun r hr => Qoq p0 p1 H x0 i0 v0_1 v0_2 hx0 hi0 ho0_0 hc0 h0 h1 h2 hr) _ (Q4i p0 p1 H r0 (i0 + 1) (v0_1 ++ [p1]) true hd' (by first | omega | (simp; omega)))
    | false =>
     exact Q2n p0 p1 (fun r hr => Qql p0 p1 H x0 i0 v0_1 v0_2 hx0 hi0 ho0_0 hc0 h0 h1 h2 hr) _ (Q4i p0 p1 H r0 (i0 + 1) ((v0_1 ++ [p1]) ++ [x0]) true hd' (by first | omega | (simp; omega)))
   | false =>
    cases h2 : (sEq x0.name p1.name) with
    | true =>
     exact Q2n p0 p1 (fun r hr => Qr6 p0 p1 H x0 i0 v0_1 v0_2 hx0 hi0 ho0_0 hc0 h0 h1 h2 hr) _ (Q4i p0 p1 H r0 (i0 + 1) v0_1 v0_2 hd' (by first | omega | (simp; omega)))
    | false =>
     exact Q2n p0 p1 (fun r hr => Qpi p0 p1 H x0 i0 v0_1 v0_2 hx0 hi0 ho0_0 hc0 h0 h1 h2 hr) _ (Q4i p0 p1 H r0 (i0 + 1) (v0_1 ++ [x0]) v0_2 hd' (by first | omega | (simp; omega)))
def s_Kv (p0 : List Fld) (p1 : Fld) : List Fld :=
 bif (Qy p0 p1 p0 0 [] false).2 then
  (Qy p0 p1 p0 0 [] false).1
 else
  ((Qy p0 p1 p0 0 [] false).1 ++ [p1])
def c_Kv (p0 : List Fld) (p1 : Fld) : En := .call 53 [.sl (Fld.rows p0), .agg (Fld.cells p1)] []
def a_Kv (p0 : List Fld) (p1 : Fld) : Rs := .ret (.sl (Fld.rows (s_Kv p0 p1))) []
def H_Kv (p0 : List Fld) (p1 : Fld) : Prop := (Q4h p0 p1) ∧ ((Qy p0 p1 p0 0 [] false).2 = false → ((List.length (Qy p0 p1 p0 0 [] false).1) + 1) * 96 ≤ 140737488355328) ∧ True
theorem t_Kv (p0 : List Fld) (p1 : Fld) (H : H_Kv p0 p1) : Qb G (c_Kv p0 p1) (a_Kv p0 p1) := by
 unfold a_Kv s_Kv
 have hl0 := Q4i p0 p1 (H.1) p0 0 [] false (by simp) (by simp)
 obtain ⟨z0, zo0, hl0⟩ := hl0
 cases h0 : (Qy p0 p1 p0 0 [] false).2 with
 | true =>
  exact Qc (fn := Ir.Kv) rfl VOK.nil [hS 0 true (Fld.Q0 (Qy p0 p1 p0 0 [] false).1 6 rfl), hB 5 h0, hQ (Fld.Q9 (Qy p0 p1 p0 0 [] false).1).symm] [aV [(1, Fld.rows (Qy p0 p1 p0 0 [] false).1)] hl0] (by kernel_rfl)
 | false =>
  exact Qc (fn := Ir.Kv) rfl VOK.nil [hS 0 true (Fld.Q0 (Qy p0 p1 p0 0 [] false).1 6 rfl), hB 5 h0, hV 4 [(578, Fld.rows ((Qy p0 p1 p0 0 [] false).1 ++ [p1]))] (Qbc 1 514 578 6 96 0 0 true (Fld.rows (Qy p0 p1 p0 0 [] false).1) (Fld.rows ((Qy p0 p1 p0 0 [] false).1 ++ [p1])) (Fld.cells p1) (List.length (Qy p0 p1 p0 0 [] false).1) (List.length ((Qy p0 p1 p0 0 [] false).1 ++ [p1])) rfl (Fld.Q9 (Qy p0 p1 p0 0 [] false).1).symm (Fld.Q9 ((Qy p0 p1 p0 0 [] false).1 ++ [p1])).symm (Fld.Q2i (Qy p0 p1 p0 0 [] false).1 p1) (Fld.Qm (Qy p0 p1 p0 0 [] false).1) rfl (H.2.1 h0)), hS 0 true (Fld.Q0 ((Qy p0 p1 p0 0 [] false).1 ++ [p1]) 6 rfl), hQ (Fld.Q9 ((Qy p0 p1 p0 0 [] false).1 ++ [p1])).symm] [aV [(1, Fld.rows (Qy p0 p1 p0 0 [] false).1)] hl0] (by kernel_rfl)
def Q5d (p0 : List Fld) : List Fld → Nat → Val → Val
 | [], _i0, v0_1 =>
  v0_1
 | x0 :: r0, i0, v0_1 =>
  Q5d p0 r0 (i0 + 1) (Val.mk v0_1.kind v0_1.n v0_1.s v0_1.list (s_Kv v0_1.fields (Fld.mk x0.name (s_Kd x0.v))))
def Qm9 (p0 : List Fld) (i0 : Nat) (_v0_1 : Val) : List PV :=
  [.sl (Fld.rows p0), .un, .bx 0 0, .bx 1 0, .int .i64 (i0 : Int)] ++ nuns 24
def Qly (_p0 : List Fld) (_i0 : Nat) (v0_1 : Val) : List Ob :=
  [⟨5, 0, true, [.int .i64 0, .int .i64 0, .str (⟨#[]⟩ : ByteArray), .sl [], .sl []]⟩, ⟨5, 0, true, [.int .i64 v0_1.kind, .int .i64 v0_1.n, .str v0_1.s, .sl (Val.rows v0_1.list), .sl (Fld.rows v0_1.fields)]⟩]
def Qfa (p0 : List Fld) (i0 : Nat) (v0_1 : Val) : En := .loop 0 Ir.Qdn Ir.Qud (Qm9 p0 i0 v0_1) (Qly p0 i0 v0_1)
def Qhn (_p0 : List Fld) (q0 : Val) (z : Nat → PV) (_zo : Nat → List PV) : St :=
  ⟨[z 0, z 1, .bx 0 0, .bx 1 0] ++ zr z 4 25, [(0, ⟨5, 0, true, [.int .i64 0, .int .i64 0, .str (⟨#[]⟩ : ByteArray), .sl [], .sl []]⟩), (1, ⟨5, 0, true, [.int .i64 q0.kind, .int .i64 q0.n, .str q0.s, .sl (Val.rows q0.list), .sl (Fld.rows q0.fields)]⟩)], 258⟩
def Qf8 (p0 : List Fld) (e : En) (q : Val) : Prop := ∃ z zo, Qb G e (.st (.exit 0) (Qhn p0 q z zo))
theorem Qh5 (p0 : List Fld) {e e' : En} (h : ∀ r, Qb G e r → Qb G e' r) : ∀ q, Qf8 p0 e q → Qf8 p0 e' q
  | _, ⟨z, zo, hz⟩ => ⟨z, zo, h _ hz⟩
def Qfw (p0 : List Fld) : Prop := (List.length p0 ≤ 137438953472) ∧ (∀ x0 ∈ p0, H_Kd x0.v) ∧ (∀ (i0 : Nat) (v0_1 : Val) (x0 : Fld), p0[i0]? = some x0 → List.length v0_1.fields ≤ i0 → H_Kv v0_1.fields (Fld.mk x0.name (s_Kd x0.v))) ∧ (∀ (i0 : Nat) (v0_1 : Val) (x0 : Fld), p0[i0]? = some x0 → List.length v0_1.fields ≤ i0 → List.length (Val.mk v0_1.kind v0_1.n v0_1.s v0_1.list (s_Kv v0_1.fields (Fld.mk x0.name (s_Kd x0.v)))).fields ≤ (i0 + 1)) ∧ True
def Qhj (p0 : List Fld) (i0 : Nat) (_v0_1 : Val) : List PV :=
  [.sl (Fld.rows p0), .un, .un, .un, .int .i64 (i0 : Int), .un, .int .i64 (i0 : Int), .sl (Fld.rows p0), .int .i64 ((List.length p0) : Int), .bool false]
def Qd3 (_p0 : List Fld) (_i0 : Nat) (_v0_1 : Val) : List (Nat × List PV) :=
  []
theorem Qow (p0 : List Fld) (_H : Qfw p0) (i0 : Nat) (v0_1 : Val) (_ho0_0 : List.length v0_1.fields ≤ i0) (hc0 : (decide ((i0 : Int) < ((List.length p0) : Int))) = false) : Qf8 p0 (Qfa p0 i0 v0_1) v0_1 := by
 exact ⟨(envF (Qhj p0 i0 v0_1)), (zoF (Qd3 p0 i0 v0_1)), Qn VOK.nil (x := ((.exit 0), Qhn p0 v0_1 (envF (Qhj p0 i0 v0_1)) (zoF (Qd3 p0 i0 v0_1)))) [hP 2 (Qk (Fld.rows p0) (List.length p0) (Fld.Q9 p0)), hB 0 hc0] [] (by kernel_rfl)⟩
theorem Qpe (p0 : List Fld) (H : Qfw p0) (x0 : Fld) (i0 : Nat) (v0_1 : Val) (hx0 : p0[i0]? = some x0) (hi0 : i0 < List.length p0) (ho0_0 : List.length v0_1.fields ≤ i0) (hc0 : (decide ((i0 : Int) < ((List.length p0) : Int))) = true) {r : Rs} (hr : Qb G (Qfa p0 (i0 + 1) (Val.mk v0_1.kind v0_1.n v0_1.s v0_1.list (s_Kv v0_1.fields (Fld.mk x0.name (s_Kd x0.v))))) r) : Qb G (Qfa p0 i0 v0_1) r := by
 have hB0 := H.1
 exact Qi VOK.nil (y := (Qm9 p0 (i0 + 1) (Val.mk v0_1.kind v0_1.n v0_1.s v0_1.list (s_Kv v0_1.fields (Fld.mk x0.name (s_Kd x0.v)))), Qly p0 (i0 + 1) (Val.mk v0_1.kind v0_1.n v0_1.s v0_1.list (s_Kv v0_1.fields (Fld.mk x0.name (s_Kd x0.v)))))) [hP 2 (Qk (Fld.rows p0) (List.length p0) (Fld.Q9 p0)), hB 0 hc0, hP 4 (Q2p 6 (Fld.rows p0) i0 _ (Fld.Qj hx0) rfl), hP 4 (Q2p 6 (Fld.rows p0) i0 _ (Fld.Qj hx0) rfl), hP 8 (Q20 i0 (by omega))] [aN (t_Kd x0.v (H.2.1 x0 (Q2l hx0))), aN (t_Kv v0_1.fields (Fld.mk x0.name (s_Kd x0.v)) (H.2.2.1 i0 v0_1 x0 hx0 ho0_0))] (by kernel_rfl) hr
theorem Qmf (p0 : List Fld) (H : Qfw p0) : ∀ (r0 : List Fld) (i0 : Nat) (v0_1 : Val), List.drop i0 p0 = r0 → List.length v0_1.fields ≤ i0 → Qf8 p0 (Qfa p0 i0 v0_1) (Q5d p0 r0 i0 v0_1)
 | [], i0, v0_1, hd, ho0_0 => by
  have hc0 : (decide ((i0 : Int) < ((List.length p0) : Int))) = false := by have := Q2j hd; simp; omega
  rw [Q5d]
  exact Qow p0 H i0 v0_1 ho0_0 hc0
 | x0 :: r0, i0, v0_1, hd, ho0_0 => by
  obtain ⟨hx0, hi0, hd'⟩ := Q1s hd
  have hc0 : (decide ((i0 : Int) < ((List.length p0) : Int))) = true := by simp; omega
  rw [Q5d]
  exact Qh5 p0 (fun r hr => Qpe p0 H x0 i0 v0_1 hx0 hi0 ho0_0 hc0 hr) _ (Qmf p0 H r0 (i0 + 1) (Val.mk v0_1.kind v0_1.n v0_1.s v0_1.list (s_Kv v0_1.fields (Fld.mk x0.name (s_Kd x0.v)))) hd' ((H.2.2.2.1 i0 v0_1 x0 hx0 ho0_0)))
def s_Kj (p0 : List Fld) : Val :=
 (Q5d p0 p0 0 (Val.mk 5 0 (⟨#[]⟩ : ByteArray) [] []))
def c_Kj (p0 : List Fld) : En := .call 24 [.sl (Fld.rows p0)] []
def a_Kj (p0 : List Fld) : Rs := .ret (.agg (Val.cells (s_Kj p0))) []
def H_Kj (p0 : List Fld) : Prop := (Qfw p0) ∧ (List.length (Val.mk 5 0 (⟨#[]⟩ : ByteArray) [] []).fields ≤ 0) ∧ True
theorem t_Kj (p0 : List Fld) (H : H_Kj p0) : Qb G (c_Kj p0) (a_Kj p0) := by
 unfold a_Kj s_Kj
 have hl0 := Qmf p0 (H.1) p0 0 (Val.mk 5 0 (⟨#[]⟩ : ByteArray) [] []) (by simp) (H.2.1)
 obtain ⟨z0, zo0, hl0⟩ := hl0
 exact Qc (fn := Ir.Kj) rfl VOK.nil [] [aN hl0] (by kernel_rfl)
def Q3j (p0 : List Val) : List Val → Nat → (List Val) → List Val
 | [], _i0, v0_1 =>
  v0_1
 | x0 :: r0, i0, v0_1 =>
  Q3j p0 r0 (i0 + 1) (v0_1 ++ [(s_Kd x0)])
def Qlx (p0 : List Val) (i0 : Nat) (_v0_1 : List Val) : List PV :=
  [.sl (Val.rows p0), .un, .bx 0 0, .bx 1 0, .int .i64 (i0 : Int)] ++ nuns 18
def Qgg (_p0 : List Val) (_i0 : Nat) (v0_1 : List Val) : List Ob :=
  [⟨5, 0, true, [.int .i64 0, .int .i64 0, .str (⟨#[]⟩ : ByteArray), .ms 2 5 0 0, .ms 3 6 0 0]⟩, ⟨5, 0, true, [.int .i64 4, .int .i64 0, .str (⟨#[]⟩ : ByteArray), .ms 4 5 0 (List.length v0_1), .ms 5 6 0 0]⟩, ⟨5, 0, true, []⟩, ⟨6, 0, true, []⟩, ⟨5, 0, true, (Val.rows v0_1).flatten⟩, ⟨6, 0, true, []⟩]
def Qg2 (p0 : List Val) (i0 : Nat) (v0_1 : List Val) : En := .loop 0 Ir.Qe7 Ir.Qu3 (Qlx p0 i0 v0_1) (Qgg p0 i0 v0_1)
def Qgu (_p0 : List Val) (q0 : List Val) (z : Nat → PV) (_zo : Nat → List PV) : St :=
  ⟨[z 0, z 1, .bx 0 0, .bx 1 0] ++ zr z 4 19, [(0, ⟨5, 0, true, [.int .i64 0, .int .i64 0, .str (⟨#[]⟩ : ByteArray), .ms 2 5 0 0, .ms 3 6 0 0]⟩), (1, ⟨5, 0, true, [.int .i64 4, .int .i64 0, .str (⟨#[]⟩ : ByteArray), .ms 4 5 0 (List.length q0), .ms 5 6 0 0]⟩), (2, ⟨5, 0, true, []⟩), (3, ⟨6, 0, true, []⟩), (4, ⟨5, 0, true, (Val.rows q0).flatten⟩), (5, ⟨6, 0, true, []⟩)], 262⟩
theorem Qq7 (p0 : List Val) (i0 : Nat) (v0_1 : List Val) : VOK (Go.Pv.look (number 0 (Qgg p0 i0 v0_1))) [(4, Val.rows v0_1)] := (VOK.cons (show Seen _ _ from Q2q (ob := ⟨5, 0, true, (Val.rows v0_1).flatten⟩) (Val.Q0 v0_1 5 rfl)) VOK.nil)
def Qez (p0 : List Val) (e : En) (q : List Val) : Prop := ∃ z zo, Qb G e (.st (.exit 0) (Qgu p0 q z zo))
theorem Qh1 (p0 : List Val) {e e' : En} (h : ∀ r, Qb G e r → Qb G e' r) : ∀ q, Qez p0 e q → Qez p0 e' q
  | _, ⟨z, zo, hz⟩ => ⟨z, zo, h _ hz⟩
def Qfe (p0 : List Val) : Prop := (List.length p0 ≤ 137438953472) ∧ (∀ x0 ∈ p0, H_Kd x0) ∧ True
def Qhi (p0 : List Val) (i0 : Nat) (_v0_1 : List Val) : List PV :=
  [.sl (Val.rows p0), .un, .un, .un, .int .i64 (i0 : Int), .un, .int .i64 (i0 : Int), .sl (Val.rows p0), .int .i64 ((List.length p0) : Int), .bool false]
def Qds (_p0 : List Val) (_i0 : Nat) (_v0_1 : List Val) : List (Nat × List PV) :=
  []
theorem Qpj (p0 : List Val) (_H : Qfe p0) (i0 : Nat) (v0_1 : List Val) (_ho0_0 : List.length v0_1 ≤ i0) (hc0 : (decide ((i0 : Int) < ((List.length p0) : Int))) = false) : Qez p0 (Qg2 p0 i0 v0_1) v0_1 := by
 exact ⟨(envF (Qhi p0 i0 v0_1)), (zoF (Qds p0 i0 v0_1)), Qn (Qq7 p0 i0 v0_1) (x := ((.exit 0), Qgu p0 v0_1 (envF (Qhi p0 i0 v0_1)) (zoF (Qds p0 i0 v0_1)))) [hP 2 (Qk (Val.rows p0) (List.length p0) (Val.Q9 p0)), hB 0 hc0] [] (by kernel_rfl)⟩
theorem Qpp (p0 : List Val) (H : Qfe p0) (x0 : Val) (i0 : Nat) (v0_1 : List Val) (hx0 : p0[i0]? = some x0) (hi0 : i0 < List.length p0) (ho0_0 : List.length v0_1 ≤ i0) (hc0 : (decide ((i0 : Int) < ((List.length p0) : Int))) = true) {r : Rs} (hr : Qb G (Qg2 p0 (i0 + 1) (v0_1 ++ [(s_Kd x0)])) r) : Qb G (Qg2 p0 i0 v0_1) r := by
 have hB0 := H.1
 exact Qi (Qq7 p0 i0 v0_1) (y := (Qlx p0 (i0 + 1) (v0_1 ++ [(s_Kd x0)]), Qgg p0 (i0 + 1) (v0_1 ++ [(s_Kd x0)]))) [hP 2 (Qk (Val.rows p0) (List.length p0) (Val.Q9 p0)), hB 0 hc0, hP 4 (Q2p 5 (Val.rows p0) i0 _ (Val.Qj hx0) rfl), hV 3 [(774, Val.rows (v0_1 ++ [(s_Kd x0)]))] (Qbc 4 710 774 5 80 0 0 true (Val.rows v0_1) (Val.rows (v0_1 ++ [(s_Kd x0)])) (Val.cells (s_Kd x0)) (List.length v0_1) (List.length (v0_1 ++ [(s_Kd x0)])) rfl (Val.Q9 v0_1).symm (Val.Q9 (v0_1 ++ [(s_Kd x0)])).symm (Val.Q2i v0_1 (s_Kd x0)) (Val.Qm v0_1) rfl (by omega)), hS 0 true (Val.Q0 (v0_1 ++ [(s_Kd x0)]) 5 rfl), hP 3 (Q20 i0 (by omega))] [aN (t_Kd x0 (H.2.1 x0 (Q2l hx0)))] (by kernel_rfl) hr
theorem Qm2 (p0 : List Val) (H : Qfe p0) : ∀ (r0 : List Val) (i0 : Nat) (v0_1 : List Val), List.drop i0 p0 = r0 → List.length v0_1 ≤ i0 → Qez p0 (Qg2 p0 i0 v0_1) (Q3j p0 r0 i0 v0_1)
 | [], i0, v0_1, hd, ho0_0 => by
  have hc0 : (decide ((i0 : Int) < ((List.length p0) : Int))) = false := by have := Q2j hd; simp; omega
  rw [Q3j]
  exact Qpj p0 H i0 v0_1 ho0_0 hc0
 | x0 :: r0, i0, v0_1, hd, ho0_0 => by
  obtain ⟨hx0, hi0, hd'⟩ := Q1s hd
  have hc0 : (decide ((i0 : Int) < ((List.length p0) : Int))) = true := by simp; omega
  rw [Q3j]
  exact Qh1 p0 (fun r hr => Qpp p0 H x0 i0 v0_1 hx0 hi0 ho0_0 hc0 hr) _ (Qm2 p0 H r0 (i0 + 1) (v0_1 ++ [(s_Kd x0)]) hd' (by first | omega | (simp; omega)))
def s_Ki (p0 : List Val) : Val :=
 (Val.mk 4 0 (⟨#[]⟩ : ByteArray) (Q3j p0 p0 0 []) [])
def c_Ki (p0 : List Val) : En := .call 23 [.sl (Val.rows p0)] []
def a_Ki (p0 : List Val) : Rs := .ret (.agg (Val.cells (s_Ki p0))) []
def H_Ki (p0 : List Val) : Prop := (Qfe p0) ∧ True
theorem t_Ki (p0 : List Val) (H : H_Ki p0) : Qb G (c_Ki p0) (a_Ki p0) := by
 unfold a_Ki s_Ki
 have hl0 := Qm2 p0 (H.1) p0 0 [] (by simp) (by simp)
 obtain ⟨z0, zo0, hl0⟩ := hl0
 exact Qc (fn := Ir.Ki) rfl VOK.nil [hS 0 true (Val.Q0 (Q3j p0 p0 0 []) 5 rfl), hQ (Val.Q9 (Q3j p0 p0 0 [])).symm] [aV [(4, Val.rows (Q3j p0 p0 0 []))] hl0] (by kernel_rfl)
end Go.Proofs.Ytedohmdgbilicaa
end

section
/- What copying a value computes (printed by a program). -/
namespace Go.Proofs.Ytedohmdgbilicaa
open Go.Pv
def Qu2 (p0 : Val) : Val := p0
def Qks (p0 : Val) : List Val → Nat → Unit
 | [], _i0 =>
  ()
 | _x0 :: r0, i0 =>
  Qks p0 r0 (i0 + 1)
def Qgk (p0 : Val) (i0 : Nat) : List PV :=
  [.un, .bx 0 0, .bx 1 0] ++ nuns 9 ++ [.ms 2 5 0 (List.length p0.list), .int .i64 ((List.length p0.list) : Int), .int .i64 (i0 : Int)] ++ nuns 33
def Qac (p0 : Val) (_i0 : Nat) : List Ob :=
  [⟨5, 0, true, [.int .i64 p0.kind, .int .i64 p0.n, .str p0.s, .ms 2 5 0 (List.length p0.list), .sl (Fld.rows p0.fields)]⟩, ⟨5, 0, true, [.int .i64 0, .int .i64 0, .str (⟨#[]⟩ : ByteArray), .ms 3 5 0 0, .ms 4 6 0 0]⟩, ⟨5, 0, true, (Val.rows p0.list).flatten⟩, ⟨5, 0, true, []⟩, ⟨6, 0, true, []⟩]
def Q96 (p0 : Val) (i0 : Nat) : En := .loop 0 Ir.Qaf Ir.Qsj (Qgk p0 i0) (Qac p0 i0)
def Qe9 (p0 : Val) (z : Nat → PV) (_zo : Nat → List PV) : St :=
  ⟨[z 0, .bx 0 0, .bx 1 0] ++ zr z 3 45, [(0, ⟨5, 0, true, [.int .i64 p0.kind, .int .i64 p0.n, .str p0.s, .ms 2 5 0 (List.length p0.list), .sl (Fld.rows p0.fields)]⟩), (1, ⟨5, 0, true, [.int .i64 0, .int .i64 0, .str (⟨#[]⟩ : ByteArray), .ms 3 5 0 0, .ms 4 6 0 0]⟩), (2, ⟨5, 0, true, (Val.rows p0.list).flatten⟩), (3, ⟨5, 0, true, []⟩), (4, ⟨6, 0, true, []⟩)], 69⟩
theorem Qlf (p0 : Val) (i0 : Nat) : VOK (Go.Pv.look (number 0 (Qac p0 i0))) [(2, Val.rows p0.list)] := (VOK.cons (show Seen _ _ from Q2q (ob := ⟨5, 0, true, (Val.rows p0.list).flatten⟩) (Val.Q0 p0.list 5 rfl)) VOK.nil)
def Q5s (p0 : Val) (e : En) (_q : Unit) : Prop := ∃ z zo, Qb G0 e (.st (.exit 0) (Qe9 p0 z zo))
theorem Qgd (p0 : Val) {e e' : En} (h : ∀ r, Qb G0 e r → Qb G0 e' r) : ∀ q, Q5s p0 e q → Q5s p0 e' q
  | _, ⟨z, zo, hz⟩ => ⟨z, zo, h _ hz⟩
def Qkr (p0 : Val) : List Fld → Nat → Unit
 | [], _i1 =>
  ()
 | _x1 :: r1, i1 =>
  Qkr p0 r1 (i1 + 1)
def Qjd (p0 : Val) (i1 : Nat) : List PV :=
  [.un, .bx 0 0, .bx 1 0] ++ nuns 28 ++ [.ms 2 6 0 (List.length p0.fields), .int .i64 ((List.length p0.fields) : Int), .int .i64 (i1 : Int)] ++ nuns 14
def Qbi (p0 : Val) (_i1 : Nat) : List Ob :=
  [⟨5, 0, true, [.int .i64 p0.kind, .int .i64 p0.n, .str p0.s, .ms 3 5 0 (List.length p0.list), .ms 2 6 0 (List.length p0.fields)]⟩, ⟨5, 0, true, [.int .i64 0, .int .i64 0, .str (⟨#[]⟩ : ByteArray), .ms 4 5 0 0, .ms 5 6 0 0]⟩, ⟨6, 0, true, (Fld.rows p0.fields).flatten⟩, ⟨5, 0, true, (Val.rows p0.list).flatten⟩, ⟨5, 0, true, []⟩, ⟨6, 0, true, []⟩]
def Q9d (p0 : Val) (i1 : Nat) : En := .loop 0 Ir.Qbl Ir.Qsf (Qjd p0 i1) (Qbi p0 i1)
def Qcu (p0 : Val) (z : Nat → PV) (_zo : Nat → List PV) : St :=
  ⟨[z 0, .bx 0 0, .bx 1 0] ++ zr z 3 45, [(0, ⟨5, 0, true, [.int .i64 p0.kind, .int .i64 p0.n, .str p0.s, .ms 3 5 0 (List.length p0.list), .ms 2 6 0 (List.length p0.fields)]⟩), (1, ⟨5, 0, true, [.int .i64 0, .int .i64 0, .str (⟨#[]⟩ : ByteArray), .ms 4 5 0 0, .ms 5 6 0 0]⟩), (2, ⟨6, 0, true, (Fld.rows p0.fields).flatten⟩), (3, ⟨5, 0, true, (Val.rows p0.list).flatten⟩), (4, ⟨5, 0, true, []⟩), (5, ⟨6, 0, true, []⟩)], 70⟩
theorem Qm8 (p0 : Val) (i1 : Nat) : VOK (Go.Pv.look (number 0 (Qbi p0 i1))) [(2, Fld.rows p0.fields), (3, Val.rows p0.list)] := (VOK.cons (show Seen _ _ from Q2q (ob := ⟨6, 0, true, (Fld.rows p0.fields).flatten⟩) (Fld.Q0 p0.fields 6 rfl)) (VOK.cons (show Seen _ _ from Q2q (ob := ⟨5, 0, true, (Val.rows p0.list).flatten⟩) (Val.Q0 p0.list 5 rfl)) VOK.nil))
def Q5u (p0 : Val) (e : En) (_q : Unit) : Prop := ∃ z zo, Qb G0 e (.st (.exit 2) (Qcu p0 z zo))
theorem Qf9 (p0 : Val) {e e' : En} (h : ∀ r, Qb G0 e r → Qb G0 e' r) : ∀ q, Q5u p0 e q → Q5u p0 e' q
  | _, ⟨z, zo, hz⟩ => ⟨z, zo, h _ hz⟩
theorem Qwk (p0 : Val) : Qu2 p0 = (p0) := by
  rfl
def Qpu (p0 : Val) : En := .call 48 [.agg (Val.cells p0)] []
def Qp9 (p0 : Val) : Rs := .ret (.agg (Val.cells (Qu2 p0))) []
abbrev Qkf (p0 : Val) : Prop := Val.Sm 1000 p0
def Q63 (p0 : Val) : Prop := ∀ (q : Val), SizeOf.sizeOf q < SizeOf.sizeOf p0 → Qkf q → Qb G0 (Qpu q) (Qp9 q)
def Q8x (p0 : Val) : Prop := (List.length p0.list ≤ 4611686018427387904) ∧ (∀ x0 ∈ p0.list, Qkf x0) ∧ True
def Q8s (p0 : Val) : Prop := (List.length p0.fields ≤ 4611686018427387904) ∧ (∀ x1 ∈ p0.fields, Qkf x1.v) ∧ True
theorem Q3w (p0 : Val) (H : Qkf p0) : (List.length p0.list * 80 ≤ 140737488355328) ∧ (Q8x p0) ∧ (List.length p0.fields * 96 ≤ 140737488355328) ∧ (Q8s p0) ∧ True := by
  obtain ⟨h1, h2, h3, h4⟩ := H.all
  exact ⟨by omega, ⟨by omega, h3, trivial⟩, by omega, ⟨by omega, h4, trivial⟩, trivial⟩
def Qdl (p0 : Val) (i0 : Nat) : List PV :=
  nuns 12 ++ [.ms 2 5 0 (List.length p0.list), .int .i64 ((List.length p0.list) : Int), .int .i64 (i0 : Int), .bool false]
def Q9w (_p0 : Val) (_i0 : Nat) : List (Nat × List PV) :=
  []
theorem Qmm (p0 : Val) (_H : Q8x p0) (_rec : Q63 p0) (i0 : Nat) (hc0 : (decide ((i0 : Int) < ((List.length p0.list) : Int))) = false) : Q5s p0 (Q96 p0 i0) () := by
 exact ⟨(envF (Qdl p0 i0)), (zoF (Q9w p0 i0)), Qn (Qlf p0 i0) (x := ((.exit 0), Qe9 p0 (envF (Qdl p0 i0)) (zoF (Q9w p0 i0)))) [hB 0 hc0] [] (by kernel_rfl)⟩
theorem Qnq (p0 : Val) (H : Q8x p0) (rec : Q63 p0) (x0 : Val) (i0 : Nat) (hx0 : p0.list[i0]? = some x0) (hi0 : i0 < List.length p0.list) (hc0 : (decide ((i0 : Int) < ((List.length p0.list) : Int))) = true) {r : Rs} (hr : Qb G0 (Q96 p0 (i0 + 1)) r) : Qb G0 (Q96 p0 i0) r := by
 have hB0 := H.1
 exact Qi (Qlf p0 i0) (y := (Qgk p0 (i0 + 1), Qac p0 (i0 + 1))) [hB 0 hc0, hP 1 (Q14 2 5 (List.length p0.list) (i0 : Int) i0 (by omega) (by omega) (by omega)), hP 0 (Q2d 2 5 0 true ((Val.rows p0.list).flatten) (Val.rows p0.list) 5 true i0 0 (i0 * 5) (Val.cells x0) (.agg [.int .i64 x0.kind, .int .i64 x0.n, .str x0.s, .sl (Val.rows x0.list), .sl (Fld.rows x0.fields)]) rfl rfl (Val.Qj hx0) (Val.Qm p0.list) (by decide) rfl), hP 8 (Q14 2 5 (List.length p0.list) (i0 : Int) i0 (by omega) (by omega) (by omega)), hV 0 [(2, Val.rows p0.list)] (Q8l 2 5 true ((Val.rows p0.list).flatten) (Val.rows p0.list) (Val.rows p0.list) 5 i0 0 (i0 * 5) _ (.agg [.int .i64 x0.kind, .int .i64 x0.n, .str x0.s, .sl (Val.rows x0.list), .sl (Fld.rows x0.fields)]) rfl rfl (Val.Qj hx0) (Val.Qm p0.list) (by decide) rfl rfl (Qpa (Val.Qj hx0))), hS 0 true (Val.Q0 p0.list 5 rfl), hP 0 (Q20 i0 (by omega))] [aN (rec x0 (szL hx0) (H.2.1 x0 (Q2l hx0)))] (by kernel_rfl) hr
theorem Qc5 (p0 : Val) (H : Q8x p0) (rec : Q63 p0) : ∀ (r0 : List Val) (i0 : Nat), List.drop i0 p0.list = r0 → Q5s p0 (Q96 p0 i0) (Qks p0 r0 i0)
 | [], i0, hd => by
  have hc0 : (decide ((i0 : Int) < ((List.length p0.list) : Int))) = false := by have := Q2j hd; simp; omega
  show Q5s p0 _ ()
  exact Qmm p0 H rec i0 hc0
 | x0 :: r0, i0, hd => by
  obtain ⟨hx0, hi0, hd'⟩ := Q1s hd
  have hc0 : (decide ((i0 : Int) < ((List.length p0.list) : Int))) = true := by simp; omega
  show Q5s p0 _ ()
  exact Qgd p0 (fun r hr => Qnq p0 H rec x0 i0 hx0 hi0 hc0 hr) _ (Qc5 p0 H rec r0 (i0 + 1) hd')
def Qdy (p0 : Val) (i1 : Nat) : List PV :=
  nuns 31 ++ [.ms 2 6 0 (List.length p0.fields), .int .i64 ((List.length p0.fields) : Int), .int .i64 (i1 : Int), .bool false]
def Qbz (_p0 : Val) (_i1 : Nat) : List (Nat × List PV) :=
  []
theorem Qo7 (p0 : Val) (_H : Q8s p0) (_rec : Q63 p0) (i1 : Nat) (hc1 : (decide ((i1 : Int) < ((List.length p0.fields) : Int))) = false) : Q5u p0 (Q9d p0 i1) () := by
 exact ⟨(envF (Qdy p0 i1)), (zoF (Qbz p0 i1)), Qn (Qm8 p0 i1) (x := ((.exit 2), Qcu p0 (envF (Qdy p0 i1)) (zoF (Qbz p0 i1)))) [hB 0 hc1] [] (by kernel_rfl)⟩
theorem Qn7 (p0 : Val) (H : Q8s p0) (rec : Q63 p0) (x1 : Fld) (i1 : Nat) (hx1 : p0.fields[i1]? = some x1) (hi1 : i1 < List.length p0.fields) (hc1 : (decide ((i1 : Int) < ((List.length p0.fields) : Int))) = true) {r : Rs} (hr : Qb G0 (Q9d p0 (i1 + 1)) r) : Qb G0 (Q9d p0 i1) r := by
 have hB0 := H.1
 exact Qi (Qm8 p0 i1) (y := (Qjd p0 (i1 + 1), Qbi p0 (i1 + 1))) [hB 0 hc1, hP 1 (Q14 2 6 (List.length p0.fields) (i1 : Int) i1 (by omega) (by omega) (by omega)), hP 0 (Q2d 2 6 0 true ((Fld.rows p0.fields).flatten) (Fld.rows p0.fields) 6 true i1 0 (i1 * 6) (Fld.cells x1) (.agg [.str x1.name, .int .i64 x1.v.kind, .int .i64 x1.v.n, .str x1.v.s, .sl (Val.rows x1.v.list), .sl (Fld.rows x1.v.fields)]) rfl rfl (Fld.Qj hx1) (Fld.Qm p0.fields) (by decide) rfl), hP 9 (Q14 2 6 (List.length p0.fields) (i1 : Int) i1 (by omega) (by omega) (by omega)), hV 1 [(2, Fld.rows p0.fields)] (Q8l 2 6 true ((Fld.rows p0.fields).flatten) (Fld.rows p0.fields) (Fld.rows p0.fields) 5 i1 1 (i1 * 6 + 1) _ (.agg [.int .i64 x1.v.kind, .int .i64 x1.v.n, .str x1.v.s, .sl (Val.rows x1.v.list), .sl (Fld.rows x1.v.fields)]) rfl rfl (Fld.Qj hx1) (Fld.Qm p0.fields) (by decide) rfl rfl (Qpa (Fld.Qj hx1))), hS 0 true (Fld.Q0 p0.fields 6 rfl), hP 0 (Q20 i1 (by omega))] [aN (rec x1.v (szF hx1) (H.2.1 x1 (Q2l hx1)))] (by kernel_rfl) hr
theorem Qaa (p0 : Val) (H : Q8s p0) (rec : Q63 p0) : ∀ (r1 : List Fld) (i1 : Nat), List.drop i1 p0.fields = r1 → Q5u p0 (Q9d p0 i1) (Qkr p0 r1 i1)
 | [], i1, hd => by
  have hc1 : (decide ((i1 : Int) < ((List.length p0.fields) : Int))) = false := by have := Q2j hd; simp; omega
  show Q5u p0 _ ()
  exact Qo7 p0 H rec i1 hc1
 | x1 :: r1, i1, hd => by
  obtain ⟨hx1, hi1, hd'⟩ := Q1s hd
  have hc1 : (decide ((i1 : Int) < ((List.length p0.fields) : Int))) = true := by simp; omega
  show Q5u p0 _ ()
  exact Qf9 p0 (fun r hr => Qn7 p0 H rec x1 i1 hx1 hi1 hc1 hr) _ (Qaa p0 H rec r1 (i1 + 1) hd')
theorem Qvu (p0 : Val) (H : Qkf p0) (rec : Q63 p0) : Qb G0 (Qpu p0) (Qp9 p0) := by
  unfold Qp9
  rw [Qwk]
  have hl0 := Qc5 p0 ((Q3w p0 H).2.1) rec p0.list 0 (by simp)
  obtain ⟨z0, zo0, hl0⟩ := hl0
  have hl1 := Qaa p0 ((Q3w p0 H).2.2.2.1) rec p0.fields 0 (by simp)
  obtain ⟨z1, zo1, hl1⟩ := hl1
  exact Qc (fn := Ir.K1p) rfl VOK.nil [hQ (Val.Q0 p0.list 5 rfl), hS 0 true (Val.Q0 p0.list 5 rfl), hQ (Fld.Q0 p0.fields 6 rfl), hS 0 true (Fld.Q0 p0.fields 6 rfl), hS 0 true (Val.Q0 p0.list 5 rfl), hQ (Val.Q9 p0.list).symm, hQ (Fld.Q9 p0.fields).symm] [aV [(0, Val.rows p0.list)] (Q2y (G := G0) (f := 63) (sz := 5) (bytes := 80) rfl (Val.Q9 p0.list) (Val.Q0 p0.list 5 rfl) (Q3w p0 H).1), aV [(2, Val.rows p0.list)] hl0, aV [(0, Fld.rows p0.fields)] (Q2y (G := G0) (f := 49) (sz := 6) (bytes := 96) rfl (Fld.Q9 p0.fields) (Fld.Q0 p0.fields 6 rfl) (Q3w p0 H).2.2.1), aV [(2, Fld.rows p0.fields), (3, Val.rows p0.list)] hl1] (by kernel_rfl)
theorem Qus : ∀ (k : Nat) (p0 : Val), SizeOf.sizeOf p0 < k → Qkf p0 → Qb G0 (Qpu p0) (Qp9 p0)
  | 0, _, h, _ => absurd h (Nat.not_lt_zero _)
  | k + 1, p0, h, H => Qvu p0 H (fun q hq hH => Qus k q (by omega) hH)
theorem Quc (p0 : Val) (H : Qkf p0) : Qb G0 (Qpu p0) (Qp9 p0) := Qus _ p0 (Nat.lt_succ_self _) H
theorem Qvd (p0 : Val) (H : Val.Sm 1000 p0) : ∃ n, phi (fun _ => some (.ir { Ir.K1p with keep := true })) (runs G0 n) (Qpu p0) = some (.ret (.agg [.int .i64 p0.kind, .int .i64 p0.n, .str p0.s, .ms 0 5 0 (List.length p0.list), .ms 1 6 0 (List.length p0.fields)]) [⟨5, 0, true, (Val.rows p0.list).flatten⟩, ⟨6, 0, true, (Fld.rows p0.fields).flatten⟩]) := by
  have hl0 := Qc5 p0 ((Q3w p0 H).2.1) (fun q _ h => Quc q h) p0.list 0 (by simp)
  obtain ⟨z0, zo0, hl0⟩ := hl0
  have hl1 := Qaa p0 ((Q3w p0 H).2.2.2.1) (fun q _ h => Quc q h) p0.fields 0 (by simp)
  obtain ⟨z1, zo1, hl1⟩ := hl1
  exact Qvq (fn := { Ir.K1p with keep := true }) VOK.nil [hQ (Val.Q0 p0.list 5 rfl), hS 0 true (Val.Q0 p0.list 5 rfl), hQ (Fld.Q0 p0.fields 6 rfl), hS 0 true (Fld.Q0 p0.fields 6 rfl), hS 0 true (Val.Q0 p0.list 5 rfl)] [aV [(0, Val.rows p0.list)] (Q2y (G := G0) (f := 63) (sz := 5) (bytes := 80) rfl (Val.Q9 p0.list) (Val.Q0 p0.list 5 rfl) (Q3w p0 H).1), aV [(2, Val.rows p0.list)] hl0, aV [(0, Fld.rows p0.fields)] (Q2y (G := G0) (f := 49) (sz := 6) (bytes := 96) rfl (Fld.Q9 p0.fields) (Fld.Q0 p0.fields 6 rfl) (Q3w p0 H).2.2.1), aV [(2, Fld.rows p0.fields), (3, Val.rows p0.list)] hl1] (by kernel_rfl)
end Go.Proofs.Ytedohmdgbilicaa
end

section
/- What building lists and maps computes (printed by a program). -/
namespace Go.Proofs.Ytedohmdgbilicaa
open Go.Pv
theorem Qpy (v : Val) (h : Val.Sm 1000 v) : Qb G (.call 48 [.agg (Val.cells v)] []) (.ret (.agg [.int .i64 v.kind, .int .i64 v.n, .str v.s, .ms 0 5 0 (List.length v.list), .ms 1 6 0 (List.length v.fields)]) [⟨5, 0, true, (Val.rows v.list).flatten⟩, ⟨6, 0, true, (Fld.rows v.fields).flatten⟩]) := by
 have := Qo4 (G := G) (f := 48) rfl h
 cases v
 simp only [Val.cells, ownV, Val.Q9, Fld.Q9] at this
 exact this
def Qg (p0 : List Val) : Val :=
 ((Val.mk 4 0 (⟨#[]⟩ : ByteArray) p0 []))
def Qvf (p0 : List Val) : En := .call 21 [.sl (Val.rows p0)] []
def Qu8 (p0 : List Val) : Rs := .ret (.agg [.int .i64 (Qg p0).kind, .int .i64 (Qg p0).n, .str (Qg p0).s, .ms 0 5 0 (List.length (Qg p0).list), .ms 1 6 0 (List.length (Qg p0).fields)]) [⟨5, 0, true, (Val.rows (Qg p0).list).flatten⟩, ⟨6, 0, true, (Fld.rows (Qg p0).fields).flatten⟩]
def Qrc (p0 : List Val) : Prop := (Val.Sm 1000 (Val.mk 4 0 (⟨#[]⟩ : ByteArray) p0 [])) ∧ True
theorem Qcg (p0 : List Val) (H : Qrc p0) : Qb G (Qvf p0) (Qu8 p0) := by
 unfold Qu8 Qg
 exact Qc (fn := Ir.K1g) rfl VOK.nil [hQ (Val.Q0 ((Val.mk 4 0 (⟨#[]⟩ : ByteArray) p0 [])).list 5 rfl), hQ (Fld.Q0 ((Val.mk 4 0 (⟨#[]⟩ : ByteArray) p0 [])).fields 6 rfl)] [aV [(0, Val.rows ((Val.mk 4 0 (⟨#[]⟩ : ByteArray) p0 [])).list), (1, Fld.rows ((Val.mk 4 0 (⟨#[]⟩ : ByteArray) p0 [])).fields)] (Qpy (Val.mk 4 0 (⟨#[]⟩ : ByteArray) p0 []) (H.1))] (by kernel_rfl)
def Qsx (p0 : ByteArray) (p1 : ByteArray) : Int :=
 (sCmp p0 p1)
def Qvn (p0 : ByteArray) (p1 : ByteArray) : En := .call 43 [.str p0, .str p1] []
def Qv5 (p0 : ByteArray) (p1 : ByteArray) : Rs := .ret (.int .i64 (Qsx p0 p1)) []
theorem Qvb (p0 : ByteArray) (p1 : ByteArray) : Qb G (Qvn p0 p1) (Qv5 p0 p1) := by
 unfold Qv5 Qsx
 exact Qc (fn := Ir.K18) rfl VOK.nil [] [aN (Qs0 p0 p1)] (by kernel_rfl)
def Q1m (p0 : Fld) (p1 : Fld) : Int :=
 (Qsx p0.name p1.name)
def Qvj (p0 : Fld) (p1 : Fld) : En := .call 51 [.agg (Fld.cells p0), .agg (Fld.cells p1)] []
def Qv3 (p0 : Fld) (p1 : Fld) : Rs := .ret (.int .i64 (Q1m p0 p1)) []
theorem Qig (p0 : Fld) (p1 : Fld) : Qb G (Qvj p0 p1) (Qv3 p0 p1) := by
 unfold Qv3 Q1m
 exact Qc (fn := Ir.K1i) rfl VOK.nil [] [aN (Qvb p0.name p1.name)] (by kernel_rfl)
def Q1p (n0 : Nat) (p1 : Int) (p2 : Int) (v0_0 : Int) : Nat → (List Fld) → Int → List Fld
 | 0, v1_0, _v1_1 => v1_0
 | k1 + 1, v1_0, v1_1 =>
  bif (decide (p1 < v1_1)) then
   bif (decide ((Q1m (List.getD v1_0 (Int.toNat v1_1) zF) (List.getD v1_0 (Int.toNat (v1_1 - 1)) zF)) < 0)) then
    Q1p n0 p1 p2 v0_0 k1 (List.set (List.set v1_0 (Int.toNat v1_1) (List.getD v1_0 (Int.toNat (v1_1 - 1)) zF)) (Int.toNat (v1_1 - 1)) (List.getD v1_0 (Int.toNat v1_1) zF)) (v1_1 - 1)
   else
    v1_0
  else
   v1_0
def Qhc (n0 : Nat) (p1 : Int) (p2 : Int) (v0_0 : Int) (_v1_0 : List Fld) (v1_1 : Int) : List PV :=
  [.ms 0 6 0 n0, .int .i64 p1, .int .i64 p2, .fn 51 [] [], .un, .un, .un, .un, .int .i64 v0_0, .int .i64 v1_1] ++ nuns 43
def Qb0 (_n0 : Nat) (_p1 : Int) (_p2 : Int) (_v0_0 : Int) (v1_0 : List Fld) (_v1_1 : Int) : List Ob :=
  [⟨6, 0, false, (Fld.rows v1_0).flatten⟩]
def Q5t (n0 : Nat) (p1 : Int) (p2 : Int) (v0_0 : Int) (v1_0 : List Fld) (v1_1 : Int) : En := .loop 1 Ir.Qb5 Ir.Qsg (Qhc n0 p1 p2 v0_0 v1_0 v1_1) (Qb0 n0 p1 p2 v0_0 v1_0 v1_1)
def Q5p (n0 : Nat) (p1 : Int) (p2 : Int) (v0_0 : Int) (q0 : List Fld) (z : Nat → PV) (_zo : Nat → List PV) : St :=
  ⟨[.ms 0 6 0 n0, .int .i64 p1, .int .i64 p2, .fn 51 [] [], z 4, z 5, z 6, z 7, .int .i64 v0_0] ++ zr z 9 44, [(0, ⟨6, 0, false, (Fld.rows q0).flatten⟩)], 1089⟩
theorem Qfm (n0 : Nat) (p1 : Int) (p2 : Int) (v0_0 : Int) (v1_0 : List Fld) (v1_1 : Int) : VOK (Go.Pv.look (number 0 (Qb0 n0 p1 p2 v0_0 v1_0 v1_1))) [(0, Fld.rows v1_0)] := (VOK.cons (show Seen _ _ from Q2q (ob := ⟨6, 0, false, (Fld.rows v1_0).flatten⟩) (Fld.Q0 v1_0 6 rfl)) VOK.nil)
def Q6v (n0 : Nat) (p1 : Int) (p2 : Int) (v0_0 : Int) (e : En) (q : List Fld) : Prop := ∃ z zo, Qb G e (.st (.exit 2) (Q5p n0 p1 p2 v0_0 q z zo))
theorem Qg0 (n0 : Nat) (p1 : Int) (p2 : Int) (v0_0 : Int) {e e' : En} (h : ∀ r, Qb G e r → Qb G e' r) : ∀ q, Q6v n0 p1 p2 v0_0 e q → Q6v n0 p1 p2 v0_0 e' q
  | _, ⟨z, zo, hz⟩ => ⟨z, zo, h _ hz⟩
theorem Qmn (n0 : Nat) (p1 : Int) (p2 : Int) (v0_0 : Int) (v1_0 : List Fld) (v1_1 : Int) (ho1_0 : 0 ≤ p1) (_ho1_1 : p1 ≤ v1_1) (ho1_2 : v1_1 < n0) (ho1_3 : (n0 : Int) ≤ 1152921504606846976) (ho1_4 : List.length v1_0 = n0) (h0 : (decide (p1 < v1_1)) = true) (h1 : (decide ((Q1m (List.getD v1_0 (Int.toNat v1_1) zF) (List.getD v1_0 (Int.toNat (v1_1 - 1)) zF)) < 0)) = true) {r : Rs} (hr : Qb G (Q5t n0 p1 p2 v0_0 (List.set (List.set v1_0 (Int.toNat v1_1) (List.getD v1_0 (Int.toNat (v1_1 - 1)) zF)) (Int.toNat (v1_1 - 1)) (List.getD v1_0 (Int.toNat v1_1) zF)) (v1_1 - 1)) r) : Qb G (Q5t n0 p1 p2 v0_0 v1_0 v1_1) r := by
 have e0 := of_decide_eq_true h0; have e1 := of_decide_eq_true h1
 exact Qi (Qfm n0 p1 p2 v0_0 v1_0 v1_1) (y := (Qhc n0 p1 p2 v0_0 (List.set (List.set v1_0 (Int.toNat v1_1) (List.getD v1_0 (Int.toNat (v1_1 - 1)) zF)) (Int.toNat (v1_1 - 1)) (List.getD v1_0 (Int.toNat v1_1) zF)) (v1_1 - 1), Qb0 n0 p1 p2 v0_0 (List.set (List.set v1_0 (Int.toNat v1_1) (List.getD v1_0 (Int.toNat (v1_1 - 1)) zF)) (Int.toNat (v1_1 - 1)) (List.getD v1_0 (Int.toNat v1_1) zF)) (v1_1 - 1))) [hB 2 h0, hP 4 (Q14 0 6 n0 v1_1 (Int.toNat v1_1) rfl (by omega) (by omega)), hP 0 (Q2d 0 6 0 false ((Fld.rows v1_0).flatten) (Fld.rows v1_0) 6 true (Int.toNat v1_1) 0 ((Int.toNat v1_1) * 6) (Fld.cells (List.getD v1_0 (Int.toNat v1_1) zF)) (.agg [.str (List.getD v1_0 (Int.toNat v1_1) zF).name, .int .i64 (List.getD v1_0 (Int.toNat v1_1) zF).v.kind, .int .i64 (List.getD v1_0 (Int.toNat v1_1) zF).v.n, .str (List.getD v1_0 (Int.toNat v1_1) zF).v.s, .sl (Val.rows (List.getD v1_0 (Int.toNat v1_1) zF).v.list), .sl (Fld.rows (List.getD v1_0 (Int.toNat v1_1) zF).v.fields)]) rfl rfl (Fld.Qj (Qu v1_0 (Int.toNat v1_1) zF (by omega))) (Fld.Qm v1_0) (by decide) rfl), hP 2 (w_ok (v1_1 - 1) (by omega)), hP 0 (Q14 0 6 n0 (v1_1 - 1) (Int.toNat (v1_1 - 1)) rfl (by omega) (by omega)), hP 0 (Q2d 0 6 0 false ((Fld.rows v1_0).flatten) (Fld.rows v1_0) 6 true (Int.toNat (v1_1 - 1)) 0 ((Int.toNat (v1_1 - 1)) * 6) (Fld.cells (List.getD v1_0 (Int.toNat (v1_1 - 1)) zF)) (.agg [.str (List.getD v1_0 (Int.toNat (v1_1 - 1)) zF).name, .int .i64 (List.getD v1_0 (Int.toNat (v1_1 - 1)) zF).v.kind, .int .i64 (List.getD v1_0 (Int.toNat (v1_1 - 1)) zF).v.n, .str (List.getD v1_0 (Int.toNat (v1_1 - 1)) zF).v.s, .sl (Val.rows (List.getD v1_0 (Int.toNat (v1_1 - 1)) zF).v.list), .sl (Fld.rows (List.getD v1_0 (Int.toNat (v1_1 - 1)) zF).v.fields)]) rfl rfl (Fld.Qj (Qu v1_0 (Int.toNat (v1_1 - 1)) zF (by omega))) (Fld.Qm v1_0) (by decide) rfl), hB 1 h1, hP 5 (w_ok (v1_1 - 1) (by omega)), hP 2 (w_ok (v1_1 - 1) (by omega)), hP 0 (Q14 0 6 n0 (v1_1 - 1) (Int.toNat (v1_1 - 1)) rfl (by omega) (by omega)), hP 0 (Q2d 0 6 0 false ((Fld.rows v1_0).flatten) (Fld.rows v1_0) 6 true (Int.toNat (v1_1 - 1)) 0 ((Int.toNat (v1_1 - 1)) * 6) (Fld.cells (List.getD v1_0 (Int.toNat (v1_1 - 1)) zF)) (.agg [.str (List.getD v1_0 (Int.toNat (v1_1 - 1)) zF).name, .int .i64 (List.getD v1_0 (Int.toNat (v1_1 - 1)) zF).v.kind, .int .i64 (List.getD v1_0 (Int.toNat (v1_1 - 1)) zF).v.n, .str (List.getD v1_0 (Int.toNat (v1_1 - 1)) zF).v.s, .sl (Val.rows (List.getD v1_0 (Int.toNat (v1_1 - 1)) zF).v.list), .sl (Fld.rows (List.getD v1_0 (Int.toNat (v1_1 - 1)) zF).v.fields)]) rfl rfl (Fld.Qj (Qu v1_0 (Int.toNat (v1_1 - 1)) zF (by omega))) (Fld.Qm v1_0) (by decide) rfl), hP 2 (Q14 0 6 n0 v1_1 (Int.toNat v1_1) rfl (by omega) (by omega)), hP 0 (Q2d 0 6 0 false ((Fld.rows v1_0).flatten) (Fld.rows v1_0) 6 true (Int.toNat v1_1) 0 ((Int.toNat v1_1) * 6) (Fld.cells (List.getD v1_0 (Int.toNat v1_1) zF)) (.agg [.str (List.getD v1_0 (Int.toNat v1_1) zF).name, .int .i64 (List.getD v1_0 (Int.toNat v1_1) zF).v.kind, .int .i64 (List.getD v1_0 (Int.toNat v1_1) zF).v.n, .str (List.getD v1_0 (Int.toNat v1_1) zF).v.s, .sl (Val.rows (List.getD v1_0 (Int.toNat v1_1) zF).v.list), .sl (Fld.rows (List.getD v1_0 (Int.toNat v1_1) zF).v.fields)]) rfl rfl (Fld.Qj (Qu v1_0 (Int.toNat v1_1) zF (by omega))) (Fld.Qm v1_0) (by decide) rfl), hP 0 (Q14 0 6 n0 v1_1 (Int.toNat v1_1) rfl (by omega) (by omega)), hV 0 [(0, Fld.rows (List.set v1_0 (Int.toNat v1_1) (List.getD v1_0 (Int.toNat (v1_1 - 1)) zF)))] (Q8l 0 6 false ((Fld.rows v1_0).flatten) (Fld.rows v1_0) (Fld.rows (List.set v1_0 (Int.toNat v1_1) (List.getD v1_0 (Int.toNat (v1_1 - 1)) zF))) 6 (Int.toNat v1_1) 0 ((Int.toNat v1_1) * 6) _ (.agg [.str (List.getD v1_0 (Int.toNat (v1_1 - 1)) zF).name, .int .i64 (List.getD v1_0 (Int.toNat (v1_1 - 1)) zF).v.kind, .int .i64 (List.getD v1_0 (Int.toNat (v1_1 - 1)) zF).v.n, .str (List.getD v1_0 (Int.toNat (v1_1 - 1)) zF).v.s, .sl (Val.rows (List.getD v1_0 (Int.toNat (v1_1 - 1)) zF).v.list), .sl (Fld.rows (List.getD v1_0 (Int.toNat (v1_1 - 1)) zF).v.fields)]) rfl rfl (Fld.Qj (Qu v1_0 (Int.toNat v1_1) zF (by omega))) (Fld.Qm v1_0) (by decide) rfl rfl (Fld.Q34 v1_0 (Int.toNat v1_1) (List.getD v1_0 (Int.toNat (v1_1 - 1)) zF))), hS 0 false (Fld.Q0 (List.set v1_0 (Int.toNat v1_1) (List.getD v1_0 (Int.toNat (v1_1 - 1)) zF)) 6 rfl), hP 0 (Q14 0 6 n0 (v1_1 - 1) (Int.toNat (v1_1 - 1)) rfl (by have f0 := (Qq ho1_4 (Int.toNat v1_1) (List.getD v1_0 (Int.toNat (v1_1 - 1)) zF)); omega) (by have f0 := (Qq ho1_4 (Int.toNat v1_1) (List.getD v1_0 (Int.toNat (v1_1 - 1)) zF)); omega)), hV 0 [(0, Fld.rows (List.set (List.set v1_0 (Int.toNat v1_1) (List.getD v1_0 (Int.toNat (v1_1 - 1)) zF)) (Int.toNat (v1_1 - 1)) (List.getD v1_0 (Int.toNat v1_1) zF)))] (Q8l 0 6 false ((Fld.rows (List.set v1_0 (Int.toNat v1_1) (List.getD v1_0 (Int.toNat (v1_1 - 1)) zF))).flatten) (Fld.rows (List.set v1_0 (Int.toNat v1_1) (List.getD v1_0 (Int.toNat (v1_1 - 1)) zF))) (Fld.rows (List.set (List.set v1_0 (Int.toNat v1_1) (List.getD v1_0 (Int.toNat (v1_1 - 1)) zF)) (Int.toNat (v1_1 - 1)) (List.getD v1_0 (Int.toNat v1_1) zF))) 6 (Int.toNat (v1_1 - 1)) 0 ((Int.toNat (v1_1 - 1)) * 6) _ (.agg [.str (List.getD v1_0 (Int.toNat v1_1) zF).name, .int .i64 (List.getD v1_0 (Int.toNat v1_1) zF).v.kind, .int .i64 (List.getD v1_0 (Int.toNat v1_1) zF).v.n, .str (List.getD v1_0 (Int.toNat v1_1) zF).v.s, .sl (Val.rows (List.getD v1_0 (Int.toNat v1_1) zF).v.list), .sl (Fld.rows (List.getD v1_0 (Int.toNat v1_1) zF).v.fields)]) rfl rfl (Fld.Qj (Qu (List.set v1_0 (Int.toNat v1_1) (List.getD v1_0 (Int.toNat (v1_1 - 1)) zF)) (Int.toNat (v1_1 - 1)) zF (by have f0 := (Qq ho1_4 (Int.toNat v1_1) (List.getD v1_0 (Int.toNat (v1_1 - 1)) zF)); try simp only [List.length_set]; omega))) (Fld.Qm (List.set v1_0 (Int.toNat v1_1) (List.getD v1_0 (Int.toNat (v1_1 - 1)) zF))) (by decide) rfl rfl (Fld.Q34 (List.set v1_0 (Int.toNat v1_1) (List.getD v1_0 (Int.toNat (v1_1 - 1)) zF)) (Int.toNat (v1_1 - 1)) (List.getD v1_0 (Int.toNat v1_1) zF))), hS 0 false (Fld.Q0 (List.set (List.set v1_0 (Int.toNat v1_1) (List.getD v1_0 (Int.toNat (v1_1 - 1)) zF)) (Int.toNat (v1_1 - 1)) (List.getD v1_0 (Int.toNat v1_1) zF)) 6 rfl), hP 1 (w_ok (v1_1 - 1) (by have f0 := (Qq (Qq ho1_4 (Int.toNat v1_1) (List.getD v1_0 (Int.toNat (v1_1 - 1)) zF)) (Int.toNat (v1_1 - 1)) (List.getD v1_0 (Int.toNat v1_1) zF)); omega))] [aN (Qig (List.getD v1_0 (Int.toNat v1_1) zF) (List.getD v1_0 (Int.toNat (v1_1 - 1)) zF))] (by kernel_rfl) hr
def Qe2 (n0 : Nat) (p1 : Int) (_p2 : Int) (_v0_0 : Int) (v1_0 : List Fld) (v1_1 : Int) : List PV :=
  nuns 9 ++ [.int .i64 v1_1] ++ nuns 8 ++ [.int .i64 v1_1, .int .i64 p1, .bool true, .bool true, .fn 51 [] [], .ms 0 6 0 n0, .int .i64 v1_1, .bx 0 ((Int.toNat v1_1) * 6), .agg [.str (List.getD v1_0 (Int.toNat v1_1) zF).name, .int .i64 (List.getD v1_0 (Int.toNat v1_1) zF).v.kind, .int .i64 (List.getD v1_0 (Int.toNat v1_1) zF).v.n, .str (List.getD v1_0 (Int.toNat v1_1) zF).v.s, .sl (Val.rows (List.getD v1_0 (Int.toNat v1_1) zF).v.list), .sl (Fld.rows (List.getD v1_0 (Int.toNat v1_1) zF).v.fields)], .ms 0 6 0 n0, .int .i64 v1_1, .int .i64 (v1_1 - 1), .bx 0 ((Int.toNat (v1_1 - 1)) * 6), .agg [.str (List.getD v1_0 (Int.toNat (v1_1 - 1)) zF).name, .int .i64 (List.getD v1_0 (Int.toNat (v1_1 - 1)) zF).v.kind, .int .i64 (List.getD v1_0 (Int.toNat (v1_1 - 1)) zF).v.n, .str (List.getD v1_0 (Int.toNat (v1_1 - 1)) zF).v.s, .sl (Val.rows (List.getD v1_0 (Int.toNat (v1_1 - 1)) zF).v.list), .sl (Fld.rows (List.getD v1_0 (Int.toNat (v1_1 - 1)) zF).v.fields)], .int .i64 (Q1m (List.getD v1_0 (Int.toNat v1_1) zF) (List.getD v1_0 (Int.toNat (v1_1 - 1)) zF)), .bool false, .bool false]
def Qaw (_n0 : Nat) (_p1 : Int) (_p2 : Int) (_v0_0 : Int) (_v1_0 : List Fld) (_v1_1 : Int) : List (Nat × List PV) :=
  []
theorem Qn8 (n0 : Nat) (p1 : Int) (p2 : Int) (v0_0 : Int) (v1_0 : List Fld) (v1_1 : Int) (ho1_0 : 0 ≤ p1) (_ho1_1 : p1 ≤ v1_1) (ho1_2 : v1_1 < n0) (ho1_3 : (n0 : Int) ≤ 1152921504606846976) (ho1_4 : List.length v1_0 = n0) (h0 : (decide (p1 < v1_1)) = true) (h1 : (decide ((Q1m (List.getD v1_0 (Int.toNat v1_1) zF) (List.getD v1_0 (Int.toNat (v1_1 - 1)) zF)) < 0)) = false) : Q6v n0 p1 p2 v0_0 (Q5t n0 p1 p2 v0_0 v1_0 v1_1) v1_0 := by
 have e0 := of_decide_eq_true h0; have e1 := of_decide_eq_false h1
 exact ⟨(envF (Qe2 n0 p1 p2 v0_0 v1_0 v1_1)), (zoF (Qaw n0 p1 p2 v0_0 v1_0 v1_1)), Qn (Qfm n0 p1 p2 v0_0 v1_0 v1_1) (x := ((.exit 2), Q5p n0 p1 p2 v0_0 v1_0 (envF (Qe2 n0 p1 p2 v0_0 v1_0 v1_1)) (zoF (Qaw n0 p1 p2 v0_0 v1_0 v1_1)))) [hB 2 h0, hP 4 (Q14 0 6 n0 v1_1 (Int.toNat v1_1) rfl (by omega) (by omega)), hP 0 (Q2d 0 6 0 false ((Fld.rows v1_0).flatten) (Fld.rows v1_0) 6 true (Int.toNat v1_1) 0 ((Int.toNat v1_1) * 6) (Fld.cells (List.getD v1_0 (Int.toNat v1_1) zF)) (.agg [.str (List.getD v1_0 (Int.toNat v1_1) zF).name, .int .i64 (List.getD v1_0 (Int.toNat v1_1) zF).v.kind, .int .i64 (List.getD v1_0 (Int.toNat v1_1) zF).v.n, .str (List.getD v1_0 (Int.toNat v1_1) zF).v.s, .sl (Val.rows (List.getD v1_0 (Int.toNat v1_1) zF).v.list), .sl (Fld.rows (List.getD v1_0 (Int.toNat v1_1) zF).v.fields)]) rfl rfl (Fld.Qj (Qu v1_0 (Int.toNat v1_1) zF (by omega))) (Fld.Qm v1_0) (by decide) rfl), hP 2 (w_ok (v1_1 - 1) (by omega)), hP 0 (Q14 0 6 n0 (v1_1 - 1) (Int.toNat (v1_1 - 1)) rfl (by omega) (by omega)), hP 0 (Q2d 0 6 0 false ((Fld.rows v1_0).flatten) (Fld.rows v1_0) 6 true (Int.toNat (v1_1 - 1)) 0 ((Int.toNat (v1_1 - 1)) * 6) (Fld.cells (List.getD v1_0 (Int.toNat (v1_1 - 1)) zF)) (.agg [.str (List.getD v1_0 (Int.toNat (v1_1 - 1)) zF).name, .int .i64 (List.getD v1_0 (Int.toNat (v1_1 - 1)) zF).v.kind, .int .i64 (List.getD v1_0 (Int.toNat (v1_1 - 1)) zF).v.n, .str (List.getD v1_0 (Int.toNat (v1_1 - 1)) zF).v.s, .sl (Val.rows (List.getD v1_0 (Int.toNat (v1_1 - 1)) zF).v.list), .sl (Fld.rows (List.getD v1_0 (Int.toNat (v1_1 - 1)) zF).v.fields)]) rfl rfl (Fld.Qj (Qu v1_0 (Int.toNat (v1_1 - 1)) zF (by omega))) (Fld.Qm v1_0) (by decide) rfl), hB 1 h1] [aN (Qig (List.getD v1_0 (Int.toNat v1_1) zF) (List.getD v1_0 (Int.toNat (v1_1 - 1)) zF))] (by kernel_rfl)⟩
def Qdo (_n0 : Nat) (p1 : Int) (_p2 : Int) (_v0_0 : Int) (_v1_0 : List Fld) (v1_1 : Int) : List PV :=
  nuns 9 ++ [.int .i64 v1_1] ++ nuns 8 ++ [.int .i64 v1_1, .int .i64 p1, .bool false, .bool false, .tup [], .tup [], .tup [], .tup [], .tup [], .tup [], .tup [], .tup [], .tup [], .tup [], .tup [], .tup [], .bool false]
def Q9r (_n0 : Nat) (_p1 : Int) (_p2 : Int) (_v0_0 : Int) (_v1_0 : List Fld) (_v1_1 : Int) : List (Nat × List PV) :=
  []
theorem Qo5 (n0 : Nat) (p1 : Int) (p2 : Int) (v0_0 : Int) (v1_0 : List Fld) (v1_1 : Int) (_ho1_0 : 0 ≤ p1) (_ho1_1 : p1 ≤ v1_1) (_ho1_2 : v1_1 < n0) (_ho1_3 : (n0 : Int) ≤ 1152921504606846976) (_ho1_4 : List.length v1_0 = n0) (h0 : (decide (p1 < v1_1)) = false) : Q6v n0 p1 p2 v0_0 (Q5t n0 p1 p2 v0_0 v1_0 v1_1) v1_0 := by
 exact ⟨(envF (Qdo n0 p1 p2 v0_0 v1_0 v1_1)), (zoF (Q9r n0 p1 p2 v0_0 v1_0 v1_1)), Qn (Qfm n0 p1 p2 v0_0 v1_0 v1_1) (x := ((.exit 2), Q5p n0 p1 p2 v0_0 v1_0 (envF (Qdo n0 p1 p2 v0_0 v1_0 v1_1)) (zoF (Q9r n0 p1 p2 v0_0 v1_0 v1_1)))) [hB 2 h0] [] (by kernel_rfl)⟩
theorem Qh7 (n0 : Nat) (p1 : Int) (p2 : Int) (v0_0 : Int) : ∀ (k1 : Nat) (v1_0 : List Fld) (v1_1 : Int), 0 ≤ p1 → p1 ≤ v1_1 → v1_1 < n0 → (n0 : Int) ≤ 1152921504606846976 → List.length v1_0 = n0 → Int.toNat v1_1 < k1 → Q6v n0 p1 p2 v0_0 (Q5t n0 p1 p2 v0_0 v1_0 v1_1) (Q1p n0 p1 p2 v0_0 k1 v1_0 v1_1)
 | 0, v1_0, v1_1, _, _, _, _, _, hm => absurd hm (Nat.not_lt_zero _)
 | k1 + 1, v1_0, v1_1, ho1_0, ho1_1, ho1_2, ho1_3, ho1_4, hm => by
  rw [Q1p]
  cases h0 : (decide (p1 < v1_1)) with
  | true =>
   have e0 := of_decide_eq_true h0
   cases h1 : (decide ((Q1m (List.getD v1_0 (Int.toNat v1_1) zF) (List.getD v1_0 (Int.toNat (v1_1 - 1)) zF)) < 0)) with
   | true =>
    have e1 := of_decide_eq_true h1
    exact Qg0 n0 p1 p2 v0_0 (fun r hr => Qmn n0 p1 p2 v0_0 v1_0 v1_1 ho1_0 ho1_1 ho1_2 ho1_3 ho1_4 h0 h1 hr) _ (Qh7 n0 p1 p2 v0_0 k1 (List.set (List.set v1_0 (Int.toNat v1_1) (List.getD v1_0 (Int.toNat (v1_1 - 1)) zF)) (Int.toNat (v1_1 - 1)) (List.getD v1_0 (Int.toNat v1_1) zF)) (v1_1 - 1) (by have f0 := (Qq (Qq ho1_4 (Int.toNat v1_1) (List.getD v1_0 (Int.toNat (v1_1 - 1)) zF)) (Int.toNat (v1_1 - 1)) (List.getD v1_0 (Int.toNat v1_1) zF)); omega) (by have f0 := (Qq (Qq ho1_4 (Int.toNat v1_1) (List.getD v1_0 (Int.toNat (v1_1 - 1)) zF)) (Int.toNat (v1_1 - 1)) (List.getD v1_0 (Int.toNat v1_1) zF)); omega) (by have f0 := (Qq (Qq ho1_4 (Int.toNat v1_1) (List.getD v1_0 (Int.toNat (v1_1 - 1)) zF)) (Int.toNat (v1_1 - 1)) (List.getD v1_0 (Int.toNat v1_1) zF)); omega) (by have f0 := (Qq (Qq ho1_4 (Int.toNat v1_1) (List.getD v1_0 (Int.toNat (v1_1 - 1)) zF)) (Int.toNat (v1_1 - 1)) (List.getD v1_0 (Int.toNat v1_1) zF)); omega) (Qq (Qq ho1_4 (Int.toNat v1_1) (List.getD v1_0 (Int.toNat (v1_1 - 1)) zF)) (Int.toNat (v1_1 - 1)) (List.getD v1_0 (Int.toNat v1_1) zF)) (by have f0 := (Qq (Qq ho1_4 (Int.toNat v1_1) (List.getD v1_0 (Int.toNat (v1_1 - 1)) zF)) (Int.toNat (v1_1 - 1)) (List.getD v1_0 (Int.toNat v1_1) zF)); omega))
   | false =>
    exact Qn8 n0 p1 p2 v0_0 v1_0 v1_1 ho1_0 ho1_1 ho1_2 ho1_3 ho1_4 h0 h1
  | false =>
   exact Qo5 n0 p1 p2 v0_0 v1_0 v1_1 ho1_0 ho1_1 ho1_2 ho1_3 ho1_4 h0
theorem Q1v (n0 : Nat) (p1 : Int) (p2 : Int) (v0_0 : Int) : ∀ (k1 : Nat) (v1_0 : List Fld) (v1_1 : Int), List.length v1_0 = n0 → List.length (Q1p n0 p1 p2 v0_0 k1 v1_0 v1_1) = n0
 | 0, v1_0, v1_1, ho1_4 => by rw [Q1p]; exact ho1_4
 | k1 + 1, v1_0, v1_1, ho1_4 => by
  rw [Q1p]
  cases h0 : (decide (p1 < v1_1)) with
  | true =>
   cases h1 : (decide ((Q1m (List.getD v1_0 (Int.toNat v1_1) zF) (List.getD v1_0 (Int.toNat (v1_1 - 1)) zF)) < 0)) with
   | true =>
    exact Q1v n0 p1 p2 v0_0 k1 (List.set (List.set v1_0 (Int.toNat v1_1) (List.getD v1_0 (Int.toNat (v1_1 - 1)) zF)) (Int.toNat (v1_1 - 1)) (List.getD v1_0 (Int.toNat v1_1) zF)) (v1_1 - 1) (Qq (Qq ho1_4 (Int.toNat v1_1) (List.getD v1_0 (Int.toNat (v1_1 - 1)) zF)) (Int.toNat (v1_1 - 1)) (List.getD v1_0 (Int.toNat v1_1) zF))
   | false =>
    exact ho1_4
  | false =>
   exact ho1_4
def Q29 (n0 : Nat) (p1 : Int) (p2 : Int) : Nat → Int → (List Fld) → List Fld
 | 0, _v0_0, v0_1 => v0_1
 | k0 + 1, v0_0, v0_1 =>
  bif (decide (v0_0 < p2)) then
   Q29 n0 p1 p2 k0 (v0_0 + 1) (Q1p n0 p1 p2 v0_0 ((Int.toNat v0_0) + 1) v0_1 v0_0)
  else
   v0_1
def Qi7 (n0 : Nat) (p1 : Int) (p2 : Int) (v0_0 : Int) (_v0_1 : List Fld) : List PV :=
  [.ms 0 6 0 n0, .int .i64 p1, .int .i64 p2, .fn 51 [] [], .un, .un, .un, .un, .int .i64 v0_0] ++ nuns 44
def Qcf (_n0 : Nat) (_p1 : Int) (_p2 : Int) (_v0_0 : Int) (v0_1 : List Fld) : List Ob :=
  [⟨6, 0, false, (Fld.rows v0_1).flatten⟩]
def Q97 (n0 : Nat) (p1 : Int) (p2 : Int) (v0_0 : Int) (v0_1 : List Fld) : En := .loop 1 Ir.Qbq Ir.Qsk (Qi7 n0 p1 p2 v0_0 v0_1) (Qcf n0 p1 p2 v0_0 v0_1)
def Qdp (_n0 : Nat) (_p1 : Int) (_p2 : Int) (q0 : List Fld) (z : Nat → PV) (_zo : Nat → List PV) : St :=
  ⟨zr z 0 53, [(0, ⟨6, 0, false, (Fld.rows q0).flatten⟩)], 193⟩
theorem Ql3 (n0 : Nat) (p1 : Int) (p2 : Int) (v0_0 : Int) (v0_1 : List Fld) : VOK (Go.Pv.look (number 0 (Qcf n0 p1 p2 v0_0 v0_1))) [(0, Fld.rows v0_1)] := (VOK.cons (show Seen _ _ from Q2q (ob := ⟨6, 0, false, (Fld.rows v0_1).flatten⟩) (Fld.Q0 v0_1 6 rfl)) VOK.nil)
def Q93 (n0 : Nat) (p1 : Int) (p2 : Int) (e : En) (q : List Fld) : Prop := ∃ z zo, Qb G e (.st (.exit 0) (Qdp n0 p1 p2 q z zo))
theorem Qga (n0 : Nat) (p1 : Int) (p2 : Int) {e e' : En} (h : ∀ r, Qb G e r → Qb G e' r) : ∀ q, Q93 n0 p1 p2 e q → Q93 n0 p1 p2 e' q
  | _, ⟨z, zo, hz⟩ => ⟨z, zo, h _ hz⟩
theorem Qo2 (n0 : Nat) (p1 : Int) (p2 : Int) (v0_0 : Int) (v0_1 : List Fld) (ho0_0 : 0 ≤ p1) (ho0_1 : p1 < v0_0) (ho0_2 : p2 ≤ n0) (ho0_3 : (n0 : Int) ≤ 1152921504606846976) (ho0_4 : List.length v0_1 = n0) (h0 : (decide (v0_0 < p2)) = true) (z1 : Nat → PV) (zo1 : Nat → List PV) (hl1 : Qb G (Q5t n0 p1 p2 v0_0 v0_1 v0_0) (.st (.exit 2) (Q5p n0 p1 p2 v0_0 (Q1p n0 p1 p2 v0_0 ((Int.toNat v0_0) + 1) v0_1 v0_0) z1 zo1))) {r : Rs} (hr : Qb G (Q97 n0 p1 p2 (v0_0 + 1) (Q1p n0 p1 p2 v0_0 ((Int.toNat v0_0) + 1) v0_1 v0_0)) r) : Qb G (Q97 n0 p1 p2 v0_0 v0_1) r := by
 have e0 := of_decide_eq_true h0
 exact Qi (Ql3 n0 p1 p2 v0_0 v0_1) (y := (Qi7 n0 p1 p2 (v0_0 + 1) (Q1p n0 p1 p2 v0_0 ((Int.toNat v0_0) + 1) v0_1 v0_0), Qcf n0 p1 p2 (v0_0 + 1) (Q1p n0 p1 p2 v0_0 ((Int.toNat v0_0) + 1) v0_1 v0_0))) [hB 2 h0, hS 0 false (Fld.Q0 (Q1p n0 p1 p2 v0_0 ((Int.toNat v0_0) + 1) v0_1 v0_0) 6 rfl), hP 3 (w_ok (v0_0 + 1) (by have f0 := (Q1v n0 p1 p2 v0_0 ((Int.toNat v0_0) + 1) v0_1 v0_0 ho0_4); omega))] [aV [(0, Fld.rows (Q1p n0 p1 p2 v0_0 ((Int.toNat v0_0) + 1) v0_1 v0_0))] hl1] (by kernel_rfl) hr
def Qdm (n0 : Nat) (p1 : Int) (p2 : Int) (v0_0 : Int) (_v0_1 : List Fld) : List PV :=
  [.ms 0 6 0 n0, .int .i64 p1, .int .i64 p2, .fn 51 [] [], .un, .un, .un, .un, .int .i64 v0_0, .un, .un, .un, .int .i64 v0_0, .int .i64 p2, .bool false]
def Qa0 (_n0 : Nat) (_p1 : Int) (_p2 : Int) (_v0_0 : Int) (_v0_1 : List Fld) : List (Nat × List PV) :=
  []
theorem Qn2 (n0 : Nat) (p1 : Int) (p2 : Int) (v0_0 : Int) (v0_1 : List Fld) (_ho0_0 : 0 ≤ p1) (_ho0_1 : p1 < v0_0) (_ho0_2 : p2 ≤ n0) (_ho0_3 : (n0 : Int) ≤ 1152921504606846976) (_ho0_4 : List.length v0_1 = n0) (h0 : (decide (v0_0 < p2)) = false) : Q93 n0 p1 p2 (Q97 n0 p1 p2 v0_0 v0_1) v0_1 := by
 exact ⟨(envF (Qdm n0 p1 p2 v0_0 v0_1)), (zoF (Qa0 n0 p1 p2 v0_0 v0_1)), Qn (Ql3 n0 p1 p2 v0_0 v0_1) (x := ((.exit 0), Qdp n0 p1 p2 v0_1 (envF (Qdm n0 p1 p2 v0_0 v0_1)) (zoF (Qa0 n0 p1 p2 v0_0 v0_1)))) [hB 2 h0] [] (by kernel_rfl)⟩
theorem Qgw (n0 : Nat) (p1 : Int) (p2 : Int) : ∀ (k0 : Nat) (v0_0 : Int) (v0_1 : List Fld), 0 ≤ p1 → p1 < v0_0 → p2 ≤ n0 → (n0 : Int) ≤ 1152921504606846976 → List.length v0_1 = n0 → Int.toNat (p2 - v0_0) < k0 → Q93 n0 p1 p2 (Q97 n0 p1 p2 v0_0 v0_1) (Q29 n0 p1 p2 k0 v0_0 v0_1)
 | 0, v0_0, v0_1, _, _, _, _, _, hm => absurd hm (Nat.not_lt_zero _)
 | k0 + 1, v0_0, v0_1, ho0_0, ho0_1, ho0_2, ho0_3, ho0_4, hm => by
  rw [Q29]
  cases h0 : (decide (v0_0 < p2)) with
  | true =>
   have e0 := of_decide_eq_true h0
   have hl1 := Qh7 n0 p1 p2 v0_0 ((Int.toNat v0_0) + 1) v0_1 v0_0 (by omega) (by omega) (by omega) (by omega) ho0_4 (by omega)
   obtain ⟨z1, zo1, hl1⟩ := hl1
   exact Qga n0 p1 p2 (fun r hr => Qo2 n0 p1 p2 v0_0 v0_1 ho0_0 ho0_1 ho0_2 ho0_3 ho0_4 h0 z1 zo1 hl1 hr) _ (Qgw n0 p1 p2 k0 (v0_0 + 1) (Q1p n0 p1 p2 v0_0 ((Int.toNat v0_0) + 1) v0_1 v0_0) (by have f0 := (Q1v n0 p1 p2 v0_0 ((Int.toNat v0_0) + 1) v0_1 v0_0 ho0_4); omega) (by have f0 := (Q1v n0 p1 p2 v0_0 ((Int.toNat v0_0) + 1) v0_1 v0_0 ho0_4); omega) (by have f0 := (Q1v n0 p1 p2 v0_0 ((Int.toNat v0_0) + 1) v0_1 v0_0 ho0_4); omega) (by have f0 := (Q1v n0 p1 p2 v0_0 ((Int.toNat v0_0) + 1) v0_1 v0_0 ho0_4); omega) (Q1v n0 p1 p2 v0_0 ((Int.toNat v0_0) + 1) v0_1 v0_0 ho0_4) (by have f0 := (Q1v n0 p1 p2 v0_0 ((Int.toNat v0_0) + 1) v0_1 v0_0 ho0_4); omega))
  | false =>
   exact Qn2 n0 p1 p2 v0_0 v0_1 ho0_0 ho0_1 ho0_2 ho0_3 ho0_4 h0
theorem Q5z (n0 : Nat) (p1 : Int) (p2 : Int) : ∀ (k0 : Nat) (v0_0 : Int) (v0_1 : List Fld), List.length v0_1 = n0 → List.length (Q29 n0 p1 p2 k0 v0_0 v0_1) = n0
 | 0, v0_0, v0_1, ho0_4 => by rw [Q29]; exact ho0_4
 | k0 + 1, v0_0, v0_1, ho0_4 => by
  rw [Q29]
  cases h0 : (decide (v0_0 < p2)) with
  | true =>
   exact Q5z n0 p1 p2 k0 (v0_0 + 1) (Q1p n0 p1 p2 v0_0 ((Int.toNat v0_0) + 1) v0_1 v0_0) (Q1v n0 p1 p2 v0_0 ((Int.toNat v0_0) + 1) v0_1 v0_0 ho0_4)
  | false =>
   exact ho0_4
def Q12 (n0 : Nat) (p0 : List Fld) (p1 : Int) (p2 : Int) : List Fld :=
 (Q29 n0 p1 p2 ((Int.toNat (p2 - (p1 + 1))) + 1) (p1 + 1) p0)
def Qot (n0 : Nat) (p0 : List Fld) (p1 : Int) (p2 : Int) : En := .call 70 [.ms 0 6 0 n0, .int .i64 p1, .int .i64 p2, .fn 51 [] []] [⟨6, 0, false, (Fld.rows p0).flatten⟩]
def Qi4 (n0 : Nat) (p0 : List Fld) (p1 : Int) (p2 : Int) : Rs := .ret (.tup []) [⟨6, 0, false, (Fld.rows (Q12 n0 p0 p1 p2)).flatten⟩]
theorem Qr (n0 : Nat) (p0 : List Fld) (p1 : Int) (p2 : Int) (hn : List.length p0 = n0) : List.length (Q12 n0 p0 p1 p2) = n0 := by
 unfold Q12
 have hz0_0 : List.length (Q29 n0 p1 p2 ((Int.toNat (p2 - (p1 + 1))) + 1) (p1 + 1) p0) = n0 := Q5z n0 p1 p2 ((Int.toNat (p2 - (p1 + 1))) + 1) (p1 + 1) p0 hn
 obtain ⟨R0, eR0⟩ : ∃ R, (Q29 n0 p1 p2 ((Int.toNat (p2 - (p1 + 1))) + 1) (p1 + 1) p0) = R := ⟨_, rfl⟩
 rw [eR0] at hz0_0 ⊢
 exact hz0_0
theorem Qhv (n0 : Nat) (p0 : List Fld) (p1 : Int) (p2 : Int) (hn : List.length p0 = n0) (hq0 : 0 ≤ p1 ∧ p1 ≤ p2 ∧ p2 ≤ n0 ∧ (n0 : Int) ≤ 1152921504606846976) : Qb G (Qot n0 p0 p1 p2) (Qi4 n0 p0 p1 p2) := by
 unfold Qi4 Q12
 have hl0 := Qgw n0 p1 p2 ((Int.toNat (p2 - (p1 + 1))) + 1) (p1 + 1) p0 (by omega) (by omega) (by omega) (by omega) hn (by omega)
 have hz0_0 : List.length (Q29 n0 p1 p2 ((Int.toNat (p2 - (p1 + 1))) + 1) (p1 + 1) p0) = n0 := Q5z n0 p1 p2 ((Int.toNat (p2 - (p1 + 1))) + 1) (p1 + 1) p0 hn
 obtain ⟨R0, eR0⟩ : ∃ R, (Q29 n0 p1 p2 ((Int.toNat (p2 - (p1 + 1))) + 1) (p1 + 1) p0) = R := ⟨_, rfl⟩
 rw [eR0] at hz0_0 hl0 ⊢
 obtain ⟨z0, zo0, hl0⟩ := hl0
 exact Qc (fn := Ir.K13) rfl (vk1 (Fld.Q0 p0 6 rfl)) [hP 1 (w_ok (p1 + 1) (by omega)), hS 0 false (Fld.Q0 R0 6 rfl)] [aV [(0, Fld.rows R0)] hl0] (by kernel_rfl)
def Q27 (n0 : Nat) (p1 : Int) (p2 : Int) (p3 : Int) : Nat → (List Fld) → Int → List Fld
 | 0, v0_0, _v0_1 => v0_0
 | k0 + 1, v0_0, v0_1 =>
  bif (decide (v0_1 < p3)) then
   Q27 n0 p1 p2 p3 k0 (List.set (List.set v0_0 (Int.toNat (p1 + v0_1)) (List.getD v0_0 (Int.toNat (p2 + v0_1)) zF)) (Int.toNat (p2 + v0_1)) (List.getD v0_0 (Int.toNat (p1 + v0_1)) zF)) (v0_1 + 1)
  else
   v0_0
def Qhw (n0 : Nat) (p1 : Int) (p2 : Int) (p3 : Int) (_v0_0 : List Fld) (v0_1 : Int) : List PV :=
  [.ms 0 6 0 n0, .int .i64 p1, .int .i64 p2, .int .i64 p3] ++ nuns 6 ++ [.int .i64 v0_1] ++ nuns 27
def Qax (_n0 : Nat) (_p1 : Int) (_p2 : Int) (_p3 : Int) (v0_0 : List Fld) (_v0_1 : Int) : List Ob :=
  [⟨6, 0, false, (Fld.rows v0_0).flatten⟩]
def Q8u (n0 : Nat) (p1 : Int) (p2 : Int) (p3 : Int) (v0_0 : List Fld) (v0_1 : Int) : En := .loop 1 Ir.Qbe Ir.Qs9 (Qhw n0 p1 p2 p3 v0_0 v0_1) (Qax n0 p1 p2 p3 v0_0 v0_1)
def Qe8 (_n0 : Nat) (_p1 : Int) (_p2 : Int) (_p3 : Int) (q0 : List Fld) (z : Nat → PV) (_zo : Nat → List PV) : St :=
  ⟨zr z 0 38, [(0, ⟨6, 0, false, (Fld.rows q0).flatten⟩)], 193⟩
theorem Qkv (n0 : Nat) (p1 : Int) (p2 : Int) (p3 : Int) (v0_0 : List Fld) (v0_1 : Int) : VOK (Go.Pv.look (number 0 (Qax n0 p1 p2 p3 v0_0 v0_1))) [(0, Fld.rows v0_0)] := (VOK.cons (show Seen _ _ from Q2q (ob := ⟨6, 0, false, (Fld.rows v0_0).flatten⟩) (Fld.Q0 v0_0 6 rfl)) VOK.nil)
def Q98 (n0 : Nat) (p1 : Int) (p2 : Int) (p3 : Int) (e : En) (q : List Fld) : Prop := ∃ z zo, Qb G e (.st (.exit 0) (Qe8 n0 p1 p2 p3 q z zo))
theorem Qey (n0 : Nat) (p1 : Int) (p2 : Int) (p3 : Int) {e e' : En} (h : ∀ r, Qb G e r → Qb G e' r) : ∀ q, Q98 n0 p1 p2 p3 e q → Q98 n0 p1 p2 p3 e' q
  | _, ⟨z, zo, hz⟩ => ⟨z, zo, h _ hz⟩
theorem Qo6 (n0 : Nat) (p1 : Int) (p2 : Int) (p3 : Int) (v0_0 : List Fld) (v0_1 : Int) (ho0_0 : 0 ≤ v0_1) (ho0_1 : 0 ≤ p1) (ho0_2 : 0 ≤ p2) (ho0_3 : p1 + p3 ≤ n0) (ho0_4 : p2 + p3 ≤ n0) (ho0_5 : (n0 : Int) ≤ 1152921504606846976) (ho0_6 : List.length v0_0 = n0) (h0 : (decide (v0_1 < p3)) = true) {r : Rs} (hr : Qb G (Q8u n0 p1 p2 p3 (List.set (List.set v0_0 (Int.toNat (p1 + v0_1)) (List.getD v0_0 (Int.toNat (p2 + v0_1)) zF)) (Int.toNat (p2 + v0_1)) (List.getD v0_0 (Int.toNat (p1 + v0_1)) zF)) (v0_1 + 1)) r) : Qb G (Q8u n0 p1 p2 p3 v0_0 v0_1) r := by
 have e0 := of_decide_eq_true h0
 exact Qi (Qkv n0 p1 p2 p3 v0_0 v0_1) (y := (Qhw n0 p1 p2 p3 (List.set (List.set v0_0 (Int.toNat (p1 + v0_1)) (List.getD v0_0 (Int.toNat (p2 + v0_1)) zF)) (Int.toNat (p2 + v0_1)) (List.getD v0_0 (Int.toNat (p1 + v0_1)) zF)) (v0_1 + 1), Qax n0 p1 p2 p3 (List.set (List.set v0_0 (Int.toNat (p1 + v0_1)) (List.getD v0_0 (Int.toNat (p2 + v0_1)) zF)) (Int.toNat (p2 + v0_1)) (List.getD v0_0 (Int.toNat (p1 + v0_1)) zF)) (v0_1 + 1))) [hB 2 h0, hP 3 (w_ok (p1 + v0_1) (by omega)), hP 3 (w_ok (p2 + v0_1) (by omega)), hP 3 (w_ok (p2 + v0_1) (by omega)), hP 0 (Q14 0 6 n0 (p2 + v0_1) (Int.toNat (p2 + v0_1)) rfl (by omega) (by omega)), hP 0 (Q2d 0 6 0 false ((Fld.rows v0_0).flatten) (Fld.rows v0_0) 6 true (Int.toNat (p2 + v0_1)) 0 ((Int.toNat (p2 + v0_1)) * 6) (Fld.cells (List.getD v0_0 (Int.toNat (p2 + v0_1)) zF)) (.agg [.str (List.getD v0_0 (Int.toNat (p2 + v0_1)) zF).name, .int .i64 (List.getD v0_0 (Int.toNat (p2 + v0_1)) zF).v.kind, .int .i64 (List.getD v0_0 (Int.toNat (p2 + v0_1)) zF).v.n, .str (List.getD v0_0 (Int.toNat (p2 + v0_1)) zF).v.s, .sl (Val.rows (List.getD v0_0 (Int.toNat (p2 + v0_1)) zF).v.list), .sl (Fld.rows (List.getD v0_0 (Int.toNat (p2 + v0_1)) zF).v.fields)]) rfl rfl (Fld.Qj (Qu v0_0 (Int.toNat (p2 + v0_1)) zF (by omega))) (Fld.Qm v0_0) (by decide) rfl), hP 3 (w_ok (p1 + v0_1) (by omega)), hP 0 (Q14 0 6 n0 (p1 + v0_1) (Int.toNat (p1 + v0_1)) rfl (by omega) (by omega)), hP 0 (Q2d 0 6 0 false ((Fld.rows v0_0).flatten) (Fld.rows v0_0) 6 true (Int.toNat (p1 + v0_1)) 0 ((Int.toNat (p1 + v0_1)) * 6) (Fld.cells (List.getD v0_0 (Int.toNat (p1 + v0_1)) zF)) (.agg [.str (List.getD v0_0 (Int.toNat (p1 + v0_1)) zF).name, .int .i64 (List.getD v0_0 (Int.toNat (p1 + v0_1)) zF).v.kind, .int .i64 (List.getD v0_0 (Int.toNat (p1 + v0_1)) zF).v.n, .str (List.getD v0_0 (Int.toNat (p1 + v0_1)) zF).v.s, .sl (Val.rows (List.getD v0_0 (Int.toNat (p1 + v0_1)) zF).v.list), .sl (Fld.rows (List.getD v0_0 (Int.toNat (p1 + v0_1)) zF).v.fields)]) rfl rfl (Fld.Qj (Qu v0_0 (Int.toNat (p1 + v0_1)) zF (by omega))) (Fld.Qm v0_0) (by decide) rfl), hP 0 (Q14 0 6 n0 (p1 + v0_1) (Int.toNat (p1 + v0_1)) rfl (by omega) (by omega)), hV 0 [(0, Fld.rows (List.set v0_0 (Int.toNat (p1 + v0_1)) (List.getD v0_0 (Int.toNat (p2 + v0_1)) zF)))] (Q8l 0 6 false ((Fld.rows v0_0).flatten) (Fld.rows v0_0) (Fld.rows (List.set v0_0 (Int.toNat (p1 + v0_1)) (List.getD v0_0 (Int.toNat (p2 + v0_1)) zF))) 6 (Int.toNat (p1 + v0_1)) 0 ((Int.toNat (p1 + v0_1)) * 6) _ (.agg [.str (List.getD v0_0 (Int.toNat (p2 + v0_1)) zF).name, .int .i64 (List.getD v0_0 (Int.toNat (p2 + v0_1)) zF).v.kind, .int .i64 (List.getD v0_0 (Int.toNat (p2 + v0_1)) zF).v.n, .str (List.getD v0_0 (Int.toNat (p2 + v0_1)) zF).v.s, .sl (Val.rows (List.getD v0_0 (Int.toNat (p2 + v0_1)) zF).v.list), .sl (Fld.rows (List.getD v0_0 (Int.toNat (p2 + v0_1)) zF).v.fields)]) rfl rfl (Fld.Qj (Qu v0_0 (Int.toNat (p1 + v0_1)) zF (by omega))) (Fld.Qm v0_0) (by decide) rfl rfl (Fld.Q34 v0_0 (Int.toNat (p1 + v0_1)) (List.getD v0_0 (Int.toNat (p2 + v0_1)) zF))), hS 0 false (Fld.Q0 (List.set v0_0 (Int.toNat (p1 + v0_1)) (List.getD v0_0 (Int.toNat (p2 + v0_1)) zF)) 6 rfl), hP 0 (Q14 0 6 n0 (p2 + v0_1) (Int.toNat (p2 + v0_1)) rfl (by have f0 := (Qq ho0_6 (Int.toNat (p1 + v0_1)) (List.getD v0_0 (Int.toNat (p2 + v0_1)) zF)); omega) (by have f0 := (Qq ho0_6 (Int.toNat (p1 + v0_1)) (List.getD v0_0 (Int.toNat (p2 + v0_1)) zF)); omega)), hV 0 [(0, Fld.rows (List.set (List.set v0_0 (Int.toNat (p1 + v0_1)) (List.getD v0_0 (Int.toNat (p2 + v0_1)) zF)) (Int.toNat (p2 + v0_1)) (List.getD v0_0 (Int.toNat (p1 + v0_1)) zF)))] (Q8l 0 6 false ((Fld.rows (List.set v0_0 (Int.toNat (p1 + v0_1)) (List.getD v0_0 (Int.toNat (p2 + v0_1)) zF))).flatten) (Fld.rows (List.set v0_0 (Int.toNat (p1 + v0_1)) (List.getD v0_0 (Int.toNat (p2 + v0_1)) zF))) (Fld.rows (List.set (List.set v0_0 (Int.toNat (p1 + v0_1)) (List.getD v0_0 (Int.toNat (p2 + v0_1)) zF)) (Int.toNat (p2 + v0_1)) (List.getD v0_0 (Int.toNat (p1 + v0_1)) zF))) 6 (Int.toNat (p2 + v0_1)) 0 ((Int.toNat (p2 + v0_1)) * 6) _ (.agg [.str (List.getD v0_0 (Int.toNat (p1 + v0_1)) zF).name, .int .i64 (List.getD v0_0 (Int.toNat (p1 + v0_1)) zF).v.kind, .int .i64 (List.getD v0_0 (Int.toNat (p1 + v0_1)) zF).v.n, .str (List.getD v0_0 (Int.toNat (p1 + v0_1)) zF).v.s, .sl (Val.rows (List.getD v0_0 (Int.toNat (p1 + v0_1)) zF).v.list), .sl (Fld.rows (List.getD v0_0 (Int.toNat (p1 + v0_1)) zF).v.fields)]) rfl rfl (Fld.Qj (Qu (List.set v0_0 (Int.toNat (p1 + v0_1)) (List.getD v0_0 (Int.toNat (p2 + v0_1)) zF)) (Int.toNat (p2 + v0_1)) zF (by have f0 := (Qq ho0_6 (Int.toNat (p1 + v0_1)) (List.getD v0_0 (Int.toNat (p2 + v0_1)) zF)); try simp only [List.length_set]; omega))) (Fld.Qm (List.set v0_0 (Int.toNat (p1 + v0_1)) (List.getD v0_0 (Int.toNat (p2 + v0_1)) zF))) (by decide) rfl rfl (Fld.Q34 (List.set v0_0 (Int.toNat (p1 + v0_1)) (List.getD v0_0 (Int.toNat (p2 + v0_1)) zF)) (Int.toNat (p2 + v0_1)) (List.getD v0_0 (Int.toNat (p1 + v0_1)) zF))), hS 0 false (Fld.Q0 (List.set (List.set v0_0 (Int.toNat (p1 + v0_1)) (List.getD v0_0 (Int.toNat (p2 + v0_1)) zF)) (Int.toNat (p2 + v0_1)) (List.getD v0_0 (Int.toNat (p1 + v0_1)) zF)) 6 rfl), hP 1 (w_ok (v0_1 + 1) (by have f0 := (Qq (Qq ho0_6 (Int.toNat (p1 + v0_1)) (List.getD v0_0 (Int.toNat (p2 + v0_1)) zF)) (Int.toNat (p2 + v0_1)) (List.getD v0_0 (Int.toNat (p1 + v0_1)) zF)); omega))] [] (by kernel_rfl) hr
def Qec (n0 : Nat) (p1 : Int) (p2 : Int) (p3 : Int) (_v0_0 : List Fld) (v0_1 : Int) : List PV :=
  [.ms 0 6 0 n0, .int .i64 p1, .int .i64 p2, .int .i64 p3] ++ nuns 6 ++ [.int .i64 v0_1, .int .i64 v0_1, .int .i64 p3, .bool false]
def Qau (_n0 : Nat) (_p1 : Int) (_p2 : Int) (_p3 : Int) (_v0_0 : List Fld) (_v0_1 : Int) : List (Nat × List PV) :=
  []
theorem Qmk (n0 : Nat) (p1 : Int) (p2 : Int) (p3 : Int) (v0_0 : List Fld) (v0_1 : Int) (_ho0_0 : 0 ≤ v0_1) (_ho0_1 : 0 ≤ p1) (_ho0_2 : 0 ≤ p2) (_ho0_3 : p1 + p3 ≤ n0) (_ho0_4 : p2 + p3 ≤ n0) (_ho0_5 : (n0 : Int) ≤ 1152921504606846976) (_ho0_6 : List.length v0_0 = n0) (h0 : (decide (v0_1 < p3)) = false) : Q98 n0 p1 p2 p3 (Q8u n0 p1 p2 p3 v0_0 v0_1) v0_0 := by
 exact ⟨(envF (Qec n0 p1 p2 p3 v0_0 v0_1)), (zoF (Qau n0 p1 p2 p3 v0_0 v0_1)), Qn (Qkv n0 p1 p2 p3 v0_0 v0_1) (x := ((.exit 0), Qe8 n0 p1 p2 p3 v0_0 (envF (Qec n0 p1 p2 p3 v0_0 v0_1)) (zoF (Qau n0 p1 p2 p3 v0_0 v0_1)))) [hB 2 h0] [] (by kernel_rfl)⟩
theorem Qhs (n0 : Nat) (p1 : Int) (p2 : Int) (p3 : Int) : ∀ (k0 : Nat) (v0_0 : List Fld) (v0_1 : Int), 0 ≤ v0_1 → 0 ≤ p1 → 0 ≤ p2 → p1 + p3 ≤ n0 → p2 + p3 ≤ n0 → (n0 : Int) ≤ 1152921504606846976 → List.length v0_0 = n0 → Int.toNat (p3 - v0_1) < k0 → Q98 n0 p1 p2 p3 (Q8u n0 p1 p2 p3 v0_0 v0_1) (Q27 n0 p1 p2 p3 k0 v0_0 v0_1)
 | 0, v0_0, v0_1, _, _, _, _, _, _, _, hm => absurd hm (Nat.not_lt_zero _)
 | k0 + 1, v0_0, v0_1, ho0_0, ho0_1, ho0_2, ho0_3, ho0_4, ho0_5, ho0_6, hm => by
  rw [Q27]
  cases h0 : (decide (v0_1 < p3)) with
  | true =>
   have e0 := of_decide_eq_true h0
   exact Qey n0 p1 p2 p3 (fun r hr => Qo6 n0 p1 p2 p3 v0_0 v0_1 ho0_0 ho0_1 ho0_2 ho0_3 ho0_4 ho0_5 ho0_6 h0 hr) _ (Qhs n0 p1 p2 p3 k0 (List.set (List.set v0_0 (Int.toNat (p1 + v0_1)) (List.getD v0_0 (Int.toNat (p2 + v0_1)) zF)) (Int.toNat (p2 + v0_1)) (List.getD v0_0 (Int.toNat (p1 + v0_1)) zF)) (v0_1 + 1) (by have f0 := (Qq (Qq ho0_6 (Int.toNat (p1 + v0_1)) (List.getD v0_0 (Int.toNat (p2 + v0_1)) zF)) (Int.toNat (p2 + v0_1)) (List.getD v0_0 (Int.toNat (p1 + v0_1)) zF)); omega) (by have f0 := (Qq (Qq ho0_6 (Int.toNat (p1 + v0_1)) (List.getD v0_0 (Int.toNat (p2 + v0_1)) zF)) (Int.toNat (p2 + v0_1)) (List.getD v0_0 (Int.toNat (p1 + v0_1)) zF)); omega) (by have f0 := (Qq (Qq ho0_6 (Int.toNat (p1 + v0_1)) (List.getD v0_0 (Int.toNat (p2 + v0_1)) zF)) (Int.toNat (p2 + v0_1)) (List.getD v0_0 (Int.toNat (p1 + v0_1)) zF)); omega) (by have f0 := (Qq (Qq ho0_6 (Int.toNat (p1 + v0_1)) (List.getD v0_0 (Int.toNat (p2 + v0_1)) zF)) (Int.toNat (p2 + v0_1)) (List.getD v0_0 (Int.toNat (p1 + v0_1)) zF)); omega) (by have f0 := (Qq (Qq ho0_6 (Int.toNat (p1 + v0_1)) (List.getD v0_0 (Int.toNat (p2 + v0_1)) zF)) (Int.toNat (p2 + v0_1)) (List.getD v0_0 (Int.toNat (p1 + v0_1)) zF)); omega) (by have f0 := (Qq (Qq ho0_6 (Int.toNat (p1 + v0_1)) (List.getD v0_0 (Int.toNat (p2 + v0_1)) zF)) (Int.toNat (p2 + v0_1)) (List.getD v0_0 (Int.toNat (p1 + v0_1)) zF)); omega) (Qq (Qq ho0_6 (Int.toNat (p1 + v0_1)) (List.getD v0_0 (Int.toNat (p2 + v0_1)) zF)) (Int.toNat (p2 + v0_1)) (List.getD v0_0 (Int.toNat (p1 + v0_1)) zF)) (by have f0 := (Qq (Qq ho0_6 (Int.toNat (p1 + v0_1)) (List.getD v0_0 (Int.toNat (p2 + v0_1)) zF)) (Int.toNat (p2 + v0_1)) (List.getD v0_0 (Int.toNat (p1 + v0_1)) zF)); omega))
  | false =>
   exact Qmk n0 p1 p2 p3 v0_0 v0_1 ho0_0 ho0_1 ho0_2 ho0_3 ho0_4 ho0_5 ho0_6 h0
theorem Q6d (n0 : Nat) (p1 : Int) (p2 : Int) (p3 : Int) : ∀ (k0 : Nat) (v0_0 : List Fld) (v0_1 : Int), List.length v0_0 = n0 → List.length (Q27 n0 p1 p2 p3 k0 v0_0 v0_1) = n0
 | 0, v0_0, v0_1, ho0_6 => by rw [Q27]; exact ho0_6
 | k0 + 1, v0_0, v0_1, ho0_6 => by
  rw [Q27]
  cases h0 : (decide (v0_1 < p3)) with
  | true =>
   exact Q6d n0 p1 p2 p3 k0 (List.set (List.set v0_0 (Int.toNat (p1 + v0_1)) (List.getD v0_0 (Int.toNat (p2 + v0_1)) zF)) (Int.toNat (p2 + v0_1)) (List.getD v0_0 (Int.toNat (p1 + v0_1)) zF)) (v0_1 + 1) (Qq (Qq ho0_6 (Int.toNat (p1 + v0_1)) (List.getD v0_0 (Int.toNat (p2 + v0_1)) zF)) (Int.toNat (p2 + v0_1)) (List.getD v0_0 (Int.toNat (p1 + v0_1)) zF))
  | false =>
   exact ho0_6
def Qz (n0 : Nat) (p0 : List Fld) (p1 : Int) (p2 : Int) (p3 : Int) : List Fld :=
 (Q27 n0 p1 p2 p3 ((Int.toNat (p3 - 0)) + 1) p0 0)
def Qod (n0 : Nat) (p0 : List Fld) (p1 : Int) (p2 : Int) (p3 : Int) : En := .call 74 [.ms 0 6 0 n0, .int .i64 p1, .int .i64 p2, .int .i64 p3, .fn 51 [] []] [⟨6, 0, false, (Fld.rows p0).flatten⟩]
def Qix (n0 : Nat) (p0 : List Fld) (p1 : Int) (p2 : Int) (p3 : Int) : Rs := .ret (.tup []) [⟨6, 0, false, (Fld.rows (Qz n0 p0 p1 p2 p3)).flatten⟩]
theorem Ql (n0 : Nat) (p0 : List Fld) (p1 : Int) (p2 : Int) (p3 : Int) (hn : List.length p0 = n0) : List.length (Qz n0 p0 p1 p2 p3) = n0 := by
 unfold Qz
 have hz0_0 : List.length (Q27 n0 p1 p2 p3 ((Int.toNat (p3 - 0)) + 1) p0 0) = n0 := Q6d n0 p1 p2 p3 ((Int.toNat (p3 - 0)) + 1) p0 0 hn
 obtain ⟨R0, eR0⟩ : ∃ R, (Q27 n0 p1 p2 p3 ((Int.toNat (p3 - 0)) + 1) p0 0) = R := ⟨_, rfl⟩
 rw [eR0] at hz0_0 ⊢
 exact hz0_0
theorem Qbb (n0 : Nat) (p0 : List Fld) (p1 : Int) (p2 : Int) (p3 : Int) (hn : List.length p0 = n0) (hq0 : 0 ≤ p1 ∧ 0 ≤ p2 ∧ 0 ≤ p3 ∧ p1 + p3 ≤ n0 ∧ p2 + p3 ≤ n0 ∧ (n0 : Int) ≤ 1152921504606846976) : Qb G (Qod n0 p0 p1 p2 p3) (Qix n0 p0 p1 p2 p3) := by
 unfold Qix Qz
 have hl0 := Qhs n0 p1 p2 p3 ((Int.toNat (p3 - 0)) + 1) p0 0 (by omega) (by omega) (by omega) (by omega) (by omega) (by omega) hn (by omega)
 have hz0_0 : List.length (Q27 n0 p1 p2 p3 ((Int.toNat (p3 - 0)) + 1) p0 0) = n0 := Q6d n0 p1 p2 p3 ((Int.toNat (p3 - 0)) + 1) p0 0 hn
 obtain ⟨R0, eR0⟩ : ∃ R, (Q27 n0 p1 p2 p3 ((Int.toNat (p3 - 0)) + 1) p0 0) = R := ⟨_, rfl⟩
 rw [eR0] at hz0_0 hl0 ⊢
 obtain ⟨z0, zo0, hl0⟩ := hl0
 exact Qc (fn := Ir.K16) rfl (vk1 (Fld.Q0 p0 6 rfl)) [hS 0 false (Fld.Q0 R0 6 rfl)] [aV [(0, Fld.rows R0)] hl0] (by kernel_rfl)
def Q18 (n0 : Nat) (p2 : Int) : Nat → Int → Int → (List Fld) → (List Fld) × Int
 | 0, v0_0, _v0_1, v0_2 => (v0_2, v0_0)
 | k0 + 1, v0_0, v0_1, v0_2 =>
  bif (v0_0 == v0_1) then
   (v0_2, v0_0)
  else
   bif (decide (v0_1 < v0_0)) then
    Q18 n0 p2 k0 (v0_0 - v0_1) v0_1 (Qz n0 v0_2 (p2 - v0_0) p2 v0_1)
   else
    Q18 n0 p2 k0 v0_0 (v0_1 - v0_0) (Qz n0 v0_2 (p2 - v0_0) ((p2 + v0_1) - v0_0) v0_0)
def Qbm (n0 : Nat) (p2 : Int) (v0_0 : Int) (v0_1 : Int) (_v0_2 : List Fld) : List PV :=
  [.ms 0 6 0 n0, .un, .int .i64 p2, .un, .fn 51 [] []] ++ nuns 5 ++ [.int .i64 v0_0, .int .i64 v0_1] ++ nuns 46
def Q7f (_n0 : Nat) (_p2 : Int) (_v0_0 : Int) (_v0_1 : Int) (v0_2 : List Fld) : List Ob :=
  [⟨6, 0, false, (Fld.rows v0_2).flatten⟩]
def Q5l (n0 : Nat) (p2 : Int) (v0_0 : Int) (v0_1 : Int) (v0_2 : List Fld) : En := .loop 1 Ir.Qbs Ir.Qse (Qbm n0 p2 v0_0 v0_1 v0_2) (Q7f n0 p2 v0_0 v0_1 v0_2)
def Qej (n0 : Nat) (p2 : Int) (q0 : List Fld) (q1 : Int) (z : Nat → PV) (_zo : Nat → List PV) : St :=
  ⟨[.ms 0 6 0 n0, z 1, .int .i64 p2, z 3, .fn 51 [] []] ++ zr z 5 5 ++ [.int .i64 q1] ++ zr z 11 47, [(0, ⟨6, 0, false, (Fld.rows q0).flatten⟩)], 193⟩
theorem Qf0 (n0 : Nat) (p2 : Int) (v0_0 : Int) (v0_1 : Int) (v0_2 : List Fld) : VOK (Go.Pv.look (number 0 (Q7f n0 p2 v0_0 v0_1 v0_2))) [(0, Fld.rows v0_2)] := (VOK.cons (show Seen _ _ from Q2q (ob := ⟨6, 0, false, (Fld.rows v0_2).flatten⟩) (Fld.Q0 v0_2 6 rfl)) VOK.nil)
def Q8m (n0 : Nat) (p2 : Int) (e : En) (q : (List Fld) × Int) : Prop := ∃ z zo, Qb G e (.st (.exit 0) (Qej n0 p2 q.1 q.2 z zo))
theorem Q7b (n0 : Nat) (p2 : Int) {e e' : En} (h : ∀ r, Qb G e r → Qb G e' r) : ∀ q, Q8m n0 p2 e q → Q8m n0 p2 e' q
  | _, ⟨z, zo, hz⟩ => ⟨z, zo, h _ hz⟩
def Qcw (_n0 : Nat) (_p2 : Int) (v0_0 : Int) (v0_1 : Int) (_v0_2 : List Fld) : List PV :=
  nuns 11 ++ [.int .i64 v0_1] ++ nuns 6 ++ [.int .i64 v0_0, .int .i64 v0_1, .bool false]
def Qak (_n0 : Nat) (_p2 : Int) (_v0_0 : Int) (_v0_1 : Int) (_v0_2 : List Fld) : List (Nat × List PV) :=
  []
theorem Qnf (n0 : Nat) (p2 : Int) (v0_0 : Int) (v0_1 : Int) (v0_2 : List Fld) (_ho0_0 : 0 < v0_0) (_ho0_1 : 0 < v0_1) (_ho0_2 : v0_0 ≤ p2) (_ho0_3 : p2 + v0_1 ≤ n0) (_ho0_4 : (n0 : Int) ≤ 1152921504606846976) (_ho0_5 : List.length v0_2 = n0) (h0 : (v0_0 == v0_1) = true) : Q8m n0 p2 (Q5l n0 p2 v0_0 v0_1 v0_2) (v0_2, v0_0) := by
 exact ⟨(envF (Qcw n0 p2 v0_0 v0_1 v0_2)), (zoF (Qak n0 p2 v0_0 v0_1 v0_2)), Qn (Qf0 n0 p2 v0_0 v0_1 v0_2) (x := ((.exit 0), Qej n0 p2 v0_2 v0_0 (envF (Qcw n0 p2 v0_0 v0_1 v0_2)) (zoF (Qak n0 p2 v0_0 v0_1 v0_2)))) [hP 2 (dec (!(v0_0 == v0_1)) false (by rw [h0]; rfl))] [] (by kernel_rfl)⟩
theorem Qo8 (n0 : Nat) (p2 : Int) (v0_0 : Int) (v0_1 : Int) (v0_2 : List Fld) (ho0_0 : 0 < v0_0) (ho0_1 : 0 < v0_1) (ho0_2 : v0_0 ≤ p2) (ho0_3 : p2 + v0_1 ≤ n0) (ho0_4 : (n0 : Int) ≤ 1152921504606846976) (ho0_5 : List.length v0_2 = n0) (h0 : (v0_0 == v0_1) = false) (h1 : (decide (v0_1 < v0_0)) = true) {r : Rs} (hr : Qb G (Q5l n0 p2 (v0_0 - v0_1) v0_1 (Qz n0 v0_2 (p2 - v0_0) p2 v0_1)) r) : Qb G (Q5l n0 p2 v0_0 v0_1 v0_2) r := by
 have e0 := beq_eq_false_iff_ne.1 h0; have e1 := of_decide_eq_true h1
 exact Qi (Qf0 n0 p2 v0_0 v0_1 v0_2) (y := (Qbm n0 p2 (v0_0 - v0_1) v0_1 (Qz n0 v0_2 (p2 - v0_0) p2 v0_1), Q7f n0 p2 (v0_0 - v0_1) v0_1 (Qz n0 v0_2 (p2 - v0_0) p2 v0_1))) [hP 2 (dec (!(v0_0 == v0_1)) true (by rw [h0]; rfl)), hB 2 h1, hP 3 (w_ok (p2 - v0_0) (by omega)), hQ (Fld.Q0 (Qz n0 v0_2 (p2 - v0_0) p2 v0_1) 6 rfl), hP 6 (w_ok (v0_0 - v0_1) (by have f0 := (Ql n0 v0_2 (p2 - v0_0) p2 v0_1 ho0_5); omega))] [aV [(0, Fld.rows (Qz n0 v0_2 (p2 - v0_0) p2 v0_1))] (Qbb n0 v0_2 (p2 - v0_0) p2 v0_1 ho0_5 (by omega))] (by kernel_rfl) hr
theorem Qmh (n0 : Nat) (p2 : Int) (v0_0 : Int) (v0_1 : Int) (v0_2 : List Fld) (ho0_0 : 0 < v0_0) (ho0_1 : 0 < v0_1) (ho0_2 : v0_0 ≤ p2) (ho0_3 : p2 + v0_1 ≤ n0) (ho0_4 : (n0 : Int) ≤ 1152921504606846976) (ho0_5 : List.length v0_2 = n0) (h0 : (v0_0 == v0_1) = false) (h1 : (decide (v0_1 < v0_0)) = false) {r : Rs} (hr : Qb G (Q5l n0 p2 v0_0 (v0_1 - v0_0) (Qz n0 v0_2 (p2 - v0_0) ((p2 + v0_1) - v0_0) v0_0)) r) : Qb G (Q5l n0 p2 v0_0 v0_1 v0_2) r := by
 have e0 := beq_eq_false_iff_ne.1 h0; have e1 := of_decide_eq_false h1
 exact Qi (Qf0 n0 p2 v0_0 v0_1 v0_2) (y := (Qbm n0 p2 v0_0 (v0_1 - v0_0) (Qz n0 v0_2 (p2 - v0_0) ((p2 + v0_1) - v0_0) v0_0), Q7f n0 p2 v0_0 (v0_1 - v0_0) (Qz n0 v0_2 (p2 - v0_0) ((p2 + v0_1) - v0_0) v0_0))) [hP 2 (dec (!(v0_0 == v0_1)) true (by rw [h0]; rfl)), hB 2 h1, hP 3 (w_ok (p2 - v0_0) (by omega)), hP 2 (w_ok (p2 + v0_1) (by omega)), hP 1 (w_ok ((p2 + v0_1) - v0_0) (by omega)), hQ (Fld.Q0 (Qz n0 v0_2 (p2 - v0_0) ((p2 + v0_1) - v0_0) v0_0) 6 rfl), hP 5 (w_ok (v0_1 - v0_0) (by have f0 := (Ql n0 v0_2 (p2 - v0_0) ((p2 + v0_1) - v0_0) v0_0 ho0_5); omega))] [aV [(0, Fld.rows (Qz n0 v0_2 (p2 - v0_0) ((p2 + v0_1) - v0_0) v0_0))] (Qbb n0 v0_2 (p2 - v0_0) ((p2 + v0_1) - v0_0) v0_0 ho0_5 (by omega))] (by kernel_rfl) hr
theorem Q9f (n0 : Nat) (p2 : Int) : ∀ (k0 : Nat) (v0_0 : Int) (v0_1 : Int) (v0_2 : List Fld), 0 < v0_0 → 0 < v0_1 → v0_0 ≤ p2 → p2 + v0_1 ≤ n0 → (n0 : Int) ≤ 1152921504606846976 → List.length v0_2 = n0 → Int.toNat (v0_0 + v0_1) < k0 → Q8m n0 p2 (Q5l n0 p2 v0_0 v0_1 v0_2) (Q18 n0 p2 k0 v0_0 v0_1 v0_2)
 | 0, v0_0, v0_1, v0_2, _, _, _, _, _, _, hm => absurd hm (Nat.not_lt_zero _)
 | k0 + 1, v0_0, v0_1, v0_2, ho0_0, ho0_1, ho0_2, ho0_3, ho0_4, ho0_5, hm => by
  rw [Q18]
  cases h0 : (v0_0 == v0_1) with
  | true =>
   exact Qnf n0 p2 v0_0 v0_1 v0_2 ho0_0 ho0_1 ho0_2 ho0_3 ho0_4 ho0_5 h0
  | false =>
   have e0 := beq_eq_false_iff_ne.1 h0
   cases h1 : (decide (v0_1 < v0_0)) with
   | true =>
    have e1 := of_decide_eq_true h1
    exact Q7b n0 p2 (fun r hr => Qo8 n0 p2 v0_0 v0_1 v0_2 ho0_0 ho0_1 ho0_2 ho0_3 ho0_4 ho0_5 h0 h1 hr) _ (Q9f n0 p2 k0 (v0_0 - v0_1) v0_1 (Qz n0 v0_2 (p2 - v0_0) p2 v0_1) (by have f0 := (Ql n0 v0_2 (p2 - v0_0) p2 v0_1 ho0_5); omega) (by have f0 := (Ql n0 v0_2 (p2 - v0_0) p2 v0_1 ho0_5); omega) (by have f0 := (Ql n0 v0_2 (p2 - v0_0) p2 v0_1 ho0_5); omega) (by have f0 := (Ql n0 v0_2 (p2 - v0_0) p2 v0_1 ho0_5); omega) (by have f0 := (Ql n0 v0_2 (p2 - v0_0) p2 v0_1 ho0_5); omega) (Ql n0 v0_2 (p2 - v0_0) p2 v0_1 ho0_5) (by have f0 := (Ql n0 v0_2 (p2 - v0_0) p2 v0_1 ho0_5); omega))
   | false =>
    have e1 := of_decide_eq_false h1
    exact Q7b n0 p2 (fun r hr => Qmh n0 p2 v0_0 v0_1 v0_2 ho0_0 ho0_1 ho0_2 ho0_3 ho0_4 ho0_5 h0 h1 hr) _ (Q9f n0 p2 k0 v0_0 (v0_1 - v0_0) (Qz n0 v0_2 (p2 - v0_0) ((p2 + v0_1) - v0_0) v0_0) (by have f0 := (Ql n0 v0_2 (p2 - v0_0) ((p2 + v0_1) - v0_0) v0_0 ho0_5); omega) (by have f0 := (Ql n0 v0_2 (p2 - v0_0) ((p2 + v0_1) - v0_0) v0_0 ho0_5); omega) (by have f0 := (Ql n0 v0_2 (p2 - v0_0) ((p2 + v0_1) - v0_0) v0_0 ho0_5); omega) (by have f0 := (Ql n0 v0_2 (p2 - v0_0) ((p2 + v0_1) - v0_0) v0_0 ho0_5); omega) (by have f0 := (Ql n0 v0_2 (p2 - v0_0) ((p2 + v0_1) - v0_0) v0_0 ho0_5); omega) (Ql n0 v0_2 (p2 - v0_0) ((p2 + v0_1) - v0_0) v0_0 ho0_5) (by have f0 := (Ql n0 v0_2 (p2 - v0_0) ((p2 + v0_1) - v0_0) v0_0 ho0_5); omega))
theorem Q4j (n0 : Nat) (p2 : Int) : ∀ (k0 : Nat) (v0_0 : Int) (v0_1 : Int) (v0_2 : List Fld), List.length v0_2 = n0 → List.length (Q18 n0 p2 k0 v0_0 v0_1 v0_2).1 = n0
 | 0, v0_0, v0_1, v0_2, ho0_5 => by rw [Q18]; exact ho0_5
 | k0 + 1, v0_0, v0_1, v0_2, ho0_5 => by
  rw [Q18]
  cases h0 : (v0_0 == v0_1) with
  | true =>
   exact ho0_5
  | false =>
   cases h1 : (decide (v0_1 < v0_0)) with
   | true =>
    exact Q4j n0 p2 k0 (v0_0 - v0_1) v0_1 (Qz n0 v0_2 (p2 - v0_0) p2 v0_1) (Ql n0 v0_2 (p2 - v0_0) p2 v0_1 ho0_5)
   | false =>
    exact Q4j n0 p2 k0 v0_0 (v0_1 - v0_0) (Qz n0 v0_2 (p2 - v0_0) ((p2 + v0_1) - v0_0) v0_0) (Ql n0 v0_2 (p2 - v0_0) ((p2 + v0_1) - v0_0) v0_0 ho0_5)
theorem Qa6 (n0 : Nat) (p2 : Int) : ∀ (k0 : Nat) (v0_0 : Int) (v0_1 : Int) (v0_2 : List Fld), 0 < v0_0 → 0 < v0_1 → v0_0 ≤ p2 → p2 + v0_1 ≤ n0 → (n0 : Int) ≤ 1152921504606846976 → List.length v0_2 = n0 → Int.toNat (v0_0 + v0_1) < k0 → 0 < (Q18 n0 p2 k0 v0_0 v0_1 v0_2).2 ∧ (Q18 n0 p2 k0 v0_0 v0_1 v0_2).2 ≤ p2 ∧ p2 + (Q18 n0 p2 k0 v0_0 v0_1 v0_2).2 ≤ n0
 | 0, v0_0, v0_1, v0_2, _, _, _, _, _, _, hm => absurd hm (Nat.not_lt_zero _)
 | k0 + 1, v0_0, v0_1, v0_2, ho0_0, ho0_1, ho0_2, ho0_3, ho0_4, ho0_5, hm => by
  rw [Q18]
  cases h0 : (v0_0 == v0_1) with
  | true =>
   have e0 := eq_of_beq h0
   exact (show 0 < v0_0 ∧ v0_0 ≤ p2 ∧ p2 + v0_0 ≤ n0 from ⟨(by omega), (by omega), (by omega)⟩)
  | false =>
   have e0 := beq_eq_false_iff_ne.1 h0
   cases h1 : (decide (v0_1 < v0_0)) with
   | true =>
    have e1 := of_decide_eq_true h1
    exact Qa6 n0 p2 k0 (v0_0 - v0_1) v0_1 (Qz n0 v0_2 (p2 - v0_0) p2 v0_1) (by have f0 := (Ql n0 v0_2 (p2 - v0_0) p2 v0_1 ho0_5); omega) (by have f0 := (Ql n0 v0_2 (p2 - v0_0) p2 v0_1 ho0_5); omega) (by have f0 := (Ql n0 v0_2 (p2 - v0_0) p2 v0_1 ho0_5); omega) (by have f0 := (Ql n0 v0_2 (p2 - v0_0) p2 v0_1 ho0_5); omega) (by have f0 := (Ql n0 v0_2 (p2 - v0_0) p2 v0_1 ho0_5); omega) (Ql n0 v0_2 (p2 - v0_0) p2 v0_1 ho0_5) (by have f0 := (Ql n0 v0_2 (p2 - v0_0) p2 v0_1 ho0_5); omega)
   | false =>
    have e1 := of_decide_eq_false h1
    exact Qa6 n0 p2 k0 v0_0 (v0_1 - v0_0) (Qz n0 v0_2 (p2 - v0_0) ((p2 + v0_1) - v0_0) v0_0) (by have f0 := (Ql n0 v0_2 (p2 - v0_0) ((p2 + v0_1) - v0_0) v0_0 ho0_5); omega) (by have f0 := (Ql n0 v0_2 (p2 - v0_0) ((p2 + v0_1) - v0_0) v0_0 ho0_5); omega) (by have f0 := (Ql n0 v0_2 (p2 - v0_0) ((p2 + v0_1) - v0_0) v0_0 ho0_5); omega) (by have f0 := (Ql n0 v0_2 (p2 - v0_0) ((p2 + v0_1) - v0_0) v0_0 ho0_5); omega) (by have f0 := (Ql n0 v0_2 (p2 - v0_0) ((p2 + v0_1) - v0_0) v0_0 ho0_5); omega) (Ql n0 v0_2 (p2 - v0_0) ((p2 + v0_1) - v0_0) v0_0 ho0_5) (by have f0 := (Ql n0 v0_2 (p2 - v0_0) ((p2 + v0_1) - v0_0) v0_0 ho0_5); omega)
def Q7 (n0 : Nat) (p0 : List Fld) (p1 : Int) (p2 : Int) (p3 : Int) : List Fld :=
 (Qz n0 (Q18 n0 p2 ((Int.toNat ((p2 - p1) + (p3 - p2))) + 1) (p2 - p1) (p3 - p2) p0).1 (p2 - (Q18 n0 p2 ((Int.toNat ((p2 - p1) + (p3 - p2))) + 1) (p2 - p1) (p3 - p2) p0).2) p2 (Q18 n0 p2 ((Int.toNat ((p2 - p1) + (p3 - p2))) + 1) (p2 - p1) (p3 - p2) p0).2)
def Qq1 (n0 : Nat) (p0 : List Fld) (p1 : Int) (p2 : Int) (p3 : Int) : En := .call 73 [.ms 0 6 0 n0, .int .i64 p1, .int .i64 p2, .int .i64 p3, .fn 51 [] []] [⟨6, 0, false, (Fld.rows p0).flatten⟩]
def Qh6 (n0 : Nat) (p0 : List Fld) (p1 : Int) (p2 : Int) (p3 : Int) : Rs := .ret (.tup []) [⟨6, 0, false, (Fld.rows (Q7 n0 p0 p1 p2 p3)).flatten⟩]
theorem Qe (n0 : Nat) (p0 : List Fld) (p1 : Int) (p2 : Int) (p3 : Int) (hn : List.length p0 = n0) : List.length (Q7 n0 p0 p1 p2 p3) = n0 := by
 unfold Q7
 have hz0_0 : List.length (Q18 n0 p2 ((Int.toNat ((p2 - p1) + (p3 - p2))) + 1) (p2 - p1) (p3 - p2) p0).1 = n0 := Q4j n0 p2 ((Int.toNat ((p2 - p1) + (p3 - p2))) + 1) (p2 - p1) (p3 - p2) p0 hn
 obtain ⟨R1, eR1⟩ : ∃ R, (Q18 n0 p2 ((Int.toNat ((p2 - p1) + (p3 - p2))) + 1) (p2 - p1) (p3 - p2) p0) = R := ⟨_, rfl⟩
 rw [eR1] at hz0_0 ⊢
 exact (Ql n0 R1.1 (p2 - R1.2) p2 R1.2 hz0_0)
theorem Q1b (n0 : Nat) (p0 : List Fld) (p1 : Int) (p2 : Int) (p3 : Int) (hn : List.length p0 = n0) (hq0 : 0 ≤ p1 ∧ p1 < p2 ∧ p2 < p3 ∧ p3 ≤ n0 ∧ (n0 : Int) ≤ 1152921504606846976) : Qb G (Qq1 n0 p0 p1 p2 p3) (Qh6 n0 p0 p1 p2 p3) := by
 unfold Qh6 Q7
 have hl0 := Q9f n0 p2 ((Int.toNat ((p2 - p1) + (p3 - p2))) + 1) (p2 - p1) (p3 - p2) p0 (by omega) (by omega) (by omega) (by omega) (by omega) hn (by omega)
 have hz0_0 : List.length (Q18 n0 p2 ((Int.toNat ((p2 - p1) + (p3 - p2))) + 1) (p2 - p1) (p3 - p2) p0).1 = n0 := Q4j n0 p2 ((Int.toNat ((p2 - p1) + (p3 - p2))) + 1) (p2 - p1) (p3 - p2) p0 hn
 have hy0 : 0 < (Q18 n0 p2 ((Int.toNat ((p2 - p1) + (p3 - p2))) + 1) (p2 - p1) (p3 - p2) p0).2 ∧ (Q18 n0 p2 ((Int.toNat ((p2 - p1) + (p3 - p2))) + 1) (p2 - p1) (p3 - p2) p0).2 ≤ p2 ∧ p2 + (Q18 n0 p2 ((Int.toNat ((p2 - p1) + (p3 - p2))) + 1) (p2 - p1) (p3 - p2) p0).2 ≤ n0 := Qa6 n0 p2 ((Int.toNat ((p2 - p1) + (p3 - p2))) + 1) (p2 - p1) (p3 - p2) p0 (by omega) (by omega) (by omega) (by omega) (by omega) hn (by omega)
 obtain ⟨R1, eR1⟩ : ∃ R, (Q18 n0 p2 ((Int.toNat ((p2 - p1) + (p3 - p2))) + 1) (p2 - p1) (p3 - p2) p0) = R := ⟨_, rfl⟩
 rw [eR1] at hz0_0 hy0 hl0 ⊢
 obtain ⟨z0, zo0, hl0⟩ := hl0
 exact Qc (fn := Ir.K14) rfl (vk1 (Fld.Q0 p0 6 rfl)) [hP 2 (w_ok (p2 - p1) (by omega)), hP 3 (w_ok (p3 - p2) (by omega)), hS 0 false (Fld.Q0 R1.1 6 rfl), hP 4 (w_ok (p2 - R1.2) (by have g0 := hy0; omega)), hQ (Fld.Q0 (Qz n0 R1.1 (p2 - R1.2) p2 R1.2) 6 rfl)] [aV [(0, Fld.rows R1.1)] hl0, aV [(0, Fld.rows (Qz n0 R1.1 (p2 - R1.2) p2 R1.2))] (Qbb n0 R1.1 (p2 - R1.2) p2 R1.2 hz0_0 (by have g0 := hy0; omega))] (by kernel_rfl)
end Go.Proofs.Ytedohmdgbilicaa
end

