/- Texts of the claim, merged by a program; what the statement does not reach is left out. -/
import Derived.Test.YtedohmdgbilicaaBValueOrder2
import Derived.OpenShut
import Derived.ChangeArms
import Derived.ChangeSlices
import Derived.ChangeOld
import Derived.Carry
import GoSem.ClaimJoined
import Derived.Lib.Strings
import Derived.Lib.Slices
import Derived.Lib.Walk
import Derived.Lib.Bytealg

section
/-
  What a law is handed, as plain Lean values.
-/
namespace Go.Pv
def okI (k : IntKind) (n : Int) : Prop := (Lit.int k n).wf = true
def okI64 (n : Int) : Prop := -9223372036854775808 ≤ n ∧ n ≤ 9223372036854775807
def okU8 (n : Int) : Prop := 0 ≤ n ∧ n ≤ 255
theorem okI.i64 {n : Int} (h : okI .i64 n) : okI64 n := by
  unfold okI at h
  simp [Lit.wf, IntKind.min, IntKind.max, IntKind.signed, IntKind.bits] at h
  exact h
theorem okI.u8 {n : Int} (h : okI .u8 n) : okU8 n := by
  unfold okI at h
  simp [Lit.wf, IntKind.min, IntKind.max, IntKind.signed, IntKind.bits] at h
  unfold okU8
  omega
def okS (s : ByteArray) : Prop := s.size ≤ 140737488351232
section
variable {Γ : Nat → Option Ty}
theorem OfL.uncons {f : Ty} {fs : List Ty} {c : List PV} (h : OfL Γ (f :: fs) c) : ∃ a b, c = a ++ b ∧ Of Γ f a ∧ OfL Γ fs b := by
  cases h with
  | cons _ _ a b h1 h2 => exact ⟨a, b, rfl, h1, h2⟩
theorem OfL.empty {c : List PV} (h : OfL Γ [] c) : c = [] := by cases h; rfl
theorem Of.str1 {c : List PV} (h : Of Γ .str c) : ∃ s, c = [.str s] ∧ okS s := by
  cases h with
  | str s h => exact ⟨s, rfl, h⟩
theorem Of.int1 {k : IntKind} {c : List PV} (h : Of Γ (.int k) c) : ∃ n, c = [.int k n] ∧ okI k n := by
  cases h with
  | int _ n h => exact ⟨n, rfl, h⟩
theorem Of.i64 {c : List PV} (h : Of Γ (.int .i64) c) : ∃ n, c = [.int .i64 n] ∧ okI64 n := by
  obtain ⟨n, h1, h2⟩ := h.int1
  exact ⟨n, h1, h2.i64⟩
theorem Of.u8 {c : List PV} (h : Of Γ (.int .u8) c) : ∃ n, c = [.int .u8 n] ∧ okU8 n := by
  obtain ⟨n, h1, h2⟩ := h.int1
  exact ⟨n, h1, h2.u8⟩
theorem Of.st1 {fs : List Ty} {c : List PV} (h : Of Γ (.st fs) c) : OfL Γ fs c := by
  cases h with
  | st _ _ h => exact h
theorem choose_rows {α : Type} {f : α → List PV} {ok : α → Prop} : ∀ (l : List (List PV)), (∀ r ∈ l, ∃ x, r = f x ∧ ok x) → ∃ xs : List α, l = xs.map f ∧ ∀ x ∈ xs, ok x
  | [], _ => ⟨[], rfl, fun _ h => absurd h List.not_mem_nil⟩
  | r :: rs, h => by
    obtain ⟨x, hx, hok⟩ := h r List.mem_cons_self
    obtain ⟨xs, hxs, hoks⟩ := choose_rows rs (fun q hq => h q (List.mem_cons_of_mem _ hq))
    refine ⟨x :: xs, by rw [hx, hxs]; rfl, fun y hy => ?_⟩
    rcases List.mem_cons.1 hy with rfl | hy
    · exact hok
    · exact hoks y hy
theorem Arg.one {ty : Ty} {p : PV} (h : Arg Γ ty p) (hs : ty.isSt Γ = false) : Of Γ ty [p] := by
  obtain ⟨c, hc, hp⟩ := h
  rw [hs] at hp
  have hp : c = [p] := hp
  subst hp
  exact hc
theorem Arg.agg {ty : Ty} {p : PV} (h : Arg Γ ty p) (hs : ty.isSt Γ = true) : ∃ c, p = .agg c ∧ Of Γ ty c := by
  obtain ⟨c, hc, hp⟩ := h
  rw [hs] at hp
  exact ⟨c, hp, hc⟩
end
end Go.Pv
end

section
/-
  Strings: equality and order.
-/
namespace Go.Pv
theorem toList_loop (b : ByteArray) : ∀ (n i : Nat) (acc : List UInt8), b.size - i = n → ByteArray.toList.loop b i acc = acc.reverse ++ b.data.toList.drop i := by
  intro n
  induction n with
  | zero =>
    intro i acc h
    unfold ByteArray.toList.loop
    have h1 : ¬ i < b.size := by omega
    rw [if_neg h1]
    have : b.data.toList.drop i = [] := by
      rw [List.drop_eq_nil_iff]
      have : b.data.toList.length = b.size := Array.length_toList
      omega
    rw [this, List.append_nil]
  | succ n ih =>
    intro i acc h
    unfold ByteArray.toList.loop
    have h1 : i < b.size := by omega
    rw [if_pos h1, ih (i + 1) _ (by omega)]
    have hl : i < b.data.toList.length := by rw [show b.data.toList.length = b.size from Array.length_toList]; exact h1
    rw [List.drop_eq_getElem_cons hl, List.reverse_cons, List.append_assoc]
    congr 1
    simp only [List.singleton_append, List.cons.injEq, and_true]
    have : b.data.size = b.size := rfl
    simp [ByteArray.get!, h1, this]
theorem toList_data (b : ByteArray) : b.toList = b.data.toList := by
  unfold ByteArray.toList
  rw [toList_loop b _ 0 [] rfl]
  simp
mutual
inductive Val where
  | mk (kind n : Int) (s : ByteArray) (list : List Val) (fields : List Fld)
inductive Fld where
  | mk (name : ByteArray) (v : Val)
end
def Val.kind : Val → Int
  | .mk k _ _ _ _ => k
def Val.n : Val → Int
  | .mk _ n _ _ _ => n
def Val.s : Val → ByteArray
  | .mk _ _ s _ _ => s
def Val.list : Val → List Val
  | .mk _ _ _ l _ => l
def Val.fields : Val → List Fld
  | .mk _ _ _ _ f => f
def Fld.name : Fld → ByteArray
  | .mk n _ => n
def Fld.v : Fld → Val
  | .mk _ v => v
mutual
def Val.cs : Val → List PV
  | .mk k n s l f => [.int .i64 k, .int .i64 n, .str s, .sl (Val.css l), .sl (Fld.css f)]
def Val.css : List Val → List (List PV)
  | [] => []
  | v :: r => v.cs :: Val.css r
def Fld.css : List Fld → List (List PV)
  | [] => []
  | f :: r => f.cs :: Fld.css r
def Fld.cs : Fld → List PV
  | .mk n v => .str n :: v.cs
end
def Val.rows (l : List Val) : List (List PV) := Val.css l
def Fld.rows (l : List Fld) : List (List PV) := Fld.css l
def Val.cells (v : Val) : List PV := [.int .i64 v.kind, .int .i64 v.n, .str v.s, .sl (Val.rows v.list), .sl (Fld.rows v.fields)]
def Fld.cells (f : Fld) : List PV := [.str f.name, .int .i64 f.v.kind, .int .i64 f.v.n, .str f.v.s, .sl (Val.rows f.v.list), .sl (Fld.rows f.v.fields)]
theorem Val.cs_eq (v : Val) : v.cs = v.cells := by cases v; rfl
theorem Fld.cs_eq (f : Fld) : f.cs = f.cells := by
  cases f with
  | mk n v => cases v; rfl
theorem Val.rowsCons (v : Val) (l : List Val) : Val.rows (v :: l) = v.cells :: Val.rows l := by
  rw [← Val.cs_eq]
  rfl
theorem Fld.rowsCons (v : Fld) (l : List Fld) : Fld.rows (v :: l) = v.cells :: Fld.rows l := by
  rw [← Fld.cs_eq]
  rfl
theorem Val.rowsMap : ∀ l : List Val, Val.rows l = l.map Val.cells
  | [] => rfl
  | v :: r => by rw [Val.rowsCons, Val.rowsMap r]; rfl
theorem Fld.rowsMap : ∀ l : List Fld, Fld.rows l = l.map Fld.cells
  | [] => rfl
  | v :: r => by rw [Fld.rowsCons, Fld.rowsMap r]; rfl
theorem Val.rowsLen (l : List Val) : (Val.rows l).length = l.length := by simp [Val.rowsMap]
theorem Fld.rowsLen (l : List Fld) : (Fld.rows l).length = l.length := by simp [Fld.rowsMap]
theorem Val.rowsGet {l : List Val} {i : Nat} {x : Val} (h : l[i]? = some x) : (Val.rows l)[i]? = some (Val.cells x) := by rw [Val.rowsMap]; exact Go.Pv.rowsGet h
theorem Fld.rowsGet {l : List Fld} {i : Nat} {x : Fld} (h : l[i]? = some x) : (Fld.rows l)[i]? = some (Fld.cells x) := by rw [Fld.rowsMap]; exact Go.Pv.rowsGet h
theorem Val.lt_list (v : Val) : SizeOf.sizeOf v.list < SizeOf.sizeOf v := by
  cases v with
  | mk k n s l f => simp only [Val.list, Val.mk.sizeOf_spec]; omega
theorem Val.lt_fields (v : Val) : SizeOf.sizeOf v.fields < SizeOf.sizeOf v := by
  cases v with
  | mk k n s l f => simp only [Val.fields, Val.mk.sizeOf_spec]; omega
theorem Fld.lt_v (f : Fld) : SizeOf.sizeOf f.v < SizeOf.sizeOf f := by
  cases f with
  | mk n v => simp only [Fld.v, Fld.mk.sizeOf_spec]; omega
theorem szL {v x : Val} {i : Nat} (h : v.list[i]? = some x) : SizeOf.sizeOf x < SizeOf.sizeOf v :=
  Nat.lt_trans (List.sizeOf_lt_of_mem (mem_get h)) v.lt_list
theorem szF {v : Val} {x : Fld} {i : Nat} (h : v.fields[i]? = some x) : SizeOf.sizeOf x.v < SizeOf.sizeOf v :=
  Nat.lt_trans x.lt_v (Nat.lt_trans (List.sizeOf_lt_of_mem (mem_get h)) v.lt_fields)
/-- every list within is of at most B elements -/
inductive Val.Sm (B : Nat) : Val → Prop
  | mk (v : Val) (hl : v.list.length ≤ B) (hf : v.fields.length ≤ B) (sl : ∀ x ∈ v.list, Val.Sm B x) (sf : ∀ x ∈ v.fields, Val.Sm B x.v) : Val.Sm B v
theorem Val.Sm.all {B : Nat} {v : Val} (h : Val.Sm B v) : v.list.length ≤ B ∧ v.fields.length ≤ B ∧ (∀ x ∈ v.list, Val.Sm B x) ∧ (∀ x ∈ v.fields, Val.Sm B x.v) := by
  cases h with
  | mk _ h1 h2 h3 h4 => exact ⟨h1, h2, h3, h4⟩
theorem Val.Sm.mono {B C : Nat} (hb : B ≤ C) {v : Val} (h : Val.Sm B v) : Val.Sm C v := by
  induction h with
  | mk v h1 h2 _ _ i1 i2 => exact .mk v (by omega) (by omega) i1 i2
theorem Val.Sm.leaf {B : Nat} (k n : Int) (s : ByteArray) : Val.Sm B (.mk k n s [] []) := .mk _ (Nat.zero_le _) (Nat.zero_le _) (fun _ h => by cases h) (fun _ h => by cases h)
theorem Val.Sm.getD {B : Nat} {l : List Val} (h : ∀ x ∈ l, Val.Sm B x) (i : Nat) (k n : Int) (s : ByteArray) : Val.Sm B (l.getD i (.mk k n s [] [])) := by
  by_cases c : i < l.length
  · have := getD_ok l i (.mk k n s [] []) c
    exact h _ (mem_get this)
  · rw [List.getD_eq_getElem?_getD, List.getElem?_eq_none (by omega)]
    exact .leaf k n s
/-- what is known of a tree that a law is handed -/
inductive Val_ok : Val → Prop
  | mk (v : Val) (h1 : okI64 v.kind) (h2 : okI64 v.n) (h3 : okS v.s) (hl : v.list.length * 80 ≤ 140737488351232) (hf : v.fields.length * 96 ≤ 140737488351232) (sl : ∀ x ∈ v.list, Val_ok x) (sn : ∀ x ∈ v.fields, okS x.name) (sf : ∀ x ∈ v.fields, Val_ok x.v) : Val_ok v
def Fld_ok (f : Fld) : Prop := okS f.name ∧ Val_ok f.v
theorem Val_ok.all {v : Val} (h : Val_ok v) : okI64 v.kind ∧ okI64 v.n ∧ okS v.s ∧ v.list.length * 80 ≤ 140737488351232 ∧ v.fields.length * 96 ≤ 140737488351232 ∧ (∀ x ∈ v.list, Val_ok x) ∧ (∀ x ∈ v.fields, okS x.name ∧ Val_ok x.v) := by
  cases h with
  | mk _ a b c d e f n g => exact ⟨a, b, c, d, e, f, fun x hx => ⟨n x hx, g x hx⟩⟩
theorem Val_ok.sm {v : Val} (h : Val_ok v) : Val.Sm 4611686018427387904 v := by
  induction h with
  | mk v _ _ _ hl hf _ _ _ i1 i2 => exact .mk v (by omega) (by omega) i1 i2
def Val_body (t : Nat) : Ty := .st [.int .i64, .int .i64, .str, .sl 80 (.nm t), .sl 96 (.st [.str, .nm t])]
theorem Val_openN {Γ : Nat → Option Ty} {t : Nat} (hΓ : Γ t = some (Val_body t)) : ∀ (k : Nat) (c : List PV), SizeOf.sizeOf c < k → Of Γ (.nm t) c → ∃ v : Val, c = v.cells ∧ Val_ok v
  | 0, _, h, _ => absurd h (Nat.not_lt_zero _)
  | k + 1, c, hk, h => by
    have hb : Of Γ (Val_body t) c := by
      cases h with
      | nm _ ty _ hg h =>
        rw [hΓ] at hg
        injection hg with hg
        subst hg
        exact h
    have g0 := hb.st1
    obtain ⟨a0, b0, rfl, h0, g1⟩ := g0.uncons
    obtain ⟨x0, rfl, k0⟩ := h0.i64
    obtain ⟨a1, b1, rfl, h1, g2⟩ := g1.uncons
    obtain ⟨x1, rfl, k1⟩ := h1.i64
    obtain ⟨a2, b2, rfl, h2, g3⟩ := g2.uncons
    obtain ⟨x2, rfl, k2⟩ := h2.str1
    obtain ⟨a3, b3, rfl, h3, g4⟩ := g3.uncons
    obtain ⟨a4, b4, rfl, h4, g5⟩ := g4.uncons
    have e := g5.empty
    subst e
    cases h3 with
    | sl _ _ l3 hl3 hr3 =>
    cases h4 with
    | sl _ _ l4 hl4 hr4 =>
    have s3 : SizeOf.sizeOf l3 < k := by simp at hk; omega
    have s4 : SizeOf.sizeOf l4 < k := by simp at hk; omega
    obtain ⟨x3, rfl, k3⟩ := choose_rows (f := Val.cells) (ok := Val_ok) l3 (fun r hr' => Val_openN hΓ k r (by have := List.sizeOf_lt_of_mem hr'; omega) (hr3 r hr'))
    obtain ⟨x4, rfl, k4⟩ := choose_rows (f := Fld.cells) (ok := Fld_ok) l4 (fun r hr' => by
      have q0 := (hr4 r hr').st1
      obtain ⟨c0, d0, rfl, i0, q1⟩ := q0.uncons
      obtain ⟨y0, rfl, m0⟩ := i0.str1
      obtain ⟨c1, d1, rfl, i1, q2⟩ := q1.uncons
      have e := q2.empty
      subst e
      obtain ⟨y1, rfl, m1⟩ := Val_openN hΓ k c1 (by have := List.sizeOf_lt_of_mem hr'; simp at this; omega) i1
      exact ⟨.mk y0 y1, by simp [Fld.cells, Val.cells, Fld.name, Fld.v], m0, m1⟩)
    rw [List.length_map] at hl3 hl4
    refine ⟨.mk x0 x1 x2 x3 x4, ?_, .mk _ k0 k1 k2 hl3 hl4 k3 (fun x hx => (k4 x hx).1) (fun x hx => (k4 x hx).2)⟩
    simp [Val.cells, Val.kind, Val.n, Val.s, Val.list, Val.fields, Val.rowsMap, Fld.rowsMap]
theorem Val_open {Γ : Nat → Option Ty} {t : Nat} (hΓ : Γ t = some (Val_body t)) {c : List PV} (h : Of Γ (.nm t) c) : ∃ v : Val, c = v.cells ∧ Val_ok v := Val_openN hΓ _ c (Nat.lt_succ_self _) h
theorem lt_head {α : Type} [SizeOf α] (x : α) (r : List α) : SizeOf.sizeOf x < SizeOf.sizeOf (x :: r) := by
  simp only [List.cons.sizeOf_spec]
  omega
theorem lt_tail {α : Type} [SizeOf α] (x : α) (r : List α) : SizeOf.sizeOf r < SizeOf.sizeOf (x :: r) := by
  simp only [List.cons.sizeOf_spec]
  omega
theorem lt_headv (x : Fld) (r : List Fld) : SizeOf.sizeOf x.v < SizeOf.sizeOf (x :: r) := Nat.lt_trans x.lt_v (lt_head x r)
def gam (t : Nat) : Nat → Option Ty := fun k => bif Nat.beq k t then some (Val_body t) else none
theorem gam_at (t : Nat) : gam t t = some (Val_body t) := by simp [gam]
theorem gam_tab {P : Program} {t : Nat} (h : chkTy P (gam t) (Val_body t) t = true) : TabOK P (gam t) := by
  intro k ty hk
  unfold gam at hk
  cases c : Nat.beq k t with
  | false => rw [c] at hk; cases hk
  | true =>
    rw [c] at hk
    simp only [cond_true, Option.some.injEq] at hk
    subst hk
    rw [Nat.eq_of_beq_eq_true c]
    exact ⟨rfl, h⟩
end Go.Pv
namespace Go.Pv
end Go.Pv
end

section
/- Strings byte by byte; rows that are cloned. -/
namespace Go.Pv
end Go.Pv
namespace Go.Pv
theorem szM {v x : Val} (h : x ∈ v.list) : SizeOf.sizeOf x < SizeOf.sizeOf v := Nat.lt_trans (List.sizeOf_lt_of_mem h) v.lt_list
theorem szN {v : Val} {x : Fld} (h : x ∈ v.fields) : SizeOf.sizeOf x.v < SizeOf.sizeOf v := Nat.lt_trans x.lt_v (Nat.lt_trans (List.sizeOf_lt_of_mem h) v.lt_fields)
end Go.Pv
end

section
/-
  What a law is handed, where its bulk is bounded: nothing within is longer.
-/
namespace Go.Pv
open Go.RowKit
/-- nothing within is longer than N -/
inductive Cap (N : Nat) : PV → Prop
  | bool (b : Bool) : Cap N (.bool b)
  | int (k : IntKind) (n : Int) : Cap N (.int k n)
  | str (s : ByteArray) (h : s.size ≤ N) : Cap N (.str s)
  | sl (l : List (List PV)) (h : l.length ≤ N) (hl : ∀ r ∈ l, ∀ p ∈ r, Cap N p) : Cap N (.sl l)
def CapL (N : Nat) (c : List PV) : Prop := ∀ p ∈ c, Cap N p
theorem CapL.one {N : Nat} {p : PV} (h : Cap N p) : CapL N [p] := fun q hq => by
  rw [List.mem_singleton] at hq
  subst hq
  exact h
inductive CapD {H : Type} (N : Nat) : DataW H → Prop
  | lit (l : Lit) (h : ∀ b, l = .string b → b.length ≤ N) : CapD N (.lit l)
  | agg (parts : List (DataW H)) (h : ∀ d ∈ parts, CapD N d) : CapD N (.agg parts)
  | slice (elems spare : List (DataW H)) (h : elems.length ≤ N) (hl : ∀ d ∈ elems, CapD N d) : CapD N (.slice elems spare)
  | nil : CapD N .nil
  | ptr (d : DataW H) : CapD N (.ptr d)
  | iface (t : String) (d : DataW H) : CapD N (.iface t d)
  | map (e : List (Lit × DataW H)) : CapD N (.map e)
  | held (h : H) : CapD N (.held h)
def ArgB (Γ : Nat → Option Ty) (N : Nat) (ty : Ty) (p : PV) : Prop := ∃ c, Of Γ ty c ∧ CapL N c ∧ (bif ty.isSt Γ then p = .agg c else c = [p])
section
variable {H : Type} {enc : TypeId × Value → H} {P : Program} {w : World} {base : Nat} {sp : Nat → Bool} {held : Bool} {Γ : Nat → Option Ty} {N : Nat}
end
theorem ArgB.one {Γ : Nat → Option Ty} {N : Nat} {ty : Ty} {p : PV} (h : ArgB Γ N ty p) (hs : ty.isSt Γ = false) : Of Γ ty [p] ∧ CapL N [p] := by
  obtain ⟨c, hc, hb, hp⟩ := h
  rw [hs] at hp
  have hp : c = [p] := hp
  subst hp
  exact ⟨hc, hb⟩
theorem ArgB.agg {Γ : Nat → Option Ty} {N : Nat} {ty : Ty} {p : PV} (h : ArgB Γ N ty p) (hs : ty.isSt Γ = true) : ∃ c, p = .agg c ∧ Of Γ ty c ∧ CapL N c := by
  obtain ⟨c, hc, hb, hp⟩ := h
  rw [hs] at hp
  exact ⟨c, hp, hc, hb⟩
end Go.Pv
end

section
/- What the functions of the chapter on values compute (printed by a program). -/
namespace Go.Proofs.Ytedohmdgbilicaa
open Go.Pv
abbrev G : Nat → Option Fun := tabG Ir.table
abbrev Γ : Nat → Option Ty := gam 25
theorem t_cmpstr (a b : ByteArray) : Tells G (.call 62 [.str a, .str b] []) (.ret (.int .i64 (sCmp a b)) []) := ⟨1, by kernel_rfl⟩
inductive R_Ks_b1 where
  | k0 (q0 : Int)
  | k1
mutual
def s_Ks (p0 : Val) (p1 : Int) (p2 : Int) : Int :=
  bif (decide (p1 ≤ 0)) then
    (-1)
  else
    bif (decide (p2 ≤ 0)) then
      (-1)
    else
      bif (decide (1000 < (ByteArray.size p0.s : Int))) then
        (-1)
      else
        (match (l_Ks_b1 p0 p2 p0.fields 0 (l_Ks_b0 p0 p2 p0.list 0 (w64 (p1 - 1)))) with
        | .k0 y4_0 => y4_0
        | .k1 => (-1))
termination_by SizeOf.sizeOf p0
decreasing_by all_goals first | exact Val.lt_list _ | exact Val.lt_fields _ | exact lt_head _ _ | exact lt_tail _ _ | exact lt_headv _ _
def l_Ks_b0 (p0 : Val) (p2 : Int) : List Val → Nat → Int → Int
  | [], _i0, v0_1 =>
    v0_1
  | x0 :: r0, i0, v0_1 =>
    bif (decide (0 ≤ v0_1)) then
      l_Ks_b0 p0 p2 r0 (i0 + 1) (s_Ks x0 v0_1 (w64 (p2 - 1)))
    else
      v0_1
termination_by l => SizeOf.sizeOf l
decreasing_by all_goals first | exact Val.lt_list _ | exact Val.lt_fields _ | exact lt_head _ _ | exact lt_tail _ _ | exact lt_headv _ _
def l_Ks_b1 (p0 : Val) (p2 : Int) : List Fld → Nat → Int → R_Ks_b1
  | [], _i1, v1_1 =>
    (.k0 v1_1)
  | x1 :: r1, i1, v1_1 =>
    bif (decide (0 ≤ v1_1)) then
      bif (decide (1000 < (ByteArray.size x1.name : Int))) then
        (.k1)
      else
        l_Ks_b1 p0 p2 r1 (i1 + 1) (s_Ks x1.v v1_1 (w64 (p2 - 1)))
    else
      (.k0 v1_1)
termination_by l => SizeOf.sizeOf l
decreasing_by all_goals first | exact Val.lt_list _ | exact Val.lt_fields _ | exact lt_head _ _ | exact lt_tail _ _ | exact lt_headv _ _
end
def HE_Ks_b0 (_p0 : Val) (p2 : Int) (i0 : Nat) (v0_1 : Int) : List PV :=
  [.un, .int .i64 v0_1, .int .i64 p2, .bx 0 0, .un, .un, .un, .int .i64 (i0 : Int), .un, .un, .un, .un, .un, .un, .un, .un, .un, .un, .un, .un, .un, .un, .un, .un, .un, .un, .un, .un, .un, .un, .un, .un, .un, .un, .un, .un, .un, .un, .un, .un, .un, .un, .un, .un, .un, .un, .un, .un, .un, .un, .un, .un, .un, .un, .un, .un, .un, .un, .un, .un, .un, .un, .un, .un, .un, .un, .un, .un, .un, .un, .un, .un, .un]
def HO_Ks_b0 (p0 : Val) (_p2 : Int) (_i0 : Nat) (_v0_1 : Int) : List Ob :=
  [⟨5, 0, true, [.int .i64 p0.kind, .int .i64 p0.n, .str p0.s, .sl (Val.rows p0.list), .sl (Fld.rows p0.fields)]⟩]
def E_Ks_b0 (p0 : Val) (p2 : Int) (i0 : Nat) (v0_1 : Int) : En := .loop 0 Ir.Ks_b0_live Ir.Ks_b0 (HE_Ks_b0 p0 p2 i0 v0_1) (HO_Ks_b0 p0 p2 i0 v0_1)
def S_Ks_b0_0 (p0 : Val) (p2 : Int) (q0 : Int) (z : Nat → PV) (_zo : Nat → List PV) : St :=
  ⟨[z 0, .int .i64 q0, .int .i64 p2, .bx 0 0, z 4, z 5, z 6, z 7, z 8, z 9, z 10, z 11, z 12, z 13, z 14, z 15, z 16, z 17, z 18, z 19, z 20, z 21, z 22, z 23, z 24, z 25, z 26, z 27, z 28, z 29, z 30, z 31, z 32, z 33, z 34, z 35, z 36, z 37, z 38, z 39, z 40, z 41, z 42, z 43, z 44, z 45, z 46, z 47, z 48, z 49, z 50, z 51, z 52, z 53, z 54, z 55, z 56, z 57, z 58, z 59, z 60, z 61, z 62, z 63, z 64, z 65, z 66, z 67, z 68, z 69, z 70, z 71, z 72], [(0, ⟨5, 0, true, [.int .i64 p0.kind, .int .i64 p0.n, .str p0.s, .sl (Val.rows p0.list), .sl (Fld.rows p0.fields)]⟩)], 577⟩
def P_Ks_b0 (p0 : Val) (p2 : Int) (e : En) (q : Int) : Prop := ∃ z zo, Tells G e (.st (.exit 0) (S_Ks_b0_0 p0 p2 q z zo))
theorem P_Ks_b0_mono (p0 : Val) (p2 : Int) {e e' : En} (h : ∀ r, Tells G e r → Tells G e' r) : ∀ q, P_Ks_b0 p0 p2 e q → P_Ks_b0 p0 p2 e' q
  | _, ⟨z, zo, hz⟩ => ⟨z, zo, h _ hz⟩
def HE_Ks_b1 (_p0 : Val) (p2 : Int) (i1 : Nat) (v1_1 : Int) : List PV :=
  [.un, .int .i64 v1_1, .int .i64 p2, .bx 0 0, .un, .un, .un, .un, .int .i64 (i1 : Int), .un, .un, .un, .un, .un, .un, .un, .un, .un, .un, .un, .un, .un, .un, .un, .un, .un, .un, .un, .un, .un, .un, .un, .un, .un, .un, .un, .un, .un, .un, .un, .un, .un, .un, .un, .un, .un, .un, .un, .un, .un, .un, .un, .un, .un, .un, .un, .un, .un, .un, .un, .un, .un, .un, .un, .un, .un, .un, .un, .un, .un, .un, .un, .un]
def HO_Ks_b1 (p0 : Val) (_p2 : Int) (_i1 : Nat) (_v1_1 : Int) : List Ob :=
  [⟨5, 0, true, [.int .i64 p0.kind, .int .i64 p0.n, .str p0.s, .sl (Val.rows p0.list), .sl (Fld.rows p0.fields)]⟩]
def E_Ks_b1 (p0 : Val) (p2 : Int) (i1 : Nat) (v1_1 : Int) : En := .loop 0 Ir.Ks_b1_live Ir.Ks_b1 (HE_Ks_b1 p0 p2 i1 v1_1) (HO_Ks_b1 p0 p2 i1 v1_1)
def S_Ks_b1_0 (p0 : Val) (_p2 : Int) (q0 : Int) (z : Nat → PV) (_zo : Nat → List PV) : St :=
  ⟨[z 0, .int .i64 q0, z 2, z 3, z 4, z 5, z 6, z 7, z 8, z 9, z 10, z 11, z 12, z 13, z 14, z 15, z 16, z 17, z 18, z 19, z 20, z 21, z 22, z 23, z 24, z 25, z 26, z 27, z 28, z 29, z 30, z 31, z 32, z 33, z 34, z 35, z 36, z 37, z 38, z 39, z 40, z 41, z 42, z 43, z 44, z 45, z 46, z 47, z 48, z 49, z 50, z 51, z 52, z 53, z 54, z 55, z 56, z 57, z 58, z 59, z 60, z 61, z 62, z 63, z 64, z 65, z 66, z 67, z 68, z 69, z 70, z 71, z 72], [(0, ⟨5, 0, true, [.int .i64 p0.kind, .int .i64 p0.n, .str p0.s, .sl (Val.rows p0.list), .sl (Fld.rows p0.fields)]⟩)], 577⟩
def S_Ks_b1_1 (_p0 : Val) (_p2 : Int) (z : Nat → PV) (zo : Nat → List PV) : St :=
  ⟨[z 0, z 1, z 2, z 3, z 4, z 5, .int .i64 (-1), z 7, z 8, z 9, z 10, z 11, z 12, z 13, z 14, z 15, z 16, z 17, z 18, z 19, z 20, z 21, z 22, z 23, z 24, z 25, z 26, z 27, z 28, z 29, z 30, z 31, z 32, z 33, z 34, z 35, z 36, z 37, z 38, z 39, z 40, z 41, z 42, z 43, z 44, z 45, z 46, z 47, z 48, z 49, z 50, z 51, z 52, z 53, z 54, z 55, z 56, z 57, z 58, z 59, z 60, z 61, z 62, z 63, z 64, z 65, z 66, z 67, z 68, z 69, z 70, z 71, z 72], [(0, ⟨5, 0, true, zo 0⟩)], 1153⟩
def P_Ks_b1 (p0 : Val) (p2 : Int) (e : En) : R_Ks_b1 → Prop
  | .k0 q0 => ∃ z zo, Tells G e (.st (.exit 2) (S_Ks_b1_0 p0 p2 q0 z zo))
  | .k1 => ∃ z zo, Tells G e (.st .ret (S_Ks_b1_1 p0 p2 z zo))
theorem P_Ks_b1_mono (p0 : Val) (p2 : Int) {e e' : En} (h : ∀ r, Tells G e r → Tells G e' r) : ∀ q, P_Ks_b1 p0 p2 e q → P_Ks_b1 p0 p2 e' q
  | .k0 _, ⟨z, zo, hz⟩ => ⟨z, zo, h _ hz⟩
  | .k1, ⟨z, zo, hz⟩ => ⟨z, zo, h _ hz⟩
def c_Ks (p0 : Val) (p1 : Int) (p2 : Int) : En := .call 56 [.agg (Val.cells p0), .int .i64 p1, .int .i64 p2] []
def a_Ks (p0 : Val) (p1 : Int) (p2 : Int) : Rs := .ret (.int .i64 (s_Ks p0 p1 p2)) []
abbrev H_Ks (p0 : Val) : Prop := Val.Sm 4611686018427387904 p0
def Rec_Ks (p0 : Val) : Prop := ∀ (q : Val), SizeOf.sizeOf q < SizeOf.sizeOf p0 → ∀ (p1 : Int), ∀ (p2 : Int), H_Ks q → Tells G (c_Ks q p1 p2) (a_Ks q p1 p2)
def H_Ks_b0 (p0 : Val) (_p2 : Int) : Prop := (List.length p0.list ≤ 4611686018427387904) ∧ (∀ x0 ∈ p0.list, H_Ks x0) ∧ True
def H_Ks_b1 (p0 : Val) (_p2 : Int) : Prop := (List.length p0.fields ≤ 4611686018427387904) ∧ (∀ x1 ∈ p0.fields, H_Ks x1.v) ∧ True
theorem give_Ks (p0 : Val) (_p1 : Int) (p2 : Int) (H : H_Ks p0) : (H_Ks_b0 p0 p2) ∧ (H_Ks_b1 p0 p2) ∧ True := by
  obtain ⟨h1, h2, h3, h4⟩ := H.all
  simp only [H_Ks_b0, H_Ks_b1]
  exact ⟨⟨h1, h3, trivial⟩, ⟨h2, h4, trivial⟩, trivial⟩
def Z_Ks_b0_0 (p0 : Val) (_p2 : Int) (i0 : Nat) (_v0_1 : Int) : List PV :=
  [.un, .un, .un, .un, .un, .un, .un, .int .i64 (i0 : Int), .un, .un, .un, .un, .un, .un, .un, .un, .un, .un, .un, .un, .un, .un, .un, .int .i64 (i0 : Int), .bx 0 3, .sl (Val.rows p0.list), .int .i64 ((List.length p0.list) : Int), .bool false, .bool false, .tup [], .tup [], .bool false]
def ZO_Ks_b0_0 (_p0 : Val) (_p2 : Int) (_i0 : Nat) (_v0_1 : Int) : List (Nat × List PV) :=
  []
theorem x_Ks_b0_0 (p0 : Val) (p2 : Int) (_H : H_Ks_b0 p0 p2) (_rec : Rec_Ks p0) (i0 : Nat) (v0_1 : Int) (hc0 : (decide ((i0 : Int) < ((List.length p0.list) : Int))) = false) : P_Ks_b0 p0 p2 (E_Ks_b0 p0 p2 i0 v0_1) v0_1 := by
  exact ⟨(envF (Z_Ks_b0_0 p0 p2 i0 v0_1)), (zoF (ZO_Ks_b0_0 p0 p2 i0 v0_1)), tells_outVI VOK.nil (x := ((.exit 0), S_Ks_b0_0 p0 p2 v0_1 (envF (Z_Ks_b0_0 p0 p2 i0 v0_1)) (zoF (ZO_Ks_b0_0 p0 p2 i0 v0_1)))) [hP 3 (len_ok (Val.rows p0.list) (List.length p0.list) (Val.rowsLen p0.list)), hB 0 hc0] [] (by kernel_rfl)⟩
theorem n_Ks_b0_1 (p0 : Val) (p2 : Int) (H : H_Ks_b0 p0 p2) (rec : Rec_Ks p0) (x0 : Val) (i0 : Nat) (v0_1 : Int) (hx0 : p0.list[i0]? = some x0) (hi0 : i0 < List.length p0.list) (hc0 : (decide ((i0 : Int) < ((List.length p0.list) : Int))) = true) (h0 : (decide (0 ≤ v0_1)) = true) {r : Rs} (hr : Tells G (E_Ks_b0 p0 p2 (i0 + 1) (s_Ks x0 v0_1 (w64 (p2 - 1)))) r) : Tells G (E_Ks_b0 p0 p2 i0 v0_1) r := by
  have hB0 := H.1; have e0 := of_decide_eq_true h0
  exact tells_nextVI VOK.nil (y := (HE_Ks_b0 p0 p2 (i0 + 1) (s_Ks x0 v0_1 (w64 (p2 - 1))), HO_Ks_b0 p0 p2 (i0 + 1) (s_Ks x0 v0_1 (w64 (p2 - 1))))) [hP 3 (len_ok (Val.rows p0.list) (List.length p0.list) (Val.rowsLen p0.list)), hB 0 hc0, hB 2 h0, hP 4 (ix_ok 5 (Val.rows p0.list) i0 _ (Val.rowsGet hx0) rfl), hP 7 (inc_ok i0 (by omega))] [aN (rec x0 (szL hx0) v0_1 (w64 (p2 - 1)) (H.2.1 x0 (mem_get hx0)))] (by kernel_rfl) hr
def Z_Ks_b0_2 (p0 : Val) (_p2 : Int) (i0 : Nat) (v0_1 : Int) (_x0 : Val) : List PV :=
  [.un, .un, .un, .un, .un, .un, .un, .int .i64 (i0 : Int), .un, .un, .un, .un, .un, .un, .un, .un, .un, .un, .un, .un, .un, .un, .un, .int .i64 (i0 : Int), .bx 0 3, .sl (Val.rows p0.list), .int .i64 ((List.length p0.list) : Int), .bool true, .bool true, .int .i64 v0_1, .bool false, .bool false]
def ZO_Ks_b0_2 (_p0 : Val) (_p2 : Int) (_i0 : Nat) (_v0_1 : Int) (_x0 : Val) : List (Nat × List PV) :=
  []
theorem x_Ks_b0_2 (p0 : Val) (p2 : Int) (_H : H_Ks_b0 p0 p2) (_rec : Rec_Ks p0) (x0 : Val) (i0 : Nat) (v0_1 : Int) (_hx0 : p0.list[i0]? = some x0) (_hi0 : i0 < List.length p0.list) (hc0 : (decide ((i0 : Int) < ((List.length p0.list) : Int))) = true) (h0 : (decide (0 ≤ v0_1)) = false) : P_Ks_b0 p0 p2 (E_Ks_b0 p0 p2 i0 v0_1) v0_1 := by
  exact ⟨(envF (Z_Ks_b0_2 p0 p2 i0 v0_1 x0)), (zoF (ZO_Ks_b0_2 p0 p2 i0 v0_1 x0)), tells_outVI VOK.nil (x := ((.exit 0), S_Ks_b0_0 p0 p2 v0_1 (envF (Z_Ks_b0_2 p0 p2 i0 v0_1 x0)) (zoF (ZO_Ks_b0_2 p0 p2 i0 v0_1 x0)))) [hP 3 (len_ok (Val.rows p0.list) (List.length p0.list) (Val.rowsLen p0.list)), hB 0 hc0, hB 2 h0] [] (by kernel_rfl)⟩
theorem lt_Ks_b0 (p0 : Val) (p2 : Int) (H : H_Ks_b0 p0 p2) (rec : Rec_Ks p0) : ∀ (r0 : List Val) (i0 : Nat) (v0_1 : Int), List.drop i0 p0.list = r0 → P_Ks_b0 p0 p2 (E_Ks_b0 p0 p2 i0 v0_1) (l_Ks_b0 p0 p2 r0 i0 v0_1)
  | [], i0, v0_1, hd => by
    have hc0 : (decide ((i0 : Int) < ((List.length p0.list) : Int))) = false := by have := drop_end hd; simp; omega
    rw [l_Ks_b0]
    exact x_Ks_b0_0 p0 p2 H rec i0 v0_1 hc0
  | x0 :: r0, i0, v0_1, hd => by
    obtain ⟨hx0, hi0, hd'⟩ := drop_get hd
    have hc0 : (decide ((i0 : Int) < ((List.length p0.list) : Int))) = true := by simp; omega
    rw [l_Ks_b0]
    cases h0 : (decide (0 ≤ v0_1)) with
    | true =>
     exact P_Ks_b0_mono p0 p2 (fun r hr => n_Ks_b0_1 p0 p2 H rec x0 i0 v0_1 hx0 hi0 hc0 h0 hr) _ (lt_Ks_b0 p0 p2 H rec r0 (i0 + 1) (s_Ks x0 v0_1 (w64 (p2 - 1))) hd')
    | false =>
     exact x_Ks_b0_2 p0 p2 H rec x0 i0 v0_1 hx0 hi0 hc0 h0
def Z_Ks_b1_0 (p0 : Val) (p2 : Int) (i1 : Nat) (_v1_1 : Int) : List PV :=
  [.un, .un, .int .i64 p2, .bx 0 0, .un, .un, .un, .un, .int .i64 (i1 : Int), .un, .un, .un, .un, .un, .un, .un, .un, .un, .un, .un, .un, .un, .un, .un, .un, .un, .un, .un, .un, .un, .un, .un, .un, .un, .un, .un, .un, .un, .un, .un, .un, .un, .un, .int .i64 (i1 : Int), .bx 0 4, .sl (Fld.rows p0.fields), .int .i64 ((List.length p0.fields) : Int), .bool false, .bool false, .tup [], .tup [], .bool false]
def ZO_Ks_b1_0 (_p0 : Val) (_p2 : Int) (_i1 : Nat) (_v1_1 : Int) : List (Nat × List PV) :=
  []
theorem x_Ks_b1_0 (p0 : Val) (p2 : Int) (_H : H_Ks_b1 p0 p2) (_rec : Rec_Ks p0) (i1 : Nat) (v1_1 : Int) (hc1 : (decide ((i1 : Int) < ((List.length p0.fields) : Int))) = false) : P_Ks_b1 p0 p2 (E_Ks_b1 p0 p2 i1 v1_1) (.k0 v1_1) := by
  exact ⟨(envF (Z_Ks_b1_0 p0 p2 i1 v1_1)), (zoF (ZO_Ks_b1_0 p0 p2 i1 v1_1)), tells_outVI VOK.nil (x := ((.exit 2), S_Ks_b1_0 p0 p2 v1_1 (envF (Z_Ks_b1_0 p0 p2 i1 v1_1)) (zoF (ZO_Ks_b1_0 p0 p2 i1 v1_1)))) [hP 3 (len_ok (Fld.rows p0.fields) (List.length p0.fields) (Fld.rowsLen p0.fields)), hB 0 hc1] [] (by kernel_rfl)⟩
def Z_Ks_b1_1 (p0 : Val) (p2 : Int) (i1 : Nat) (v1_1 : Int) (x1 : Fld) : List PV :=
  [.un, .int .i64 v1_1, .int .i64 p2, .bx 0 0, .un, .un, .un, .un, .int .i64 (i1 : Int), .un, .un, .un, .un, .un, .un, .un, .un, .un, .un, .un, .un, .un, .un, .un, .un, .un, .un, .un, .un, .un, .un, .un, .un, .un, .un, .un, .un, .un, .un, .un, .un, .un, .un, .int .i64 (i1 : Int), .bx 0 4, .sl (Fld.rows p0.fields), .int .i64 ((List.length p0.fields) : Int), .bool true, .bool true, .int .i64 v1_1, .bool true, .bool true, .un, .un, .bx 0 4, .sl (Fld.rows p0.fields), .int .i64 (i1 : Int), .rf [.str x1.name, .int .i64 x1.v.kind, .int .i64 x1.v.n, .str x1.v.s, .sl (Val.rows x1.v.list), .sl (Fld.rows x1.v.fields)], .rf [.str x1.name, .int .i64 x1.v.kind, .int .i64 x1.v.n, .str x1.v.s, .sl (Val.rows x1.v.list), .sl (Fld.rows x1.v.fields)], .str x1.name, .int .i64 (ByteArray.size x1.name : Int), .bool true]
def ZO_Ks_b1_1 (p0 : Val) (_p2 : Int) (_i1 : Nat) (_v1_1 : Int) (_x1 : Fld) : List (Nat × List PV) :=
  [(0, [.int .i64 p0.kind, .int .i64 p0.n, .str p0.s, .sl (Val.rows p0.list), .sl (Fld.rows p0.fields)])]
theorem x_Ks_b1_1 (p0 : Val) (p2 : Int) (_H : H_Ks_b1 p0 p2) (_rec : Rec_Ks p0) (x1 : Fld) (i1 : Nat) (v1_1 : Int) (hx1 : p0.fields[i1]? = some x1) (_hi1 : i1 < List.length p0.fields) (hc1 : (decide ((i1 : Int) < ((List.length p0.fields) : Int))) = true) (h0 : (decide (0 ≤ v1_1)) = true) (h1 : (decide (1000 < (ByteArray.size x1.name : Int))) = true) : P_Ks_b1 p0 p2 (E_Ks_b1 p0 p2 i1 v1_1) (.k1) := by
  exact ⟨(envF (Z_Ks_b1_1 p0 p2 i1 v1_1 x1)), (zoF (ZO_Ks_b1_1 p0 p2 i1 v1_1 x1)), tells_outVI VOK.nil (x := (.ret, S_Ks_b1_1 p0 p2 (envF (Z_Ks_b1_1 p0 p2 i1 v1_1 x1)) (zoF (ZO_Ks_b1_1 p0 p2 i1 v1_1 x1)))) [hP 3 (len_ok (Fld.rows p0.fields) (List.length p0.fields) (Fld.rowsLen p0.fields)), hB 0 hc1, hB 2 h0, hP 4 (ix_ok 6 (Fld.rows p0.fields) i1 _ (Fld.rowsGet hx1) rfl), hB 3 h1] [] (by kernel_rfl)⟩
theorem n_Ks_b1_2 (p0 : Val) (p2 : Int) (H : H_Ks_b1 p0 p2) (rec : Rec_Ks p0) (x1 : Fld) (i1 : Nat) (v1_1 : Int) (hx1 : p0.fields[i1]? = some x1) (hi1 : i1 < List.length p0.fields) (hc1 : (decide ((i1 : Int) < ((List.length p0.fields) : Int))) = true) (h0 : (decide (0 ≤ v1_1)) = true) (h1 : (decide (1000 < (ByteArray.size x1.name : Int))) = false) {r : Rs} (hr : Tells G (E_Ks_b1 p0 p2 (i1 + 1) (s_Ks x1.v v1_1 (w64 (p2 - 1)))) r) : Tells G (E_Ks_b1 p0 p2 i1 v1_1) r := by
  have hB0 := H.1; have e0 := of_decide_eq_true h0; have e1 := of_decide_eq_false h1
  exact tells_nextVI VOK.nil (y := (HE_Ks_b1 p0 p2 (i1 + 1) (s_Ks x1.v v1_1 (w64 (p2 - 1))), HO_Ks_b1 p0 p2 (i1 + 1) (s_Ks x1.v v1_1 (w64 (p2 - 1))))) [hP 3 (len_ok (Fld.rows p0.fields) (List.length p0.fields) (Fld.rowsLen p0.fields)), hB 0 hc1, hB 2 h0, hP 4 (ix_ok 6 (Fld.rows p0.fields) i1 _ (Fld.rowsGet hx1) rfl), hB 3 h1, hP 3 (ix_ok 6 (Fld.rows p0.fields) i1 _ (Fld.rowsGet hx1) rfl), hP 8 (inc_ok i1 (by omega))] [aN (rec x1.v (szF hx1) v1_1 (w64 (p2 - 1)) (H.2.1 x1 (mem_get hx1)))] (by kernel_rfl) hr
def Z_Ks_b1_3 (p0 : Val) (p2 : Int) (i1 : Nat) (v1_1 : Int) (_x1 : Fld) : List PV :=
  [.un, .un, .int .i64 p2, .bx 0 0, .un, .un, .un, .un, .int .i64 (i1 : Int), .un, .un, .un, .un, .un, .un, .un, .un, .un, .un, .un, .un, .un, .un, .un, .un, .un, .un, .un, .un, .un, .un, .un, .un, .un, .un, .un, .un, .un, .un, .un, .un, .un, .un, .int .i64 (i1 : Int), .bx 0 4, .sl (Fld.rows p0.fields), .int .i64 ((List.length p0.fields) : Int), .bool true, .bool true, .int .i64 v1_1, .bool false, .bool false]
def ZO_Ks_b1_3 (_p0 : Val) (_p2 : Int) (_i1 : Nat) (_v1_1 : Int) (_x1 : Fld) : List (Nat × List PV) :=
  []
theorem x_Ks_b1_3 (p0 : Val) (p2 : Int) (_H : H_Ks_b1 p0 p2) (_rec : Rec_Ks p0) (x1 : Fld) (i1 : Nat) (v1_1 : Int) (_hx1 : p0.fields[i1]? = some x1) (_hi1 : i1 < List.length p0.fields) (hc1 : (decide ((i1 : Int) < ((List.length p0.fields) : Int))) = true) (h0 : (decide (0 ≤ v1_1)) = false) : P_Ks_b1 p0 p2 (E_Ks_b1 p0 p2 i1 v1_1) (.k0 v1_1) := by
  exact ⟨(envF (Z_Ks_b1_3 p0 p2 i1 v1_1 x1)), (zoF (ZO_Ks_b1_3 p0 p2 i1 v1_1 x1)), tells_outVI VOK.nil (x := ((.exit 2), S_Ks_b1_0 p0 p2 v1_1 (envF (Z_Ks_b1_3 p0 p2 i1 v1_1 x1)) (zoF (ZO_Ks_b1_3 p0 p2 i1 v1_1 x1)))) [hP 3 (len_ok (Fld.rows p0.fields) (List.length p0.fields) (Fld.rowsLen p0.fields)), hB 0 hc1, hB 2 h0] [] (by kernel_rfl)⟩
theorem lt_Ks_b1 (p0 : Val) (p2 : Int) (H : H_Ks_b1 p0 p2) (rec : Rec_Ks p0) : ∀ (r1 : List Fld) (i1 : Nat) (v1_1 : Int), List.drop i1 p0.fields = r1 → P_Ks_b1 p0 p2 (E_Ks_b1 p0 p2 i1 v1_1) (l_Ks_b1 p0 p2 r1 i1 v1_1)
  | [], i1, v1_1, hd => by
    have hc1 : (decide ((i1 : Int) < ((List.length p0.fields) : Int))) = false := by have := drop_end hd; simp; omega
    rw [l_Ks_b1]
    exact x_Ks_b1_0 p0 p2 H rec i1 v1_1 hc1
  | x1 :: r1, i1, v1_1, hd => by
    obtain ⟨hx1, hi1, hd'⟩ := drop_get hd
    have hc1 : (decide ((i1 : Int) < ((List.length p0.fields) : Int))) = true := by simp; omega
    rw [l_Ks_b1]
    cases h0 : (decide (0 ≤ v1_1)) with
    | true =>
     cases h1 : (decide (1000 < (ByteArray.size x1.name : Int))) with
     | true =>
      exact x_Ks_b1_1 p0 p2 H rec x1 i1 v1_1 hx1 hi1 hc1 h0 h1
     | false =>
      exact P_Ks_b1_mono p0 p2 (fun r hr => n_Ks_b1_2 p0 p2 H rec x1 i1 v1_1 hx1 hi1 hc1 h0 h1 hr) _ (lt_Ks_b1 p0 p2 H rec r1 (i1 + 1) (s_Ks x1.v v1_1 (w64 (p2 - 1))) hd')
    | false =>
     exact x_Ks_b1_3 p0 p2 H rec x1 i1 v1_1 hx1 hi1 hc1 h0
theorem r_Ks (p0 : Val) (p1 : Int) (p2 : Int) (H : H_Ks p0) (rec : Rec_Ks p0) : Tells G (c_Ks p0 p1 p2) (a_Ks p0 p1 p2) := by
  unfold a_Ks
  rw [s_Ks]
  cases h0 : (decide (p1 ≤ 0)) with
  | true =>
   exact tells_VI (fn := Ir.Ks) rfl VOK.nil [hB 3 h0] [] (by kernel_rfl)
  | false =>
   cases h1 : (decide (p2 ≤ 0)) with
   | true =>
    exact tells_VI (fn := Ir.Ks) rfl VOK.nil [hB 3 h0, hB 2 h1] [] (by kernel_rfl)
   | false =>
    cases h2 : (decide (1000 < (ByteArray.size p0.s : Int))) with
    | true =>
     exact tells_VI (fn := Ir.Ks) rfl VOK.nil [hB 3 h0, hB 2 h1, hB 5 h2] [] (by kernel_rfl)
    | false =>
     have hl3 := lt_Ks_b0 p0 p2 ((give_Ks p0 p1 p2 H).1) rec p0.list 0 (w64 (p1 - 1)) (by simp)
     obtain ⟨z3, zo3, hl3⟩ := hl3
     have hl4 := lt_Ks_b1 p0 p2 ((give_Ks p0 p1 p2 H).2.1) rec p0.fields 0 (l_Ks_b0 p0 p2 p0.list 0 (w64 (p1 - 1))) (by simp)
     cases hr4 : (l_Ks_b1 p0 p2 p0.fields 0 (l_Ks_b0 p0 p2 p0.list 0 (w64 (p1 - 1)))) with
     | k0 y4_0 =>
       rw [hr4] at hl4
       obtain ⟨z4, zo4, hl4⟩ := hl4
       exact tells_VI (fn := Ir.Ks) rfl VOK.nil [hB 3 h0, hB 2 h1, hB 5 h2] [aN hl3, aN hl4] (by kernel_rfl)
     | k1 =>
       rw [hr4] at hl4
       obtain ⟨z4, zo4, hl4⟩ := hl4
       exact tells_VI (fn := Ir.Ks) rfl VOK.nil [hB 3 h0, hB 2 h1, hB 5 h2] [aN hl3, aN hl4] (by kernel_rfl)
theorem i_Ks : ∀ (k : Nat) (p0 : Val), SizeOf.sizeOf p0 < k → ∀ (p1 : Int), ∀ (p2 : Int), H_Ks p0 → Tells G (c_Ks p0 p1 p2) (a_Ks p0 p1 p2)
  | 0, _, h, _, _, _ => absurd h (Nat.not_lt_zero _)
  | k + 1, p0, h, p1, p2, H => r_Ks p0 p1 p2 H (fun q hq p1 p2 hH => i_Ks k q (by omega) p1 p2 hH)
theorem t_Ks (p0 : Val) (p1 : Int) (p2 : Int) (H : H_Ks p0) : Tells G (c_Ks p0 p1 p2) (a_Ks p0 p1 p2) := i_Ks _ p0 (Nat.lt_succ_self _) p1 p2 H
def s_Kl (p0 : Val) (p1 : Int) : Bool :=
  (decide (0 ≤ (s_Ks p0 p1 p1)))
def c_Kl (p0 : Val) (p1 : Int) : En := .call 37 [.agg (Val.cells p0), .int .i64 p1] []
def a_Kl (p0 : Val) (p1 : Int) : Rs := .ret (.bool (s_Kl p0 p1)) []
def H_Kl (p0 : Val) (_p1 : Int) : Prop := (H_Ks p0) ∧ True
theorem t_Kl (p0 : Val) (p1 : Int) (H : H_Kl p0 p1) : Tells G (c_Kl p0 p1) (a_Kl p0 p1) := by
  unfold a_Kl s_Kl
  exact tells_VI (fn := Ir.Kl) rfl VOK.nil [] [aN (t_Ks p0 p1 p1 H.1)] (by kernel_rfl)
def s_Ka (p0 : Val) : Bool :=
  (s_Kl p0 400)
def c_Ka (p0 : Val) : En := .call 9 [.agg (Val.cells p0)] []
def a_Ka (p0 : Val) : Rs := .ret (.bool (s_Ka p0)) []
def H_Ka (p0 : Val) : Prop := (H_Kl p0 400) ∧ True
theorem t_Ka (p0 : Val) (H : H_Ka p0) : Tells G (c_Ka p0) (a_Ka p0) := by
  unfold a_Ka s_Ka
  exact tells_VI (fn := Ir.Ka) rfl VOK.nil [] [aN (t_Kl p0 400 H.1)] (by kernel_rfl)
/-- cmp.isNaN[int] -/
def s_K2 (p0 : Int) : Bool :=
  (!(p0 == p0))
def c_K2 (p0 : Int) : En := .call 61 [.int .i64 p0] []
def a_K2 (p0 : Int) : Rs := .ret (.bool (s_K2 p0)) []
theorem t_K2 (p0 : Int) : Tells G (c_K2 p0) (a_K2 p0) := by
  unfold a_K2 s_K2
  exact tells_VI (fn := Ir.K2) rfl VOK.nil [] [] (by kernel_rfl)
/-- cmp.Compare[int] -/
def s_K0 (p0 : Int) (p1 : Int) : Int :=
  bif (s_K2 p0) then
    bif (s_K2 p1) then
      0
    else
      (-1)
  else
    bif (s_K2 p1) then
      1
    else
      bif (decide (p0 < p1)) then
        (-1)
      else
        bif (decide (p1 < p0)) then
          1
        else
          0
def c_K0 (p0 : Int) (p1 : Int) : En := .call 42 [.int .i64 p0, .int .i64 p1] []
def a_K0 (p0 : Int) (p1 : Int) : Rs := .ret (.int .i64 (s_K0 p0 p1)) []
theorem t_K0 (p0 : Int) (p1 : Int) : Tells G (c_K0 p0 p1) (a_K0 p0 p1) := by
  unfold a_K0 s_K0
  cases h0 : (s_K2 p0) with
  | true =>
   cases h1 : (s_K2 p1) with
   | true =>
    exact tells_VI (fn := Ir.K0) rfl VOK.nil [] [aB (t_K2 p0) h0, aB (t_K2 p1) h1] (by kernel_rfl)
   | false =>
    exact tells_VI (fn := Ir.K0) rfl VOK.nil [] [aB (t_K2 p0) h0, aB (t_K2 p1) h1] (by kernel_rfl)
  | false =>
   cases h1 : (s_K2 p1) with
   | true =>
    exact tells_VI (fn := Ir.K0) rfl VOK.nil [] [aB (t_K2 p0) h0, aB (t_K2 p1) h1] (by kernel_rfl)
   | false =>
    cases h2 : (decide (p0 < p1)) with
    | true =>
     exact tells_VI (fn := Ir.K0) rfl VOK.nil [hB 11 h2] [aB (t_K2 p0) h0, aB (t_K2 p1) h1] (by kernel_rfl)
    | false =>
     cases h3 : (decide (p1 < p0)) with
     | true =>
      exact tells_VI (fn := Ir.K0) rfl VOK.nil [hB 11 h2, hB 2 h3] [aB (t_K2 p0) h0, aB (t_K2 p1) h1] (by kernel_rfl)
     | false =>
      exact tells_VI (fn := Ir.K0) rfl VOK.nil [hB 11 h2, hB 2 h3] [aB (t_K2 p0) h0, aB (t_K2 p1) h1] (by kernel_rfl)
/-- strings.Compare -/
def s_K18 (p0 : ByteArray) (p1 : ByteArray) : Int :=
  (sCmp p0 p1)
def c_K18 (p0 : ByteArray) (p1 : ByteArray) : En := .call 43 [.str p0, .str p1] []
def a_K18 (p0 : ByteArray) (p1 : ByteArray) : Rs := .ret (.int .i64 (s_K18 p0 p1)) []
theorem t_K18 (p0 : ByteArray) (p1 : ByteArray) : Tells G (c_K18 p0 p1) (a_K18 p0 p1) := by
  unfold a_K18 s_K18
  exact tells_VI (fn := Ir.K18) rfl VOK.nil [] [aN (t_cmpstr p0 p1)] (by kernel_rfl)
inductive R_K1_b0 where
  | k0 (q0 : Int)
  | k1 (q0 : Int)
def l_K1_b0 (p0 : List Int) : List Int → Nat → Int → R_K1_b0
  | [], _i0, v0_1 =>
    (.k0 v0_1)
  | x0 :: r0, i0, v0_1 =>
    bif (x0 == v0_1) then
      l_K1_b0 p0 r0 (i0 + 1) v0_1
    else
      (.k1 x0)
def HE_K1_b0 (p0 : List Int) (i0 : Nat) (v0_1 : Int) : List PV :=
  [.un, .un, .un, .int .i64 v0_1, .un, .un, .sl (intRows p0), .int .i64 ((List.length p0) : Int), .int .i64 (i0 : Int), .un, .un, .un, .un, .un, .un, .un, .un, .un]
def HO_K1_b0 (_p0 : List Int) (_i0 : Nat) (_v0_1 : Int) : List Ob :=
  []
def E_K1_b0 (p0 : List Int) (i0 : Nat) (v0_1 : Int) : En := .loop 0 Ir.K1_b0_live Ir.K1_b0 (HE_K1_b0 p0 i0 v0_1) (HO_K1_b0 p0 i0 v0_1)
def S_K1_b0_0 (_p0 : List Int) (q0 : Int) (z : Nat → PV) (_zo : Nat → List PV) : St :=
  ⟨[z 0, z 1, z 2, .int .i64 q0, z 4, z 5, z 6, z 7, z 8, z 9, z 10, z 11, z 12, z 13, z 14, z 15, z 16, z 17], [], 64⟩
def S_K1_b0_1 (_p0 : List Int) (q0 : Int) (z : Nat → PV) (_zo : Nat → List PV) : St :=
  ⟨[z 0, z 1, .int .i64 q0, z 3, z 4, z 5, z 6, z 7, z 8, z 9, z 10, z 11, z 12, z 13, z 14, z 15, z 16, z 17], [], 576⟩
def P_K1_b0 (p0 : List Int) (e : En) : R_K1_b0 → Prop
  | .k0 q0 => ∃ z zo, Tells G e (.st (.exit 0) (S_K1_b0_0 p0 q0 z zo))
  | .k1 q0 => ∃ z zo, Tells G e (.st .ret (S_K1_b0_1 p0 q0 z zo))
theorem P_K1_b0_mono (p0 : List Int) {e e' : En} (h : ∀ r, Tells G e r → Tells G e' r) : ∀ q, P_K1_b0 p0 e q → P_K1_b0 p0 e' q
  | .k0 _, ⟨z, zo, hz⟩ => ⟨z, zo, h _ hz⟩
  | .k1 _, ⟨z, zo, hz⟩ => ⟨z, zo, h _ hz⟩
def H_K1_b0 (p0 : List Int) : Prop := (List.length p0 ≤ 4611686018427387904) ∧ True
def Z_K1_b0_0 (p0 : List Int) (i0 : Nat) (_v0_1 : Int) : List PV :=
  [.un, .un, .un, .un, .un, .un, .sl (intRows p0), .int .i64 ((List.length p0) : Int), .int .i64 (i0 : Int), .bool false]
def ZO_K1_b0_0 (_p0 : List Int) (_i0 : Nat) (_v0_1 : Int) : List (Nat × List PV) :=
  []
theorem x_K1_b0_0 (p0 : List Int) (_H : H_K1_b0 p0) (i0 : Nat) (v0_1 : Int) (hc0 : (decide ((i0 : Int) < ((List.length p0) : Int))) = false) : P_K1_b0 p0 (E_K1_b0 p0 i0 v0_1) (.k0 v0_1) := by
  exact ⟨(envF (Z_K1_b0_0 p0 i0 v0_1)), (zoF (ZO_K1_b0_0 p0 i0 v0_1)), tells_outVI VOK.nil (x := ((.exit 0), S_K1_b0_0 p0 v0_1 (envF (Z_K1_b0_0 p0 i0 v0_1)) (zoF (ZO_K1_b0_0 p0 i0 v0_1)))) [hB 0 hc0] [] (by kernel_rfl)⟩
theorem n_K1_b0_1 (p0 : List Int) (H : H_K1_b0 p0) (x0 : Int) (i0 : Nat) (v0_1 : Int) (hx0 : p0[i0]? = some x0) (hi0 : i0 < List.length p0) (hc0 : (decide ((i0 : Int) < ((List.length p0) : Int))) = true) (h0 : (x0 == v0_1) = true) {r : Rs} (hr : Tells G (E_K1_b0 p0 (i0 + 1) v0_1) r) : Tells G (E_K1_b0 p0 i0 v0_1) r := by
  have hB0 := H.1; have e0 := eq_of_beq h0
  exact tells_nextVI VOK.nil (y := (HE_K1_b0 p0 (i0 + 1) v0_1, HO_K1_b0 p0 (i0 + 1) v0_1)) [hB 0 hc0, hP 0 (ix_ok 1 (intRows p0) i0 _ (intRowsGet hx0) rfl), hP 4 (dec (!(x0 == v0_1)) false (by rw [h0]; rfl)), hP 0 (inc_ok i0 (by omega))] [] (by kernel_rfl) hr
def Z_K1_b0_2 (p0 : List Int) (i0 : Nat) (v0_1 : Int) (x0 : Int) : List PV :=
  [.un, .un, .un, .int .i64 v0_1, .un, .int .i64 x0, .sl (intRows p0), .int .i64 ((List.length p0) : Int), .int .i64 (i0 : Int), .bool true, .rf [.int .i64 x0], .int .i64 x0, .int .i64 x0, .int .i64 v0_1, .bool true, .int .i64 x0]
def ZO_K1_b0_2 (_p0 : List Int) (_i0 : Nat) (_v0_1 : Int) (_x0 : Int) : List (Nat × List PV) :=
  []
theorem x_K1_b0_2 (p0 : List Int) (_H : H_K1_b0 p0) (x0 : Int) (i0 : Nat) (v0_1 : Int) (hx0 : p0[i0]? = some x0) (_hi0 : i0 < List.length p0) (hc0 : (decide ((i0 : Int) < ((List.length p0) : Int))) = true) (h0 : (x0 == v0_1) = false) : P_K1_b0 p0 (E_K1_b0 p0 i0 v0_1) (.k1 x0) := by
  exact ⟨(envF (Z_K1_b0_2 p0 i0 v0_1 x0)), (zoF (ZO_K1_b0_2 p0 i0 v0_1 x0)), tells_outVI VOK.nil (x := (.ret, S_K1_b0_1 p0 x0 (envF (Z_K1_b0_2 p0 i0 v0_1 x0)) (zoF (ZO_K1_b0_2 p0 i0 v0_1 x0)))) [hB 0 hc0, hP 0 (ix_ok 1 (intRows p0) i0 _ (intRowsGet hx0) rfl), hP 4 (dec (!(x0 == v0_1)) true (by rw [h0]; rfl))] [] (by kernel_rfl)⟩
theorem lt_K1_b0 (p0 : List Int) (H : H_K1_b0 p0) : ∀ (r0 : List Int) (i0 : Nat) (v0_1 : Int), List.drop i0 p0 = r0 → P_K1_b0 p0 (E_K1_b0 p0 i0 v0_1) (l_K1_b0 p0 r0 i0 v0_1)
  | [], i0, v0_1, hd => by
    have hc0 : (decide ((i0 : Int) < ((List.length p0) : Int))) = false := by have := drop_end hd; simp; omega
    rw [l_K1_b0]
    exact x_K1_b0_0 p0 H i0 v0_1 hc0
  | x0 :: r0, i0, v0_1, hd => by
    obtain ⟨hx0, hi0, hd'⟩ := drop_get hd
    have hc0 : (decide ((i0 : Int) < ((List.length p0) : Int))) = true := by simp; omega
    rw [l_K1_b0]
    cases h0 : (x0 == v0_1) with
    | true =>
     exact P_K1_b0_mono p0 (fun r hr => n_K1_b0_1 p0 H x0 i0 v0_1 hx0 hi0 hc0 h0 hr) _ (lt_K1_b0 p0 H r0 (i0 + 1) v0_1 hd')
    | false =>
     exact x_K1_b0_2 p0 H x0 i0 v0_1 hx0 hi0 hc0 h0
/-- cmp.Or[int] -/
def s_K1 (p0 : List Int) : Int :=
  (match (l_K1_b0 p0 p0 0 0) with
  | .k0 y0_0 => y0_0
  | .k1 y0_0 => y0_0)
def c_K1 (p0 : List Int) : En := .call 41 [.sl (intRows p0)] []
def a_K1 (p0 : List Int) : Rs := .ret (.int .i64 (s_K1 p0)) []
def H_K1 (p0 : List Int) : Prop := (H_K1_b0 p0) ∧ True
theorem t_K1 (p0 : List Int) (H : H_K1 p0) : Tells G (c_K1 p0) (a_K1 p0) := by
  unfold a_K1 s_K1
  have hl0 := lt_K1_b0 p0 (H.1) p0 0 0 (by simp)
  cases hr0 : (l_K1_b0 p0 p0 0 0) with
  | k0 y0_0 =>
    rw [hr0] at hl0
    obtain ⟨z0, zo0, hl0⟩ := hl0
    exact tells_VI (fn := Ir.K1) rfl VOK.nil [hP 3 (len_ok (intRows p0) (List.length p0) (intRowsLen p0))] [aN hl0] (by kernel_rfl)
  | k1 y0_0 =>
    rw [hr0] at hl0
    obtain ⟨z0, zo0, hl0⟩ := hl0
    exact tells_VI (fn := Ir.K1) rfl VOK.nil [hP 3 (len_ok (intRows p0) (List.length p0) (intRowsLen p0))] [aN hl0] (by kernel_rfl)
end Go.Proofs.Ytedohmdgbilicaa
end

section
/- What the functions of the chapter on values compute (printed by a program). -/
namespace Go.Proofs.Ytedohmdgbilicaa
open Go.Pv
mutual
def s_K1a (p0 p1 : Val) : Int := s_K1 [s_K0 p0.kind p1.kind, s_K0 p0.n p1.n, s_K18 p0.s p1.s, lcV p0.list p1.list, lcF p0.fields p1.fields]
termination_by SizeOf.sizeOf p0
decreasing_by all_goals first | exact Val.lt_list _ | exact Val.lt_fields _
def lcV : List Val → List Val → Int
  | [], [] => 0
  | [], _ :: _ => -1
  | _ :: _, [] => 1
  | x :: l, y :: m => bif s_K1a x y == 0 then lcV l m else s_K1a x y
termination_by l => SizeOf.sizeOf l
decreasing_by all_goals first | exact lt_head _ _ | exact lt_tail _ _
def lcF : List Fld → List Fld → Int
  | [], [] => 0
  | [], _ :: _ => -1
  | _ :: _, [] => 1
  | x :: l, y :: m => bif s_K1 [s_K18 x.name y.name, s_K1a x.v y.v] == 0 then lcF l m else s_K1 [s_K18 x.name y.name, s_K1a x.v y.v]
termination_by l => SizeOf.sizeOf l
decreasing_by all_goals first | exact lt_headv _ _ | exact lt_tail _ _
end
def c_K1a (p0 : Val) (p1 : Val) : En := .call 17 [.agg (Val.cells p0), .agg (Val.cells p1)] []
def a_K1a (p0 : Val) (p1 : Val) : Rs := .ret (.int .i64 (s_K1a p0 p1)) []
def s_K1b (p0 : Fld) (p1 : Fld) : Int :=
  (s_K1 ([(s_K18 p0.name p1.name), (s_K1a p0.v p1.v)]))
def c_K1b (p0 : Fld) (p1 : Fld) : En := .call 46 [.agg (Fld.cells p0), .agg (Fld.cells p1)] []
def a_K1b (p0 : Fld) (p1 : Fld) : Rs := .ret (.int .i64 (s_K1b p0 p1)) []
theorem t_K1b (p0 : Fld) (p1 : Fld) (hc : Tells G (c_K1a p0.v p1.v) (a_K1a p0.v p1.v)) : Tells G (c_K1b p0 p1) (a_K1b p0 p1) := by
  unfold a_K1b s_K1b
  exact tells_VI (fn := Ir.K1b) rfl VOK.nil [] [aN (t_K18 p0.name p1.name), aN hc, aN (t_K1 ([(s_K18 p0.name p1.name), (s_K1a p0.v p1.v)]) (by simp [H_K1, H_K1_b0]))] (by kernel_rfl)
def Rec_Ky_f17 (g : Val → Val → Int) (p0 : List Val) : Prop := ∀ x ∈ p0, ∀ y : Val, Tells G (.call 17 [.agg (Val.cells x), .agg (Val.cells y)] []) (.ret (.int .i64 (g x y)) [])
inductive R_Ky_b0 where
  | k0
  | k1
  | k2 (q0 : Int)
def l_Ky_b0 (g : Val → Val → Int) (p0 : List Val) (p1 : List Val) : List Val → Nat → R_Ky_b0
  | [], _i0 =>
    (.k0)
  | x0 :: r0, i0 =>
    bif (decide (((List.length p1) : Int) ≤ (i0 : Int))) then
      (.k1)
    else
      bif ((g x0 (List.getD p1 i0 (Val.mk 0 0 (⟨#[]⟩ : ByteArray) [] []))) == 0) then
        l_Ky_b0 g p0 p1 r0 (i0 + 1)
      else
        (.k2 (g x0 (List.getD p1 i0 (Val.mk 0 0 (⟨#[]⟩ : ByteArray) [] []))))
def HE_Ky_b0 (_g : Val → Val → Int) (p0 : List Val) (p1 : List Val) (i0 : Nat) : List PV :=
  [.sl (Val.rows p0), .sl (Val.rows p1), .fn 17 [] [], .un, .un, .un, .un, .un, .un, .un, .un, .sl (Val.rows p0), .int .i64 ((List.length p0) : Int), .int .i64 (i0 : Int), .un, .un, .un, .un, .un, .un, .un, .un, .un, .un, .un, .un, .un, .un, .un, .un, .un, .un, .un, .un, .un, .un, .un, .un, .un]
def HO_Ky_b0 (_g : Val → Val → Int) (_p0 : List Val) (_p1 : List Val) (_i0 : Nat) : List Ob :=
  []
def E_Ky_b0 (g : Val → Val → Int) (p0 : List Val) (p1 : List Val) (i0 : Nat) : En := .loop 0 Ir.Ky_b0_live Ir.Ky_b0 (HE_Ky_b0 g p0 p1 i0) (HO_Ky_b0 g p0 p1 i0)
def S_Ky_b0_0 (_g : Val → Val → Int) (p0 : List Val) (p1 : List Val) (z : Nat → PV) (_zo : Nat → List PV) : St :=
  ⟨[.sl (Val.rows p0), .sl (Val.rows p1), z 2, z 3, z 4, z 5, z 6, z 7, z 8, z 9, z 10, z 11, z 12, z 13, z 14, z 15, z 16, z 17, z 18, z 19, z 20, z 21, z 22, z 23, z 24, z 25, z 26, z 27, z 28, z 29, z 30, z 31, z 32, z 33, z 34, z 35, z 36, z 37, z 38], [], 64⟩
def S_Ky_b0_1 (_g : Val → Val → Int) (_p0 : List Val) (_p1 : List Val) (z : Nat → PV) (zo : Nat → List PV) : St :=
  ⟨[z 0, z 1, z 2, z 3, z 4, z 5, .int .i64 1, z 7, z 8, z 9, z 10, z 11, z 12, z 13, z 14, z 15, z 16, z 17, z 18, z 19, z 20, z 21, z 22, z 23, z 24, z 25, z 26, z 27, z 28, z 29, z 30, z 31, z 32, z 33, z 34, z 35, z 36, z 37, z 38], [(256, ⟨5, 0, true, zo 256⟩)], 768⟩
def S_Ky_b0_2 (_g : Val → Val → Int) (_p0 : List Val) (_p1 : List Val) (q0 : Int) (z : Nat → PV) (zo : Nat → List PV) : St :=
  ⟨[z 0, z 1, z 2, z 3, z 4, z 5, .int .i64 q0, z 7, z 8, z 9, z 10, z 11, z 12, z 13, z 14, z 15, z 16, z 17, z 18, z 19, z 20, z 21, z 22, z 23, z 24, z 25, z 26, z 27, z 28, z 29, z 30, z 31, z 32, z 33, z 34, z 35, z 36, z 37, z 38], [(256, ⟨5, 0, true, zo 256⟩), (960, ⟨5, 0, true, zo 960⟩)], 1664⟩
def P_Ky_b0 (g : Val → Val → Int) (p0 : List Val) (p1 : List Val) (e : En) : R_Ky_b0 → Prop
  | .k0 => ∃ z zo, Tells G e (.st (.exit 0) (S_Ky_b0_0 g p0 p1 z zo))
  | .k1 => ∃ z zo, Tells G e (.st .ret (S_Ky_b0_1 g p0 p1 z zo))
  | .k2 q0 => ∃ z zo, Tells G e (.st .ret (S_Ky_b0_2 g p0 p1 q0 z zo))
theorem P_Ky_b0_mono (g : Val → Val → Int) (p0 : List Val) (p1 : List Val) {e e' : En} (h : ∀ r, Tells G e r → Tells G e' r) : ∀ q, P_Ky_b0 g p0 p1 e q → P_Ky_b0 g p0 p1 e' q
  | .k0, ⟨z, zo, hz⟩ => ⟨z, zo, h _ hz⟩
  | .k1, ⟨z, zo, hz⟩ => ⟨z, zo, h _ hz⟩
  | .k2 _, ⟨z, zo, hz⟩ => ⟨z, zo, h _ hz⟩
def H_Ky_b0 (_g : Val → Val → Int) (p0 : List Val) (_p1 : List Val) : Prop := (List.length p0 ≤ 4611686018427387904) ∧ True
def Z_Ky_b0_0 (_g : Val → Val → Int) (p0 : List Val) (_p1 : List Val) (i0 : Nat) : List PV :=
  [.un, .un, .fn 17 [] [], .un, .un, .un, .un, .un, .un, .un, .un, .sl (Val.rows p0), .int .i64 ((List.length p0) : Int), .int .i64 (i0 : Int), .bool false]
def ZO_Ky_b0_0 (_g : Val → Val → Int) (_p0 : List Val) (_p1 : List Val) (_i0 : Nat) : List (Nat × List PV) :=
  []
theorem x_Ky_b0_0 (g : Val → Val → Int) (p0 : List Val) (p1 : List Val) (_H : H_Ky_b0 g p0 p1) (_rec : Rec_Ky_f17 g p0) (i0 : Nat) (hc0 : (decide ((i0 : Int) < ((List.length p0) : Int))) = false) : P_Ky_b0 g p0 p1 (E_Ky_b0 g p0 p1 i0) (.k0) := by
  exact ⟨(envF (Z_Ky_b0_0 g p0 p1 i0)), (zoF (ZO_Ky_b0_0 g p0 p1 i0)), tells_outVI VOK.nil (x := ((.exit 0), S_Ky_b0_0 g p0 p1 (envF (Z_Ky_b0_0 g p0 p1 i0)) (zoF (ZO_Ky_b0_0 g p0 p1 i0)))) [hB 0 hc0] [] (by kernel_rfl)⟩
def Z_Ky_b0_1 (_g : Val → Val → Int) (p0 : List Val) (p1 : List Val) (i0 : Nat) (x0 : Val) : List PV :=
  [.sl (Val.rows p0), .sl (Val.rows p1), .fn 17 [] [], .un, .un, .un, .un, .int .i64 (i0 : Int), .bx 256 0, .un, .un, .sl (Val.rows p0), .int .i64 ((List.length p0) : Int), .int .i64 (i0 : Int), .bool true, .int .i64 (i0 : Int), .rf [.int .i64 x0.kind, .int .i64 x0.n, .str x0.s, .sl (Val.rows x0.list), .sl (Fld.rows x0.fields)], .agg [.int .i64 x0.kind, .int .i64 x0.n, .str x0.s, .sl (Val.rows x0.list), .sl (Fld.rows x0.fields)], .int .i64 (i0 : Int), .sl (Val.rows p1), .int .i64 ((List.length p1) : Int), .bool true]
def ZO_Ky_b0_1 (_g : Val → Val → Int) (_p0 : List Val) (_p1 : List Val) (_i0 : Nat) (x0 : Val) : List (Nat × List PV) :=
  [(256, [.int .i64 x0.kind, .int .i64 x0.n, .str x0.s, .sl (Val.rows x0.list), .sl (Fld.rows x0.fields)])]
theorem x_Ky_b0_1 (g : Val → Val → Int) (p0 : List Val) (p1 : List Val) (_H : H_Ky_b0 g p0 p1) (_rec : Rec_Ky_f17 g p0) (x0 : Val) (i0 : Nat) (hx0 : p0[i0]? = some x0) (_hi0 : i0 < List.length p0) (hc0 : (decide ((i0 : Int) < ((List.length p0) : Int))) = true) (h0 : (decide (((List.length p1) : Int) ≤ (i0 : Int))) = true) : P_Ky_b0 g p0 p1 (E_Ky_b0 g p0 p1 i0) (.k1) := by
  exact ⟨(envF (Z_Ky_b0_1 g p0 p1 i0 x0)), (zoF (ZO_Ky_b0_1 g p0 p1 i0 x0)), tells_outVI VOK.nil (x := (.ret, S_Ky_b0_1 g p0 p1 (envF (Z_Ky_b0_1 g p0 p1 i0 x0)) (zoF (ZO_Ky_b0_1 g p0 p1 i0 x0)))) [hB 0 hc0, hP 1 (ix_ok 5 (Val.rows p0) i0 _ (Val.rowsGet hx0) rfl), hP 6 (len_ok (Val.rows p1) (List.length p1) (Val.rowsLen p1)), hB 0 h0] [] (by kernel_rfl)⟩
theorem n_Ky_b0_2 (g : Val → Val → Int) (p0 : List Val) (p1 : List Val) (H : H_Ky_b0 g p0 p1) (rec : Rec_Ky_f17 g p0) (x0 : Val) (i0 : Nat) (hx0 : p0[i0]? = some x0) (hi0 : i0 < List.length p0) (hc0 : (decide ((i0 : Int) < ((List.length p0) : Int))) = true) (h0 : (decide (((List.length p1) : Int) ≤ (i0 : Int))) = false) (h1 : ((g x0 (List.getD p1 i0 (Val.mk 0 0 (⟨#[]⟩ : ByteArray) [] []))) == 0) = true) {r : Rs} (hr : Tells G (E_Ky_b0 g p0 p1 (i0 + 1)) r) : Tells G (E_Ky_b0 g p0 p1 i0) r := by
  have hB0 := H.1; have e0 := of_decide_eq_false h0; have e1 := eq_of_beq h1
  exact tells_nextVI VOK.nil (y := (HE_Ky_b0 g p0 p1 (i0 + 1), HO_Ky_b0 g p0 p1 (i0 + 1))) [hB 0 hc0, hP 1 (ix_ok 5 (Val.rows p0) i0 _ (Val.rowsGet hx0) rfl), hP 6 (len_ok (Val.rows p1) (List.length p1) (Val.rowsLen p1)), hB 0 h0, hP 2 (ixI_ok 5 (Val.rows p1) (i0 : Int) _ (by omega) (Val.rowsGet (getD_ok p1 (Int.toNat (i0 : Int)) (Val.mk 0 0 (⟨#[]⟩ : ByteArray) [] []) (by omega))) rfl), hP 9 (dec (!((g x0 (List.getD p1 i0 (Val.mk 0 0 (⟨#[]⟩ : ByteArray) [] []))) == 0)) false (by rw [h1]; rfl)), hP 0 (inc_ok i0 (by omega))] [aN (rec x0 (mem_get hx0) (List.getD p1 i0 (Val.mk 0 0 (⟨#[]⟩ : ByteArray) [] [])))] (by kernel_rfl) hr
def Z_Ky_b0_3 (g : Val → Val → Int) (p0 : List Val) (p1 : List Val) (i0 : Nat) (x0 : Val) : List PV :=
  [.sl (Val.rows p0), .sl (Val.rows p1), .fn 17 [] [], .un, .un, .un, .un, .int .i64 (i0 : Int), .bx 256 0, .bx 960 0, .int .i64 (g x0 (List.getD p1 i0 (Val.mk 0 0 (⟨#[]⟩ : ByteArray) [] []))), .sl (Val.rows p0), .int .i64 ((List.length p0) : Int), .int .i64 (i0 : Int), .bool true, .int .i64 (i0 : Int), .rf [.int .i64 x0.kind, .int .i64 x0.n, .str x0.s, .sl (Val.rows x0.list), .sl (Fld.rows x0.fields)], .agg [.int .i64 x0.kind, .int .i64 x0.n, .str x0.s, .sl (Val.rows x0.list), .sl (Fld.rows x0.fields)], .int .i64 (i0 : Int), .sl (Val.rows p1), .int .i64 ((List.length p1) : Int), .bool false, .sl (Val.rows p1), .int .i64 (i0 : Int), .rf [.int .i64 (List.getD p1 i0 (Val.mk 0 0 (⟨#[]⟩ : ByteArray) [] [])).kind, .int .i64 (List.getD p1 i0 (Val.mk 0 0 (⟨#[]⟩ : ByteArray) [] [])).n, .str (List.getD p1 i0 (Val.mk 0 0 (⟨#[]⟩ : ByteArray) [] [])).s, .sl (Val.rows (List.getD p1 i0 (Val.mk 0 0 (⟨#[]⟩ : ByteArray) [] [])).list), .sl (Fld.rows (List.getD p1 i0 (Val.mk 0 0 (⟨#[]⟩ : ByteArray) [] [])).fields)], .agg [.int .i64 (List.getD p1 i0 (Val.mk 0 0 (⟨#[]⟩ : ByteArray) [] [])).kind, .int .i64 (List.getD p1 i0 (Val.mk 0 0 (⟨#[]⟩ : ByteArray) [] [])).n, .str (List.getD p1 i0 (Val.mk 0 0 (⟨#[]⟩ : ByteArray) [] [])).s, .sl (Val.rows (List.getD p1 i0 (Val.mk 0 0 (⟨#[]⟩ : ByteArray) [] [])).list), .sl (Fld.rows (List.getD p1 i0 (Val.mk 0 0 (⟨#[]⟩ : ByteArray) [] [])).fields)], .fn 17 [] [], .agg [.int .i64 x0.kind, .int .i64 x0.n, .str x0.s, .sl (Val.rows x0.list), .sl (Fld.rows x0.fields)], .agg [.int .i64 (List.getD p1 i0 (Val.mk 0 0 (⟨#[]⟩ : ByteArray) [] [])).kind, .int .i64 (List.getD p1 i0 (Val.mk 0 0 (⟨#[]⟩ : ByteArray) [] [])).n, .str (List.getD p1 i0 (Val.mk 0 0 (⟨#[]⟩ : ByteArray) [] [])).s, .sl (Val.rows (List.getD p1 i0 (Val.mk 0 0 (⟨#[]⟩ : ByteArray) [] [])).list), .sl (Fld.rows (List.getD p1 i0 (Val.mk 0 0 (⟨#[]⟩ : ByteArray) [] [])).fields)], .int .i64 (g x0 (List.getD p1 i0 (Val.mk 0 0 (⟨#[]⟩ : ByteArray) [] []))), .int .i64 (g x0 (List.getD p1 i0 (Val.mk 0 0 (⟨#[]⟩ : ByteArray) [] []))), .bool true, .int .i64 (g x0 (List.getD p1 i0 (Val.mk 0 0 (⟨#[]⟩ : ByteArray) [] [])))]
def ZO_Ky_b0_3 (_g : Val → Val → Int) (_p0 : List Val) (p1 : List Val) (i0 : Nat) (x0 : Val) : List (Nat × List PV) :=
  [(256, [.int .i64 x0.kind, .int .i64 x0.n, .str x0.s, .sl (Val.rows x0.list), .sl (Fld.rows x0.fields)]), (960, [.int .i64 (List.getD p1 i0 (Val.mk 0 0 (⟨#[]⟩ : ByteArray) [] [])).kind, .int .i64 (List.getD p1 i0 (Val.mk 0 0 (⟨#[]⟩ : ByteArray) [] [])).n, .str (List.getD p1 i0 (Val.mk 0 0 (⟨#[]⟩ : ByteArray) [] [])).s, .sl (Val.rows (List.getD p1 i0 (Val.mk 0 0 (⟨#[]⟩ : ByteArray) [] [])).list), .sl (Fld.rows (List.getD p1 i0 (Val.mk 0 0 (⟨#[]⟩ : ByteArray) [] [])).fields)])]
theorem x_Ky_b0_3 (g : Val → Val → Int) (p0 : List Val) (p1 : List Val) (H : H_Ky_b0 g p0 p1) (rec : Rec_Ky_f17 g p0) (x0 : Val) (i0 : Nat) (hx0 : p0[i0]? = some x0) (_hi0 : i0 < List.length p0) (hc0 : (decide ((i0 : Int) < ((List.length p0) : Int))) = true) (h0 : (decide (((List.length p1) : Int) ≤ (i0 : Int))) = false) (h1 : ((g x0 (List.getD p1 i0 (Val.mk 0 0 (⟨#[]⟩ : ByteArray) [] []))) == 0) = false) : P_Ky_b0 g p0 p1 (E_Ky_b0 g p0 p1 i0) (.k2 (g x0 (List.getD p1 i0 (Val.mk 0 0 (⟨#[]⟩ : ByteArray) [] [])))) := by
  have hB0 := H.1; have e0 := of_decide_eq_false h0; have e1 := beq_eq_false_iff_ne.1 h1
  exact ⟨(envF (Z_Ky_b0_3 g p0 p1 i0 x0)), (zoF (ZO_Ky_b0_3 g p0 p1 i0 x0)), tells_outVI VOK.nil (x := (.ret, S_Ky_b0_2 g p0 p1 (g x0 (List.getD p1 i0 (Val.mk 0 0 (⟨#[]⟩ : ByteArray) [] []))) (envF (Z_Ky_b0_3 g p0 p1 i0 x0)) (zoF (ZO_Ky_b0_3 g p0 p1 i0 x0)))) [hB 0 hc0, hP 1 (ix_ok 5 (Val.rows p0) i0 _ (Val.rowsGet hx0) rfl), hP 6 (len_ok (Val.rows p1) (List.length p1) (Val.rowsLen p1)), hB 0 h0, hP 2 (ixI_ok 5 (Val.rows p1) (i0 : Int) _ (by omega) (Val.rowsGet (getD_ok p1 (Int.toNat (i0 : Int)) (Val.mk 0 0 (⟨#[]⟩ : ByteArray) [] []) (by omega))) rfl), hP 9 (dec (!((g x0 (List.getD p1 i0 (Val.mk 0 0 (⟨#[]⟩ : ByteArray) [] []))) == 0)) true (by rw [h1]; rfl))] [aN (rec x0 (mem_get hx0) (List.getD p1 i0 (Val.mk 0 0 (⟨#[]⟩ : ByteArray) [] [])))] (by kernel_rfl)⟩
theorem lt_Ky_b0 (g : Val → Val → Int) (p0 : List Val) (p1 : List Val) (H : H_Ky_b0 g p0 p1) (rec : Rec_Ky_f17 g p0) : ∀ (r0 : List Val) (i0 : Nat), List.drop i0 p0 = r0 → P_Ky_b0 g p0 p1 (E_Ky_b0 g p0 p1 i0) (l_Ky_b0 g p0 p1 r0 i0)
  | [], i0, hd => by
    have hc0 : (decide ((i0 : Int) < ((List.length p0) : Int))) = false := by have := drop_end hd; simp; omega
    rw [l_Ky_b0]
    exact x_Ky_b0_0 g p0 p1 H rec i0 hc0
  | x0 :: r0, i0, hd => by
    obtain ⟨hx0, hi0, hd'⟩ := drop_get hd
    have hc0 : (decide ((i0 : Int) < ((List.length p0) : Int))) = true := by simp; omega
    rw [l_Ky_b0]
    cases h0 : (decide (((List.length p1) : Int) ≤ (i0 : Int))) with
    | true =>
     exact x_Ky_b0_1 g p0 p1 H rec x0 i0 hx0 hi0 hc0 h0
    | false =>
     cases h1 : ((g x0 (List.getD p1 i0 (Val.mk 0 0 (⟨#[]⟩ : ByteArray) [] []))) == 0) with
     | true =>
      exact P_Ky_b0_mono g p0 p1 (fun r hr => n_Ky_b0_2 g p0 p1 H rec x0 i0 hx0 hi0 hc0 h0 h1 hr) _ (lt_Ky_b0 g p0 p1 H rec r0 (i0 + 1) hd')
     | false =>
      exact x_Ky_b0_3 g p0 p1 H rec x0 i0 hx0 hi0 hc0 h0 h1
/-- slices.CompareFunc[[]orchestrator/ api.Value,[]orchestrator/ api.Value,orchestrator/ api.Value,orchestrator/ api.Value] -/
def s_Ky_f17 (g : Val → Val → Int) (p0 : List Val) (p1 : List Val) : Int :=
  (match (l_Ky_b0 g p0 p1 p0 0) with
  | .k0 => bif (decide (((List.length p0) : Int) < ((List.length p1) : Int))) then
      (-1)
    else
      0
  | .k1 => 1
  | .k2 y0_0 => y0_0)
def c_Ky_f17 (p0 : List Val) (p1 : List Val) : En := .call 44 [.sl (Val.rows p0), .sl (Val.rows p1), .fn 17 [] []] []
def a_Ky_f17 (g : Val → Val → Int) (p0 : List Val) (p1 : List Val) : Rs := .ret (.int .i64 (s_Ky_f17 g p0 p1)) []
def H_Ky_f17 (g : Val → Val → Int) (p0 : List Val) (p1 : List Val) : Prop := (H_Ky_b0 g p0 p1) ∧ True
theorem t_Ky_f17 (g : Val → Val → Int) (p0 : List Val) (p1 : List Val) (H : H_Ky_f17 g p0 p1) (rec : Rec_Ky_f17 g p0) : Tells G (c_Ky_f17 p0 p1) (a_Ky_f17 g p0 p1) := by
  unfold a_Ky_f17 s_Ky_f17
  have hl0 := lt_Ky_b0 g p0 p1 (H.1) rec p0 0 (by simp)
  cases hr0 : (l_Ky_b0 g p0 p1 p0 0) with
  | k0 =>
    rw [hr0] at hl0
    obtain ⟨z0, zo0, hl0⟩ := hl0
    try dsimp only
    cases h0 : (decide (((List.length p0) : Int) < ((List.length p1) : Int))) with
    | true =>
     exact tells_VI (fn := Ir.Ky) rfl VOK.nil [hP 2 (len_ok (Val.rows p0) (List.length p0) (Val.rowsLen p0)), hP 2 (len_ok (Val.rows p0) (List.length p0) (Val.rowsLen p0)), hP 1 (len_ok (Val.rows p1) (List.length p1) (Val.rowsLen p1)), hB 0 h0] [aN hl0] (by kernel_rfl)
    | false =>
     exact tells_VI (fn := Ir.Ky) rfl VOK.nil [hP 2 (len_ok (Val.rows p0) (List.length p0) (Val.rowsLen p0)), hP 2 (len_ok (Val.rows p0) (List.length p0) (Val.rowsLen p0)), hP 1 (len_ok (Val.rows p1) (List.length p1) (Val.rowsLen p1)), hB 0 h0] [aN hl0] (by kernel_rfl)
  | k1 =>
    rw [hr0] at hl0
    obtain ⟨z0, zo0, hl0⟩ := hl0
    exact tells_VI (fn := Ir.Ky) rfl VOK.nil [hP 2 (len_ok (Val.rows p0) (List.length p0) (Val.rowsLen p0))] [aN hl0] (by kernel_rfl)
  | k2 y0_0 =>
    rw [hr0] at hl0
    obtain ⟨z0, zo0, hl0⟩ := hl0
    exact tells_VI (fn := Ir.Ky) rfl VOK.nil [hP 2 (len_ok (Val.rows p0) (List.length p0) (Val.rowsLen p0))] [aN hl0] (by kernel_rfl)
def Rec_Kz_f46 (g : Fld → Fld → Int) (p0 : List Fld) : Prop := ∀ x ∈ p0, ∀ y : Fld, Tells G (.call 46 [.agg (Fld.cells x), .agg (Fld.cells y)] []) (.ret (.int .i64 (g x y)) [])
inductive R_Kz_b0 where
  | k0
  | k1
  | k2 (q0 : Int)
def l_Kz_b0 (g : Fld → Fld → Int) (p0 : List Fld) (p1 : List Fld) : List Fld → Nat → R_Kz_b0
  | [], _i0 =>
    (.k0)
  | x0 :: r0, i0 =>
    bif (decide (((List.length p1) : Int) ≤ (i0 : Int))) then
      (.k1)
    else
      bif ((g x0 (List.getD p1 i0 (Fld.mk (⟨#[]⟩ : ByteArray) (Val.mk 0 0 (⟨#[]⟩ : ByteArray) [] [])))) == 0) then
        l_Kz_b0 g p0 p1 r0 (i0 + 1)
      else
        (.k2 (g x0 (List.getD p1 i0 (Fld.mk (⟨#[]⟩ : ByteArray) (Val.mk 0 0 (⟨#[]⟩ : ByteArray) [] [])))))
def HE_Kz_b0 (_g : Fld → Fld → Int) (p0 : List Fld) (p1 : List Fld) (i0 : Nat) : List PV :=
  [.sl (Fld.rows p0), .sl (Fld.rows p1), .fn 46 [] [], .un, .un, .un, .un, .un, .un, .un, .un, .sl (Fld.rows p0), .int .i64 ((List.length p0) : Int), .int .i64 (i0 : Int), .un, .un, .un, .un, .un, .un, .un, .un, .un, .un, .un, .un, .un, .un, .un, .un, .un, .un, .un, .un, .un, .un, .un, .un, .un]
def HO_Kz_b0 (_g : Fld → Fld → Int) (_p0 : List Fld) (_p1 : List Fld) (_i0 : Nat) : List Ob :=
  []
def E_Kz_b0 (g : Fld → Fld → Int) (p0 : List Fld) (p1 : List Fld) (i0 : Nat) : En := .loop 0 Ir.Kz_b0_live Ir.Kz_b0 (HE_Kz_b0 g p0 p1 i0) (HO_Kz_b0 g p0 p1 i0)
def S_Kz_b0_0 (_g : Fld → Fld → Int) (p0 : List Fld) (p1 : List Fld) (z : Nat → PV) (_zo : Nat → List PV) : St :=
  ⟨[.sl (Fld.rows p0), .sl (Fld.rows p1), z 2, z 3, z 4, z 5, z 6, z 7, z 8, z 9, z 10, z 11, z 12, z 13, z 14, z 15, z 16, z 17, z 18, z 19, z 20, z 21, z 22, z 23, z 24, z 25, z 26, z 27, z 28, z 29, z 30, z 31, z 32, z 33, z 34, z 35, z 36, z 37, z 38], [], 64⟩
def S_Kz_b0_1 (_g : Fld → Fld → Int) (_p0 : List Fld) (_p1 : List Fld) (z : Nat → PV) (zo : Nat → List PV) : St :=
  ⟨[z 0, z 1, z 2, z 3, z 4, z 5, .int .i64 1, z 7, z 8, z 9, z 10, z 11, z 12, z 13, z 14, z 15, z 16, z 17, z 18, z 19, z 20, z 21, z 22, z 23, z 24, z 25, z 26, z 27, z 28, z 29, z 30, z 31, z 32, z 33, z 34, z 35, z 36, z 37, z 38], [(256, ⟨6, 0, true, zo 256⟩)], 768⟩
def S_Kz_b0_2 (_g : Fld → Fld → Int) (_p0 : List Fld) (_p1 : List Fld) (q0 : Int) (z : Nat → PV) (zo : Nat → List PV) : St :=
  ⟨[z 0, z 1, z 2, z 3, z 4, z 5, .int .i64 q0, z 7, z 8, z 9, z 10, z 11, z 12, z 13, z 14, z 15, z 16, z 17, z 18, z 19, z 20, z 21, z 22, z 23, z 24, z 25, z 26, z 27, z 28, z 29, z 30, z 31, z 32, z 33, z 34, z 35, z 36, z 37, z 38], [(256, ⟨6, 0, true, zo 256⟩), (960, ⟨6, 0, true, zo 960⟩)], 1664⟩
def P_Kz_b0 (g : Fld → Fld → Int) (p0 : List Fld) (p1 : List Fld) (e : En) : R_Kz_b0 → Prop
  | .k0 => ∃ z zo, Tells G e (.st (.exit 0) (S_Kz_b0_0 g p0 p1 z zo))
  | .k1 => ∃ z zo, Tells G e (.st .ret (S_Kz_b0_1 g p0 p1 z zo))
  | .k2 q0 => ∃ z zo, Tells G e (.st .ret (S_Kz_b0_2 g p0 p1 q0 z zo))
theorem P_Kz_b0_mono (g : Fld → Fld → Int) (p0 : List Fld) (p1 : List Fld) {e e' : En} (h : ∀ r, Tells G e r → Tells G e' r) : ∀ q, P_Kz_b0 g p0 p1 e q → P_Kz_b0 g p0 p1 e' q
  | .k0, ⟨z, zo, hz⟩ => ⟨z, zo, h _ hz⟩
  | .k1, ⟨z, zo, hz⟩ => ⟨z, zo, h _ hz⟩
  | .k2 _, ⟨z, zo, hz⟩ => ⟨z, zo, h _ hz⟩
def H_Kz_b0 (_g : Fld → Fld → Int) (p0 : List Fld) (_p1 : List Fld) : Prop := (List.length p0 ≤ 4611686018427387904) ∧ True
def Z_Kz_b0_0 (_g : Fld → Fld → Int) (p0 : List Fld) (_p1 : List Fld) (i0 : Nat) : List PV :=
  [.un, .un, .fn 46 [] [], .un, .un, .un, .un, .un, .un, .un, .un, .sl (Fld.rows p0), .int .i64 ((List.length p0) : Int), .int .i64 (i0 : Int), .bool false]
def ZO_Kz_b0_0 (_g : Fld → Fld → Int) (_p0 : List Fld) (_p1 : List Fld) (_i0 : Nat) : List (Nat × List PV) :=
  []
theorem x_Kz_b0_0 (g : Fld → Fld → Int) (p0 : List Fld) (p1 : List Fld) (_H : H_Kz_b0 g p0 p1) (_rec : Rec_Kz_f46 g p0) (i0 : Nat) (hc0 : (decide ((i0 : Int) < ((List.length p0) : Int))) = false) : P_Kz_b0 g p0 p1 (E_Kz_b0 g p0 p1 i0) (.k0) := by
  exact ⟨(envF (Z_Kz_b0_0 g p0 p1 i0)), (zoF (ZO_Kz_b0_0 g p0 p1 i0)), tells_outVI VOK.nil (x := ((.exit 0), S_Kz_b0_0 g p0 p1 (envF (Z_Kz_b0_0 g p0 p1 i0)) (zoF (ZO_Kz_b0_0 g p0 p1 i0)))) [hB 0 hc0] [] (by kernel_rfl)⟩
def Z_Kz_b0_1 (_g : Fld → Fld → Int) (p0 : List Fld) (p1 : List Fld) (i0 : Nat) (x0 : Fld) : List PV :=
  [.sl (Fld.rows p0), .sl (Fld.rows p1), .fn 46 [] [], .un, .un, .un, .un, .int .i64 (i0 : Int), .bx 256 0, .un, .un, .sl (Fld.rows p0), .int .i64 ((List.length p0) : Int), .int .i64 (i0 : Int), .bool true, .int .i64 (i0 : Int), .rf [.str x0.name, .int .i64 x0.v.kind, .int .i64 x0.v.n, .str x0.v.s, .sl (Val.rows x0.v.list), .sl (Fld.rows x0.v.fields)], .agg [.str x0.name, .int .i64 x0.v.kind, .int .i64 x0.v.n, .str x0.v.s, .sl (Val.rows x0.v.list), .sl (Fld.rows x0.v.fields)], .int .i64 (i0 : Int), .sl (Fld.rows p1), .int .i64 ((List.length p1) : Int), .bool true]
def ZO_Kz_b0_1 (_g : Fld → Fld → Int) (_p0 : List Fld) (_p1 : List Fld) (_i0 : Nat) (x0 : Fld) : List (Nat × List PV) :=
  [(256, [.str x0.name, .int .i64 x0.v.kind, .int .i64 x0.v.n, .str x0.v.s, .sl (Val.rows x0.v.list), .sl (Fld.rows x0.v.fields)])]
theorem x_Kz_b0_1 (g : Fld → Fld → Int) (p0 : List Fld) (p1 : List Fld) (_H : H_Kz_b0 g p0 p1) (_rec : Rec_Kz_f46 g p0) (x0 : Fld) (i0 : Nat) (hx0 : p0[i0]? = some x0) (_hi0 : i0 < List.length p0) (hc0 : (decide ((i0 : Int) < ((List.length p0) : Int))) = true) (h0 : (decide (((List.length p1) : Int) ≤ (i0 : Int))) = true) : P_Kz_b0 g p0 p1 (E_Kz_b0 g p0 p1 i0) (.k1) := by
  exact ⟨(envF (Z_Kz_b0_1 g p0 p1 i0 x0)), (zoF (ZO_Kz_b0_1 g p0 p1 i0 x0)), tells_outVI VOK.nil (x := (.ret, S_Kz_b0_1 g p0 p1 (envF (Z_Kz_b0_1 g p0 p1 i0 x0)) (zoF (ZO_Kz_b0_1 g p0 p1 i0 x0)))) [hB 0 hc0, hP 1 (ix_ok 6 (Fld.rows p0) i0 _ (Fld.rowsGet hx0) rfl), hP 6 (len_ok (Fld.rows p1) (List.length p1) (Fld.rowsLen p1)), hB 0 h0] [] (by kernel_rfl)⟩
theorem n_Kz_b0_2 (g : Fld → Fld → Int) (p0 : List Fld) (p1 : List Fld) (H : H_Kz_b0 g p0 p1) (rec : Rec_Kz_f46 g p0) (x0 : Fld) (i0 : Nat) (hx0 : p0[i0]? = some x0) (hi0 : i0 < List.length p0) (hc0 : (decide ((i0 : Int) < ((List.length p0) : Int))) = true) (h0 : (decide (((List.length p1) : Int) ≤ (i0 : Int))) = false) (h1 : ((g x0 (List.getD p1 i0 (Fld.mk (⟨#[]⟩ : ByteArray) (Val.mk 0 0 (⟨#[]⟩ : ByteArray) [] [])))) == 0) = true) {r : Rs} (hr : Tells G (E_Kz_b0 g p0 p1 (i0 + 1)) r) : Tells G (E_Kz_b0 g p0 p1 i0) r := by
  have hB0 := H.1; have e0 := of_decide_eq_false h0; have e1 := eq_of_beq h1
  exact tells_nextVI VOK.nil (y := (HE_Kz_b0 g p0 p1 (i0 + 1), HO_Kz_b0 g p0 p1 (i0 + 1))) [hB 0 hc0, hP 1 (ix_ok 6 (Fld.rows p0) i0 _ (Fld.rowsGet hx0) rfl), hP 6 (len_ok (Fld.rows p1) (List.length p1) (Fld.rowsLen p1)), hB 0 h0, hP 2 (ixI_ok 6 (Fld.rows p1) (i0 : Int) _ (by omega) (Fld.rowsGet (getD_ok p1 (Int.toNat (i0 : Int)) (Fld.mk (⟨#[]⟩ : ByteArray) (Val.mk 0 0 (⟨#[]⟩ : ByteArray) [] [])) (by omega))) rfl), hP 9 (dec (!((g x0 (List.getD p1 i0 (Fld.mk (⟨#[]⟩ : ByteArray) (Val.mk 0 0 (⟨#[]⟩ : ByteArray) [] [])))) == 0)) false (by rw [h1]; rfl)), hP 0 (inc_ok i0 (by omega))] [aN (rec x0 (mem_get hx0) (List.getD p1 i0 (Fld.mk (⟨#[]⟩ : ByteArray) (Val.mk 0 0 (⟨#[]⟩ : ByteArray) [] []))))] (by kernel_rfl) hr
def Z_Kz_b0_3 (g : Fld → Fld → Int) (p0 : List Fld) (p1 : List Fld) (i0 : Nat) (x0 : Fld) : List PV :=
  [.sl (Fld.rows p0), .sl (Fld.rows p1), .fn 46 [] [], .un, .un, .un, .un, .int .i64 (i0 : Int), .bx 256 0, .bx 960 0, .int .i64 (g x0 (List.getD p1 i0 (Fld.mk (⟨#[]⟩ : ByteArray) (Val.mk 0 0 (⟨#[]⟩ : ByteArray) [] [])))), .sl (Fld.rows p0), .int .i64 ((List.length p0) : Int), .int .i64 (i0 : Int), .bool true, .int .i64 (i0 : Int), .rf [.str x0.name, .int .i64 x0.v.kind, .int .i64 x0.v.n, .str x0.v.s, .sl (Val.rows x0.v.list), .sl (Fld.rows x0.v.fields)], .agg [.str x0.name, .int .i64 x0.v.kind, .int .i64 x0.v.n, .str x0.v.s, .sl (Val.rows x0.v.list), .sl (Fld.rows x0.v.fields)], .int .i64 (i0 : Int), .sl (Fld.rows p1), .int .i64 ((List.length p1) : Int), .bool false, .sl (Fld.rows p1), .int .i64 (i0 : Int), .rf [.str (List.getD p1 i0 (Fld.mk (⟨#[]⟩ : ByteArray) (Val.mk 0 0 (⟨#[]⟩ : ByteArray) [] []))).name, .int .i64 (List.getD p1 i0 (Fld.mk (⟨#[]⟩ : ByteArray) (Val.mk 0 0 (⟨#[]⟩ : ByteArray) [] []))).v.kind, .int .i64 (List.getD p1 i0 (Fld.mk (⟨#[]⟩ : ByteArray) (Val.mk 0 0 (⟨#[]⟩ : ByteArray) [] []))).v.n, .str (List.getD p1 i0 (Fld.mk (⟨#[]⟩ : ByteArray) (Val.mk 0 0 (⟨#[]⟩ : ByteArray) [] []))).v.s, .sl (Val.rows (List.getD p1 i0 (Fld.mk (⟨#[]⟩ : ByteArray) (Val.mk 0 0 (⟨#[]⟩ : ByteArray) [] []))).v.list), .sl (Fld.rows (List.getD p1 i0 (Fld.mk (⟨#[]⟩ : ByteArray) (Val.mk 0 0 (⟨#[]⟩ : ByteArray) [] []))).v.fields)], .agg [.str (List.getD p1 i0 (Fld.mk (⟨#[]⟩ : ByteArray) (Val.mk 0 0 (⟨#[]⟩ : ByteArray) [] []))).name, .int .i64 (List.getD p1 i0 (Fld.mk (⟨#[]⟩ : ByteArray) (Val.mk 0 0 (⟨#[]⟩ : ByteArray) [] []))).v.kind, .int .i64 (List.getD p1 i0 (Fld.mk (⟨#[]⟩ : ByteArray) (Val.mk 0 0 (⟨#[]⟩ : ByteArray) [] []))).v.n, .str (List.getD p1 i0 (Fld.mk (⟨#[]⟩ : ByteArray) (Val.mk 0 0 (⟨#[]⟩ : ByteArray) [] []))).v.s, .sl (Val.rows (List.getD p1 i0 (Fld.mk (⟨#[]⟩ : ByteArray) (Val.mk 0 0 (⟨#[]⟩ : ByteArray) [] []))).v.list), .sl (Fld.rows (List.getD p1 i0 (Fld.mk (⟨#[]⟩ : ByteArray) (Val.mk 0 0 (⟨#[]⟩ : ByteArray) [] []))).v.fields)], .fn 46 [] [], .agg [.str x0.name, .int .i64 x0.v.kind, .int .i64 x0.v.n, .str x0.v.s, .sl (Val.rows x0.v.list), .sl (Fld.rows x0.v.fields)], .agg [.str (List.getD p1 i0 (Fld.mk (⟨#[]⟩ : ByteArray) (Val.mk 0 0 (⟨#[]⟩ : ByteArray) [] []))).name, .int .i64 (List.getD p1 i0 (Fld.mk (⟨#[]⟩ : ByteArray) (Val.mk 0 0 (⟨#[]⟩ : ByteArray) [] []))).v.kind, .int .i64 (List.getD p1 i0 (Fld.mk (⟨#[]⟩ : ByteArray) (Val.mk 0 0 (⟨#[]⟩ : ByteArray) [] []))).v.n, .str (List.getD p1 i0 (Fld.mk (⟨#[]⟩ : ByteArray) (Val.mk 0 0 (⟨#[]⟩ : ByteArray) [] []))).v.s, .sl (Val.rows (List.getD p1 i0 (Fld.mk (⟨#[]⟩ : ByteArray) (Val.mk 0 0 (⟨#[]⟩ : ByteArray) [] []))).v.list), .sl (Fld.rows (List.getD p1 i0 (Fld.mk (⟨#[]⟩ : ByteArray) (Val.mk 0 0 (⟨#[]⟩ : ByteArray) [] []))).v.fields)], .int .i64 (g x0 (List.getD p1 i0 (Fld.mk (⟨#[]⟩ : ByteArray) (Val.mk 0 0 (⟨#[]⟩ : ByteArray) [] [])))), .int .i64 (g x0 (List.getD p1 i0 (Fld.mk (⟨#[]⟩ : ByteArray) (Val.mk 0 0 (⟨#[]⟩ : ByteArray) [] [])))), .bool true, .int .i64 (g x0 (List.getD p1 i0 (Fld.mk (⟨#[]⟩ : ByteArray) (Val.mk 0 0 (⟨#[]⟩ : ByteArray) [] []))))]
def ZO_Kz_b0_3 (_g : Fld → Fld → Int) (_p0 : List Fld) (p1 : List Fld) (i0 : Nat) (x0 : Fld) : List (Nat × List PV) :=
  [(256, [.str x0.name, .int .i64 x0.v.kind, .int .i64 x0.v.n, .str x0.v.s, .sl (Val.rows x0.v.list), .sl (Fld.rows x0.v.fields)]), (960, [.str (List.getD p1 i0 (Fld.mk (⟨#[]⟩ : ByteArray) (Val.mk 0 0 (⟨#[]⟩ : ByteArray) [] []))).name, .int .i64 (List.getD p1 i0 (Fld.mk (⟨#[]⟩ : ByteArray) (Val.mk 0 0 (⟨#[]⟩ : ByteArray) [] []))).v.kind, .int .i64 (List.getD p1 i0 (Fld.mk (⟨#[]⟩ : ByteArray) (Val.mk 0 0 (⟨#[]⟩ : ByteArray) [] []))).v.n, .str (List.getD p1 i0 (Fld.mk (⟨#[]⟩ : ByteArray) (Val.mk 0 0 (⟨#[]⟩ : ByteArray) [] []))).v.s, .sl (Val.rows (List.getD p1 i0 (Fld.mk (⟨#[]⟩ : ByteArray) (Val.mk 0 0 (⟨#[]⟩ : ByteArray) [] []))).v.list), .sl (Fld.rows (List.getD p1 i0 (Fld.mk (⟨#[]⟩ : ByteArray) (Val.mk 0 0 (⟨#[]⟩ : ByteArray) [] []))).v.fields)])]
theorem x_Kz_b0_3 (g : Fld → Fld → Int) (p0 : List Fld) (p1 : List Fld) (H : H_Kz_b0 g p0 p1) (rec : Rec_Kz_f46 g p0) (x0 : Fld) (i0 : Nat) (hx0 : p0[i0]? = some x0) (_hi0 : i0 < List.length p0) (hc0 : (decide ((i0 : Int) < ((List.length p0) : Int))) = true) (h0 : (decide (((List.length p1) : Int) ≤ (i0 : Int))) = false) (h1 : ((g x0 (List.getD p1 i0 (Fld.mk (⟨#[]⟩ : ByteArray) (Val.mk 0 0 (⟨#[]⟩ : ByteArray) [] [])))) == 0) = false) : P_Kz_b0 g p0 p1 (E_Kz_b0 g p0 p1 i0) (.k2 (g x0 (List.getD p1 i0 (Fld.mk (⟨#[]⟩ : ByteArray) (Val.mk 0 0 (⟨#[]⟩ : ByteArray) [] []))))) := by
  have hB0 := H.1; have e0 := of_decide_eq_false h0; have e1 := beq_eq_false_iff_ne.1 h1
  exact ⟨(envF (Z_Kz_b0_3 g p0 p1 i0 x0)), (zoF (ZO_Kz_b0_3 g p0 p1 i0 x0)), tells_outVI VOK.nil (x := (.ret, S_Kz_b0_2 g p0 p1 (g x0 (List.getD p1 i0 (Fld.mk (⟨#[]⟩ : ByteArray) (Val.mk 0 0 (⟨#[]⟩ : ByteArray) [] [])))) (envF (Z_Kz_b0_3 g p0 p1 i0 x0)) (zoF (ZO_Kz_b0_3 g p0 p1 i0 x0)))) [hB 0 hc0, hP 1 (ix_ok 6 (Fld.rows p0) i0 _ (Fld.rowsGet hx0) rfl), hP 6 (len_ok (Fld.rows p1) (List.length p1) (Fld.rowsLen p1)), hB 0 h0, hP 2 (ixI_ok 6 (Fld.rows p1) (i0 : Int) _ (by omega) (Fld.rowsGet (getD_ok p1 (Int.toNat (i0 : Int)) (Fld.mk (⟨#[]⟩ : ByteArray) (Val.mk 0 0 (⟨#[]⟩ : ByteArray) [] [])) (by omega))) rfl), hP 9 (dec (!((g x0 (List.getD p1 i0 (Fld.mk (⟨#[]⟩ : ByteArray) (Val.mk 0 0 (⟨#[]⟩ : ByteArray) [] [])))) == 0)) true (by rw [h1]; rfl))] [aN (rec x0 (mem_get hx0) (List.getD p1 i0 (Fld.mk (⟨#[]⟩ : ByteArray) (Val.mk 0 0 (⟨#[]⟩ : ByteArray) [] []))))] (by kernel_rfl)⟩
theorem lt_Kz_b0 (g : Fld → Fld → Int) (p0 : List Fld) (p1 : List Fld) (H : H_Kz_b0 g p0 p1) (rec : Rec_Kz_f46 g p0) : ∀ (r0 : List Fld) (i0 : Nat), List.drop i0 p0 = r0 → P_Kz_b0 g p0 p1 (E_Kz_b0 g p0 p1 i0) (l_Kz_b0 g p0 p1 r0 i0)
  | [], i0, hd => by
    have hc0 : (decide ((i0 : Int) < ((List.length p0) : Int))) = false := by have := drop_end hd; simp; omega
    rw [l_Kz_b0]
    exact x_Kz_b0_0 g p0 p1 H rec i0 hc0
  | x0 :: r0, i0, hd => by
    obtain ⟨hx0, hi0, hd'⟩ := drop_get hd
    have hc0 : (decide ((i0 : Int) < ((List.length p0) : Int))) = true := by simp; omega
    rw [l_Kz_b0]
    cases h0 : (decide (((List.length p1) : Int) ≤ (i0 : Int))) with
    | true =>
     exact x_Kz_b0_1 g p0 p1 H rec x0 i0 hx0 hi0 hc0 h0
    | false =>
     cases h1 : ((g x0 (List.getD p1 i0 (Fld.mk (⟨#[]⟩ : ByteArray) (Val.mk 0 0 (⟨#[]⟩ : ByteArray) [] [])))) == 0) with
     | true =>
      exact P_Kz_b0_mono g p0 p1 (fun r hr => n_Kz_b0_2 g p0 p1 H rec x0 i0 hx0 hi0 hc0 h0 h1 hr) _ (lt_Kz_b0 g p0 p1 H rec r0 (i0 + 1) hd')
     | false =>
      exact x_Kz_b0_3 g p0 p1 H rec x0 i0 hx0 hi0 hc0 h0 h1
/-- slices.CompareFunc[[]orchestrator/ api.Field,[]orchestrator/ api.Field,orchestrator/ api.Field,orchestrator/ api.Field] -/
def s_Kz_f46 (g : Fld → Fld → Int) (p0 : List Fld) (p1 : List Fld) : Int :=
  (match (l_Kz_b0 g p0 p1 p0 0) with
  | .k0 => bif (decide (((List.length p0) : Int) < ((List.length p1) : Int))) then
      (-1)
    else
      0
  | .k1 => 1
  | .k2 y0_0 => y0_0)
def c_Kz_f46 (p0 : List Fld) (p1 : List Fld) : En := .call 45 [.sl (Fld.rows p0), .sl (Fld.rows p1), .fn 46 [] []] []
def a_Kz_f46 (g : Fld → Fld → Int) (p0 : List Fld) (p1 : List Fld) : Rs := .ret (.int .i64 (s_Kz_f46 g p0 p1)) []
def H_Kz_f46 (g : Fld → Fld → Int) (p0 : List Fld) (p1 : List Fld) : Prop := (H_Kz_b0 g p0 p1) ∧ True
theorem t_Kz_f46 (g : Fld → Fld → Int) (p0 : List Fld) (p1 : List Fld) (H : H_Kz_f46 g p0 p1) (rec : Rec_Kz_f46 g p0) : Tells G (c_Kz_f46 p0 p1) (a_Kz_f46 g p0 p1) := by
  unfold a_Kz_f46 s_Kz_f46
  have hl0 := lt_Kz_b0 g p0 p1 (H.1) rec p0 0 (by simp)
  cases hr0 : (l_Kz_b0 g p0 p1 p0 0) with
  | k0 =>
    rw [hr0] at hl0
    obtain ⟨z0, zo0, hl0⟩ := hl0
    try dsimp only
    cases h0 : (decide (((List.length p0) : Int) < ((List.length p1) : Int))) with
    | true =>
     exact tells_VI (fn := Ir.Kz) rfl VOK.nil [hP 2 (len_ok (Fld.rows p0) (List.length p0) (Fld.rowsLen p0)), hP 2 (len_ok (Fld.rows p0) (List.length p0) (Fld.rowsLen p0)), hP 1 (len_ok (Fld.rows p1) (List.length p1) (Fld.rowsLen p1)), hB 0 h0] [aN hl0] (by kernel_rfl)
    | false =>
     exact tells_VI (fn := Ir.Kz) rfl VOK.nil [hP 2 (len_ok (Fld.rows p0) (List.length p0) (Fld.rowsLen p0)), hP 2 (len_ok (Fld.rows p0) (List.length p0) (Fld.rowsLen p0)), hP 1 (len_ok (Fld.rows p1) (List.length p1) (Fld.rowsLen p1)), hB 0 h0] [aN hl0] (by kernel_rfl)
  | k1 =>
    rw [hr0] at hl0
    obtain ⟨z0, zo0, hl0⟩ := hl0
    exact tells_VI (fn := Ir.Kz) rfl VOK.nil [hP 2 (len_ok (Fld.rows p0) (List.length p0) (Fld.rowsLen p0))] [aN hl0] (by kernel_rfl)
  | k2 y0_0 =>
    rw [hr0] at hl0
    obtain ⟨z0, zo0, hl0⟩ := hl0
    exact tells_VI (fn := Ir.Kz) rfl VOK.nil [hP 2 (len_ok (Fld.rows p0) (List.length p0) (Fld.rowsLen p0))] [aN hl0] (by kernel_rfl)
end Go.Proofs.Ytedohmdgbilicaa
end

section
/- What the functions of the chapter on values compute (printed by a program). -/
namespace Go.Proofs.Ytedohmdgbilicaa
open Go.Pv
theorem eqV_b0 (p0 p1 : List Val) : ∀ (l : List Val) (i : Nat), p0.length = i + l.length → (match l_Ky_b0 s_K1a p0 p1 l i with | .k0 => bif decide (((List.length p0) : Int) < ((List.length p1) : Int)) then (-1 : Int) else 0 | .k1 => 1 | .k2 q => q) = lcV l (p1.drop i)
  | [], i, h => by
    rw [l_Ky_b0]
    simp only [List.length_nil, Nat.add_zero] at h
    cases e : p1.drop i with
    | nil =>
      have := List.drop_eq_nil_iff.1 e
      rw [lcV, show decide (((List.length p0) : Int) < ((List.length p1) : Int)) = false by simp; omega]
      rfl
    | cons y m =>
      have : i < p1.length := by
        apply Decidable.byContradiction
        intro hn
        rw [List.drop_eq_nil_of_le (by omega)] at e
        cases e
      rw [lcV, show decide (((List.length p0) : Int) < ((List.length p1) : Int)) = true by simp; omega]
      rfl
  | x :: l, i, h => by
    rw [l_Ky_b0]
    by_cases c : p1.length ≤ i
    · rw [show decide (((List.length p1) : Int) ≤ (i : Int)) = true by simpa using c, cond_true, List.drop_eq_nil_of_le c, lcV]
    · rw [show decide (((List.length p1) : Int) ≤ (i : Int)) = false by simpa using c, cond_false]
      have hl : i < p1.length := by omega
      rw [List.drop_eq_getElem_cons hl, lcV, List.getD_eq_getElem?_getD, List.getElem?_eq_getElem hl, Option.getD_some]
      cases s_K1a x p1[i] == 0 with
      | true => exact eqV_b0 p0 p1 l (i + 1) (by simp at h; omega)
      | false => rfl
theorem eqV (p0 p1 : List Val) : lcV p0 p1 = s_Ky_f17 s_K1a p0 p1 := by
  have h := eqV_b0 p0 p1 p0 0 (by simp)
  rw [List.drop_zero] at h
  rw [← h]
  unfold s_Ky_f17
  cases l_Ky_b0 s_K1a p0 p1 p0 0 <;> rfl
theorem eqF_b0 (p0 p1 : List Fld) : ∀ (l : List Fld) (i : Nat), p0.length = i + l.length → (match l_Kz_b0 s_K1b p0 p1 l i with | .k0 => bif decide (((List.length p0) : Int) < ((List.length p1) : Int)) then (-1 : Int) else 0 | .k1 => 1 | .k2 q => q) = lcF l (p1.drop i)
  | [], i, h => by
    rw [l_Kz_b0]
    simp only [List.length_nil, Nat.add_zero] at h
    cases e : p1.drop i with
    | nil =>
      have := List.drop_eq_nil_iff.1 e
      rw [lcF, show decide (((List.length p0) : Int) < ((List.length p1) : Int)) = false by simp; omega]
      rfl
    | cons y m =>
      have : i < p1.length := by
        apply Decidable.byContradiction
        intro hn
        rw [List.drop_eq_nil_of_le (by omega)] at e
        cases e
      rw [lcF, show decide (((List.length p0) : Int) < ((List.length p1) : Int)) = true by simp; omega]
      rfl
  | x :: l, i, h => by
    rw [l_Kz_b0]
    by_cases c : p1.length ≤ i
    · rw [show decide (((List.length p1) : Int) ≤ (i : Int)) = true by simpa using c, cond_true, List.drop_eq_nil_of_le c, lcF]
    · rw [show decide (((List.length p1) : Int) ≤ (i : Int)) = false by simpa using c, cond_false]
      have hl : i < p1.length := by omega
      rw [List.drop_eq_getElem_cons hl, lcF, List.getD_eq_getElem?_getD, List.getElem?_eq_getElem hl, Option.getD_some, s_K1b]
      cases s_K1 [s_K18 x.name p1[i].name, s_K1a x.v p1[i].v] == 0 with
      | true => exact eqF_b0 p0 p1 l (i + 1) (by simp at h; omega)
      | false => rfl
theorem eqF (p0 p1 : List Fld) : lcF p0 p1 = s_Kz_f46 s_K1b p0 p1 := by
  have h := eqF_b0 p0 p1 p0 0 (by simp)
  rw [List.drop_zero] at h
  rw [← h]
  unfold s_Kz_f46
  cases l_Kz_b0 s_K1b p0 p1 p0 0 <;> rfl
theorem e_K1a (p0 : Val) (p1 : Val) : s_K1a p0 p1 = ((s_K1 ([(s_K0 p0.kind p1.kind), (s_K0 p0.n p1.n), (s_K18 p0.s p1.s), (s_Ky_f17 s_K1a p0.list p1.list), (s_Kz_f46 s_K1b p0.fields p1.fields)]))) := by
  rw [s_K1a, eqV, eqF]
abbrev H_K1a (p0 : Val) : Prop := Val.Sm 4611686018427387904 p0
def Rec_K1a (p0 : Val) : Prop := ∀ (q : Val), SizeOf.sizeOf q < SizeOf.sizeOf p0 → ∀ (p1 : Val), H_K1a q → Tells G (c_K1a q p1) (a_K1a q p1)
theorem give_K1a (p0 : Val) (p1 : Val) (H : H_K1a p0) : (H_Ky_f17 s_K1a p0.list p1.list) ∧ (H_Kz_f46 s_K1b p0.fields p1.fields) ∧ True := by
  obtain ⟨h1, h2, h3, h4⟩ := H.all
  exact ⟨⟨⟨h1, trivial⟩, trivial⟩, ⟨⟨h2, trivial⟩, trivial⟩, trivial⟩
theorem r_K1a (p0 : Val) (p1 : Val) (H : H_K1a p0) (rec : Rec_K1a p0) : Tells G (c_K1a p0 p1) (a_K1a p0 p1) := by
  unfold a_K1a
  rw [e_K1a]
  exact tells_VI (fn := Ir.K1a) rfl VOK.nil [] [aN (t_K0 p0.kind p1.kind), aN (t_K0 p0.n p1.n), aN (t_K18 p0.s p1.s), aN (t_Ky_f17 s_K1a p0.list p1.list (give_K1a p0 p1 H).1 (fun x hx y => rec x (szM hx) y (H.all.2.2.1 x hx))), aN (t_Kz_f46 s_K1b p0.fields p1.fields (give_K1a p0 p1 H).2.1 (fun x hx y => t_K1b x y (rec x.v (szN hx) y.v (H.all.2.2.2 x hx)))), aN (t_K1 ([(s_K0 p0.kind p1.kind), (s_K0 p0.n p1.n), (s_K18 p0.s p1.s), (s_Ky_f17 s_K1a p0.list p1.list), (s_Kz_f46 s_K1b p0.fields p1.fields)]) (by simp [H_K1, H_K1_b0]))] (by kernel_rfl)
theorem i_K1a : ∀ (k : Nat) (p0 : Val), SizeOf.sizeOf p0 < k → ∀ (p1 : Val), H_K1a p0 → Tells G (c_K1a p0 p1) (a_K1a p0 p1)
  | 0, _, h, _, _ => absurd h (Nat.not_lt_zero _)
  | k + 1, p0, h, p1, H => r_K1a p0 p1 H (fun q hq p1 hH => i_K1a k q (by omega) p1 hH)
theorem t_K1a (p0 : Val) (p1 : Val) (H : H_K1a p0) : Tells G (c_K1a p0 p1) (a_K1a p0 p1) := i_K1a _ p0 (Nat.lt_succ_self _) p1 H
def s_K1d (p0 : Val) (p1 : Val) : Bool :=
  ((s_K1a p0 p1) == 0)
def c_K1d (p0 : Val) (p1 : Val) : En := .call 19 [.agg (Val.cells p0), .agg (Val.cells p1)] []
def a_K1d (p0 : Val) (p1 : Val) : Rs := .ret (.bool (s_K1d p0 p1)) []
def H_K1d (p0 : Val) (_p1 : Val) : Prop := (H_K1a p0) ∧ True
theorem t_K1d (p0 : Val) (p1 : Val) (H : H_K1d p0 p1) : Tells G (c_K1d p0 p1) (a_K1d p0 p1) := by
  unfold a_K1d s_K1d
  exact tells_VI (fn := Ir.K1d) rfl VOK.nil [] [aN (t_K1a p0 p1 H.1)] (by kernel_rfl)
end Go.Proofs.Ytedohmdgbilicaa
end

section
/- What the laws ValueValid, ValueCompares, ValueOrder compute (printed by a program). -/
namespace Go.Proofs.Ytedohmdgbilicaa
open Go.Pv
theorem t_K9 : Tells G (.call 10 [] []) (.ret (.bool true) []) := ⟨200, by kernel_rfl⟩
def s_K7 (p0 : Val) (p1 : Val) (p2 : Val) : Bool :=
  bif (s_Ka p0) then
    bif (s_Ka p1) then
      bif (s_Ka p2) then
        bif ((s_K1a p1 p0) == (w64 (0 - (s_K1a p0 p1)))) then
          bif (decide ((s_K1a p0 p1) < (-1))) then
            false
          else
            bif (decide (1 < (s_K1a p0 p1))) then
              false
            else
              bif ((s_K1a p0 p1) == 0) then
                bif ((s_K1d p0 p1) == true) then
                  bif ((s_K1a p0 p0) == 0) then
                    bif (decide ((s_K1a p0 p1) ≤ 0)) then
                      bif (decide ((s_K1a p1 p2) ≤ 0)) then
                        bif (decide (0 < (s_K1a p0 p2))) then
                          false
                        else
                          bif (decide (0 ≤ (s_K1a p0 p1))) then
                            bif (decide (0 ≤ (s_K1a p1 p2))) then
                              bif (decide ((s_K1a p0 p2) < 0)) then
                                false
                              else
                                bif ((s_K1a p1 p2) == (s_K1a p0 p2)) then
                                  true
                                else
                                  false
                            else
                              bif ((s_K1a p1 p2) == (s_K1a p0 p2)) then
                                true
                              else
                                false
                          else
                            bif ((s_K1a p1 p2) == (s_K1a p0 p2)) then
                              true
                            else
                              false
                      else
                        bif (decide (0 ≤ (s_K1a p0 p1))) then
                          bif (decide (0 ≤ (s_K1a p1 p2))) then
                            bif (decide ((s_K1a p0 p2) < 0)) then
                              false
                            else
                              bif ((s_K1a p1 p2) == (s_K1a p0 p2)) then
                                true
                              else
                                false
                          else
                            bif ((s_K1a p1 p2) == (s_K1a p0 p2)) then
                              true
                            else
                              false
                        else
                          bif ((s_K1a p1 p2) == (s_K1a p0 p2)) then
                            true
                          else
                            false
                    else
                      bif (decide (0 ≤ (s_K1a p0 p1))) then
                        bif (decide (0 ≤ (s_K1a p1 p2))) then
                          bif (decide ((s_K1a p0 p2) < 0)) then
                            false
                          else
                            bif ((s_K1a p1 p2) == (s_K1a p0 p2)) then
                              true
                            else
                              false
                        else
                          bif ((s_K1a p1 p2) == (s_K1a p0 p2)) then
                            true
                          else
                            false
                      else
                        bif ((s_K1a p1 p2) == (s_K1a p0 p2)) then
                          true
                        else
                          false
                  else
                    false
                else
                  false
              else
                bif ((s_K1d p0 p1) == false) then
                  bif ((s_K1a p0 p0) == 0) then
                    bif (decide ((s_K1a p0 p1) ≤ 0)) then
                      bif (decide ((s_K1a p1 p2) ≤ 0)) then
                        bif (decide (0 < (s_K1a p0 p2))) then
                          false
                        else
                          bif (decide (0 ≤ (s_K1a p0 p1))) then
                            bif (decide (0 ≤ (s_K1a p1 p2))) then
                              bif (decide ((s_K1a p0 p2) < 0)) then
                                false
                              else
                                true
                            else
                              true
                          else
                            true
                      else
                        bif (decide (0 ≤ (s_K1a p0 p1))) then
                          bif (decide (0 ≤ (s_K1a p1 p2))) then
                            bif (decide ((s_K1a p0 p2) < 0)) then
                              false
                            else
                              true
                          else
                            true
                        else
                          true
                    else
                      bif (decide (0 ≤ (s_K1a p0 p1))) then
                        bif (decide (0 ≤ (s_K1a p1 p2))) then
                          bif (decide ((s_K1a p0 p2) < 0)) then
                            false
                          else
                            true
                        else
                          true
                      else
                        true
                  else
                    false
                else
                  false
        else
          false
      else
        true
    else
      true
  else
    true
def c_K7 (p0 : Val) (p1 : Val) (p2 : Val) : En := .call 5 [.agg (Val.cells p0), .agg (Val.cells p1), .agg (Val.cells p2)] []
def a_K7 (p0 : Val) (p1 : Val) (p2 : Val) : Rs := .ret (.bool (s_K7 p0 p1 p2)) []
def H_K7 (p0 : Val) (p1 : Val) (p2 : Val) : Prop := (H_Ka p0) ∧ ((s_Ka p0) = true → H_Ka p1) ∧ ((s_Ka p0) = true → (s_Ka p1) = true → H_Ka p2) ∧ ((s_Ka p0) = true → (s_Ka p1) = true → (s_Ka p2) = true → H_K1a p0) ∧ ((s_Ka p0) = true → (s_Ka p1) = true → (s_Ka p2) = true → H_K1a p1) ∧ ((s_Ka p0) = true → (s_Ka p1) = true → (s_Ka p2) = true → ((s_K1a p1 p0) == (w64 (0 - (s_K1a p0 p1)))) = true → (decide ((s_K1a p0 p1) < (-1))) = false → (decide (1 < (s_K1a p0 p1))) = false → H_K1d p0 p1) ∧ ((s_Ka p0) = true → (s_Ka p1) = true → (s_Ka p2) = true → ((s_K1a p1 p0) == (w64 (0 - (s_K1a p0 p1)))) = true → (decide ((s_K1a p0 p1) < (-1))) = false → (decide (1 < (s_K1a p0 p1))) = false → ((s_K1d p0 p1) == ((s_K1a p0 p1) == 0)) = true → H_K1a p0) ∧ ((s_Ka p0) = true → (s_Ka p1) = true → (s_Ka p2) = true → ((s_K1a p1 p0) == (w64 (0 - (s_K1a p0 p1)))) = true → (decide ((s_K1a p0 p1) < (-1))) = false → (decide (1 < (s_K1a p0 p1))) = false → ((s_K1a p0 p1) == 0) = true → ((s_K1d p0 p1) == true) = true → H_K1a p0) ∧ ((s_Ka p0) = true → (s_Ka p1) = true → (s_Ka p2) = true → ((s_K1a p1 p0) == (w64 (0 - (s_K1a p0 p1)))) = true → (decide ((s_K1a p0 p1) < (-1))) = false → (decide (1 < (s_K1a p0 p1))) = false → ((s_K1a p0 p1) == 0) = false → ((s_K1d p0 p1) == false) = true → H_K1a p0) ∧ True
theorem t_K7_0 (p0 : Val) (p1 : Val) (p2 : Val) (H : H_K7 p0 p1 p2) (h0 : (s_Ka p0) = true) (h1 : (s_Ka p1) = true) (h2 : (s_Ka p2) = true) (h3 : ((s_K1a p1 p0) == (w64 (0 - (s_K1a p0 p1)))) = true) (h4 : (decide ((s_K1a p0 p1) < (-1))) = true) : Tells G (c_K7 p0 p1 p2) (.ret (.bool (false)) []) := by
  exact tells_VI (fn := Ir.K7) rfl VOK.nil [hP 34 (dec (!((s_K1a p1 p0) == (w64 (0 - (s_K1a p0 p1))))) false (by rw [h3]; rfl)), hB 2 h4] [aB (t_Ka p0 (H.1)) h0, aB (t_Ka p1 (H.2.1 h0)) h1, aB (t_Ka p2 (H.2.2.1 h0 h1)) h2, aN (t_K1a p0 p1 (H.2.2.2.1 h0 h1 h2)), aN (t_K1a p1 p2 (H.2.2.2.2.1 h0 h1 h2)), aN (t_K1a p0 p2 (H.2.2.2.1 h0 h1 h2)), aN (t_K1a p1 p0 (H.2.2.2.2.1 h0 h1 h2))] (by kernel_rfl)
theorem t_K7_1 (p0 : Val) (p1 : Val) (p2 : Val) (H : H_K7 p0 p1 p2) (h0 : (s_Ka p0) = true) (h1 : (s_Ka p1) = true) (h2 : (s_Ka p2) = true) (h3 : ((s_K1a p1 p0) == (w64 (0 - (s_K1a p0 p1)))) = true) (h4 : (decide ((s_K1a p0 p1) < (-1))) = false) (h5 : (decide (1 < (s_K1a p0 p1))) = true) : Tells G (c_K7 p0 p1 p2) (.ret (.bool (false)) []) := by
  exact tells_VI (fn := Ir.K7) rfl VOK.nil [hP 34 (dec (!((s_K1a p1 p0) == (w64 (0 - (s_K1a p0 p1))))) false (by rw [h3]; rfl)), hB 2 h4, hB 3 h5] [aB (t_Ka p0 (H.1)) h0, aB (t_Ka p1 (H.2.1 h0)) h1, aB (t_Ka p2 (H.2.2.1 h0 h1)) h2, aN (t_K1a p0 p1 (H.2.2.2.1 h0 h1 h2)), aN (t_K1a p1 p2 (H.2.2.2.2.1 h0 h1 h2)), aN (t_K1a p0 p2 (H.2.2.2.1 h0 h1 h2)), aN (t_K1a p1 p0 (H.2.2.2.2.1 h0 h1 h2))] (by kernel_rfl)
theorem t_K7_2 (p0 : Val) (p1 : Val) (p2 : Val) (H : H_K7 p0 p1 p2) (h0 : (s_Ka p0) = true) (h1 : (s_Ka p1) = true) (h2 : (s_Ka p2) = true) (h3 : ((s_K1a p1 p0) == (w64 (0 - (s_K1a p0 p1)))) = true) (h4 : (decide ((s_K1a p0 p1) < (-1))) = false) (h5 : (decide (1 < (s_K1a p0 p1))) = false) (h6 : ((s_K1a p0 p1) == 0) = true) (h7 : ((s_K1d p0 p1) == true) = true) (h8 : ((s_K1a p0 p0) == 0) = true) (h9 : (decide ((s_K1a p0 p1) ≤ 0)) = true) (h10 : (decide ((s_K1a p1 p2) ≤ 0)) = true) (h11 : (decide (0 < (s_K1a p0 p2))) = true) : Tells G (c_K7 p0 p1 p2) (.ret (.bool (false)) []) := by
  exact tells_VI (fn := Ir.K7) rfl VOK.nil [hP 34 (dec (!((s_K1a p1 p0) == (w64 (0 - (s_K1a p0 p1))))) false (by rw [h3]; rfl)), hB 2 h4, hB 3 h5, hB 6 h6, hP 0 (dec (!((s_K1d p0 p1) == true)) false (by rw [h7]; rfl)), hP 5 (dec (!((s_K1a p0 p0) == 0)) false (by rw [h8]; rfl)), hB 2 h9, hB 2 h10, hB 3 h11] [aB (t_Ka p0 (H.1)) h0, aB (t_Ka p1 (H.2.1 h0)) h1, aB (t_Ka p2 (H.2.2.1 h0 h1)) h2, aN (t_K1a p0 p1 (H.2.2.2.1 h0 h1 h2)), aN (t_K1a p1 p2 (H.2.2.2.2.1 h0 h1 h2)), aN (t_K1a p0 p2 (H.2.2.2.1 h0 h1 h2)), aN (t_K1a p1 p0 (H.2.2.2.2.1 h0 h1 h2)), aN (t_K1d p0 p1 (H.2.2.2.2.2.1 h0 h1 h2 h3 h4 h5)), aN (t_K1a p0 p0 (H.2.2.2.2.2.2.2.1 h0 h1 h2 h3 h4 h5 h6 h7))] (by kernel_rfl)
theorem t_K7_3 (p0 : Val) (p1 : Val) (p2 : Val) (H : H_K7 p0 p1 p2) (h0 : (s_Ka p0) = true) (h1 : (s_Ka p1) = true) (h2 : (s_Ka p2) = true) (h3 : ((s_K1a p1 p0) == (w64 (0 - (s_K1a p0 p1)))) = true) (h4 : (decide ((s_K1a p0 p1) < (-1))) = false) (h5 : (decide (1 < (s_K1a p0 p1))) = false) (h6 : ((s_K1a p0 p1) == 0) = true) (h7 : ((s_K1d p0 p1) == true) = true) (h8 : ((s_K1a p0 p0) == 0) = true) (h9 : (decide ((s_K1a p0 p1) ≤ 0)) = true) (h10 : (decide ((s_K1a p1 p2) ≤ 0)) = true) (h11 : (decide (0 < (s_K1a p0 p2))) = false) (h12 : (decide (0 ≤ (s_K1a p0 p1))) = true) : Tells G (c_K7 p0 p1 p2) (.ret (.bool (bif (decide (0 ≤ (s_K1a p1 p2))) then
    bif (decide ((s_K1a p0 p2) < 0)) then
      false
    else
      bif ((s_K1a p1 p2) == (s_K1a p0 p2)) then
        true
      else
        false
  else
    bif ((s_K1a p1 p2) == (s_K1a p0 p2)) then
      true
    else
      false)) []) := by
  cases h13 : (decide (0 ≤ (s_K1a p1 p2))) with
  | true =>
   cases h14 : (decide ((s_K1a p0 p2) < 0)) with
   | true =>
    exact tells_VI (fn := Ir.K7) rfl VOK.nil [hP 34 (dec (!((s_K1a p1 p0) == (w64 (0 - (s_K1a p0 p1))))) false (by rw [h3]; rfl)), hB 2 h4, hB 3 h5, hB 6 h6, hP 0 (dec (!((s_K1d p0 p1) == true)) false (by rw [h7]; rfl)), hP 5 (dec (!((s_K1a p0 p0) == 0)) false (by rw [h8]; rfl)), hB 2 h9, hB 2 h10, hB 3 h11, hB 3 h12, hB 2 h13, hB 3 h14] [aB (t_Ka p0 (H.1)) h0, aB (t_Ka p1 (H.2.1 h0)) h1, aB (t_Ka p2 (H.2.2.1 h0 h1)) h2, aN (t_K1a p0 p1 (H.2.2.2.1 h0 h1 h2)), aN (t_K1a p1 p2 (H.2.2.2.2.1 h0 h1 h2)), aN (t_K1a p0 p2 (H.2.2.2.1 h0 h1 h2)), aN (t_K1a p1 p0 (H.2.2.2.2.1 h0 h1 h2)), aN (t_K1d p0 p1 (H.2.2.2.2.2.1 h0 h1 h2 h3 h4 h5)), aN (t_K1a p0 p0 (H.2.2.2.2.2.2.2.1 h0 h1 h2 h3 h4 h5 h6 h7))] (by kernel_rfl)
   | false =>
    cases h15 : ((s_K1a p1 p2) == (s_K1a p0 p2)) with
    | true =>
     exact tells_VI (fn := Ir.K7) rfl VOK.nil [hP 34 (dec (!((s_K1a p1 p0) == (w64 (0 - (s_K1a p0 p1))))) false (by rw [h3]; rfl)), hB 2 h4, hB 3 h5, hB 6 h6, hP 0 (dec (!((s_K1d p0 p1) == true)) false (by rw [h7]; rfl)), hP 5 (dec (!((s_K1a p0 p0) == 0)) false (by rw [h8]; rfl)), hB 2 h9, hB 2 h10, hB 3 h11, hB 3 h12, hB 2 h13, hB 3 h14, hB 4 h6, hP 3 (dec (!((s_K1a p1 p2) == (s_K1a p0 p2))) false (by rw [h15]; rfl))] [aB (t_Ka p0 (H.1)) h0, aB (t_Ka p1 (H.2.1 h0)) h1, aB (t_Ka p2 (H.2.2.1 h0 h1)) h2, aN (t_K1a p0 p1 (H.2.2.2.1 h0 h1 h2)), aN (t_K1a p1 p2 (H.2.2.2.2.1 h0 h1 h2)), aN (t_K1a p0 p2 (H.2.2.2.1 h0 h1 h2)), aN (t_K1a p1 p0 (H.2.2.2.2.1 h0 h1 h2)), aN (t_K1d p0 p1 (H.2.2.2.2.2.1 h0 h1 h2 h3 h4 h5)), aN (t_K1a p0 p0 (H.2.2.2.2.2.2.2.1 h0 h1 h2 h3 h4 h5 h6 h7)), aN t_K9] (by kernel_rfl)
    | false =>
     exact tells_VI (fn := Ir.K7) rfl VOK.nil [hP 34 (dec (!((s_K1a p1 p0) == (w64 (0 - (s_K1a p0 p1))))) false (by rw [h3]; rfl)), hB 2 h4, hB 3 h5, hB 6 h6, hP 0 (dec (!((s_K1d p0 p1) == true)) false (by rw [h7]; rfl)), hP 5 (dec (!((s_K1a p0 p0) == 0)) false (by rw [h8]; rfl)), hB 2 h9, hB 2 h10, hB 3 h11, hB 3 h12, hB 2 h13, hB 3 h14, hB 4 h6, hP 3 (dec (!((s_K1a p1 p2) == (s_K1a p0 p2))) true (by rw [h15]; rfl))] [aB (t_Ka p0 (H.1)) h0, aB (t_Ka p1 (H.2.1 h0)) h1, aB (t_Ka p2 (H.2.2.1 h0 h1)) h2, aN (t_K1a p0 p1 (H.2.2.2.1 h0 h1 h2)), aN (t_K1a p1 p2 (H.2.2.2.2.1 h0 h1 h2)), aN (t_K1a p0 p2 (H.2.2.2.1 h0 h1 h2)), aN (t_K1a p1 p0 (H.2.2.2.2.1 h0 h1 h2)), aN (t_K1d p0 p1 (H.2.2.2.2.2.1 h0 h1 h2 h3 h4 h5)), aN (t_K1a p0 p0 (H.2.2.2.2.2.2.2.1 h0 h1 h2 h3 h4 h5 h6 h7))] (by kernel_rfl)
  | false =>
   cases h14 : ((s_K1a p1 p2) == (s_K1a p0 p2)) with
   | true =>
    exact tells_VI (fn := Ir.K7) rfl VOK.nil [hP 34 (dec (!((s_K1a p1 p0) == (w64 (0 - (s_K1a p0 p1))))) false (by rw [h3]; rfl)), hB 2 h4, hB 3 h5, hB 6 h6, hP 0 (dec (!((s_K1d p0 p1) == true)) false (by rw [h7]; rfl)), hP 5 (dec (!((s_K1a p0 p0) == 0)) false (by rw [h8]; rfl)), hB 2 h9, hB 2 h10, hB 3 h11, hB 3 h12, hB 2 h13, hB 8 h6, hP 3 (dec (!((s_K1a p1 p2) == (s_K1a p0 p2))) false (by rw [h14]; rfl))] [aB (t_Ka p0 (H.1)) h0, aB (t_Ka p1 (H.2.1 h0)) h1, aB (t_Ka p2 (H.2.2.1 h0 h1)) h2, aN (t_K1a p0 p1 (H.2.2.2.1 h0 h1 h2)), aN (t_K1a p1 p2 (H.2.2.2.2.1 h0 h1 h2)), aN (t_K1a p0 p2 (H.2.2.2.1 h0 h1 h2)), aN (t_K1a p1 p0 (H.2.2.2.2.1 h0 h1 h2)), aN (t_K1d p0 p1 (H.2.2.2.2.2.1 h0 h1 h2 h3 h4 h5)), aN (t_K1a p0 p0 (H.2.2.2.2.2.2.2.1 h0 h1 h2 h3 h4 h5 h6 h7)), aN t_K9] (by kernel_rfl)
   | false =>
    exact tells_VI (fn := Ir.K7) rfl VOK.nil [hP 34 (dec (!((s_K1a p1 p0) == (w64 (0 - (s_K1a p0 p1))))) false (by rw [h3]; rfl)), hB 2 h4, hB 3 h5, hB 6 h6, hP 0 (dec (!((s_K1d p0 p1) == true)) false (by rw [h7]; rfl)), hP 5 (dec (!((s_K1a p0 p0) == 0)) false (by rw [h8]; rfl)), hB 2 h9, hB 2 h10, hB 3 h11, hB 3 h12, hB 2 h13, hB 8 h6, hP 3 (dec (!((s_K1a p1 p2) == (s_K1a p0 p2))) true (by rw [h14]; rfl))] [aB (t_Ka p0 (H.1)) h0, aB (t_Ka p1 (H.2.1 h0)) h1, aB (t_Ka p2 (H.2.2.1 h0 h1)) h2, aN (t_K1a p0 p1 (H.2.2.2.1 h0 h1 h2)), aN (t_K1a p1 p2 (H.2.2.2.2.1 h0 h1 h2)), aN (t_K1a p0 p2 (H.2.2.2.1 h0 h1 h2)), aN (t_K1a p1 p0 (H.2.2.2.2.1 h0 h1 h2)), aN (t_K1d p0 p1 (H.2.2.2.2.2.1 h0 h1 h2 h3 h4 h5)), aN (t_K1a p0 p0 (H.2.2.2.2.2.2.2.1 h0 h1 h2 h3 h4 h5 h6 h7))] (by kernel_rfl)
theorem t_K7_4 (p0 : Val) (p1 : Val) (p2 : Val) (H : H_K7 p0 p1 p2) (h0 : (s_Ka p0) = true) (h1 : (s_Ka p1) = true) (h2 : (s_Ka p2) = true) (h3 : ((s_K1a p1 p0) == (w64 (0 - (s_K1a p0 p1)))) = true) (h4 : (decide ((s_K1a p0 p1) < (-1))) = false) (h5 : (decide (1 < (s_K1a p0 p1))) = false) (h6 : ((s_K1a p0 p1) == 0) = true) (h7 : ((s_K1d p0 p1) == true) = true) (h8 : ((s_K1a p0 p0) == 0) = true) (h9 : (decide ((s_K1a p0 p1) ≤ 0)) = true) (h10 : (decide ((s_K1a p1 p2) ≤ 0)) = true) (h11 : (decide (0 < (s_K1a p0 p2))) = false) (h12 : (decide (0 ≤ (s_K1a p0 p1))) = false) : Tells G (c_K7 p0 p1 p2) (.ret (.bool (bif ((s_K1a p1 p2) == (s_K1a p0 p2)) then
    true
  else
    false)) []) := by
  cases h13 : ((s_K1a p1 p2) == (s_K1a p0 p2)) with
  | true =>
   exact tells_VI (fn := Ir.K7) rfl VOK.nil [hP 34 (dec (!((s_K1a p1 p0) == (w64 (0 - (s_K1a p0 p1))))) false (by rw [h3]; rfl)), hB 2 h4, hB 3 h5, hB 6 h6, hP 0 (dec (!((s_K1d p0 p1) == true)) false (by rw [h7]; rfl)), hP 5 (dec (!((s_K1a p0 p0) == 0)) false (by rw [h8]; rfl)), hB 2 h9, hB 2 h10, hB 3 h11, hB 3 h12, hB 11 h6, hP 3 (dec (!((s_K1a p1 p2) == (s_K1a p0 p2))) false (by rw [h13]; rfl))] [aB (t_Ka p0 (H.1)) h0, aB (t_Ka p1 (H.2.1 h0)) h1, aB (t_Ka p2 (H.2.2.1 h0 h1)) h2, aN (t_K1a p0 p1 (H.2.2.2.1 h0 h1 h2)), aN (t_K1a p1 p2 (H.2.2.2.2.1 h0 h1 h2)), aN (t_K1a p0 p2 (H.2.2.2.1 h0 h1 h2)), aN (t_K1a p1 p0 (H.2.2.2.2.1 h0 h1 h2)), aN (t_K1d p0 p1 (H.2.2.2.2.2.1 h0 h1 h2 h3 h4 h5)), aN (t_K1a p0 p0 (H.2.2.2.2.2.2.2.1 h0 h1 h2 h3 h4 h5 h6 h7)), aN t_K9] (by kernel_rfl)
  | false =>
   exact tells_VI (fn := Ir.K7) rfl VOK.nil [hP 34 (dec (!((s_K1a p1 p0) == (w64 (0 - (s_K1a p0 p1))))) false (by rw [h3]; rfl)), hB 2 h4, hB 3 h5, hB 6 h6, hP 0 (dec (!((s_K1d p0 p1) == true)) false (by rw [h7]; rfl)), hP 5 (dec (!((s_K1a p0 p0) == 0)) false (by rw [h8]; rfl)), hB 2 h9, hB 2 h10, hB 3 h11, hB 3 h12, hB 11 h6, hP 3 (dec (!((s_K1a p1 p2) == (s_K1a p0 p2))) true (by rw [h13]; rfl))] [aB (t_Ka p0 (H.1)) h0, aB (t_Ka p1 (H.2.1 h0)) h1, aB (t_Ka p2 (H.2.2.1 h0 h1)) h2, aN (t_K1a p0 p1 (H.2.2.2.1 h0 h1 h2)), aN (t_K1a p1 p2 (H.2.2.2.2.1 h0 h1 h2)), aN (t_K1a p0 p2 (H.2.2.2.1 h0 h1 h2)), aN (t_K1a p1 p0 (H.2.2.2.2.1 h0 h1 h2)), aN (t_K1d p0 p1 (H.2.2.2.2.2.1 h0 h1 h2 h3 h4 h5)), aN (t_K1a p0 p0 (H.2.2.2.2.2.2.2.1 h0 h1 h2 h3 h4 h5 h6 h7))] (by kernel_rfl)
theorem t_K7_5 (p0 : Val) (p1 : Val) (p2 : Val) (H : H_K7 p0 p1 p2) (h0 : (s_Ka p0) = true) (h1 : (s_Ka p1) = true) (h2 : (s_Ka p2) = true) (h3 : ((s_K1a p1 p0) == (w64 (0 - (s_K1a p0 p1)))) = true) (h4 : (decide ((s_K1a p0 p1) < (-1))) = false) (h5 : (decide (1 < (s_K1a p0 p1))) = false) (h6 : ((s_K1a p0 p1) == 0) = true) (h7 : ((s_K1d p0 p1) == true) = true) (h8 : ((s_K1a p0 p0) == 0) = true) (h9 : (decide ((s_K1a p0 p1) ≤ 0)) = true) (h10 : (decide ((s_K1a p1 p2) ≤ 0)) = false) (h11 : (decide (0 ≤ (s_K1a p0 p1))) = true) : Tells G (c_K7 p0 p1 p2) (.ret (.bool (bif (decide (0 ≤ (s_K1a p1 p2))) then
    bif (decide ((s_K1a p0 p2) < 0)) then
      false
    else
      bif ((s_K1a p1 p2) == (s_K1a p0 p2)) then
        true
      else
        false
  else
    bif ((s_K1a p1 p2) == (s_K1a p0 p2)) then
      true
    else
      false)) []) := by
  cases h12 : (decide (0 ≤ (s_K1a p1 p2))) with
  | true =>
   cases h13 : (decide ((s_K1a p0 p2) < 0)) with
   | true =>
    exact tells_VI (fn := Ir.K7) rfl VOK.nil [hP 34 (dec (!((s_K1a p1 p0) == (w64 (0 - (s_K1a p0 p1))))) false (by rw [h3]; rfl)), hB 2 h4, hB 3 h5, hB 6 h6, hP 0 (dec (!((s_K1d p0 p1) == true)) false (by rw [h7]; rfl)), hP 5 (dec (!((s_K1a p0 p0) == 0)) false (by rw [h8]; rfl)), hB 2 h9, hB 2 h10, hB 7 h11, hB 2 h12, hB 3 h13] [aB (t_Ka p0 (H.1)) h0, aB (t_Ka p1 (H.2.1 h0)) h1, aB (t_Ka p2 (H.2.2.1 h0 h1)) h2, aN (t_K1a p0 p1 (H.2.2.2.1 h0 h1 h2)), aN (t_K1a p1 p2 (H.2.2.2.2.1 h0 h1 h2)), aN (t_K1a p0 p2 (H.2.2.2.1 h0 h1 h2)), aN (t_K1a p1 p0 (H.2.2.2.2.1 h0 h1 h2)), aN (t_K1d p0 p1 (H.2.2.2.2.2.1 h0 h1 h2 h3 h4 h5)), aN (t_K1a p0 p0 (H.2.2.2.2.2.2.2.1 h0 h1 h2 h3 h4 h5 h6 h7))] (by kernel_rfl)
   | false =>
    cases h14 : ((s_K1a p1 p2) == (s_K1a p0 p2)) with
    | true =>
     exact tells_VI (fn := Ir.K7) rfl VOK.nil [hP 34 (dec (!((s_K1a p1 p0) == (w64 (0 - (s_K1a p0 p1))))) false (by rw [h3]; rfl)), hB 2 h4, hB 3 h5, hB 6 h6, hP 0 (dec (!((s_K1d p0 p1) == true)) false (by rw [h7]; rfl)), hP 5 (dec (!((s_K1a p0 p0) == 0)) false (by rw [h8]; rfl)), hB 2 h9, hB 2 h10, hB 7 h11, hB 2 h12, hB 3 h13, hB 4 h6, hP 3 (dec (!((s_K1a p1 p2) == (s_K1a p0 p2))) false (by rw [h14]; rfl))] [aB (t_Ka p0 (H.1)) h0, aB (t_Ka p1 (H.2.1 h0)) h1, aB (t_Ka p2 (H.2.2.1 h0 h1)) h2, aN (t_K1a p0 p1 (H.2.2.2.1 h0 h1 h2)), aN (t_K1a p1 p2 (H.2.2.2.2.1 h0 h1 h2)), aN (t_K1a p0 p2 (H.2.2.2.1 h0 h1 h2)), aN (t_K1a p1 p0 (H.2.2.2.2.1 h0 h1 h2)), aN (t_K1d p0 p1 (H.2.2.2.2.2.1 h0 h1 h2 h3 h4 h5)), aN (t_K1a p0 p0 (H.2.2.2.2.2.2.2.1 h0 h1 h2 h3 h4 h5 h6 h7)), aN t_K9] (by kernel_rfl)
    | false =>
     exact tells_VI (fn := Ir.K7) rfl VOK.nil [hP 34 (dec (!((s_K1a p1 p0) == (w64 (0 - (s_K1a p0 p1))))) false (by rw [h3]; rfl)), hB 2 h4, hB 3 h5, hB 6 h6, hP 0 (dec (!((s_K1d p0 p1) == true)) false (by rw [h7]; rfl)), hP 5 (dec (!((s_K1a p0 p0) == 0)) false (by rw [h8]; rfl)), hB 2 h9, hB 2 h10, hB 7 h11, hB 2 h12, hB 3 h13, hB 4 h6, hP 3 (dec (!((s_K1a p1 p2) == (s_K1a p0 p2))) true (by rw [h14]; rfl))] [aB (t_Ka p0 (H.1)) h0, aB (t_Ka p1 (H.2.1 h0)) h1, aB (t_Ka p2 (H.2.2.1 h0 h1)) h2, aN (t_K1a p0 p1 (H.2.2.2.1 h0 h1 h2)), aN (t_K1a p1 p2 (H.2.2.2.2.1 h0 h1 h2)), aN (t_K1a p0 p2 (H.2.2.2.1 h0 h1 h2)), aN (t_K1a p1 p0 (H.2.2.2.2.1 h0 h1 h2)), aN (t_K1d p0 p1 (H.2.2.2.2.2.1 h0 h1 h2 h3 h4 h5)), aN (t_K1a p0 p0 (H.2.2.2.2.2.2.2.1 h0 h1 h2 h3 h4 h5 h6 h7))] (by kernel_rfl)
  | false =>
   cases h13 : ((s_K1a p1 p2) == (s_K1a p0 p2)) with
   | true =>
    exact tells_VI (fn := Ir.K7) rfl VOK.nil [hP 34 (dec (!((s_K1a p1 p0) == (w64 (0 - (s_K1a p0 p1))))) false (by rw [h3]; rfl)), hB 2 h4, hB 3 h5, hB 6 h6, hP 0 (dec (!((s_K1d p0 p1) == true)) false (by rw [h7]; rfl)), hP 5 (dec (!((s_K1a p0 p0) == 0)) false (by rw [h8]; rfl)), hB 2 h9, hB 2 h10, hB 7 h11, hB 2 h12, hB 8 h6, hP 3 (dec (!((s_K1a p1 p2) == (s_K1a p0 p2))) false (by rw [h13]; rfl))] [aB (t_Ka p0 (H.1)) h0, aB (t_Ka p1 (H.2.1 h0)) h1, aB (t_Ka p2 (H.2.2.1 h0 h1)) h2, aN (t_K1a p0 p1 (H.2.2.2.1 h0 h1 h2)), aN (t_K1a p1 p2 (H.2.2.2.2.1 h0 h1 h2)), aN (t_K1a p0 p2 (H.2.2.2.1 h0 h1 h2)), aN (t_K1a p1 p0 (H.2.2.2.2.1 h0 h1 h2)), aN (t_K1d p0 p1 (H.2.2.2.2.2.1 h0 h1 h2 h3 h4 h5)), aN (t_K1a p0 p0 (H.2.2.2.2.2.2.2.1 h0 h1 h2 h3 h4 h5 h6 h7)), aN t_K9] (by kernel_rfl)
   | false =>
    exact tells_VI (fn := Ir.K7) rfl VOK.nil [hP 34 (dec (!((s_K1a p1 p0) == (w64 (0 - (s_K1a p0 p1))))) false (by rw [h3]; rfl)), hB 2 h4, hB 3 h5, hB 6 h6, hP 0 (dec (!((s_K1d p0 p1) == true)) false (by rw [h7]; rfl)), hP 5 (dec (!((s_K1a p0 p0) == 0)) false (by rw [h8]; rfl)), hB 2 h9, hB 2 h10, hB 7 h11, hB 2 h12, hB 8 h6, hP 3 (dec (!((s_K1a p1 p2) == (s_K1a p0 p2))) true (by rw [h13]; rfl))] [aB (t_Ka p0 (H.1)) h0, aB (t_Ka p1 (H.2.1 h0)) h1, aB (t_Ka p2 (H.2.2.1 h0 h1)) h2, aN (t_K1a p0 p1 (H.2.2.2.1 h0 h1 h2)), aN (t_K1a p1 p2 (H.2.2.2.2.1 h0 h1 h2)), aN (t_K1a p0 p2 (H.2.2.2.1 h0 h1 h2)), aN (t_K1a p1 p0 (H.2.2.2.2.1 h0 h1 h2)), aN (t_K1d p0 p1 (H.2.2.2.2.2.1 h0 h1 h2 h3 h4 h5)), aN (t_K1a p0 p0 (H.2.2.2.2.2.2.2.1 h0 h1 h2 h3 h4 h5 h6 h7))] (by kernel_rfl)
theorem t_K7_6 (p0 : Val) (p1 : Val) (p2 : Val) (H : H_K7 p0 p1 p2) (h0 : (s_Ka p0) = true) (h1 : (s_Ka p1) = true) (h2 : (s_Ka p2) = true) (h3 : ((s_K1a p1 p0) == (w64 (0 - (s_K1a p0 p1)))) = true) (h4 : (decide ((s_K1a p0 p1) < (-1))) = false) (h5 : (decide (1 < (s_K1a p0 p1))) = false) (h6 : ((s_K1a p0 p1) == 0) = true) (h7 : ((s_K1d p0 p1) == true) = true) (h8 : ((s_K1a p0 p0) == 0) = true) (h9 : (decide ((s_K1a p0 p1) ≤ 0)) = true) (h10 : (decide ((s_K1a p1 p2) ≤ 0)) = false) (h11 : (decide (0 ≤ (s_K1a p0 p1))) = false) : Tells G (c_K7 p0 p1 p2) (.ret (.bool (bif ((s_K1a p1 p2) == (s_K1a p0 p2)) then
    true
  else
    false)) []) := by
  cases h12 : ((s_K1a p1 p2) == (s_K1a p0 p2)) with
  | true =>
   exact tells_VI (fn := Ir.K7) rfl VOK.nil [hP 34 (dec (!((s_K1a p1 p0) == (w64 (0 - (s_K1a p0 p1))))) false (by rw [h3]; rfl)), hB 2 h4, hB 3 h5, hB 6 h6, hP 0 (dec (!((s_K1d p0 p1) == true)) false (by rw [h7]; rfl)), hP 5 (dec (!((s_K1a p0 p0) == 0)) false (by rw [h8]; rfl)), hB 2 h9, hB 2 h10, hB 7 h11, hB 11 h6, hP 3 (dec (!((s_K1a p1 p2) == (s_K1a p0 p2))) false (by rw [h12]; rfl))] [aB (t_Ka p0 (H.1)) h0, aB (t_Ka p1 (H.2.1 h0)) h1, aB (t_Ka p2 (H.2.2.1 h0 h1)) h2, aN (t_K1a p0 p1 (H.2.2.2.1 h0 h1 h2)), aN (t_K1a p1 p2 (H.2.2.2.2.1 h0 h1 h2)), aN (t_K1a p0 p2 (H.2.2.2.1 h0 h1 h2)), aN (t_K1a p1 p0 (H.2.2.2.2.1 h0 h1 h2)), aN (t_K1d p0 p1 (H.2.2.2.2.2.1 h0 h1 h2 h3 h4 h5)), aN (t_K1a p0 p0 (H.2.2.2.2.2.2.2.1 h0 h1 h2 h3 h4 h5 h6 h7)), aN t_K9] (by kernel_rfl)
  | false =>
   exact tells_VI (fn := Ir.K7) rfl VOK.nil [hP 34 (dec (!((s_K1a p1 p0) == (w64 (0 - (s_K1a p0 p1))))) false (by rw [h3]; rfl)), hB 2 h4, hB 3 h5, hB 6 h6, hP 0 (dec (!((s_K1d p0 p1) == true)) false (by rw [h7]; rfl)), hP 5 (dec (!((s_K1a p0 p0) == 0)) false (by rw [h8]; rfl)), hB 2 h9, hB 2 h10, hB 7 h11, hB 11 h6, hP 3 (dec (!((s_K1a p1 p2) == (s_K1a p0 p2))) true (by rw [h12]; rfl))] [aB (t_Ka p0 (H.1)) h0, aB (t_Ka p1 (H.2.1 h0)) h1, aB (t_Ka p2 (H.2.2.1 h0 h1)) h2, aN (t_K1a p0 p1 (H.2.2.2.1 h0 h1 h2)), aN (t_K1a p1 p2 (H.2.2.2.2.1 h0 h1 h2)), aN (t_K1a p0 p2 (H.2.2.2.1 h0 h1 h2)), aN (t_K1a p1 p0 (H.2.2.2.2.1 h0 h1 h2)), aN (t_K1d p0 p1 (H.2.2.2.2.2.1 h0 h1 h2 h3 h4 h5)), aN (t_K1a p0 p0 (H.2.2.2.2.2.2.2.1 h0 h1 h2 h3 h4 h5 h6 h7))] (by kernel_rfl)
theorem t_K7_7 (p0 : Val) (p1 : Val) (p2 : Val) (H : H_K7 p0 p1 p2) (h0 : (s_Ka p0) = true) (h1 : (s_Ka p1) = true) (h2 : (s_Ka p2) = true) (h3 : ((s_K1a p1 p0) == (w64 (0 - (s_K1a p0 p1)))) = true) (h4 : (decide ((s_K1a p0 p1) < (-1))) = false) (h5 : (decide (1 < (s_K1a p0 p1))) = false) (h6 : ((s_K1a p0 p1) == 0) = true) (h7 : ((s_K1d p0 p1) == true) = true) (h8 : ((s_K1a p0 p0) == 0) = true) (h9 : (decide ((s_K1a p0 p1) ≤ 0)) = false) (h10 : (decide (0 ≤ (s_K1a p0 p1))) = true) : Tells G (c_K7 p0 p1 p2) (.ret (.bool (bif (decide (0 ≤ (s_K1a p1 p2))) then
    bif (decide ((s_K1a p0 p2) < 0)) then
      false
    else
      bif ((s_K1a p1 p2) == (s_K1a p0 p2)) then
        true
      else
        false
  else
    bif ((s_K1a p1 p2) == (s_K1a p0 p2)) then
      true
    else
      false)) []) := by
  cases h11 : (decide (0 ≤ (s_K1a p1 p2))) with
  | true =>
   cases h12 : (decide ((s_K1a p0 p2) < 0)) with
   | true =>
    exact tells_VI (fn := Ir.K7) rfl VOK.nil [hP 34 (dec (!((s_K1a p1 p0) == (w64 (0 - (s_K1a p0 p1))))) false (by rw [h3]; rfl)), hB 2 h4, hB 3 h5, hB 6 h6, hP 0 (dec (!((s_K1d p0 p1) == true)) false (by rw [h7]; rfl)), hP 5 (dec (!((s_K1a p0 p0) == 0)) false (by rw [h8]; rfl)), hB 2 h9, hB 10 h10, hB 2 h11, hB 3 h12] [aB (t_Ka p0 (H.1)) h0, aB (t_Ka p1 (H.2.1 h0)) h1, aB (t_Ka p2 (H.2.2.1 h0 h1)) h2, aN (t_K1a p0 p1 (H.2.2.2.1 h0 h1 h2)), aN (t_K1a p1 p2 (H.2.2.2.2.1 h0 h1 h2)), aN (t_K1a p0 p2 (H.2.2.2.1 h0 h1 h2)), aN (t_K1a p1 p0 (H.2.2.2.2.1 h0 h1 h2)), aN (t_K1d p0 p1 (H.2.2.2.2.2.1 h0 h1 h2 h3 h4 h5)), aN (t_K1a p0 p0 (H.2.2.2.2.2.2.2.1 h0 h1 h2 h3 h4 h5 h6 h7))] (by kernel_rfl)
   | false =>
    cases h13 : ((s_K1a p1 p2) == (s_K1a p0 p2)) with
    | true =>
     exact tells_VI (fn := Ir.K7) rfl VOK.nil [hP 34 (dec (!((s_K1a p1 p0) == (w64 (0 - (s_K1a p0 p1))))) false (by rw [h3]; rfl)), hB 2 h4, hB 3 h5, hB 6 h6, hP 0 (dec (!((s_K1d p0 p1) == true)) false (by rw [h7]; rfl)), hP 5 (dec (!((s_K1a p0 p0) == 0)) false (by rw [h8]; rfl)), hB 2 h9, hB 10 h10, hB 2 h11, hB 3 h12, hB 4 h6, hP 3 (dec (!((s_K1a p1 p2) == (s_K1a p0 p2))) false (by rw [h13]; rfl))] [aB (t_Ka p0 (H.1)) h0, aB (t_Ka p1 (H.2.1 h0)) h1, aB (t_Ka p2 (H.2.2.1 h0 h1)) h2, aN (t_K1a p0 p1 (H.2.2.2.1 h0 h1 h2)), aN (t_K1a p1 p2 (H.2.2.2.2.1 h0 h1 h2)), aN (t_K1a p0 p2 (H.2.2.2.1 h0 h1 h2)), aN (t_K1a p1 p0 (H.2.2.2.2.1 h0 h1 h2)), aN (t_K1d p0 p1 (H.2.2.2.2.2.1 h0 h1 h2 h3 h4 h5)), aN (t_K1a p0 p0 (H.2.2.2.2.2.2.2.1 h0 h1 h2 h3 h4 h5 h6 h7)), aN t_K9] (by kernel_rfl)
    | false =>
     exact tells_VI (fn := Ir.K7) rfl VOK.nil [hP 34 (dec (!((s_K1a p1 p0) == (w64 (0 - (s_K1a p0 p1))))) false (by rw [h3]; rfl)), hB 2 h4, hB 3 h5, hB 6 h6, hP 0 (dec (!((s_K1d p0 p1) == true)) false (by rw [h7]; rfl)), hP 5 (dec (!((s_K1a p0 p0) == 0)) false (by rw [h8]; rfl)), hB 2 h9, hB 10 h10, hB 2 h11, hB 3 h12, hB 4 h6, hP 3 (dec (!((s_K1a p1 p2) == (s_K1a p0 p2))) true (by rw [h13]; rfl))] [aB (t_Ka p0 (H.1)) h0, aB (t_Ka p1 (H.2.1 h0)) h1, aB (t_Ka p2 (H.2.2.1 h0 h1)) h2, aN (t_K1a p0 p1 (H.2.2.2.1 h0 h1 h2)), aN (t_K1a p1 p2 (H.2.2.2.2.1 h0 h1 h2)), aN (t_K1a p0 p2 (H.2.2.2.1 h0 h1 h2)), aN (t_K1a p1 p0 (H.2.2.2.2.1 h0 h1 h2)), aN (t_K1d p0 p1 (H.2.2.2.2.2.1 h0 h1 h2 h3 h4 h5)), aN (t_K1a p0 p0 (H.2.2.2.2.2.2.2.1 h0 h1 h2 h3 h4 h5 h6 h7))] (by kernel_rfl)
  | false =>
   cases h12 : ((s_K1a p1 p2) == (s_K1a p0 p2)) with
   | true =>
    exact tells_VI (fn := Ir.K7) rfl VOK.nil [hP 34 (dec (!((s_K1a p1 p0) == (w64 (0 - (s_K1a p0 p1))))) false (by rw [h3]; rfl)), hB 2 h4, hB 3 h5, hB 6 h6, hP 0 (dec (!((s_K1d p0 p1) == true)) false (by rw [h7]; rfl)), hP 5 (dec (!((s_K1a p0 p0) == 0)) false (by rw [h8]; rfl)), hB 2 h9, hB 10 h10, hB 2 h11, hB 8 h6, hP 3 (dec (!((s_K1a p1 p2) == (s_K1a p0 p2))) false (by rw [h12]; rfl))] [aB (t_Ka p0 (H.1)) h0, aB (t_Ka p1 (H.2.1 h0)) h1, aB (t_Ka p2 (H.2.2.1 h0 h1)) h2, aN (t_K1a p0 p1 (H.2.2.2.1 h0 h1 h2)), aN (t_K1a p1 p2 (H.2.2.2.2.1 h0 h1 h2)), aN (t_K1a p0 p2 (H.2.2.2.1 h0 h1 h2)), aN (t_K1a p1 p0 (H.2.2.2.2.1 h0 h1 h2)), aN (t_K1d p0 p1 (H.2.2.2.2.2.1 h0 h1 h2 h3 h4 h5)), aN (t_K1a p0 p0 (H.2.2.2.2.2.2.2.1 h0 h1 h2 h3 h4 h5 h6 h7)), aN t_K9] (by kernel_rfl)
   | false =>
    exact tells_VI (fn := Ir.K7) rfl VOK.nil [hP 34 (dec (!((s_K1a p1 p0) == (w64 (0 - (s_K1a p0 p1))))) false (by rw [h3]; rfl)), hB 2 h4, hB 3 h5, hB 6 h6, hP 0 (dec (!((s_K1d p0 p1) == true)) false (by rw [h7]; rfl)), hP 5 (dec (!((s_K1a p0 p0) == 0)) false (by rw [h8]; rfl)), hB 2 h9, hB 10 h10, hB 2 h11, hB 8 h6, hP 3 (dec (!((s_K1a p1 p2) == (s_K1a p0 p2))) true (by rw [h12]; rfl))] [aB (t_Ka p0 (H.1)) h0, aB (t_Ka p1 (H.2.1 h0)) h1, aB (t_Ka p2 (H.2.2.1 h0 h1)) h2, aN (t_K1a p0 p1 (H.2.2.2.1 h0 h1 h2)), aN (t_K1a p1 p2 (H.2.2.2.2.1 h0 h1 h2)), aN (t_K1a p0 p2 (H.2.2.2.1 h0 h1 h2)), aN (t_K1a p1 p0 (H.2.2.2.2.1 h0 h1 h2)), aN (t_K1d p0 p1 (H.2.2.2.2.2.1 h0 h1 h2 h3 h4 h5)), aN (t_K1a p0 p0 (H.2.2.2.2.2.2.2.1 h0 h1 h2 h3 h4 h5 h6 h7))] (by kernel_rfl)
theorem t_K7_8 (p0 : Val) (p1 : Val) (p2 : Val) (H : H_K7 p0 p1 p2) (h0 : (s_Ka p0) = true) (h1 : (s_Ka p1) = true) (h2 : (s_Ka p2) = true) (h3 : ((s_K1a p1 p0) == (w64 (0 - (s_K1a p0 p1)))) = true) (h4 : (decide ((s_K1a p0 p1) < (-1))) = false) (h5 : (decide (1 < (s_K1a p0 p1))) = false) (h6 : ((s_K1a p0 p1) == 0) = true) (h7 : ((s_K1d p0 p1) == true) = true) (h8 : ((s_K1a p0 p0) == 0) = true) (h9 : (decide ((s_K1a p0 p1) ≤ 0)) = false) (h10 : (decide (0 ≤ (s_K1a p0 p1))) = false) : Tells G (c_K7 p0 p1 p2) (.ret (.bool (bif ((s_K1a p1 p2) == (s_K1a p0 p2)) then
    true
  else
    false)) []) := by
  cases h11 : ((s_K1a p1 p2) == (s_K1a p0 p2)) with
  | true =>
   exact tells_VI (fn := Ir.K7) rfl VOK.nil [hP 34 (dec (!((s_K1a p1 p0) == (w64 (0 - (s_K1a p0 p1))))) false (by rw [h3]; rfl)), hB 2 h4, hB 3 h5, hB 6 h6, hP 0 (dec (!((s_K1d p0 p1) == true)) false (by rw [h7]; rfl)), hP 5 (dec (!((s_K1a p0 p0) == 0)) false (by rw [h8]; rfl)), hB 2 h9, hB 10 h10, hB 11 h6, hP 3 (dec (!((s_K1a p1 p2) == (s_K1a p0 p2))) false (by rw [h11]; rfl))] [aB (t_Ka p0 (H.1)) h0, aB (t_Ka p1 (H.2.1 h0)) h1, aB (t_Ka p2 (H.2.2.1 h0 h1)) h2, aN (t_K1a p0 p1 (H.2.2.2.1 h0 h1 h2)), aN (t_K1a p1 p2 (H.2.2.2.2.1 h0 h1 h2)), aN (t_K1a p0 p2 (H.2.2.2.1 h0 h1 h2)), aN (t_K1a p1 p0 (H.2.2.2.2.1 h0 h1 h2)), aN (t_K1d p0 p1 (H.2.2.2.2.2.1 h0 h1 h2 h3 h4 h5)), aN (t_K1a p0 p0 (H.2.2.2.2.2.2.2.1 h0 h1 h2 h3 h4 h5 h6 h7)), aN t_K9] (by kernel_rfl)
  | false =>
   exact tells_VI (fn := Ir.K7) rfl VOK.nil [hP 34 (dec (!((s_K1a p1 p0) == (w64 (0 - (s_K1a p0 p1))))) false (by rw [h3]; rfl)), hB 2 h4, hB 3 h5, hB 6 h6, hP 0 (dec (!((s_K1d p0 p1) == true)) false (by rw [h7]; rfl)), hP 5 (dec (!((s_K1a p0 p0) == 0)) false (by rw [h8]; rfl)), hB 2 h9, hB 10 h10, hB 11 h6, hP 3 (dec (!((s_K1a p1 p2) == (s_K1a p0 p2))) true (by rw [h11]; rfl))] [aB (t_Ka p0 (H.1)) h0, aB (t_Ka p1 (H.2.1 h0)) h1, aB (t_Ka p2 (H.2.2.1 h0 h1)) h2, aN (t_K1a p0 p1 (H.2.2.2.1 h0 h1 h2)), aN (t_K1a p1 p2 (H.2.2.2.2.1 h0 h1 h2)), aN (t_K1a p0 p2 (H.2.2.2.1 h0 h1 h2)), aN (t_K1a p1 p0 (H.2.2.2.2.1 h0 h1 h2)), aN (t_K1d p0 p1 (H.2.2.2.2.2.1 h0 h1 h2 h3 h4 h5)), aN (t_K1a p0 p0 (H.2.2.2.2.2.2.2.1 h0 h1 h2 h3 h4 h5 h6 h7))] (by kernel_rfl)
theorem t_K7_9 (p0 : Val) (p1 : Val) (p2 : Val) (H : H_K7 p0 p1 p2) (h0 : (s_Ka p0) = true) (h1 : (s_Ka p1) = true) (h2 : (s_Ka p2) = true) (h3 : ((s_K1a p1 p0) == (w64 (0 - (s_K1a p0 p1)))) = true) (h4 : (decide ((s_K1a p0 p1) < (-1))) = false) (h5 : (decide (1 < (s_K1a p0 p1))) = false) (h6 : ((s_K1a p0 p1) == 0) = true) (h7 : ((s_K1d p0 p1) == true) = true) (h8 : ((s_K1a p0 p0) == 0) = false) : Tells G (c_K7 p0 p1 p2) (.ret (.bool (false)) []) := by
  exact tells_VI (fn := Ir.K7) rfl VOK.nil [hP 34 (dec (!((s_K1a p1 p0) == (w64 (0 - (s_K1a p0 p1))))) false (by rw [h3]; rfl)), hB 2 h4, hB 3 h5, hB 6 h6, hP 0 (dec (!((s_K1d p0 p1) == true)) false (by rw [h7]; rfl)), hP 5 (dec (!((s_K1a p0 p0) == 0)) true (by rw [h8]; rfl))] [aB (t_Ka p0 (H.1)) h0, aB (t_Ka p1 (H.2.1 h0)) h1, aB (t_Ka p2 (H.2.2.1 h0 h1)) h2, aN (t_K1a p0 p1 (H.2.2.2.1 h0 h1 h2)), aN (t_K1a p1 p2 (H.2.2.2.2.1 h0 h1 h2)), aN (t_K1a p0 p2 (H.2.2.2.1 h0 h1 h2)), aN (t_K1a p1 p0 (H.2.2.2.2.1 h0 h1 h2)), aN (t_K1d p0 p1 (H.2.2.2.2.2.1 h0 h1 h2 h3 h4 h5)), aN (t_K1a p0 p0 (H.2.2.2.2.2.2.2.1 h0 h1 h2 h3 h4 h5 h6 h7))] (by kernel_rfl)
theorem t_K7_10 (p0 : Val) (p1 : Val) (p2 : Val) (H : H_K7 p0 p1 p2) (h0 : (s_Ka p0) = true) (h1 : (s_Ka p1) = true) (h2 : (s_Ka p2) = true) (h3 : ((s_K1a p1 p0) == (w64 (0 - (s_K1a p0 p1)))) = true) (h4 : (decide ((s_K1a p0 p1) < (-1))) = false) (h5 : (decide (1 < (s_K1a p0 p1))) = false) (h6 : ((s_K1a p0 p1) == 0) = true) (h7 : ((s_K1d p0 p1) == true) = false) : Tells G (c_K7 p0 p1 p2) (.ret (.bool (false)) []) := by
  exact tells_VI (fn := Ir.K7) rfl VOK.nil [hP 34 (dec (!((s_K1a p1 p0) == (w64 (0 - (s_K1a p0 p1))))) false (by rw [h3]; rfl)), hB 2 h4, hB 3 h5, hB 6 h6, hP 0 (dec (!((s_K1d p0 p1) == true)) true (by rw [h7]; rfl))] [aB (t_Ka p0 (H.1)) h0, aB (t_Ka p1 (H.2.1 h0)) h1, aB (t_Ka p2 (H.2.2.1 h0 h1)) h2, aN (t_K1a p0 p1 (H.2.2.2.1 h0 h1 h2)), aN (t_K1a p1 p2 (H.2.2.2.2.1 h0 h1 h2)), aN (t_K1a p0 p2 (H.2.2.2.1 h0 h1 h2)), aN (t_K1a p1 p0 (H.2.2.2.2.1 h0 h1 h2)), aN (t_K1d p0 p1 (H.2.2.2.2.2.1 h0 h1 h2 h3 h4 h5))] (by kernel_rfl)
theorem t_K7_11 (p0 : Val) (p1 : Val) (p2 : Val) (H : H_K7 p0 p1 p2) (h0 : (s_Ka p0) = true) (h1 : (s_Ka p1) = true) (h2 : (s_Ka p2) = true) (h3 : ((s_K1a p1 p0) == (w64 (0 - (s_K1a p0 p1)))) = true) (h4 : (decide ((s_K1a p0 p1) < (-1))) = false) (h5 : (decide (1 < (s_K1a p0 p1))) = false) (h6 : ((s_K1a p0 p1) == 0) = false) (h7 : ((s_K1d p0 p1) == false) = true) (h8 : ((s_K1a p0 p0) == 0) = true) (h9 : (decide ((s_K1a p0 p1) ≤ 0)) = true) (h10 : (decide ((s_K1a p1 p2) ≤ 0)) = true) : Tells G (c_K7 p0 p1 p2) (.ret (.bool (bif (decide (0 < (s_K1a p0 p2))) then
    false
  else
    bif (decide (0 ≤ (s_K1a p0 p1))) then
      bif (decide (0 ≤ (s_K1a p1 p2))) then
        bif (decide ((s_K1a p0 p2) < 0)) then
          false
        else
          true
      else
        true
    else
      true)) []) := by
  cases h11 : (decide (0 < (s_K1a p0 p2))) with
  | true =>
   exact tells_VI (fn := Ir.K7) rfl VOK.nil [hP 34 (dec (!((s_K1a p1 p0) == (w64 (0 - (s_K1a p0 p1))))) false (by rw [h3]; rfl)), hB 2 h4, hB 3 h5, hB 6 h6, hP 0 (dec (!((s_K1d p0 p1) == false)) false (by rw [h7]; rfl)), hP 5 (dec (!((s_K1a p0 p0) == 0)) false (by rw [h8]; rfl)), hB 2 h9, hB 2 h10, hB 3 h11] [aB (t_Ka p0 (H.1)) h0, aB (t_Ka p1 (H.2.1 h0)) h1, aB (t_Ka p2 (H.2.2.1 h0 h1)) h2, aN (t_K1a p0 p1 (H.2.2.2.1 h0 h1 h2)), aN (t_K1a p1 p2 (H.2.2.2.2.1 h0 h1 h2)), aN (t_K1a p0 p2 (H.2.2.2.1 h0 h1 h2)), aN (t_K1a p1 p0 (H.2.2.2.2.1 h0 h1 h2)), aN (t_K1d p0 p1 (H.2.2.2.2.2.1 h0 h1 h2 h3 h4 h5)), aN (t_K1a p0 p0 (H.2.2.2.2.2.2.2.2.1 h0 h1 h2 h3 h4 h5 h6 h7))] (by kernel_rfl)
  | false =>
   cases h12 : (decide (0 ≤ (s_K1a p0 p1))) with
   | true =>
    cases h13 : (decide (0 ≤ (s_K1a p1 p2))) with
    | true =>
     cases h14 : (decide ((s_K1a p0 p2) < 0)) with
     | true =>
      exact tells_VI (fn := Ir.K7) rfl VOK.nil [hP 34 (dec (!((s_K1a p1 p0) == (w64 (0 - (s_K1a p0 p1))))) false (by rw [h3]; rfl)), hB 2 h4, hB 3 h5, hB 6 h6, hP 0 (dec (!((s_K1d p0 p1) == false)) false (by rw [h7]; rfl)), hP 5 (dec (!((s_K1a p0 p0) == 0)) false (by rw [h8]; rfl)), hB 2 h9, hB 2 h10, hB 3 h11, hB 3 h12, hB 2 h13, hB 3 h14] [aB (t_Ka p0 (H.1)) h0, aB (t_Ka p1 (H.2.1 h0)) h1, aB (t_Ka p2 (H.2.2.1 h0 h1)) h2, aN (t_K1a p0 p1 (H.2.2.2.1 h0 h1 h2)), aN (t_K1a p1 p2 (H.2.2.2.2.1 h0 h1 h2)), aN (t_K1a p0 p2 (H.2.2.2.1 h0 h1 h2)), aN (t_K1a p1 p0 (H.2.2.2.2.1 h0 h1 h2)), aN (t_K1d p0 p1 (H.2.2.2.2.2.1 h0 h1 h2 h3 h4 h5)), aN (t_K1a p0 p0 (H.2.2.2.2.2.2.2.2.1 h0 h1 h2 h3 h4 h5 h6 h7))] (by kernel_rfl)
     | false =>
      exact tells_VI (fn := Ir.K7) rfl VOK.nil [hP 34 (dec (!((s_K1a p1 p0) == (w64 (0 - (s_K1a p0 p1))))) false (by rw [h3]; rfl)), hB 2 h4, hB 3 h5, hB 6 h6, hP 0 (dec (!((s_K1d p0 p1) == false)) false (by rw [h7]; rfl)), hP 5 (dec (!((s_K1a p0 p0) == 0)) false (by rw [h8]; rfl)), hB 2 h9, hB 2 h10, hB 3 h11, hB 3 h12, hB 2 h13, hB 3 h14, hB 4 h6] [aB (t_Ka p0 (H.1)) h0, aB (t_Ka p1 (H.2.1 h0)) h1, aB (t_Ka p2 (H.2.2.1 h0 h1)) h2, aN (t_K1a p0 p1 (H.2.2.2.1 h0 h1 h2)), aN (t_K1a p1 p2 (H.2.2.2.2.1 h0 h1 h2)), aN (t_K1a p0 p2 (H.2.2.2.1 h0 h1 h2)), aN (t_K1a p1 p0 (H.2.2.2.2.1 h0 h1 h2)), aN (t_K1d p0 p1 (H.2.2.2.2.2.1 h0 h1 h2 h3 h4 h5)), aN (t_K1a p0 p0 (H.2.2.2.2.2.2.2.2.1 h0 h1 h2 h3 h4 h5 h6 h7)), aN t_K9] (by kernel_rfl)
    | false =>
     exact tells_VI (fn := Ir.K7) rfl VOK.nil [hP 34 (dec (!((s_K1a p1 p0) == (w64 (0 - (s_K1a p0 p1))))) false (by rw [h3]; rfl)), hB 2 h4, hB 3 h5, hB 6 h6, hP 0 (dec (!((s_K1d p0 p1) == false)) false (by rw [h7]; rfl)), hP 5 (dec (!((s_K1a p0 p0) == 0)) false (by rw [h8]; rfl)), hB 2 h9, hB 2 h10, hB 3 h11, hB 3 h12, hB 2 h13, hB 8 h6] [aB (t_Ka p0 (H.1)) h0, aB (t_Ka p1 (H.2.1 h0)) h1, aB (t_Ka p2 (H.2.2.1 h0 h1)) h2, aN (t_K1a p0 p1 (H.2.2.2.1 h0 h1 h2)), aN (t_K1a p1 p2 (H.2.2.2.2.1 h0 h1 h2)), aN (t_K1a p0 p2 (H.2.2.2.1 h0 h1 h2)), aN (t_K1a p1 p0 (H.2.2.2.2.1 h0 h1 h2)), aN (t_K1d p0 p1 (H.2.2.2.2.2.1 h0 h1 h2 h3 h4 h5)), aN (t_K1a p0 p0 (H.2.2.2.2.2.2.2.2.1 h0 h1 h2 h3 h4 h5 h6 h7)), aN t_K9] (by kernel_rfl)
   | false =>
    exact tells_VI (fn := Ir.K7) rfl VOK.nil [hP 34 (dec (!((s_K1a p1 p0) == (w64 (0 - (s_K1a p0 p1))))) false (by rw [h3]; rfl)), hB 2 h4, hB 3 h5, hB 6 h6, hP 0 (dec (!((s_K1d p0 p1) == false)) false (by rw [h7]; rfl)), hP 5 (dec (!((s_K1a p0 p0) == 0)) false (by rw [h8]; rfl)), hB 2 h9, hB 2 h10, hB 3 h11, hB 3 h12, hB 11 h6] [aB (t_Ka p0 (H.1)) h0, aB (t_Ka p1 (H.2.1 h0)) h1, aB (t_Ka p2 (H.2.2.1 h0 h1)) h2, aN (t_K1a p0 p1 (H.2.2.2.1 h0 h1 h2)), aN (t_K1a p1 p2 (H.2.2.2.2.1 h0 h1 h2)), aN (t_K1a p0 p2 (H.2.2.2.1 h0 h1 h2)), aN (t_K1a p1 p0 (H.2.2.2.2.1 h0 h1 h2)), aN (t_K1d p0 p1 (H.2.2.2.2.2.1 h0 h1 h2 h3 h4 h5)), aN (t_K1a p0 p0 (H.2.2.2.2.2.2.2.2.1 h0 h1 h2 h3 h4 h5 h6 h7)), aN t_K9] (by kernel_rfl)
theorem t_K7_12 (p0 : Val) (p1 : Val) (p2 : Val) (H : H_K7 p0 p1 p2) (h0 : (s_Ka p0) = true) (h1 : (s_Ka p1) = true) (h2 : (s_Ka p2) = true) (h3 : ((s_K1a p1 p0) == (w64 (0 - (s_K1a p0 p1)))) = true) (h4 : (decide ((s_K1a p0 p1) < (-1))) = false) (h5 : (decide (1 < (s_K1a p0 p1))) = false) (h6 : ((s_K1a p0 p1) == 0) = false) (h7 : ((s_K1d p0 p1) == false) = true) (h8 : ((s_K1a p0 p0) == 0) = true) (h9 : (decide ((s_K1a p0 p1) ≤ 0)) = true) (h10 : (decide ((s_K1a p1 p2) ≤ 0)) = false) : Tells G (c_K7 p0 p1 p2) (.ret (.bool (bif (decide (0 ≤ (s_K1a p0 p1))) then
    bif (decide (0 ≤ (s_K1a p1 p2))) then
      bif (decide ((s_K1a p0 p2) < 0)) then
        false
      else
        true
    else
      true
  else
    true)) []) := by
  cases h11 : (decide (0 ≤ (s_K1a p0 p1))) with
  | true =>
   cases h12 : (decide (0 ≤ (s_K1a p1 p2))) with
   | true =>
    cases h13 : (decide ((s_K1a p0 p2) < 0)) with
    | true =>
     exact tells_VI (fn := Ir.K7) rfl VOK.nil [hP 34 (dec (!((s_K1a p1 p0) == (w64 (0 - (s_K1a p0 p1))))) false (by rw [h3]; rfl)), hB 2 h4, hB 3 h5, hB 6 h6, hP 0 (dec (!((s_K1d p0 p1) == false)) false (by rw [h7]; rfl)), hP 5 (dec (!((s_K1a p0 p0) == 0)) false (by rw [h8]; rfl)), hB 2 h9, hB 2 h10, hB 7 h11, hB 2 h12, hB 3 h13] [aB (t_Ka p0 (H.1)) h0, aB (t_Ka p1 (H.2.1 h0)) h1, aB (t_Ka p2 (H.2.2.1 h0 h1)) h2, aN (t_K1a p0 p1 (H.2.2.2.1 h0 h1 h2)), aN (t_K1a p1 p2 (H.2.2.2.2.1 h0 h1 h2)), aN (t_K1a p0 p2 (H.2.2.2.1 h0 h1 h2)), aN (t_K1a p1 p0 (H.2.2.2.2.1 h0 h1 h2)), aN (t_K1d p0 p1 (H.2.2.2.2.2.1 h0 h1 h2 h3 h4 h5)), aN (t_K1a p0 p0 (H.2.2.2.2.2.2.2.2.1 h0 h1 h2 h3 h4 h5 h6 h7))] (by kernel_rfl)
    | false =>
     exact tells_VI (fn := Ir.K7) rfl VOK.nil [hP 34 (dec (!((s_K1a p1 p0) == (w64 (0 - (s_K1a p0 p1))))) false (by rw [h3]; rfl)), hB 2 h4, hB 3 h5, hB 6 h6, hP 0 (dec (!((s_K1d p0 p1) == false)) false (by rw [h7]; rfl)), hP 5 (dec (!((s_K1a p0 p0) == 0)) false (by rw [h8]; rfl)), hB 2 h9, hB 2 h10, hB 7 h11, hB 2 h12, hB 3 h13, hB 4 h6] [aB (t_Ka p0 (H.1)) h0, aB (t_Ka p1 (H.2.1 h0)) h1, aB (t_Ka p2 (H.2.2.1 h0 h1)) h2, aN (t_K1a p0 p1 (H.2.2.2.1 h0 h1 h2)), aN (t_K1a p1 p2 (H.2.2.2.2.1 h0 h1 h2)), aN (t_K1a p0 p2 (H.2.2.2.1 h0 h1 h2)), aN (t_K1a p1 p0 (H.2.2.2.2.1 h0 h1 h2)), aN (t_K1d p0 p1 (H.2.2.2.2.2.1 h0 h1 h2 h3 h4 h5)), aN (t_K1a p0 p0 (H.2.2.2.2.2.2.2.2.1 h0 h1 h2 h3 h4 h5 h6 h7)), aN t_K9] (by kernel_rfl)
   | false =>
    exact tells_VI (fn := Ir.K7) rfl VOK.nil [hP 34 (dec (!((s_K1a p1 p0) == (w64 (0 - (s_K1a p0 p1))))) false (by rw [h3]; rfl)), hB 2 h4, hB 3 h5, hB 6 h6, hP 0 (dec (!((s_K1d p0 p1) == false)) false (by rw [h7]; rfl)), hP 5 (dec (!((s_K1a p0 p0) == 0)) false (by rw [h8]; rfl)), hB 2 h9, hB 2 h10, hB 7 h11, hB 2 h12, hB 8 h6] [aB (t_Ka p0 (H.1)) h0, aB (t_Ka p1 (H.2.1 h0)) h1, aB (t_Ka p2 (H.2.2.1 h0 h1)) h2, aN (t_K1a p0 p1 (H.2.2.2.1 h0 h1 h2)), aN (t_K1a p1 p2 (H.2.2.2.2.1 h0 h1 h2)), aN (t_K1a p0 p2 (H.2.2.2.1 h0 h1 h2)), aN (t_K1a p1 p0 (H.2.2.2.2.1 h0 h1 h2)), aN (t_K1d p0 p1 (H.2.2.2.2.2.1 h0 h1 h2 h3 h4 h5)), aN (t_K1a p0 p0 (H.2.2.2.2.2.2.2.2.1 h0 h1 h2 h3 h4 h5 h6 h7)), aN t_K9] (by kernel_rfl)
  | false =>
   exact tells_VI (fn := Ir.K7) rfl VOK.nil [hP 34 (dec (!((s_K1a p1 p0) == (w64 (0 - (s_K1a p0 p1))))) false (by rw [h3]; rfl)), hB 2 h4, hB 3 h5, hB 6 h6, hP 0 (dec (!((s_K1d p0 p1) == false)) false (by rw [h7]; rfl)), hP 5 (dec (!((s_K1a p0 p0) == 0)) false (by rw [h8]; rfl)), hB 2 h9, hB 2 h10, hB 7 h11, hB 11 h6] [aB (t_Ka p0 (H.1)) h0, aB (t_Ka p1 (H.2.1 h0)) h1, aB (t_Ka p2 (H.2.2.1 h0 h1)) h2, aN (t_K1a p0 p1 (H.2.2.2.1 h0 h1 h2)), aN (t_K1a p1 p2 (H.2.2.2.2.1 h0 h1 h2)), aN (t_K1a p0 p2 (H.2.2.2.1 h0 h1 h2)), aN (t_K1a p1 p0 (H.2.2.2.2.1 h0 h1 h2)), aN (t_K1d p0 p1 (H.2.2.2.2.2.1 h0 h1 h2 h3 h4 h5)), aN (t_K1a p0 p0 (H.2.2.2.2.2.2.2.2.1 h0 h1 h2 h3 h4 h5 h6 h7)), aN t_K9] (by kernel_rfl)
theorem t_K7_13 (p0 : Val) (p1 : Val) (p2 : Val) (H : H_K7 p0 p1 p2) (h0 : (s_Ka p0) = true) (h1 : (s_Ka p1) = true) (h2 : (s_Ka p2) = true) (h3 : ((s_K1a p1 p0) == (w64 (0 - (s_K1a p0 p1)))) = true) (h4 : (decide ((s_K1a p0 p1) < (-1))) = false) (h5 : (decide (1 < (s_K1a p0 p1))) = false) (h6 : ((s_K1a p0 p1) == 0) = false) (h7 : ((s_K1d p0 p1) == false) = true) (h8 : ((s_K1a p0 p0) == 0) = true) (h9 : (decide ((s_K1a p0 p1) ≤ 0)) = false) : Tells G (c_K7 p0 p1 p2) (.ret (.bool (bif (decide (0 ≤ (s_K1a p0 p1))) then
    bif (decide (0 ≤ (s_K1a p1 p2))) then
      bif (decide ((s_K1a p0 p2) < 0)) then
        false
      else
        true
    else
      true
  else
    true)) []) := by
  cases h10 : (decide (0 ≤ (s_K1a p0 p1))) with
  | true =>
   cases h11 : (decide (0 ≤ (s_K1a p1 p2))) with
   | true =>
    cases h12 : (decide ((s_K1a p0 p2) < 0)) with
    | true =>
     exact tells_VI (fn := Ir.K7) rfl VOK.nil [hP 34 (dec (!((s_K1a p1 p0) == (w64 (0 - (s_K1a p0 p1))))) false (by rw [h3]; rfl)), hB 2 h4, hB 3 h5, hB 6 h6, hP 0 (dec (!((s_K1d p0 p1) == false)) false (by rw [h7]; rfl)), hP 5 (dec (!((s_K1a p0 p0) == 0)) false (by rw [h8]; rfl)), hB 2 h9, hB 10 h10, hB 2 h11, hB 3 h12] [aB (t_Ka p0 (H.1)) h0, aB (t_Ka p1 (H.2.1 h0)) h1, aB (t_Ka p2 (H.2.2.1 h0 h1)) h2, aN (t_K1a p0 p1 (H.2.2.2.1 h0 h1 h2)), aN (t_K1a p1 p2 (H.2.2.2.2.1 h0 h1 h2)), aN (t_K1a p0 p2 (H.2.2.2.1 h0 h1 h2)), aN (t_K1a p1 p0 (H.2.2.2.2.1 h0 h1 h2)), aN (t_K1d p0 p1 (H.2.2.2.2.2.1 h0 h1 h2 h3 h4 h5)), aN (t_K1a p0 p0 (H.2.2.2.2.2.2.2.2.1 h0 h1 h2 h3 h4 h5 h6 h7))] (by kernel_rfl)
    | false =>
     exact tells_VI (fn := Ir.K7) rfl VOK.nil [hP 34 (dec (!((s_K1a p1 p0) == (w64 (0 - (s_K1a p0 p1))))) false (by rw [h3]; rfl)), hB 2 h4, hB 3 h5, hB 6 h6, hP 0 (dec (!((s_K1d p0 p1) == false)) false (by rw [h7]; rfl)), hP 5 (dec (!((s_K1a p0 p0) == 0)) false (by rw [h8]; rfl)), hB 2 h9, hB 10 h10, hB 2 h11, hB 3 h12, hB 4 h6] [aB (t_Ka p0 (H.1)) h0, aB (t_Ka p1 (H.2.1 h0)) h1, aB (t_Ka p2 (H.2.2.1 h0 h1)) h2, aN (t_K1a p0 p1 (H.2.2.2.1 h0 h1 h2)), aN (t_K1a p1 p2 (H.2.2.2.2.1 h0 h1 h2)), aN (t_K1a p0 p2 (H.2.2.2.1 h0 h1 h2)), aN (t_K1a p1 p0 (H.2.2.2.2.1 h0 h1 h2)), aN (t_K1d p0 p1 (H.2.2.2.2.2.1 h0 h1 h2 h3 h4 h5)), aN (t_K1a p0 p0 (H.2.2.2.2.2.2.2.2.1 h0 h1 h2 h3 h4 h5 h6 h7)), aN t_K9] (by kernel_rfl)
   | false =>
    exact tells_VI (fn := Ir.K7) rfl VOK.nil [hP 34 (dec (!((s_K1a p1 p0) == (w64 (0 - (s_K1a p0 p1))))) false (by rw [h3]; rfl)), hB 2 h4, hB 3 h5, hB 6 h6, hP 0 (dec (!((s_K1d p0 p1) == false)) false (by rw [h7]; rfl)), hP 5 (dec (!((s_K1a p0 p0) == 0)) false (by rw [h8]; rfl)), hB 2 h9, hB 10 h10, hB 2 h11, hB 8 h6] [aB (t_Ka p0 (H.1)) h0, aB (t_Ka p1 (H.2.1 h0)) h1, aB (t_Ka p2 (H.2.2.1 h0 h1)) h2, aN (t_K1a p0 p1 (H.2.2.2.1 h0 h1 h2)), aN (t_K1a p1 p2 (H.2.2.2.2.1 h0 h1 h2)), aN (t_K1a p0 p2 (H.2.2.2.1 h0 h1 h2)), aN (t_K1a p1 p0 (H.2.2.2.2.1 h0 h1 h2)), aN (t_K1d p0 p1 (H.2.2.2.2.2.1 h0 h1 h2 h3 h4 h5)), aN (t_K1a p0 p0 (H.2.2.2.2.2.2.2.2.1 h0 h1 h2 h3 h4 h5 h6 h7)), aN t_K9] (by kernel_rfl)
  | false =>
   exact tells_VI (fn := Ir.K7) rfl VOK.nil [hP 34 (dec (!((s_K1a p1 p0) == (w64 (0 - (s_K1a p0 p1))))) false (by rw [h3]; rfl)), hB 2 h4, hB 3 h5, hB 6 h6, hP 0 (dec (!((s_K1d p0 p1) == false)) false (by rw [h7]; rfl)), hP 5 (dec (!((s_K1a p0 p0) == 0)) false (by rw [h8]; rfl)), hB 2 h9, hB 10 h10, hB 11 h6] [aB (t_Ka p0 (H.1)) h0, aB (t_Ka p1 (H.2.1 h0)) h1, aB (t_Ka p2 (H.2.2.1 h0 h1)) h2, aN (t_K1a p0 p1 (H.2.2.2.1 h0 h1 h2)), aN (t_K1a p1 p2 (H.2.2.2.2.1 h0 h1 h2)), aN (t_K1a p0 p2 (H.2.2.2.1 h0 h1 h2)), aN (t_K1a p1 p0 (H.2.2.2.2.1 h0 h1 h2)), aN (t_K1d p0 p1 (H.2.2.2.2.2.1 h0 h1 h2 h3 h4 h5)), aN (t_K1a p0 p0 (H.2.2.2.2.2.2.2.2.1 h0 h1 h2 h3 h4 h5 h6 h7)), aN t_K9] (by kernel_rfl)
theorem t_K7_14 (p0 : Val) (p1 : Val) (p2 : Val) (H : H_K7 p0 p1 p2) (h0 : (s_Ka p0) = true) (h1 : (s_Ka p1) = true) (h2 : (s_Ka p2) = true) (h3 : ((s_K1a p1 p0) == (w64 (0 - (s_K1a p0 p1)))) = true) (h4 : (decide ((s_K1a p0 p1) < (-1))) = false) (h5 : (decide (1 < (s_K1a p0 p1))) = false) (h6 : ((s_K1a p0 p1) == 0) = false) (h7 : ((s_K1d p0 p1) == false) = true) (h8 : ((s_K1a p0 p0) == 0) = false) : Tells G (c_K7 p0 p1 p2) (.ret (.bool (false)) []) := by
  exact tells_VI (fn := Ir.K7) rfl VOK.nil [hP 34 (dec (!((s_K1a p1 p0) == (w64 (0 - (s_K1a p0 p1))))) false (by rw [h3]; rfl)), hB 2 h4, hB 3 h5, hB 6 h6, hP 0 (dec (!((s_K1d p0 p1) == false)) false (by rw [h7]; rfl)), hP 5 (dec (!((s_K1a p0 p0) == 0)) true (by rw [h8]; rfl))] [aB (t_Ka p0 (H.1)) h0, aB (t_Ka p1 (H.2.1 h0)) h1, aB (t_Ka p2 (H.2.2.1 h0 h1)) h2, aN (t_K1a p0 p1 (H.2.2.2.1 h0 h1 h2)), aN (t_K1a p1 p2 (H.2.2.2.2.1 h0 h1 h2)), aN (t_K1a p0 p2 (H.2.2.2.1 h0 h1 h2)), aN (t_K1a p1 p0 (H.2.2.2.2.1 h0 h1 h2)), aN (t_K1d p0 p1 (H.2.2.2.2.2.1 h0 h1 h2 h3 h4 h5)), aN (t_K1a p0 p0 (H.2.2.2.2.2.2.2.2.1 h0 h1 h2 h3 h4 h5 h6 h7))] (by kernel_rfl)
theorem t_K7_15 (p0 : Val) (p1 : Val) (p2 : Val) (H : H_K7 p0 p1 p2) (h0 : (s_Ka p0) = true) (h1 : (s_Ka p1) = true) (h2 : (s_Ka p2) = true) (h3 : ((s_K1a p1 p0) == (w64 (0 - (s_K1a p0 p1)))) = true) (h4 : (decide ((s_K1a p0 p1) < (-1))) = false) (h5 : (decide (1 < (s_K1a p0 p1))) = false) (h6 : ((s_K1a p0 p1) == 0) = false) (h7 : ((s_K1d p0 p1) == false) = false) : Tells G (c_K7 p0 p1 p2) (.ret (.bool (false)) []) := by
  exact tells_VI (fn := Ir.K7) rfl VOK.nil [hP 34 (dec (!((s_K1a p1 p0) == (w64 (0 - (s_K1a p0 p1))))) false (by rw [h3]; rfl)), hB 2 h4, hB 3 h5, hB 6 h6, hP 0 (dec (!((s_K1d p0 p1) == false)) true (by rw [h7]; rfl))] [aB (t_Ka p0 (H.1)) h0, aB (t_Ka p1 (H.2.1 h0)) h1, aB (t_Ka p2 (H.2.2.1 h0 h1)) h2, aN (t_K1a p0 p1 (H.2.2.2.1 h0 h1 h2)), aN (t_K1a p1 p2 (H.2.2.2.2.1 h0 h1 h2)), aN (t_K1a p0 p2 (H.2.2.2.1 h0 h1 h2)), aN (t_K1a p1 p0 (H.2.2.2.2.1 h0 h1 h2)), aN (t_K1d p0 p1 (H.2.2.2.2.2.1 h0 h1 h2 h3 h4 h5))] (by kernel_rfl)
theorem t_K7_16 (p0 : Val) (p1 : Val) (p2 : Val) (H : H_K7 p0 p1 p2) (h0 : (s_Ka p0) = true) (h1 : (s_Ka p1) = true) (h2 : (s_Ka p2) = true) (h3 : ((s_K1a p1 p0) == (w64 (0 - (s_K1a p0 p1)))) = false) : Tells G (c_K7 p0 p1 p2) (.ret (.bool (false)) []) := by
  exact tells_VI (fn := Ir.K7) rfl VOK.nil [hP 34 (dec (!((s_K1a p1 p0) == (w64 (0 - (s_K1a p0 p1))))) true (by rw [h3]; rfl))] [aB (t_Ka p0 (H.1)) h0, aB (t_Ka p1 (H.2.1 h0)) h1, aB (t_Ka p2 (H.2.2.1 h0 h1)) h2, aN (t_K1a p0 p1 (H.2.2.2.1 h0 h1 h2)), aN (t_K1a p1 p2 (H.2.2.2.2.1 h0 h1 h2)), aN (t_K1a p0 p2 (H.2.2.2.1 h0 h1 h2)), aN (t_K1a p1 p0 (H.2.2.2.2.1 h0 h1 h2))] (by kernel_rfl)
theorem t_K7_17 (p0 : Val) (p1 : Val) (p2 : Val) (H : H_K7 p0 p1 p2) (h0 : (s_Ka p0) = true) (h1 : (s_Ka p1) = true) (h2 : (s_Ka p2) = false) : Tells G (c_K7 p0 p1 p2) (.ret (.bool (true)) []) := by
  exact tells_VI (fn := Ir.K7) rfl VOK.nil [] [aB (t_Ka p0 (H.1)) h0, aB (t_Ka p1 (H.2.1 h0)) h1, aB (t_Ka p2 (H.2.2.1 h0 h1)) h2, aN t_K9] (by kernel_rfl)
theorem t_K7_18 (p0 : Val) (p1 : Val) (p2 : Val) (H : H_K7 p0 p1 p2) (h0 : (s_Ka p0) = true) (h1 : (s_Ka p1) = false) : Tells G (c_K7 p0 p1 p2) (.ret (.bool (true)) []) := by
  exact tells_VI (fn := Ir.K7) rfl VOK.nil [] [aB (t_Ka p0 (H.1)) h0, aB (t_Ka p1 (H.2.1 h0)) h1, aN t_K9] (by kernel_rfl)
theorem t_K7_19 (p0 : Val) (p1 : Val) (p2 : Val) (H : H_K7 p0 p1 p2) (h0 : (s_Ka p0) = false) : Tells G (c_K7 p0 p1 p2) (.ret (.bool (true)) []) := by
  exact tells_VI (fn := Ir.K7) rfl VOK.nil [] [aB (t_Ka p0 (H.1)) h0, aN t_K9] (by kernel_rfl)
theorem t_K7 (p0 : Val) (p1 : Val) (p2 : Val) (H : H_K7 p0 p1 p2) : Tells G (c_K7 p0 p1 p2) (a_K7 p0 p1 p2) := by
  unfold a_K7 s_K7
  cases h0 : (s_Ka p0) with
  | true =>
   cases h1 : (s_Ka p1) with
   | true =>
    cases h2 : (s_Ka p2) with
    | true =>
     cases h3 : ((s_K1a p1 p0) == (w64 (0 - (s_K1a p0 p1)))) with
     | true =>
      cases h4 : (decide ((s_K1a p0 p1) < (-1))) with
      | true =>
       exact t_K7_0 p0 p1 p2 H h0 h1 h2 h3 h4
      | false =>
       cases h5 : (decide (1 < (s_K1a p0 p1))) with
       | true =>
        exact t_K7_1 p0 p1 p2 H h0 h1 h2 h3 h4 h5
       | false =>
        cases h6 : ((s_K1a p0 p1) == 0) with
        | true =>
         cases h7 : ((s_K1d p0 p1) == true) with
         | true =>
          cases h8 : ((s_K1a p0 p0) == 0) with
          | true =>
           cases h9 : (decide ((s_K1a p0 p1) ≤ 0)) with
           | true =>
            cases h10 : (decide ((s_K1a p1 p2) ≤ 0)) with
            | true =>
             cases h11 : (decide (0 < (s_K1a p0 p2))) with
             | true =>
              exact t_K7_2 p0 p1 p2 H h0 h1 h2 h3 h4 h5 h6 h7 h8 h9 h10 h11
             | false =>
              cases h12 : (decide (0 ≤ (s_K1a p0 p1))) with
              | true =>
               exact t_K7_3 p0 p1 p2 H h0 h1 h2 h3 h4 h5 h6 h7 h8 h9 h10 h11 h12
              | false =>
               exact t_K7_4 p0 p1 p2 H h0 h1 h2 h3 h4 h5 h6 h7 h8 h9 h10 h11 h12
            | false =>
             cases h11 : (decide (0 ≤ (s_K1a p0 p1))) with
             | true =>
              exact t_K7_5 p0 p1 p2 H h0 h1 h2 h3 h4 h5 h6 h7 h8 h9 h10 h11
             | false =>
              exact t_K7_6 p0 p1 p2 H h0 h1 h2 h3 h4 h5 h6 h7 h8 h9 h10 h11
           | false =>
            cases h10 : (decide (0 ≤ (s_K1a p0 p1))) with
            | true =>
             exact t_K7_7 p0 p1 p2 H h0 h1 h2 h3 h4 h5 h6 h7 h8 h9 h10
            | false =>
             exact t_K7_8 p0 p1 p2 H h0 h1 h2 h3 h4 h5 h6 h7 h8 h9 h10
          | false =>
           exact t_K7_9 p0 p1 p2 H h0 h1 h2 h3 h4 h5 h6 h7 h8
         | false =>
          exact t_K7_10 p0 p1 p2 H h0 h1 h2 h3 h4 h5 h6 h7
        | false =>
         cases h7 : ((s_K1d p0 p1) == false) with
         | true =>
          cases h8 : ((s_K1a p0 p0) == 0) with
          | true =>
           cases h9 : (decide ((s_K1a p0 p1) ≤ 0)) with
           | true =>
            cases h10 : (decide ((s_K1a p1 p2) ≤ 0)) with
            | true =>
             exact t_K7_11 p0 p1 p2 H h0 h1 h2 h3 h4 h5 h6 h7 h8 h9 h10
            | false =>
             exact t_K7_12 p0 p1 p2 H h0 h1 h2 h3 h4 h5 h6 h7 h8 h9 h10
           | false =>
            exact t_K7_13 p0 p1 p2 H h0 h1 h2 h3 h4 h5 h6 h7 h8 h9
          | false =>
           exact t_K7_14 p0 p1 p2 H h0 h1 h2 h3 h4 h5 h6 h7 h8
         | false =>
          exact t_K7_15 p0 p1 p2 H h0 h1 h2 h3 h4 h5 h6 h7
     | false =>
      exact t_K7_16 p0 p1 p2 H h0 h1 h2 h3
    | false =>
     exact t_K7_17 p0 p1 p2 H h0 h1 h2
   | false =>
    exact t_K7_18 p0 p1 p2 H h0 h1
  | false =>
   exact t_K7_19 p0 p1 p2 H h0
def tysValueOrder : List Ty := [.nm 25, .nm 25, .nm 25]
theorem pureValueOrder (hp : ∀ (p0 : Val) (p1 : Val) (p2 : Val), Val_ok p0 → Val_ok p1 → Val_ok p2 → H_K7 p0 p1 p2 ∧ s_K7 p0 p1 p2 = true) : ∀ qs, Args Γ tysValueOrder qs → ∃ n, runs G n (.call 5 qs []) = some (.ret (.bool true) []) := by
  intro qs h
  cases qs with
  | nil => cases h
  | cons q0 qs =>
  obtain ⟨h0, h⟩ := h
  cases qs with
  | nil => cases h
  | cons q1 qs =>
  obtain ⟨h1, h⟩ := h
  cases qs with
  | nil => cases h
  | cons q2 qs =>
  obtain ⟨h2, h⟩ := h
  cases qs with
  | cons _ _ => cases h
  | nil =>
  obtain ⟨c0, rfl, g0⟩ := h0.agg rfl
  obtain ⟨p0, rfl, k0⟩ := (Val_open (gam_at 25) g0)
  obtain ⟨c1, rfl, g1⟩ := h1.agg rfl
  obtain ⟨p1, rfl, k1⟩ := (Val_open (gam_at 25) g1)
  obtain ⟨c2, rfl, g2⟩ := h2.agg rfl
  obtain ⟨p2, rfl, k2⟩ := (Val_open (gam_at 25) g2)
  have e := hp p0 p1 p2 k0 k1 k2
  have t := t_K7 p0 p1 p2 e.1
  unfold a_K7 at t
  rw [e.2] at t
  exact t
end Go.Proofs.Ytedohmdgbilicaa
end

section
/- Comparisons that answer -1, 0 or 1; the order of strings. -/
namespace Go.Pv
def R3 (a : Int) : Prop := a = -1 ∨ a = 0 ∨ a = 1
/-- what two answers say of the third -/
def T3 (a b e : Int) : Prop := (a = 0 → e = b) ∧ (b = 0 → e = a) ∧ (a = b → e = a)
def lx (a b : Int) : Int := if a = 0 then b else a
def icmp (a b : Int) : Int := if a < b then -1 else if b < a then 1 else 0
theorem lx_r3 {a b : Int} (h : R3 a) (g : R3 b) : R3 (lx a b) := by
  unfold lx
  split
  · exact g
  · exact h
theorem lx_neg (a b : Int) : lx (-a) (-b) = -lx a b := by
  unfold lx
  split <;> split <;> omega
theorem lx_t3 {a b e a' b' e' : Int} (_ha : R3 a) (_hb : R3 b) (_he : R3 e) (t : T3 a b e) (t' : T3 a' b' e') : T3 (lx a a') (lx b b') (lx e e') := by
  unfold T3 at *
  unfold lx R3 at *
  split <;> split <;> split <;> omega
theorem icmp_r3 (a b : Int) : R3 (icmp a b) := by
  unfold icmp R3
  split
  · omega
  · split <;> omega
theorem icmp_neg (a b : Int) : icmp b a = -icmp a b := by
  unfold icmp
  split <;> split <;> first | omega | (split <;> omega) | skip
  all_goals omega
theorem icmp_t3 (a b e : Int) : T3 (icmp a b) (icmp b e) (icmp a e) := by
  unfold T3 icmp
  split <;> split <;> split <;> (try split) <;> (try split) <;> (try split) <;> omega
theorem cmpL_r3 : ∀ a b : List UInt8, R3 (cmpL a b)
  | [], [] => Or.inr (Or.inl rfl)
  | [], _ :: _ => Or.inl rfl
  | _ :: _, [] => Or.inr (Or.inr rfl)
  | x :: a, y :: b => by
    rw [cmpL]
    split
    · exact Or.inl rfl
    · split
      · exact Or.inr (Or.inr rfl)
      · exact cmpL_r3 a b
theorem cmpL_step (x y : UInt8) (a b : List UInt8) : cmpL (x :: a) (y :: b) = lx (icmp (x.toNat : Int) (y.toNat : Int)) (cmpL a b) := by
  rw [cmpL]
  unfold lx icmp
  simp only [UInt8.lt_iff_toNat_lt]
  by_cases h1 : x.toNat < y.toNat
  · rw [if_pos h1, if_pos (show (x.toNat : Int) < (y.toNat : Int) by omega)]
    rfl
  · by_cases h2 : y.toNat < x.toNat
    · rw [if_neg h1, if_pos h2, if_neg (show ¬ (x.toNat : Int) < (y.toNat : Int) by omega), if_pos (show (y.toNat : Int) < (x.toNat : Int) by omega)]
      rfl
    · rw [if_neg h1, if_neg h2, if_neg (show ¬ (x.toNat : Int) < (y.toNat : Int) by omega), if_neg (show ¬ (y.toNat : Int) < (x.toNat : Int) by omega)]
      rfl
theorem cmpL_neg : ∀ a b : List UInt8, cmpL b a = -cmpL a b
  | [], [] => rfl
  | [], _ :: _ => rfl
  | _ :: _, [] => rfl
  | x :: a, y :: b => by rw [cmpL_step, cmpL_step, cmpL_neg a b, icmp_neg (x.toNat : Int) (y.toNat : Int), lx_neg]
theorem cmpL_t3 : ∀ a b d : List UInt8, T3 (cmpL a b) (cmpL b d) (cmpL a d)
  | [], [], [] => by simp [T3, cmpL]
  | [], [], _ :: _ => by simp [T3, cmpL]
  | [], _ :: _, [] => by simp [T3, cmpL]
  | [], _ :: _, _ :: _ => by simp [T3, cmpL]
  | _ :: _, [], [] => by simp [T3, cmpL]
  | _ :: _, [], _ :: _ => by simp [T3, cmpL]
  | x :: a, y :: b, [] => by
    have h := cmpL_r3 (x :: a) (y :: b)
    unfold R3 at h
    unfold T3
    rw [show cmpL (y :: b) [] = 1 from rfl, show cmpL (x :: a) [] = 1 from rfl]
    omega
  | x :: a, y :: b, w :: d => by
    rw [cmpL_step, cmpL_step, cmpL_step]
    exact lx_t3 (icmp_r3 _ _) (icmp_r3 _ _) (icmp_r3 _ _) (icmp_t3 _ _ _) (cmpL_t3 a b d)
theorem sCmp_r3 (a b : ByteArray) : R3 (sCmp a b) := cmpL_r3 _ _
theorem sCmp_neg (a b : ByteArray) : sCmp b a = -sCmp a b := cmpL_neg _ _
theorem sCmp_t3 (a b d : ByteArray) : T3 (sCmp a b) (sCmp b d) (sCmp a d) := cmpL_t3 _ _ _
end Go.Pv
end

section
/- Values in plain words: sizes, depths and validity agree; comparisons agree and are orders. -/
namespace Go.Proofs.Ytedohmdgbilicaa
open Go.Pv
theorem vind {P : Val → Prop} (h : ∀ v : Val, (∀ x ∈ v.list, P x) → (∀ f ∈ v.fields, P f.v) → P v) : ∀ v, P v := by
  have key : ∀ (k : Nat) (v : Val), SizeOf.sizeOf v < k → P v := by
    intro k
    induction k with
    | zero => intro v hv; exact absurd hv (Nat.not_lt_zero _)
    | succ k ih => intro v hv; exact h v (fun x hx => ih x (by have := szM hx; omega)) (fun f hf => ih f.v (by have := szN hf; omega))
  exact fun v => key _ v (Nat.lt_succ_self _)
theorem smallH (v : Val) (h : Val_ok v) : H_Ka v := ⟨⟨h.sm, trivial⟩, trivial⟩
def orL : List Int → Int
  | [] => 0
  | a :: l => lx a (orL l)
theorem or_b0 (p : List Int) : ∀ (l : List Int) (i : Nat), (match l_K1_b0 p l i 0 with | .k0 y => y | .k1 y => y) = orL l
  | [], _ => rfl
  | a :: l, i => by
    rw [l_K1_b0, orL]
    unfold lx
    by_cases h : a = 0
    · rw [show (a == 0) = true by simpa using h, cond_true, if_pos h]
      exact or_b0 p l (i + 1)
    · rw [show (a == 0) = false by simpa using h, cond_false, if_neg h]
theorem or_eq (l : List Int) : s_K1 l = orL l := by
  rw [← or_b0 l l 0]
  rfl
theorem lx0 (a : Int) : lx a 0 = a := by
  unfold lx
  split <;> omega
theorem comp_eq (a b : Int) : s_K0 a b = icmp a b := by
  unfold s_K0 s_K2 icmp
  simp only [beq_self_eq_true, Bool.not_true, cond_false]
  by_cases h1 : a < b
  · rw [show decide (a < b) = true by simpa using h1, if_pos h1]
    rfl
  · rw [show decide (a < b) = false by simpa using h1, if_neg h1]
    by_cases h2 : b < a
    · rw [show decide (b < a) = true by simpa using h2, if_pos h2]
      rfl
    · rw [show decide (b < a) = false by simpa using h2, if_neg h2]
      rfl
theorem vcmp (a b : Val) : s_K1a a b = lx (icmp a.kind b.kind) (lx (icmp a.n b.n) (lx (sCmp a.s b.s) (lx (lcV a.list b.list) (lcF a.fields b.fields)))) := by
  rw [s_K1a, or_eq, comp_eq, comp_eq]
  show lx _ (lx _ (lx _ (lx _ (lx _ 0)))) = _
  rw [lx0]
  rfl
theorem fcmp (x y : Fld) : s_K1 [s_K18 x.name y.name, s_K1a x.v y.v] = lx (sCmp x.name y.name) (s_K1a x.v y.v) := by
  rw [or_eq]
  show lx _ (lx _ 0) = _
  rw [lx0]
  rfl
theorem lcV_cons (x y : Val) (l m : List Val) : lcV (x :: l) (y :: m) = lx (s_K1a x y) (lcV l m) := by
  rw [lcV]
  unfold lx
  by_cases h : s_K1a x y = 0
  · rw [show (s_K1a x y == 0) = true by simpa using h, cond_true, if_pos h]
  · rw [show (s_K1a x y == 0) = false by simpa using h, cond_false, if_neg h]
theorem lcF_cons (x y : Fld) (l m : List Fld) : lcF (x :: l) (y :: m) = lx (lx (sCmp x.name y.name) (s_K1a x.v y.v)) (lcF l m) := by
  rw [lcF, fcmp]
  generalize lx (sCmp x.name y.name) (s_K1a x.v y.v) = c
  unfold lx
  by_cases h : c = 0
  · rw [show (c == 0) = true by simpa using h, cond_true, if_pos h]
  · rw [show (c == 0) = false by simpa using h, cond_false, if_neg h]
theorem lcV_n1 (y : Val) (m : List Val) : lcV [] (y :: m) = -1 := by rw [lcV]
theorem lcV_n2 (x : Val) (l : List Val) : lcV (x :: l) [] = 1 := by rw [lcV]
theorem lcV_nn : lcV [] [] = 0 := by rw [lcV]
theorem lcF_n1 (y : Fld) (m : List Fld) : lcF [] (y :: m) = -1 := by rw [lcF]
theorem lcF_n2 (x : Fld) (l : List Fld) : lcF (x :: l) [] = 1 := by rw [lcF]
theorem lcF_nn : lcF [] [] = 0 := by rw [lcF]
theorem lcV_r3 : ∀ (l m : List Val), (∀ x ∈ l, ∀ y, R3 (s_K1a x y)) → R3 (lcV l m)
  | [], [], _ => by rw [lcV_nn]; exact Or.inr (Or.inl rfl)
  | [], _ :: _, _ => by rw [lcV_n1]; exact Or.inl rfl
  | _ :: _, [], _ => by rw [lcV_n2]; exact Or.inr (Or.inr rfl)
  | x :: l, y :: m, h => by
    rw [lcV_cons]
    exact lx_r3 (h x List.mem_cons_self y) (lcV_r3 l m fun z hz => h z (List.mem_cons_of_mem _ hz))
theorem lcF_r3 : ∀ (l m : List Fld), (∀ x ∈ l, ∀ y, R3 (s_K1a x.v y)) → R3 (lcF l m)
  | [], [], _ => by rw [lcF_nn]; exact Or.inr (Or.inl rfl)
  | [], _ :: _, _ => by rw [lcF_n1]; exact Or.inl rfl
  | _ :: _, [], _ => by rw [lcF_n2]; exact Or.inr (Or.inr rfl)
  | x :: l, y :: m, h => by
    rw [lcF_cons]
    exact lx_r3 (lx_r3 (sCmp_r3 _ _) (h x List.mem_cons_self y.v)) (lcF_r3 l m fun z hz => h z (List.mem_cons_of_mem _ hz))
theorem cmp_r3 : ∀ a b : Val, R3 (s_K1a a b) := vind fun a h1 h2 b => by
  rw [vcmp]
  exact lx_r3 (icmp_r3 _ _) (lx_r3 (icmp_r3 _ _) (lx_r3 (sCmp_r3 _ _) (lx_r3 (lcV_r3 _ _ h1) (lcF_r3 _ _ h2))))
theorem lcV_neg : ∀ (l m : List Val), (∀ x ∈ l, ∀ y, s_K1a y x = -s_K1a x y) → lcV m l = -lcV l m
  | [], [], _ => by rw [lcV_nn]; rfl
  | [], _ :: _, _ => by rw [lcV_n1, lcV_n2]; rfl
  | _ :: _, [], _ => by rw [lcV_n1, lcV_n2]
  | x :: l, y :: m, h => by rw [lcV_cons, lcV_cons, h x List.mem_cons_self y, lcV_neg l m fun z hz => h z (List.mem_cons_of_mem _ hz), lx_neg]
theorem lcF_neg : ∀ (l m : List Fld), (∀ x ∈ l, ∀ y, s_K1a y x.v = -s_K1a x.v y) → lcF m l = -lcF l m
  | [], [], _ => by rw [lcF_nn]; rfl
  | [], _ :: _, _ => by rw [lcF_n1, lcF_n2]; rfl
  | _ :: _, [], _ => by rw [lcF_n1, lcF_n2]
  | x :: l, y :: m, h => by rw [lcF_cons, lcF_cons, h x List.mem_cons_self y.v, sCmp_neg x.name y.name, lx_neg, lcF_neg l m fun z hz => h z (List.mem_cons_of_mem _ hz), lx_neg]
theorem cmp_neg : ∀ a b : Val, s_K1a b a = -s_K1a a b := vind fun a h1 h2 b => by
  rw [vcmp, vcmp, icmp_neg a.kind b.kind, icmp_neg a.n b.n, sCmp_neg a.s b.s, lcV_neg _ _ h1, lcF_neg _ _ h2, lx_neg, lx_neg, lx_neg, lx_neg]
theorem cmp_self (a : Val) : s_K1a a a = 0 := by
  have := cmp_neg a a
  omega
theorem lcV_t3 : ∀ (l m n : List Val), (∀ x ∈ l, ∀ y z, T3 (s_K1a x y) (s_K1a y z) (s_K1a x z)) → T3 (lcV l m) (lcV m n) (lcV l n)
  | [], [], n, _ => by
    rw [lcV_nn]
    exact ⟨fun _ => rfl, fun h => h, fun h => h.symm⟩
  | [], y :: m, [], _ => by
    rw [lcV_nn, lcV_n1, lcV_n2]
    unfold T3
    omega
  | [], y :: m, z :: n, _ => by
    rw [lcV_n1, lcV_n1]
    unfold T3
    omega
  | x :: l, [], [], _ => by
    rw [lcV_nn, lcV_n2]
    unfold T3
    omega
  | x :: l, [], z :: n, _ => by
    rw [lcV_n1, lcV_n2]
    unfold T3
    omega
  | x :: l, y :: m, [], h => by
    have := lcV_r3 (x :: l) (y :: m) (fun z _ w => cmp_r3 z w)
    rw [lcV_n2, lcV_n2]
    unfold T3
    unfold R3 at this
    omega
  | x :: l, y :: m, z :: n, h => by
    rw [lcV_cons, lcV_cons, lcV_cons]
    exact lx_t3 (cmp_r3 _ _) (cmp_r3 _ _) (cmp_r3 _ _) (h x List.mem_cons_self y z) (lcV_t3 l m n fun w hw => h w (List.mem_cons_of_mem _ hw))
theorem lcF_t3 : ∀ (l m n : List Fld), (∀ x ∈ l, ∀ y z, T3 (s_K1a x.v y) (s_K1a y z) (s_K1a x.v z)) → T3 (lcF l m) (lcF m n) (lcF l n)
  | [], [], n, _ => by
    rw [lcF_nn]
    exact ⟨fun _ => rfl, fun h => h, fun h => h.symm⟩
  | [], y :: m, [], _ => by
    rw [lcF_nn, lcF_n1, lcF_n2]
    unfold T3
    omega
  | [], y :: m, z :: n, _ => by
    rw [lcF_n1, lcF_n1]
    unfold T3
    omega
  | x :: l, [], [], _ => by
    rw [lcF_nn, lcF_n2]
    unfold T3
    omega
  | x :: l, [], z :: n, _ => by
    rw [lcF_n1, lcF_n2]
    unfold T3
    omega
  | x :: l, y :: m, [], h => by
    have := lcF_r3 (x :: l) (y :: m) (fun z _ w => cmp_r3 z.v w)
    rw [lcF_n2, lcF_n2]
    unfold T3
    unfold R3 at this
    omega
  | x :: l, y :: m, z :: n, h => by
    rw [lcF_cons, lcF_cons, lcF_cons]
    have r : ∀ a b : Fld, R3 (lx (sCmp a.name b.name) (s_K1a a.v b.v)) := fun a b => lx_r3 (sCmp_r3 _ _) (cmp_r3 _ _)
    exact lx_t3 (r _ _) (r _ _) (r _ _) (lx_t3 (sCmp_r3 _ _) (sCmp_r3 _ _) (sCmp_r3 _ _) (sCmp_t3 _ _ _) (h x List.mem_cons_self y.v z.v)) (lcF_t3 l m n fun w hw => h w (List.mem_cons_of_mem _ hw))
theorem cmp_t3 : ∀ a b c : Val, T3 (s_K1a a b) (s_K1a b c) (s_K1a a c) := vind fun a h1 h2 b c => by
  have rL : ∀ l m, R3 (lcV l m) := fun l m => lcV_r3 l m fun x _ y => cmp_r3 x y
  rw [vcmp, vcmp, vcmp]
  exact lx_t3 (icmp_r3 _ _) (icmp_r3 _ _) (icmp_r3 _ _) (icmp_t3 _ _ _) (lx_t3 (icmp_r3 _ _) (icmp_r3 _ _) (icmp_r3 _ _) (icmp_t3 _ _ _)
    (lx_t3 (sCmp_r3 _ _) (sCmp_r3 _ _) (sCmp_r3 _ _) (sCmp_t3 _ _ _) (lx_t3 (rL _ _) (rL _ _) (rL _ _) (lcV_t3 _ _ _ h1) (lcF_t3 _ _ _ h2))))
theorem equal_iff (a b : Val) : s_K1d a b = (s_K1a a b == 0) := rfl
theorem order_holds (a b c : Val) (ha : Val_ok a) (hb : Val_ok b) (hc : Val_ok c) : H_K7 a b c ∧ s_K7 a b c = true := by
  refine ⟨?_, ?_⟩
  · unfold H_K7
    repeat' apply And.intro
    all_goals intros
    all_goals first | exact ha.sm | exact hb.sm | exact hc.sm | exact ⟨ha.sm, trivial⟩ | exact smallH a ha | exact smallH b hb | exact smallH c hc | trivial
  · unfold s_K7
    have hx := cmp_r3 a b
    have hy := cmp_r3 b c
    have hz := cmp_r3 a c
    have ht := cmp_t3 a b c
    rw [cmp_neg a b, cmp_self, equal_iff]
    generalize s_K1a a b = x at *
    generalize s_K1a b c = y at *
    generalize s_K1a a c = z at *
    cases s_Ka a <;> cases s_Ka b <;> cases s_Ka c <;> try rfl
    unfold T3 at ht
    rcases hx with rfl | rfl | rfl <;> rcases hy with rfl | rfl | rfl <;> rcases hz with rfl | rfl | rfl <;> first | rfl | (exfalso; omega)
end Go.Proofs.Ytedohmdgbilicaa
end

section
/- The library's comparison of two strings, walked: it answers as the evaluator's cmpL. -/
namespace Go.Proofs.Ytedohmdgbilicaa
open Go.Pv
theorem cmpL_eq : ∀ (a b : List UInt8), cmpL a b = Lib.compareBytes a b
  | [], [] => rfl
  | [], _ :: _ => rfl
  | _ :: _, [] => rfl
  | a :: x, b :: y => by
    rw [Lib.compareBytes, ← cmpL_eq x y]
    rfl
set_option maxHeartbeats 1000000 in
set_option maxRecDepth 100000 in
theorem comparing (a b : ByteArray) (w : World) :
    Calls Try.prog 62 #[.string a, .string b] w fun e w' => e = .returned (.int .i64 (Lib.compareBytes a.data.toList b.data.toList)) ∧ w' = w := by
  go_enter Try.func62, Try.ntmps62
  go_wp2
  rw [run_callFunc_extern Try.func69 (by kernel_rfl) (by kernel_rfl) (by kernel_rfl) (e := Extern.BytealgCompare.compare) (by kernel_rfl), Lib.run_compareString]
  simp only [Result.andThen]
  rw [Oper.upon_value]
  go_wp2
  go_ret
  exact ⟨rfl, rfl⟩
theorem cmpOK : CmpOK Try.prog 62 := by
  refine ⟨⟨_, Try.func62, by kernel_rfl, by kernel_rfl⟩, fun x y w => ?_⟩
  have h := comparing x y w
  rw [← cmpL_eq, ← toList_data, ← toList_data] at h
  exact h
end Go.Proofs.Ytedohmdgbilicaa
end

