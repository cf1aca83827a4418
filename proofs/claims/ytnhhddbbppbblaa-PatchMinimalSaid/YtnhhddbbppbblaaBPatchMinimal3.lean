/- Texts of the claim, merged by a program; what the statement does not reach is left out. -/
import Derived.Test.YtnhhddbbppbblaaBPatchMinimal2
import Derived.ChangeArms
import Derived.ChangeSlices
import Derived.ChangeOld
import Derived.Carry
import GoSem.ClaimJoined

section
/-
  Strings: equality and order.
-/
namespace Go.Pv
theorem Qr8 (b : ByteArray) : ∀ (n i : Nat) (acc : List UInt8), b.size - i = n → ByteArray.toList.loop b i acc = acc.reverse ++ b.data.toList.drop i := by
  intro n
  induction n with
  | zero =>
    intro i acc h
    unfold ByteArray.toList.loop
    have h1 : ¬ i < b.size := by omega
    rw [if_neg h1]
    have : b.data.toList.drop i = [] := by
      rw [List.drop_eq_nil_iff]
      have : b.data.toList.length = b.size := Array.length_toList
      omega
    rw [this, List.append_nil]
  | succ n ih =>
    intro i acc h
    unfold ByteArray.toList.loop
    have h1 : i < b.size := by omega
    rw [if_pos h1, ih (i + 1) _ (by omega)]
    have hl : i < b.data.toList.length := by rw [show b.data.toList.length = b.size from Array.length_toList]; exact h1
    rw [List.drop_eq_getElem_cons hl, List.reverse_cons, List.append_assoc]
    congr 1
    simp only [List.singleton_append, List.cons.injEq, and_true]
    have : b.data.size = b.size := rfl
    simp [ByteArray.get!, h1, this]
theorem toList_data (b : ByteArray) : b.toList = b.data.toList := by
  unfold ByteArray.toList
  rw [Qr8 b _ 0 [] rfl]
  simp
theorem toList_inj {a b : ByteArray} (h : a.toList = b.toList) : a = b := by
  rw [toList_data, toList_data] at h
  cases a
  cases b
  simp at h
  rw [h]
theorem Q3e {a b : ByteArray} : sEq a b = true ↔ a = b := by
  unfold sEq
  rw [beq_iff_eq]
  exact ⟨toList_inj, fun h => by rw [h]⟩
theorem Q15s (a b : ByteArray) : sEq a b = decide (a = b) := by
  rw [Bool.eq_iff_iff, Q3e]
  simp
mutual
inductive Val where
  | mk (kind n : Int) (s : ByteArray) (list : List Val) (fields : List Fld)
inductive Fld where
  | mk (name : ByteArray) (v : Val)
end
def Val.kind : Val → Int
  | .mk k _ _ _ _ => k
def Val.n : Val → Int
  | .mk _ n _ _ _ => n
def Val.s : Val → ByteArray
  | .mk _ _ s _ _ => s
def Val.list : Val → List Val
  | .mk _ _ _ l _ => l
def Val.fields : Val → List Fld
  | .mk _ _ _ _ f => f
def Fld.name : Fld → ByteArray
  | .mk n _ => n
def Fld.v : Fld → Val
  | .mk _ v => v
theorem Val.eta (v : Val) : Val.mk v.kind v.n v.s v.list v.fields = v := by cases v; rfl
theorem Fld.eta (f : Fld) : Fld.mk f.name f.v = f := by cases f; rfl
mutual
def Val.cs : Val → List PV
  | .mk k n s l f => [.int .i64 k, .int .i64 n, .str s, .sl (Val.css l), .sl (Fld.css f)]
def Val.css : List Val → List (List PV)
  | [] => []
  | v :: r => v.cs :: Val.css r
def Fld.css : List Fld → List (List PV)
  | [] => []
  | f :: r => f.cs :: Fld.css r
def Fld.cs : Fld → List PV
  | .mk n v => .str n :: v.cs
end
def Val.rows (l : List Val) : List (List PV) := Val.css l
def Fld.rows (l : List Fld) : List (List PV) := Fld.css l
def Val.cells (v : Val) : List PV := [.int .i64 v.kind, .int .i64 v.n, .str v.s, .sl (Val.rows v.list), .sl (Fld.rows v.fields)]
def Fld.cells (f : Fld) : List PV := [.str f.name, .int .i64 f.v.kind, .int .i64 f.v.n, .str f.v.s, .sl (Val.rows f.v.list), .sl (Fld.rows f.v.fields)]
theorem Val.Q165 (v : Val) : v.cs = v.cells := by cases v; rfl
theorem Fld.Q165 (f : Fld) : f.cs = f.cells := by
  cases f with
  | mk n v => cases v; rfl
theorem Val.Q2t : Val.rows [] = [] := rfl
theorem Fld.Q2t : Fld.rows [] = [] := rfl
theorem Val.Q1z (v : Val) (l : List Val) : Val.rows (v :: l) = v.cells :: Val.rows l := by
  rw [← Val.Q165]
  rfl
theorem Fld.Q1z (v : Fld) (l : List Fld) : Fld.rows (v :: l) = v.cells :: Fld.rows l := by
  rw [← Fld.Q165]
  rfl
theorem Val.Q2l : ∀ l : List Val, Val.rows l = l.map Val.cells
  | [] => rfl
  | v :: r => by rw [Val.Q1z, Val.Q2l r]; rfl
theorem Fld.Q2l : ∀ l : List Fld, Fld.rows l = l.map Fld.cells
  | [] => rfl
  | v :: r => by rw [Fld.Q1z, Fld.Q2l r]; rfl
theorem Val.Qd (l : List Val) : (Val.rows l).length = l.length := by simp [Val.Q2l]
theorem Fld.Qd (l : List Fld) : (Fld.rows l).length = l.length := by simp [Fld.Q2l]
theorem Val.Qf {l : List Val} {i : Nat} {x : Val} (h : l[i]? = some x) : (Val.rows l)[i]? = some (Val.cells x) := by rw [Val.Q2l]; exact Go.Pv.Qf h
theorem Fld.Qf {l : List Fld} {i : Nat} {x : Fld} (h : l[i]? = some x) : (Fld.rows l)[i]? = some (Fld.cells x) := by rw [Fld.Q2l]; exact Go.Pv.Qf h
theorem Val.Q72 (l : List Val) (x : Val) : Val.rows (l ++ [x]) = Val.rows l ++ [Val.cells x] := by simp [Val.Q2l]
theorem Fld.Q72 (l : List Fld) (x : Fld) : Fld.rows (l ++ [x]) = Fld.rows l ++ [Fld.cells x] := by simp [Fld.Q2l]
theorem Val.Ql5 (l : List Val) (n : Nat) : Val.rows (l.take n) = (Val.rows l).take n := by simp [Val.Q2l, List.map_take]
theorem Fld.Ql5 (l : List Fld) (n : Nat) : Fld.rows (l.take n) = (Fld.rows l).take n := by simp [Fld.Q2l, List.map_take]
theorem Val.Qq (l : List Val) : ∀ r ∈ Val.rows l, r.length = 5 := by rw [Val.Q2l]; exact Qya (f := Val.cells) (fun _ => rfl) l
theorem Fld.Qq (l : List Fld) : ∀ r ∈ Fld.rows l, r.length = 6 := by rw [Fld.Q2l]; exact Qya (f := Fld.cells) (fun _ => rfl) l
theorem Val.Q5 (l : List Val) (sz : Nat) (h : sz = 5) : ViewOK sz (Val.rows l).flatten (Val.rows l) := by subst h; exact ⟨rfl, Val.Qq l, by rw [Val.Q2l]; exact Qtu (f := Val.cells) (fun _ => rfl) l⟩
theorem Fld.Q5 (l : List Fld) (sz : Nat) (h : sz = 6) : ViewOK sz (Fld.rows l).flatten (Fld.rows l) := by subst h; exact ⟨rfl, Fld.Qq l, by rw [Fld.Q2l]; exact Qtu (f := Fld.cells) (fun _ => rfl) l⟩
theorem Val.Q27 (v : Val) : SizeOf.sizeOf v.list < SizeOf.sizeOf v := by
  cases v with
  | mk k n s l f => simp only [Val.list, Val.mk.sizeOf_spec]; omega
theorem Val.Q1f (v : Val) : SizeOf.sizeOf v.fields < SizeOf.sizeOf v := by
  cases v with
  | mk k n s l f => simp only [Val.fields, Val.mk.sizeOf_spec]; omega
theorem Fld.lt_v (f : Fld) : SizeOf.sizeOf f.v < SizeOf.sizeOf f := by
  cases f with
  | mk n v => simp only [Fld.v, Fld.mk.sizeOf_spec]; omega
theorem szL {v x : Val} {i : Nat} (h : v.list[i]? = some x) : SizeOf.sizeOf x < SizeOf.sizeOf v :=
  Nat.lt_trans (List.sizeOf_lt_of_mem (Ql h)) v.Q27
theorem szF {v : Val} {x : Fld} {i : Nat} (h : v.fields[i]? = some x) : SizeOf.sizeOf x.v < SizeOf.sizeOf v :=
  Nat.lt_trans x.lt_v (Nat.lt_trans (List.sizeOf_lt_of_mem (Ql h)) v.Q1f)
inductive Val.Sm (B : Nat) : Val → Prop
  | mk (v : Val) (hl : v.list.length ≤ B) (hf : v.fields.length ≤ B) (sl : ∀ x ∈ v.list, Val.Sm B x) (sf : ∀ x ∈ v.fields, Val.Sm B x.v) : Val.Sm B v
theorem Val.Sm.all {B : Nat} {v : Val} (h : Val.Sm B v) : v.list.length ≤ B ∧ v.fields.length ≤ B ∧ (∀ x ∈ v.list, Val.Sm B x) ∧ (∀ x ∈ v.fields, Val.Sm B x.v) := by
  cases h with
  | mk _ h1 h2 h3 h4 => exact ⟨h1, h2, h3, h4⟩
theorem Val.Sm.mono {B C : Nat} (hb : B ≤ C) {v : Val} (h : Val.Sm B v) : Val.Sm C v := by
  induction h with
  | mk v h1 h2 _ _ i1 i2 => exact .mk v (by omega) (by omega) i1 i2
theorem Val.Sm.leaf {B : Nat} (k n : Int) (s : ByteArray) : Val.Sm B (.mk k n s [] []) := .mk _ (Nat.zero_le _) (Nat.zero_le _) (fun _ h => by cases h) (fun _ h => by cases h)
theorem Val.Sm.getD {B : Nat} {l : List Val} (h : ∀ x ∈ l, Val.Sm B x) (i : Nat) (k n : Int) (s : ByteArray) : Val.Sm B (l.getD i (.mk k n s [] [])) := by
  by_cases c : i < l.length
  · have := Qu l i (.mk k n s [] []) c
    exact h _ (Ql this)
  · rw [List.getD_eq_getElem?_getD, List.getElem?_eq_none (by omega)]
    exact .leaf k n s
inductive Q31 : Val → Prop
  | mk (v : Val) (h1 : Qvs v.kind) (h2 : Qvs v.n) (h3 : okS v.s) (hl : v.list.length * 80 ≤ 140737488351232) (hf : v.fields.length * 96 ≤ 140737488351232) (sl : ∀ x ∈ v.list, Q31 x) (sn : ∀ x ∈ v.fields, okS x.name) (sf : ∀ x ∈ v.fields, Q31 x.v) : Q31 v
def Q17u (f : Fld) : Prop := okS f.name ∧ Q31 f.v
theorem Q31.all {v : Val} (h : Q31 v) : Qvs v.kind ∧ Qvs v.n ∧ okS v.s ∧ v.list.length * 80 ≤ 140737488351232 ∧ v.fields.length * 96 ≤ 140737488351232 ∧ (∀ x ∈ v.list, Q31 x) ∧ (∀ x ∈ v.fields, okS x.name ∧ Q31 x.v) := by
  cases h with
  | mk _ a b c d e f n g => exact ⟨a, b, c, d, e, f, fun x hx => ⟨n x hx, g x hx⟩⟩
theorem Q31.sm {v : Val} (h : Q31 v) : Val.Sm 4611686018427387904 v := by
  induction h with
  | mk v _ _ _ hl hf _ _ _ i1 i2 => exact .mk v (by omega) (by omega) i1 i2
def Q6x (t : Nat) : Ty := .st [.int .i64, .int .i64, .str, .sl 80 (.nm t), .sl 96 (.st [.str, .nm t])]
theorem Qfl {Γ : Nat → Option Ty} {t : Nat} (hΓ : Γ t = some (Q6x t)) : ∀ (k : Nat) (c : List PV), SizeOf.sizeOf c < k → Of Γ (.nm t) c → ∃ v : Val, c = v.cells ∧ Q31 v
  | 0, _, h, _ => absurd h (Nat.not_lt_zero _)
  | k + 1, c, hk, h => by
    have hb : Of Γ (Q6x t) c := by
      cases h with
      | nm _ ty _ hg h =>
        rw [hΓ] at hg
        injection hg with hg
        subst hg
        exact h
    have g0 := hb.st1
    obtain ⟨a0, b0, rfl, h0, g1⟩ := g0.Q7o
    obtain ⟨x0, rfl, k0⟩ := h0.i64
    obtain ⟨a1, b1, rfl, h1, g2⟩ := g1.Q7o
    obtain ⟨x1, rfl, k1⟩ := h1.i64
    obtain ⟨a2, b2, rfl, h2, g3⟩ := g2.Q7o
    obtain ⟨x2, rfl, k2⟩ := h2.str1
    obtain ⟨a3, b3, rfl, h3, g4⟩ := g3.Q7o
    obtain ⟨a4, b4, rfl, h4, g5⟩ := g4.Q7o
    have e := g5.empty
    subst e
    cases h3 with
    | sl _ _ l3 hl3 hr3 =>
    cases h4 with
    | sl _ _ l4 hl4 hr4 =>
    have s3 : SizeOf.sizeOf l3 < k := by simp at hk; omega
    have s4 : SizeOf.sizeOf l4 < k := by simp at hk; omega
    obtain ⟨x3, rfl, k3⟩ := Q80 (f := Val.cells) (ok := Q31) l3 (fun r hr' => Qfl hΓ k r (by have := List.sizeOf_lt_of_mem hr'; omega) (hr3 r hr'))
    obtain ⟨x4, rfl, k4⟩ := Q80 (f := Fld.cells) (ok := Q17u) l4 (fun r hr' => by
      have q0 := (hr4 r hr').st1
      obtain ⟨c0, d0, rfl, i0, q1⟩ := q0.Q7o
      obtain ⟨y0, rfl, m0⟩ := i0.str1
      obtain ⟨c1, d1, rfl, i1, q2⟩ := q1.Q7o
      have e := q2.empty
      subst e
      obtain ⟨y1, rfl, m1⟩ := Qfl hΓ k c1 (by have := List.sizeOf_lt_of_mem hr'; simp at this; omega) i1
      exact ⟨.mk y0 y1, by simp [Fld.cells, Val.cells, Fld.name, Fld.v], m0, m1⟩)
    rw [List.length_map] at hl3 hl4
    refine ⟨.mk x0 x1 x2 x3 x4, ?_, .mk _ k0 k1 k2 hl3 hl4 k3 (fun x hx => (k4 x hx).1) (fun x hx => (k4 x hx).2)⟩
    simp [Val.cells, Val.kind, Val.n, Val.s, Val.list, Val.fields, Val.Q2l, Fld.Q2l]
theorem Qsq {Γ : Nat → Option Ty} {t : Nat} (hΓ : Γ t = some (Q6x t)) {c : List PV} (h : Of Γ (.nm t) c) : ∃ v : Val, c = v.cells ∧ Q31 v := Qfl hΓ _ c (Nat.lt_succ_self _) h
theorem Q2d {α : Type} [SizeOf α] (x : α) (r : List α) : SizeOf.sizeOf x < SizeOf.sizeOf (x :: r) := by
  simp only [List.cons.sizeOf_spec]
  omega
theorem Q23 {α : Type} [SizeOf α] (x : α) (r : List α) : SizeOf.sizeOf r < SizeOf.sizeOf (x :: r) := by
  simp only [List.cons.sizeOf_spec]
  omega
theorem Q1s (x : Fld) (r : List Fld) : SizeOf.sizeOf x.v < SizeOf.sizeOf (x :: r) := Nat.lt_trans x.lt_v (Q2d x r)
def gam (t : Nat) : Nat → Option Ty := fun k => bif Nat.beq k t then some (Q6x t) else none
theorem Q148 (t : Nat) : gam t t = some (Q6x t) := by simp [gam]
theorem gam_tab {P : Program} {t : Nat} (h : Q88 P (gam t) (Q6x t) t = true) : TabOK P (gam t) := by
  intro k ty hk
  unfold gam at hk
  cases c : Nat.beq k t with
  | false => rw [c] at hk; cases hk
  | true =>
    rw [c] at hk
    simp only [cond_true, Option.some.injEq] at hk
    subst hk
    rw [Nat.eq_of_beq_eq_true c]
    exact ⟨rfl, h⟩
end Go.Pv
namespace Go.Pv
theorem Qmx {G : Nat → Option Fun} {e e' : En} {r : Rs} (h : Q7 G e r) (he : e = e') : Q7 G e' r := he ▸ h
end Go.Pv
end

section
/- Strings byte by byte; rows that are cloned. -/
namespace Go.Pv
def letters (s : ByteArray) : List Int := s.data.toList.map fun b => (b.toNat : Int)
theorem Q4e (s : ByteArray) : (letters s).length = s.size := by
  unfold letters
  rw [List.length_map, Array.length_toList]
  rfl
def sixE (s : ByteArray) (i : Int) : Option Eff := (opP (fun _ => .un) (.index (.c (.str s)) (.c (.int .i64 i)))).bind fun v => some ⟨v, [], []⟩
theorem Q1c (s : ByteArray) (i : Nat) (x : Int) (h : (letters s)[i]? = some x) : sixE s (i : Int) = some (vE (.int .u8 x)) := by
  unfold sixE
  simp only [opP, Opd.ev, asNat]
  rw [show decide (0 ≤ (i : Int)) = true by simp]
  simp only [cond_true, Option.bind_some, Int.toNat_natCast]
  unfold letters at h
  rw [List.getElem?_map, Array.getElem?_toList] at h
  cases e : s.data[i]? with
  | none => rw [e] at h; cases h
  | some b =>
    rw [e] at h
    injection h with h
    subst h
    rfl
theorem Qxw : ∀ p, plain p = true → bare p = true := fun p h => by cases p <;> first | rfl | (cases h)
theorem Q5w {G : Nat → Option Fun} {f sz bytes : Nat} (hG : G f = some (.ax (Qgi sz bytes))) {rows : List (List PV)} {n : Nat} (hn : rows.length = n) (hv : ViewOK sz rows.flatten rows) (hb : n * bytes ≤ 140737488355328) :
    Q7 G (.call f [.sl rows] []) (.ret (.ms 0 sz 0 n) [⟨sz, 0, true, rows.flatten⟩]) := by
  refine ⟨1, ?_⟩
  subst hn
  simp only [runs, phi, hG, Qgi]
  have h1 : Q64 rows sz = true := Q12o hv.size
  have h2 : rows.flatten.all bare = true := List.all_eq_true.2 fun p hp => Qxw p (hv.all p hp)
  rw [h1, h2, Nat.ble_eq_true_of_le hb]
  rfl
end Go.Pv
namespace Go.Pv
theorem szM {v x : Val} (h : x ∈ v.list) : SizeOf.sizeOf x < SizeOf.sizeOf v := Nat.lt_trans (List.sizeOf_lt_of_mem h) v.Q27
theorem szN {v : Val} {x : Fld} (h : x ∈ v.fields) : SizeOf.sizeOf x.v < SizeOf.sizeOf v := Nat.lt_trans x.lt_v (Nat.lt_trans (List.sizeOf_lt_of_mem h) v.Q1f)
end Go.Pv
end

section
/-
  What a law is handed, where its bulk is bounded: nothing within is longer.
-/
namespace Go.Pv
open Go.RowKit
inductive Cap (N : Nat) : PV → Prop
  | bool (b : Bool) : Cap N (.bool b)
  | int (k : IntKind) (n : Int) : Cap N (.int k n)
  | str (s : ByteArray) (h : s.size ≤ N) : Cap N (.str s)
  | sl (l : List (List PV)) (h : l.length ≤ N) (hl : ∀ r ∈ l, ∀ p ∈ r, Cap N p) : Cap N (.sl l)
def CapL (N : Nat) (c : List PV) : Prop := ∀ p ∈ c, Cap N p
theorem CapL.one {N : Nat} {p : PV} (h : Cap N p) : CapL N [p] := fun q hq => by
  rw [List.mem_singleton] at hq
  subst hq
  exact h
inductive CapD {H : Type} (N : Nat) : DataW H → Prop
  | lit (l : Lit) (h : ∀ b, l = .string b → b.length ≤ N) : CapD N (.lit l)
  | agg (parts : List (DataW H)) (h : ∀ d ∈ parts, CapD N d) : CapD N (.agg parts)
  | slice (elems spare : List (DataW H)) (h : elems.length ≤ N) (hl : ∀ d ∈ elems, CapD N d) : CapD N (.slice elems spare)
  | nil : CapD N .nil
  | ptr (d : DataW H) : CapD N (.ptr d)
  | iface (t : String) (d : DataW H) : CapD N (.iface t d)
  | map (e : List (Lit × DataW H)) : CapD N (.map e)
  | held (h : H) : CapD N (.held h)
def ArgB (Γ : Nat → Option Ty) (N : Nat) (ty : Ty) (p : PV) : Prop := ∃ c, Of Γ ty c ∧ CapL N c ∧ (bif ty.isSt Γ then p = .agg c else c = [p])
section
variable {H : Type} {enc : TypeId × Value → H} {P : Program} {w : World} {base : Nat} {sp : Nat → Bool} {held : Bool} {Γ : Nat → Option Ty} {N : Nat}
end
theorem ArgB.one {Γ : Nat → Option Ty} {N : Nat} {ty : Ty} {p : PV} (h : ArgB Γ N ty p) (hs : ty.isSt Γ = false) : Of Γ ty [p] ∧ CapL N [p] := by
  obtain ⟨c, hc, hb, hp⟩ := h
  rw [hs] at hp
  have hp : c = [p] := hp
  subst hp
  exact ⟨hc, hb⟩
theorem ArgB.agg {Γ : Nat → Option Ty} {N : Nat} {ty : Ty} {p : PV} (h : ArgB Γ N ty p) (hs : ty.isSt Γ = true) : ∃ c, p = .agg c ∧ Of Γ ty c ∧ CapL N c := by
  obtain ⟨c, hc, hb, hp⟩ := h
  rw [hs] at hp
  exact ⟨c, hp, hc, hb⟩
end Go.Pv
end

section
/- What the functions on values compute (printed by a program). -/
namespace Go.Proofs.Ytnhhddbbppbblaa
open Go.Pv
abbrev G : Nat → Option Fun := tabG Ir.table
abbrev Γ : Nat → Option Ty := gam 25
theorem Q13h (a b : ByteArray) : Q7 G (.call 54 [.str a, .str b] []) (.ret (.int .i64 (sCmp a b)) []) := ⟨1, by kernel_rfl⟩
mutual
def Q4p (p0 : Val) (p1 : Int) : Int :=
 (Q3a p0 p0.fields 0 (Q2o p0 p0.list 0 (w64 ((w64 (p1 - 1)) - (ByteArray.size p0.s : Int)))))
termination_by SizeOf.sizeOf p0
decreasing_by all_goals first | exact Val.Q27 _ | exact Val.Q1f _ | exact Q2d _ _ | exact Q23 _ _ | exact Q1s _ _
def Q2o (p0 : Val) : List Val → Nat → Int → Int
 | [], _i0, v0_1 =>
  v0_1
 | x0 :: r0, i0, v0_1 =>
  bif (decide (0 ≤ v0_1)) then
   Q2o p0 r0 (i0 + 1) (Q4p x0 v0_1)
  else
   v0_1
termination_by l => SizeOf.sizeOf l
decreasing_by all_goals first | exact Val.Q27 _ | exact Val.Q1f _ | exact Q2d _ _ | exact Q23 _ _ | exact Q1s _ _
def Q3a (p0 : Val) : List Fld → Nat → Int → Int
 | [], _i1, v1_1 =>
  v1_1
 | x1 :: r1, i1, v1_1 =>
  bif (decide (0 ≤ v1_1)) then
   Q3a p0 r1 (i1 + 1) (Q4p x1.v (w64 (v1_1 - (ByteArray.size x1.name : Int))))
  else
   v1_1
termination_by l => SizeOf.sizeOf l
decreasing_by all_goals first | exact Val.Q27 _ | exact Val.Q1f _ | exact Q2d _ _ | exact Q23 _ _ | exact Q1s _ _
end
def Qpj (_p0 : Val) (i0 : Nat) (v0_1 : Int) : List PV :=
  [.un, .int .i64 v0_1, .bx 0 0, .un, .un, .int .i64 (i0 : Int), .un, .un, .un, .un, .un, .un, .un, .un, .un, .un, .un, .un, .un, .un, .un, .un, .un, .un, .un, .un, .un, .un, .un, .un, .un, .un, .un, .un, .un, .un, .un, .un, .un, .un, .un, .un, .un, .un, .un, .un, .un, .un, .un, .un, .un, .un, .un, .un, .un, .un, .un, .un, .un]
def Qo4 (p0 : Val) (_i0 : Nat) (_v0_1 : Int) : List Ob :=
  [⟨5, 0, true, [.int .i64 p0.kind, .int .i64 p0.n, .str p0.s, .sl (Val.rows p0.list), .sl (Fld.rows p0.fields)]⟩]
def Q9g (p0 : Val) (i0 : Nat) (v0_1 : Int) : En := .loop 0 Ir.Qeq Ir.Q14s (Qpj p0 i0 v0_1) (Qo4 p0 i0 v0_1)
def Qad (p0 : Val) (q0 : Int) (z : Nat → PV) (_zo : Nat → List PV) : St :=
  ⟨[z 0, .int .i64 q0, .bx 0 0, z 3, z 4, z 5, z 6, z 7, z 8, z 9, z 10, z 11, z 12, z 13, z 14, z 15, z 16, z 17, z 18, z 19, z 20, z 21, z 22, z 23, z 24, z 25, z 26, z 27, z 28, z 29, z 30, z 31, z 32, z 33, z 34, z 35, z 36, z 37, z 38, z 39, z 40, z 41, z 42, z 43, z 44, z 45, z 46, z 47, z 48, z 49, z 50, z 51, z 52, z 53, z 54, z 55, z 56, z 57, z 58], [(0, ⟨5, 0, true, [.int .i64 p0.kind, .int .i64 p0.n, .str p0.s, .sl (Val.rows p0.list), .sl (Fld.rows p0.fields)]⟩)], 577⟩
def Q9b (p0 : Val) (e : En) (q : Int) : Prop := ∃ z zo, Q7 G e (.st (.exit 0) (Qad p0 q z zo))
theorem Ql3 (p0 : Val) {e e' : En} (h : ∀ r, Q7 G e r → Q7 G e' r) : ∀ q, Q9b p0 e q → Q9b p0 e' q
  | _, ⟨z, zo, hz⟩ => ⟨z, zo, h _ hz⟩
def Qq7 (_p0 : Val) (i1 : Nat) (v1_1 : Int) : List PV :=
  [.un, .int .i64 v1_1, .bx 0 0, .un, .un, .un, .int .i64 (i1 : Int), .un, .un, .un, .un, .un, .un, .un, .un, .un, .un, .un, .un, .un, .un, .un, .un, .un, .un, .un, .un, .un, .un, .un, .un, .un, .un, .un, .un, .un, .un, .un, .un, .un, .un, .un, .un, .un, .un, .un, .un, .un, .un, .un, .un, .un, .un, .un, .un, .un, .un, .un, .un]
def Qmh (p0 : Val) (_i1 : Nat) (_v1_1 : Int) : List Ob :=
  [⟨5, 0, true, [.int .i64 p0.kind, .int .i64 p0.n, .str p0.s, .sl (Val.rows p0.list), .sl (Fld.rows p0.fields)]⟩]
def Q8f (p0 : Val) (i1 : Nat) (v1_1 : Int) : En := .loop 0 Ir.Qfg Ir.Q14p (Qq7 p0 i1 v1_1) (Qmh p0 i1 v1_1)
def Q9s (p0 : Val) (q0 : Int) (z : Nat → PV) (_zo : Nat → List PV) : St :=
  ⟨[z 0, .int .i64 q0, z 2, z 3, z 4, z 5, z 6, z 7, z 8, z 9, z 10, z 11, z 12, z 13, z 14, z 15, z 16, z 17, z 18, z 19, z 20, z 21, z 22, z 23, z 24, z 25, z 26, z 27, z 28, z 29, z 30, z 31, z 32, z 33, z 34, z 35, z 36, z 37, z 38, z 39, z 40, z 41, z 42, z 43, z 44, z 45, z 46, z 47, z 48, z 49, z 50, z 51, z 52, z 53, z 54, z 55, z 56, z 57, z 58], [(0, ⟨5, 0, true, [.int .i64 p0.kind, .int .i64 p0.n, .str p0.s, .sl (Val.rows p0.list), .sl (Fld.rows p0.fields)]⟩)], 577⟩
def Q8k (p0 : Val) (e : En) (q : Int) : Prop := ∃ z zo, Q7 G e (.st (.exit 2) (Q9s p0 q z zo))
theorem Qlq (p0 : Val) {e e' : En} (h : ∀ r, Q7 G e r → Q7 G e' r) : ∀ q, Q8k p0 e q → Q8k p0 e' q
  | _, ⟨z, zo, hz⟩ => ⟨z, zo, h _ hz⟩
def Q13y (p0 : Val) (p1 : Int) : En := .call 37 [.agg (Val.cells p0), .int .i64 p1] []
def Q109 (p0 : Val) (p1 : Int) : Rs := .ret (.int .i64 (Q4p p0 p1)) []
abbrev Qpb (p0 : Val) : Prop := Val.Sm 4611686018427387904 p0
def Q5x (p0 : Val) : Prop := ∀ (q : Val), SizeOf.sizeOf q < SizeOf.sizeOf p0 → ∀ (p1 : Int), Qpb q → Q7 G (Q13y q p1) (Q109 q p1)
def Q7c (p0 : Val) : Prop := (List.length p0.list ≤ 4611686018427387904) ∧ (∀ x0 ∈ p0.list, Qpb x0) ∧ True
def Q78 (p0 : Val) : Prop := (List.length p0.fields ≤ 4611686018427387904) ∧ (∀ x1 ∈ p0.fields, Qpb x1.v) ∧ True
theorem Qu8 (p0 : Val) (_p1 : Int) (H : Qpb p0) : (Q7c p0) ∧ (Q78 p0) ∧ True := by
  obtain ⟨h1, h2, h3, h4⟩ := H.all
  simp only [Q7c, Q78]
  exact ⟨⟨h1, h3, trivial⟩, ⟨h2, h4, trivial⟩, trivial⟩
def Qh2 (p0 : Val) (i0 : Nat) (_v0_1 : Int) : List PV :=
  [.un, .un, .un, .un, .un, .int .i64 (i0 : Int), .un, .un, .un, .un, .un, .un, .un, .int .i64 (i0 : Int), .bx 0 3, .sl (Val.rows p0.list), .int .i64 ((List.length p0.list) : Int), .bool false, .bool false, .tup [], .tup [], .bool false]
def Qd4 (_p0 : Val) (_i0 : Nat) (_v0_1 : Int) : List (Nat × List PV) :=
  []
theorem Qva (p0 : Val) (_H : Q7c p0) (_rec : Q5x p0) (i0 : Nat) (v0_1 : Int) (hc0 : (decide ((i0 : Int) < ((List.length p0.list) : Int))) = false) : Q9b p0 (Q9g p0 i0 v0_1) v0_1 := by
 exact ⟨(envF (Qh2 p0 i0 v0_1)), (zoF (Qd4 p0 i0 v0_1)), Qe VOK.nil (x := ((.exit 0), Qad p0 v0_1 (envF (Qh2 p0 i0 v0_1)) (zoF (Qd4 p0 i0 v0_1)))) [hP 3 (Qi (Val.rows p0.list) (List.length p0.list) (Val.Qd p0.list)), hB 0 hc0] [] (by kernel_rfl)⟩
theorem Qwj (p0 : Val) (H : Q7c p0) (rec : Q5x p0) (x0 : Val) (i0 : Nat) (v0_1 : Int) (hx0 : p0.list[i0]? = some x0) (hi0 : i0 < List.length p0.list) (hc0 : (decide ((i0 : Int) < ((List.length p0.list) : Int))) = true) (h0 : (decide (0 ≤ v0_1)) = true) {r : Rs} (hr : Q7 G (Q9g p0 (i0 + 1) (Q4p x0 v0_1)) r) : Q7 G (Q9g p0 i0 v0_1) r := by
 have hB0 := H.1; have e0 := of_decide_eq_true h0
 exact Q9 VOK.nil (y := (Qpj p0 (i0 + 1) (Q4p x0 v0_1), Qo4 p0 (i0 + 1) (Q4p x0 v0_1))) [hP 3 (Qi (Val.rows p0.list) (List.length p0.list) (Val.Qd p0.list)), hB 0 hc0, hB 2 h0, hP 4 (Q18 5 (Val.rows p0.list) i0 _ (Val.Qf hx0) rfl), hP 5 (Qt i0 (by omega))] [aN (rec x0 (szL hx0) v0_1 (H.2.1 x0 (Ql hx0)))] (by kernel_rfl) hr
def Qho (p0 : Val) (i0 : Nat) (v0_1 : Int) (_x0 : Val) : List PV :=
  [.un, .un, .un, .un, .un, .int .i64 (i0 : Int), .un, .un, .un, .un, .un, .un, .un, .int .i64 (i0 : Int), .bx 0 3, .sl (Val.rows p0.list), .int .i64 ((List.length p0.list) : Int), .bool true, .bool true, .int .i64 v0_1, .bool false, .bool false]
def Qc9 (_p0 : Val) (_i0 : Nat) (_v0_1 : Int) (_x0 : Val) : List (Nat × List PV) :=
  []
theorem Qv6 (p0 : Val) (_H : Q7c p0) (_rec : Q5x p0) (x0 : Val) (i0 : Nat) (v0_1 : Int) (_hx0 : p0.list[i0]? = some x0) (_hi0 : i0 < List.length p0.list) (hc0 : (decide ((i0 : Int) < ((List.length p0.list) : Int))) = true) (h0 : (decide (0 ≤ v0_1)) = false) : Q9b p0 (Q9g p0 i0 v0_1) v0_1 := by
 exact ⟨(envF (Qho p0 i0 v0_1 x0)), (zoF (Qc9 p0 i0 v0_1 x0)), Qe VOK.nil (x := ((.exit 0), Qad p0 v0_1 (envF (Qho p0 i0 v0_1 x0)) (zoF (Qc9 p0 i0 v0_1 x0)))) [hP 3 (Qi (Val.rows p0.list) (List.length p0.list) (Val.Qd p0.list)), hB 0 hc0, hB 2 h0] [] (by kernel_rfl)⟩
theorem Qnv (p0 : Val) (H : Q7c p0) (rec : Q5x p0) : ∀ (r0 : List Val) (i0 : Nat) (v0_1 : Int), List.drop i0 p0.list = r0 → Q9b p0 (Q9g p0 i0 v0_1) (Q2o p0 r0 i0 v0_1)
 | [], i0, v0_1, hd => by
  have hc0 : (decide ((i0 : Int) < ((List.length p0.list) : Int))) = false := by have := Q1k hd; simp; omega
  rw [Q2o]
  exact Qva p0 H rec i0 v0_1 hc0
 | x0 :: r0, i0, v0_1, hd => by
  obtain ⟨hx0, hi0, hd'⟩ := Q15 hd
  have hc0 : (decide ((i0 : Int) < ((List.length p0.list) : Int))) = true := by simp; omega
  rw [Q2o]
  cases h0 : (decide (0 ≤ v0_1)) with
  | true =>
   exact Ql3 p0 (fun r hr => Qwj p0 H rec x0 i0 v0_1 hx0 hi0 hc0 h0 hr) _ (Qnv p0 H rec r0 (i0 + 1) (Q4p x0 v0_1) hd')
  | false =>
   exact Qv6 p0 H rec x0 i0 v0_1 hx0 hi0 hc0 h0
def Qhg (p0 : Val) (i1 : Nat) (_v1_1 : Int) : List PV :=
  [.un, .un, .bx 0 0, .un, .un, .un, .int .i64 (i1 : Int), .un, .un, .un, .un, .un, .un, .un, .un, .un, .un, .un, .un, .un, .un, .un, .un, .un, .un, .un, .un, .un, .un, .un, .un, .int .i64 (i1 : Int), .bx 0 4, .sl (Fld.rows p0.fields), .int .i64 ((List.length p0.fields) : Int), .bool false, .bool false, .tup [], .tup [], .bool false]
def Qfh (_p0 : Val) (_i1 : Nat) (_v1_1 : Int) : List (Nat × List PV) :=
  []
theorem Qvi (p0 : Val) (_H : Q78 p0) (_rec : Q5x p0) (i1 : Nat) (v1_1 : Int) (hc1 : (decide ((i1 : Int) < ((List.length p0.fields) : Int))) = false) : Q8k p0 (Q8f p0 i1 v1_1) v1_1 := by
 exact ⟨(envF (Qhg p0 i1 v1_1)), (zoF (Qfh p0 i1 v1_1)), Qe VOK.nil (x := ((.exit 2), Q9s p0 v1_1 (envF (Qhg p0 i1 v1_1)) (zoF (Qfh p0 i1 v1_1)))) [hP 3 (Qi (Fld.rows p0.fields) (List.length p0.fields) (Fld.Qd p0.fields)), hB 0 hc1] [] (by kernel_rfl)⟩
theorem Qvv (p0 : Val) (H : Q78 p0) (rec : Q5x p0) (x1 : Fld) (i1 : Nat) (v1_1 : Int) (hx1 : p0.fields[i1]? = some x1) (hi1 : i1 < List.length p0.fields) (hc1 : (decide ((i1 : Int) < ((List.length p0.fields) : Int))) = true) (h0 : (decide (0 ≤ v1_1)) = true) {r : Rs} (hr : Q7 G (Q8f p0 (i1 + 1) (Q4p x1.v (w64 (v1_1 - (ByteArray.size x1.name : Int))))) r) : Q7 G (Q8f p0 i1 v1_1) r := by
 have hB0 := H.1; have e0 := of_decide_eq_true h0
 exact Q9 VOK.nil (y := (Qq7 p0 (i1 + 1) (Q4p x1.v (w64 (v1_1 - (ByteArray.size x1.name : Int)))), Qmh p0 (i1 + 1) (Q4p x1.v (w64 (v1_1 - (ByteArray.size x1.name : Int)))))) [hP 3 (Qi (Fld.rows p0.fields) (List.length p0.fields) (Fld.Qd p0.fields)), hB 0 hc1, hB 2 h0, hP 4 (Q18 6 (Fld.rows p0.fields) i1 _ (Fld.Qf hx1) rfl), hP 6 (Q18 6 (Fld.rows p0.fields) i1 _ (Fld.Qf hx1) rfl), hP 7 (Qt i1 (by omega))] [aN (rec x1.v (szF hx1) (w64 (v1_1 - (ByteArray.size x1.name : Int))) (H.2.1 x1 (Ql hx1)))] (by kernel_rfl) hr
def Qjp (p0 : Val) (i1 : Nat) (v1_1 : Int) (_x1 : Fld) : List PV :=
  [.un, .un, .bx 0 0, .un, .un, .un, .int .i64 (i1 : Int), .un, .un, .un, .un, .un, .un, .un, .un, .un, .un, .un, .un, .un, .un, .un, .un, .un, .un, .un, .un, .un, .un, .un, .un, .int .i64 (i1 : Int), .bx 0 4, .sl (Fld.rows p0.fields), .int .i64 ((List.length p0.fields) : Int), .bool true, .bool true, .int .i64 v1_1, .bool false, .bool false]
def Qg3 (_p0 : Val) (_i1 : Nat) (_v1_1 : Int) (_x1 : Fld) : List (Nat × List PV) :=
  []
theorem Qul (p0 : Val) (_H : Q78 p0) (_rec : Q5x p0) (x1 : Fld) (i1 : Nat) (v1_1 : Int) (_hx1 : p0.fields[i1]? = some x1) (_hi1 : i1 < List.length p0.fields) (hc1 : (decide ((i1 : Int) < ((List.length p0.fields) : Int))) = true) (h0 : (decide (0 ≤ v1_1)) = false) : Q8k p0 (Q8f p0 i1 v1_1) v1_1 := by
 exact ⟨(envF (Qjp p0 i1 v1_1 x1)), (zoF (Qg3 p0 i1 v1_1 x1)), Qe VOK.nil (x := ((.exit 2), Q9s p0 v1_1 (envF (Qjp p0 i1 v1_1 x1)) (zoF (Qg3 p0 i1 v1_1 x1)))) [hP 3 (Qi (Fld.rows p0.fields) (List.length p0.fields) (Fld.Qd p0.fields)), hB 0 hc1, hB 2 h0] [] (by kernel_rfl)⟩
theorem Qn4 (p0 : Val) (H : Q78 p0) (rec : Q5x p0) : ∀ (r1 : List Fld) (i1 : Nat) (v1_1 : Int), List.drop i1 p0.fields = r1 → Q8k p0 (Q8f p0 i1 v1_1) (Q3a p0 r1 i1 v1_1)
 | [], i1, v1_1, hd => by
  have hc1 : (decide ((i1 : Int) < ((List.length p0.fields) : Int))) = false := by have := Q1k hd; simp; omega
  rw [Q3a]
  exact Qvi p0 H rec i1 v1_1 hc1
 | x1 :: r1, i1, v1_1, hd => by
  obtain ⟨hx1, hi1, hd'⟩ := Q15 hd
  have hc1 : (decide ((i1 : Int) < ((List.length p0.fields) : Int))) = true := by simp; omega
  rw [Q3a]
  cases h0 : (decide (0 ≤ v1_1)) with
  | true =>
   exact Qlq p0 (fun r hr => Qvv p0 H rec x1 i1 v1_1 hx1 hi1 hc1 h0 hr) _ (Qn4 p0 H rec r1 (i1 + 1) (Q4p x1.v (w64 (v1_1 - (ByteArray.size x1.name : Int)))) hd')
  | false =>
   exact Qul p0 H rec x1 i1 v1_1 hx1 hi1 hc1 h0
theorem Q1a8 (p0 : Val) (p1 : Int) (H : Qpb p0) (rec : Q5x p0) : Q7 G (Q13y p0 p1) (Q109 p0 p1) := by
  unfold Q109
  rw [Q4p]
  have hl0 := Qnv p0 ((Qu8 p0 p1 H).1) rec p0.list 0 (w64 ((w64 (p1 - 1)) - (ByteArray.size p0.s : Int))) (by simp)
  obtain ⟨z0, zo0, hl0⟩ := hl0
  have hl1 := Qn4 p0 ((Qu8 p0 p1 H).2.1) rec p0.fields 0 (Q2o p0 p0.list 0 (w64 ((w64 (p1 - 1)) - (ByteArray.size p0.s : Int)))) (by simp)
  obtain ⟨z1, zo1, hl1⟩ := hl1
  exact Q8 (fn := Ir.K10) rfl VOK.nil [] [aN hl0, aN hl1] (by kernel_rfl)
theorem Q17c : ∀ (k : Nat) (p0 : Val), SizeOf.sizeOf p0 < k → ∀ (p1 : Int), Qpb p0 → Q7 G (Q13y p0 p1) (Q109 p0 p1)
  | 0, _, h, _, _ => absurd h (Nat.not_lt_zero _)
  | k + 1, p0, h, p1, H => Q1a8 p0 p1 H (fun q hq p1 hH => Q17c k q (by omega) p1 hH)
theorem Q1ae (p0 : Val) (p1 : Int) (H : Qpb p0) : Q7 G (Q13y p0 p1) (Q109 p0 p1) := Q17c _ p0 (Nat.lt_succ_self _) p1 H
def s_Kz (p0 : Val) (p1 : Int) : Bool :=
 (decide (0 ≤ (Q4p p0 p1)))
def c_Kz (p0 : Val) (p1 : Int) : En := .call 22 [.agg (Val.cells p0), .int .i64 p1] []
def a_Kz (p0 : Val) (p1 : Int) : Rs := .ret (.bool (s_Kz p0 p1)) []
def H_Kz (p0 : Val) (_p1 : Int) : Prop := (Qpb p0) ∧ True
theorem t_Kz (p0 : Val) (p1 : Int) (H : H_Kz p0 p1) : Q7 G (c_Kz p0 p1) (a_Kz p0 p1) := by
 unfold a_Kz s_Kz
 exact Q8 (fn := Ir.Kz) rfl VOK.nil [] [aN (Q1ae p0 p1 H.1)] (by kernel_rfl)
mutual
def s_Kn (p0 : Val) : Int :=
 (Qei p0 p0.fields 0 (Qaa p0 p0.list 0 1))
termination_by SizeOf.sizeOf p0
decreasing_by all_goals first | exact Val.Q27 _ | exact Val.Q1f _ | exact Q2d _ _ | exact Q23 _ _ | exact Q1s _ _
def Qaa (p0 : Val) : List Val → Nat → Int → Int
 | [], _i0, v0_1 =>
  v0_1
 | x0 :: r0, i0, v0_1 =>
  Qaa p0 r0 (i0 + 1) (w64 (v0_1 + (s_Kn x0)))
termination_by l => SizeOf.sizeOf l
decreasing_by all_goals first | exact Val.Q27 _ | exact Val.Q1f _ | exact Q2d _ _ | exact Q23 _ _ | exact Q1s _ _
def Qei (p0 : Val) : List Fld → Nat → Int → Int
 | [], _i1, v1_1 =>
  v1_1
 | x1 :: r1, i1, v1_1 =>
  Qei p0 r1 (i1 + 1) (w64 (v1_1 + (s_Kn x1.v)))
termination_by l => SizeOf.sizeOf l
decreasing_by all_goals first | exact Val.Q27 _ | exact Val.Q1f _ | exact Q2d _ _ | exact Q23 _ _ | exact Q1s _ _
end
def Qtj (_p0 : Val) (i0 : Nat) (v0_1 : Int) : List PV :=
  [.un, .bx 0 0, .un, .int .i64 v0_1, .int .i64 (i0 : Int), .un, .un, .un, .un, .un, .un, .un, .un, .un, .un, .un, .un, .un, .un, .un, .un, .un, .un, .un, .un, .un, .un, .un, .un, .un, .un, .un, .un, .un, .un, .un, .un, .un]
def Qtl (p0 : Val) (_i0 : Nat) (_v0_1 : Int) : List Ob :=
  [⟨5, 0, true, [.int .i64 p0.kind, .int .i64 p0.n, .str p0.s, .sl (Val.rows p0.list), .sl (Fld.rows p0.fields)]⟩]
def Qlj (p0 : Val) (i0 : Nat) (v0_1 : Int) : En := .loop 0 Ir.Qiu Ir.Q17d (Qtj p0 i0 v0_1) (Qtl p0 i0 v0_1)
def Qqt (p0 : Val) (q0 : Int) (z : Nat → PV) (_zo : Nat → List PV) : St :=
  ⟨[z 0, .bx 0 0, z 2, .int .i64 q0, z 4, z 5, z 6, z 7, z 8, z 9, z 10, z 11, z 12, z 13, z 14, z 15, z 16, z 17, z 18, z 19, z 20, z 21, z 22, z 23, z 24, z 25, z 26, z 27, z 28, z 29, z 30, z 31, z 32, z 33, z 34, z 35, z 36, z 37], [(0, ⟨5, 0, true, [.int .i64 p0.kind, .int .i64 p0.n, .str p0.s, .sl (Val.rows p0.list), .sl (Fld.rows p0.fields)]⟩)], 321⟩
def Qm3 (p0 : Val) (e : En) (q : Int) : Prop := ∃ z zo, Q7 G e (.st (.exit 0) (Qqt p0 q z zo))
theorem Qp1 (p0 : Val) {e e' : En} (h : ∀ r, Q7 G e r → Q7 G e' r) : ∀ q, Qm3 p0 e q → Qm3 p0 e' q
  | _, ⟨z, zo, hz⟩ => ⟨z, zo, h _ hz⟩
def Qu6 (_p0 : Val) (i1 : Nat) (v1_1 : Int) : List PV :=
  [.un, .bx 0 0, .un, .int .i64 v1_1, .un, .int .i64 (i1 : Int), .un, .un, .un, .un, .un, .un, .un, .un, .un, .un, .un, .un, .un, .un, .un, .un, .un, .un, .un, .un, .un, .un, .un, .un, .un, .un, .un, .un, .un, .un, .un, .un]
def Quf (p0 : Val) (_i1 : Nat) (_v1_1 : Int) : List Ob :=
  [⟨5, 0, true, [.int .i64 p0.kind, .int .i64 p0.n, .str p0.s, .sl (Val.rows p0.list), .sl (Fld.rows p0.fields)]⟩]
def Qld (p0 : Val) (i1 : Nat) (v1_1 : Int) : En := .loop 0 Ir.Qjs Ir.Q16v (Qu6 p0 i1 v1_1) (Quf p0 i1 v1_1)
def Qoq (p0 : Val) (q0 : Int) (z : Nat → PV) (_zo : Nat → List PV) : St :=
  ⟨[z 0, z 1, z 2, .int .i64 q0, z 4, z 5, z 6, z 7, z 8, z 9, z 10, z 11, z 12, z 13, z 14, z 15, z 16, z 17, z 18, z 19, z 20, z 21, z 22, z 23, z 24, z 25, z 26, z 27, z 28, z 29, z 30, z 31, z 32, z 33, z 34, z 35, z 36, z 37], [(0, ⟨5, 0, true, [.int .i64 p0.kind, .int .i64 p0.n, .str p0.s, .sl (Val.rows p0.list), .sl (Fld.rows p0.fields)]⟩)], 321⟩
def Qkt (p0 : Val) (e : En) (q : Int) : Prop := ∃ z zo, Q7 G e (.st (.exit 2) (Qoq p0 q z zo))
theorem Qq9 (p0 : Val) {e e' : En} (h : ∀ r, Q7 G e r → Q7 G e' r) : ∀ q, Qkt p0 e q → Qkt p0 e' q
  | _, ⟨z, zo, hz⟩ => ⟨z, zo, h _ hz⟩
def c_Kn (p0 : Val) : En := .call 39 [.agg (Val.cells p0)] []
def a_Kn (p0 : Val) : Rs := .ret (.int .i64 (s_Kn p0)) []
abbrev H_Kn (p0 : Val) : Prop := Val.Sm 4611686018427387904 p0
def Qe0 (p0 : Val) : Prop := ∀ (q : Val), SizeOf.sizeOf q < SizeOf.sizeOf p0 → H_Kn q → Q7 G (c_Kn q) (a_Kn q)
def Qeh (p0 : Val) : Prop := (List.length p0.list ≤ 4611686018427387904) ∧ (∀ x0 ∈ p0.list, H_Kn x0) ∧ True
def Qc2 (p0 : Val) : Prop := (List.length p0.fields ≤ 4611686018427387904) ∧ (∀ x1 ∈ p0.fields, H_Kn x1.v) ∧ True
theorem Q10i (p0 : Val) (H : H_Kn p0) : (Qeh p0) ∧ (Qc2 p0) ∧ True := by
  obtain ⟨h1, h2, h3, h4⟩ := H.all
  simp only [Qeh, Qc2]
  exact ⟨⟨h1, h3, trivial⟩, ⟨h2, h4, trivial⟩, trivial⟩
def Qqh (p0 : Val) (i0 : Nat) (_v0_1 : Int) : List PV :=
  [.un, .un, .un, .un, .int .i64 (i0 : Int), .un, .int .i64 (i0 : Int), .bx 0 3, .sl (Val.rows p0.list), .int .i64 ((List.length p0.list) : Int), .bool false]
def Qim (_p0 : Val) (_i0 : Nat) (_v0_1 : Int) : List (Nat × List PV) :=
  []
theorem Q119 (p0 : Val) (_H : Qeh p0) (_rec : Qe0 p0) (i0 : Nat) (v0_1 : Int) (hc0 : (decide ((i0 : Int) < ((List.length p0.list) : Int))) = false) : Qm3 p0 (Qlj p0 i0 v0_1) v0_1 := by
 exact ⟨(envF (Qqh p0 i0 v0_1)), (zoF (Qim p0 i0 v0_1)), Qe VOK.nil (x := ((.exit 0), Qqt p0 v0_1 (envF (Qqh p0 i0 v0_1)) (zoF (Qim p0 i0 v0_1)))) [hP 3 (Qi (Val.rows p0.list) (List.length p0.list) (Val.Qd p0.list)), hB 0 hc0] [] (by kernel_rfl)⟩
theorem Q10z (p0 : Val) (H : Qeh p0) (rec : Qe0 p0) (x0 : Val) (i0 : Nat) (v0_1 : Int) (hx0 : p0.list[i0]? = some x0) (hi0 : i0 < List.length p0.list) (hc0 : (decide ((i0 : Int) < ((List.length p0.list) : Int))) = true) {r : Rs} (hr : Q7 G (Qlj p0 (i0 + 1) (w64 (v0_1 + (s_Kn x0)))) r) : Q7 G (Qlj p0 i0 v0_1) r := by
 have hB0 := H.1
 exact Q9 VOK.nil (y := (Qtj p0 (i0 + 1) (w64 (v0_1 + (s_Kn x0))), Qtl p0 (i0 + 1) (w64 (v0_1 + (s_Kn x0))))) [hP 3 (Qi (Val.rows p0.list) (List.length p0.list) (Val.Qd p0.list)), hB 0 hc0, hP 4 (Q18 5 (Val.rows p0.list) i0 _ (Val.Qf hx0) rfl), hP 5 (Qt i0 (by omega))] [aN (rec x0 (szL hx0) (H.2.1 x0 (Ql hx0)))] (by kernel_rfl) hr
theorem Qtb (p0 : Val) (H : Qeh p0) (rec : Qe0 p0) : ∀ (r0 : List Val) (i0 : Nat) (v0_1 : Int), List.drop i0 p0.list = r0 → Qm3 p0 (Qlj p0 i0 v0_1) (Qaa p0 r0 i0 v0_1)
 | [], i0, v0_1, hd => by
  have hc0 : (decide ((i0 : Int) < ((List.length p0.list) : Int))) = false := by have := Q1k hd; simp; omega
  rw [Qaa]
  exact Q119 p0 H rec i0 v0_1 hc0
 | x0 :: r0, i0, v0_1, hd => by
  obtain ⟨hx0, hi0, hd'⟩ := Q15 hd
  have hc0 : (decide ((i0 : Int) < ((List.length p0.list) : Int))) = true := by simp; omega
  rw [Qaa]
  exact Qp1 p0 (fun r hr => Q10z p0 H rec x0 i0 v0_1 hx0 hi0 hc0 hr) _ (Qtb p0 H rec r0 (i0 + 1) (w64 (v0_1 + (s_Kn x0))) hd')
def Qpt (p0 : Val) (i1 : Nat) (_v1_1 : Int) : List PV :=
  [.un, .bx 0 0, .un, .un, .un, .int .i64 (i1 : Int), .un, .un, .un, .un, .un, .un, .un, .un, .un, .un, .un, .un, .un, .un, .un, .int .i64 (i1 : Int), .bx 0 4, .sl (Fld.rows p0.fields), .int .i64 ((List.length p0.fields) : Int), .bool false]
def Qk6 (_p0 : Val) (_i1 : Nat) (_v1_1 : Int) : List (Nat × List PV) :=
  []
theorem Qzn (p0 : Val) (_H : Qc2 p0) (_rec : Qe0 p0) (i1 : Nat) (v1_1 : Int) (hc1 : (decide ((i1 : Int) < ((List.length p0.fields) : Int))) = false) : Qkt p0 (Qld p0 i1 v1_1) v1_1 := by
 exact ⟨(envF (Qpt p0 i1 v1_1)), (zoF (Qk6 p0 i1 v1_1)), Qe VOK.nil (x := ((.exit 2), Qoq p0 v1_1 (envF (Qpt p0 i1 v1_1)) (zoF (Qk6 p0 i1 v1_1)))) [hP 3 (Qi (Fld.rows p0.fields) (List.length p0.fields) (Fld.Qd p0.fields)), hB 0 hc1] [] (by kernel_rfl)⟩
theorem Qym (p0 : Val) (H : Qc2 p0) (rec : Qe0 p0) (x1 : Fld) (i1 : Nat) (v1_1 : Int) (hx1 : p0.fields[i1]? = some x1) (hi1 : i1 < List.length p0.fields) (hc1 : (decide ((i1 : Int) < ((List.length p0.fields) : Int))) = true) {r : Rs} (hr : Q7 G (Qld p0 (i1 + 1) (w64 (v1_1 + (s_Kn x1.v)))) r) : Q7 G (Qld p0 i1 v1_1) r := by
 have hB0 := H.1
 exact Q9 VOK.nil (y := (Qu6 p0 (i1 + 1) (w64 (v1_1 + (s_Kn x1.v))), Quf p0 (i1 + 1) (w64 (v1_1 + (s_Kn x1.v))))) [hP 3 (Qi (Fld.rows p0.fields) (List.length p0.fields) (Fld.Qd p0.fields)), hB 0 hc1, hP 4 (Q18 6 (Fld.rows p0.fields) i1 _ (Fld.Qf hx1) rfl), hP 6 (Qt i1 (by omega))] [aN (rec x1.v (szF hx1) (H.2.1 x1 (Ql hx1)))] (by kernel_rfl) hr
theorem Qsr (p0 : Val) (H : Qc2 p0) (rec : Qe0 p0) : ∀ (r1 : List Fld) (i1 : Nat) (v1_1 : Int), List.drop i1 p0.fields = r1 → Qkt p0 (Qld p0 i1 v1_1) (Qei p0 r1 i1 v1_1)
 | [], i1, v1_1, hd => by
  have hc1 : (decide ((i1 : Int) < ((List.length p0.fields) : Int))) = false := by have := Q1k hd; simp; omega
  rw [Qei]
  exact Qzn p0 H rec i1 v1_1 hc1
 | x1 :: r1, i1, v1_1, hd => by
  obtain ⟨hx1, hi1, hd'⟩ := Q15 hd
  have hc1 : (decide ((i1 : Int) < ((List.length p0.fields) : Int))) = true := by simp; omega
  rw [Qei]
  exact Qq9 p0 (fun r hr => Qym p0 H rec x1 i1 v1_1 hx1 hi1 hc1 hr) _ (Qsr p0 H rec r1 (i1 + 1) (w64 (v1_1 + (s_Kn x1.v))) hd')
theorem r_Kn (p0 : Val) (H : H_Kn p0) (rec : Qe0 p0) : Q7 G (c_Kn p0) (a_Kn p0) := by
  unfold a_Kn
  rw [s_Kn]
  have hl0 := Qtb p0 ((Q10i p0 H).1) rec p0.list 0 1 (by simp)
  obtain ⟨z0, zo0, hl0⟩ := hl0
  have hl1 := Qsr p0 ((Q10i p0 H).2.1) rec p0.fields 0 (Qaa p0 p0.list 0 1) (by simp)
  obtain ⟨z1, zo1, hl1⟩ := hl1
  exact Q8 (fn := Ir.Kn) rfl VOK.nil [] [aN hl0, aN hl1] (by kernel_rfl)
theorem i_Kn : ∀ (k : Nat) (p0 : Val), SizeOf.sizeOf p0 < k → H_Kn p0 → Q7 G (c_Kn p0) (a_Kn p0)
  | 0, _, h, _ => absurd h (Nat.not_lt_zero _)
  | k + 1, p0, h, H => r_Kn p0 H (fun q hq hH => i_Kn k q (by omega) hH)
theorem t_Kn (p0 : Val) (H : H_Kn p0) : Q7 G (c_Kn p0) (a_Kn p0) := i_Kn _ p0 (Nat.lt_succ_self _) H
inductive Q11h where
  | k0
  | k1
def Q7u (p0 : ByteArray) : List Int → Nat → Q11h
 | [], _i0 =>
  (.k0)
 | x0 :: r0, i0 =>
  bif (x0 == 10) then
   Q7u p0 r0 (i0 + 1)
  else
   bif (decide (x0 < 32)) then
    (.k1)
   else
    bif (decide (126 < x0)) then
     (.k1)
    else
     Q7u p0 r0 (i0 + 1)
def Qkv (p0 : ByteArray) (i0 : Nat) : List PV :=
  [.str p0, .un, .un, .int .i64 (i0 : Int), .un, .un, .un, .un, .un, .un, .un, .un, .un, .un, .un, .un, .un, .un, .un, .un, .un, .un, .un, .un, .un, .un, .un, .un, .un]
def Qm5 (_p0 : ByteArray) (_i0 : Nat) : List Ob :=
  []
def Q6r (p0 : ByteArray) (i0 : Nat) : En := .loop 0 Ir.Qhl Ir.Q18a (Qkv p0 i0) (Qm5 p0 i0)
def Qng (p0 : ByteArray) (z : Nat → PV) (_zo : Nat → List PV) : St :=
  ⟨[.str p0, z 1, z 2, z 3, z 4, z 5, z 6, z 7, z 8, z 9, z 10, z 11, z 12, z 13, z 14, z 15, z 16, z 17, z 18, z 19, z 20, z 21, z 22, z 23, z 24, z 25, z 26, z 27, z 28], [], 256⟩
def Qby (_p0 : ByteArray) (z : Nat → PV) (_zo : Nat → List PV) : St :=
  ⟨[z 0, z 1, .bool false, z 3, z 4, z 5, z 6, z 7, z 8, z 9, z 10, z 11, z 12, z 13, z 14, z 15, z 16, z 17, z 18, z 19, z 20, z 21, z 22, z 23, z 24, z 25, z 26, z 27, z 28], [], 1344⟩
def Qa1 (p0 : ByteArray) (e : En) : Q11h → Prop
  | .k0 => ∃ z zo, Q7 G e (.st (.exit 0) (Qng p0 z zo))
  | .k1 => ∃ z zo, Q7 G e (.st .ret (Qby p0 z zo))
theorem Qar (p0 : ByteArray) {e e' : En} (h : ∀ r, Q7 G e r → Q7 G e' r) : ∀ q, Qa1 p0 e q → Qa1 p0 e' q
  | .k0, ⟨z, zo, hz⟩ => ⟨z, zo, h _ hz⟩
  | .k1, ⟨z, zo, hz⟩ => ⟨z, zo, h _ hz⟩
def Q8b (p0 : ByteArray) : Prop := (List.length (letters p0) ≤ 4611686018427387904) ∧ True
def Qqu (p0 : ByteArray) (i0 : Nat) : List PV :=
  [.un, .un, .un, .int .i64 (i0 : Int), .int .i64 (i0 : Int), .str p0, .int .i64 (ByteArray.size p0 : Int), .bool false]
def Qjf (_p0 : ByteArray) (_i0 : Nat) : List (Nat × List PV) :=
  []
theorem Q11p (p0 : ByteArray) (_H : Q8b p0) (i0 : Nat) (hc0 : (decide ((i0 : Int) < (ByteArray.size p0 : Int))) = false) : Qa1 p0 (Q6r p0 i0) (.k0) := by
 exact ⟨(envF (Qqu p0 i0)), (zoF (Qjf p0 i0)), Qe VOK.nil (x := ((.exit 0), Qng p0 (envF (Qqu p0 i0)) (zoF (Qjf p0 i0)))) [hB 3 hc0] [] (by kernel_rfl)⟩
theorem Qzr (p0 : ByteArray) (H : Q8b p0) (x0 : Int) (i0 : Nat) (hx0 : (letters p0)[i0]? = some x0) (hi0 : i0 < List.length (letters p0)) (hc0 : (decide ((i0 : Int) < (ByteArray.size p0 : Int))) = true) (h0 : (x0 == 10) = true) {r : Rs} (hr : Q7 G (Q6r p0 (i0 + 1)) r) : Q7 G (Q6r p0 i0) r := by
 have hB0 := H.1; have e0 := eq_of_beq h0
 exact Q9 VOK.nil (y := (Qkv p0 (i0 + 1), Qm5 p0 (i0 + 1))) [hB 3 hc0, hP 2 (Q1c p0 i0 x0 hx0), hP 0 (dec (!(x0 == 10)) false (by rw [h0]; rfl)), hP 13 (Qt i0 (by omega))] [] (by kernel_rfl) hr
def Qnc (p0 : ByteArray) (i0 : Nat) (x0 : Int) : List PV :=
  [.str p0, .un, .un, .int .i64 (i0 : Int), .int .i64 (i0 : Int), .str p0, .int .i64 (ByteArray.size p0 : Int), .bool true, .un, .un, .str p0, .int .i64 (i0 : Int), .int .u8 x0, .bool true, .bool true, .str p0, .int .i64 (i0 : Int), .int .u8 x0, .bool true, .bool true, .tup [], .tup [], .tup [], .tup [], .bool true, .bool true]
def Qig (_p0 : ByteArray) (_i0 : Nat) (_x0 : Int) : List (Nat × List PV) :=
  []
theorem Qyz (p0 : ByteArray) (_H : Q8b p0) (x0 : Int) (i0 : Nat) (hx0 : (letters p0)[i0]? = some x0) (_hi0 : i0 < List.length (letters p0)) (hc0 : (decide ((i0 : Int) < (ByteArray.size p0 : Int))) = true) (h0 : (x0 == 10) = false) (h1 : (decide (x0 < 32)) = true) : Qa1 p0 (Q6r p0 i0) (.k1) := by
 exact ⟨(envF (Qnc p0 i0 x0)), (zoF (Qig p0 i0 x0)), Qe VOK.nil (x := (.ret, Qby p0 (envF (Qnc p0 i0 x0)) (zoF (Qig p0 i0 x0)))) [hB 3 hc0, hP 2 (Q1c p0 i0 x0 hx0), hP 0 (dec (!(x0 == 10)) true (by rw [h0]; rfl)), hP 3 (Q1c p0 i0 x0 hx0), hB 0 h1] [] (by kernel_rfl)⟩
def Qn0 (p0 : ByteArray) (i0 : Nat) (x0 : Int) : List PV :=
  [.str p0, .un, .un, .int .i64 (i0 : Int), .int .i64 (i0 : Int), .str p0, .int .i64 (ByteArray.size p0 : Int), .bool true, .un, .un, .str p0, .int .i64 (i0 : Int), .int .u8 x0, .bool true, .bool true, .str p0, .int .i64 (i0 : Int), .int .u8 x0, .bool false, .bool false, .str p0, .int .i64 (i0 : Int), .int .u8 x0, .bool true, .bool true, .bool true]
def Qjb (_p0 : ByteArray) (_i0 : Nat) (_x0 : Int) : List (Nat × List PV) :=
  []
theorem Qzw (p0 : ByteArray) (_H : Q8b p0) (x0 : Int) (i0 : Nat) (hx0 : (letters p0)[i0]? = some x0) (_hi0 : i0 < List.length (letters p0)) (hc0 : (decide ((i0 : Int) < (ByteArray.size p0 : Int))) = true) (h0 : (x0 == 10) = false) (h1 : (decide (x0 < 32)) = false) (h2 : (decide (126 < x0)) = true) : Qa1 p0 (Q6r p0 i0) (.k1) := by
 exact ⟨(envF (Qn0 p0 i0 x0)), (zoF (Qjb p0 i0 x0)), Qe VOK.nil (x := (.ret, Qby p0 (envF (Qn0 p0 i0 x0)) (zoF (Qjb p0 i0 x0)))) [hB 3 hc0, hP 2 (Q1c p0 i0 x0 hx0), hP 0 (dec (!(x0 == 10)) true (by rw [h0]; rfl)), hP 3 (Q1c p0 i0 x0 hx0), hB 0 h1, hP 3 (Q1c p0 i0 x0 hx0), hB 0 h2] [] (by kernel_rfl)⟩
theorem Q11u (p0 : ByteArray) (H : Q8b p0) (x0 : Int) (i0 : Nat) (hx0 : (letters p0)[i0]? = some x0) (hi0 : i0 < List.length (letters p0)) (hc0 : (decide ((i0 : Int) < (ByteArray.size p0 : Int))) = true) (h0 : (x0 == 10) = false) (h1 : (decide (x0 < 32)) = false) (h2 : (decide (126 < x0)) = false) {r : Rs} (hr : Q7 G (Q6r p0 (i0 + 1)) r) : Q7 G (Q6r p0 i0) r := by
 have hB0 := H.1; have e0 := beq_eq_false_iff_ne.1 h0; have e1 := of_decide_eq_false h1; have e2 := of_decide_eq_false h2
 exact Q9 VOK.nil (y := (Qkv p0 (i0 + 1), Qm5 p0 (i0 + 1))) [hB 3 hc0, hP 2 (Q1c p0 i0 x0 hx0), hP 0 (dec (!(x0 == 10)) true (by rw [h0]; rfl)), hP 3 (Q1c p0 i0 x0 hx0), hB 0 h1, hP 3 (Q1c p0 i0 x0 hx0), hB 0 h2, hP 3 (Qt i0 (by omega))] [] (by kernel_rfl) hr
theorem Qks (p0 : ByteArray) (H : Q8b p0) : ∀ (r0 : List Int) (i0 : Nat), List.drop i0 (letters p0) = r0 → Qa1 p0 (Q6r p0 i0) (Q7u p0 r0 i0)
 | [], i0, hd => by
  have hc0 : (decide ((i0 : Int) < (ByteArray.size p0 : Int))) = false := by have hL := Q4e p0; have := Q1k hd; simp; omega
  rw [Q7u]
  exact Q11p p0 H i0 hc0
 | x0 :: r0, i0, hd => by
  obtain ⟨hx0, hi0, hd'⟩ := Q15 hd
  have hc0 : (decide ((i0 : Int) < (ByteArray.size p0 : Int))) = true := by have hL := Q4e p0; simp; omega
  rw [Q7u]
  cases h0 : (x0 == 10) with
  | true =>
   exact Qar p0 (fun r hr => Qzr p0 H x0 i0 hx0 hi0 hc0 h0 hr) _ (Qks p0 H r0 (i0 + 1) hd')
  | false =>
   cases h1 : (decide (x0 < 32)) with
   | true =>
    exact Qyz p0 H x0 i0 hx0 hi0 hc0 h0 h1
   | false =>
    cases h2 : (decide (126 < x0)) with
    | true =>
     exact Qzw p0 H x0 i0 hx0 hi0 hc0 h0 h1 h2
    | false =>
     exact Qar p0 (fun r hr => Q11u p0 H x0 i0 hx0 hi0 hc0 h0 h1 h2 hr) _ (Qks p0 H r0 (i0 + 1) hd')
def s_Kq (p0 : ByteArray) : Bool :=
 (match (Q7u p0 (letters p0) 0) with
 | .k0 => (decide ((ByteArray.size p0 : Int) ≤ 200))
 | .k1 => false)
def c_Kq (p0 : ByteArray) : En := .call 65 [.str p0] []
def a_Kq (p0 : ByteArray) : Rs := .ret (.bool (s_Kq p0)) []
def H_Kq (p0 : ByteArray) : Prop := (Q8b p0) ∧ True
theorem t_Kq (p0 : ByteArray) (H : H_Kq p0) : Q7 G (c_Kq p0) (a_Kq p0) := by
 unfold a_Kq s_Kq
 have hl0 := Qks p0 (H.1) (letters p0) 0 (by simp)
 cases hr0 : (Q7u p0 (letters p0) 0) with
 | k0 =>
  rw [hr0] at hl0
  obtain ⟨z0, zo0, hl0⟩ := hl0
  exact Q8 (fn := Ir.Kq) rfl VOK.nil [] [aN hl0] (by kernel_rfl)
 | k1 =>
  rw [hr0] at hl0
  obtain ⟨z0, zo0, hl0⟩ := hl0
  exact Q8 (fn := Ir.Kq) rfl VOK.nil [] [aN hl0] (by kernel_rfl)
def s_Kw (p0 : Val) : Bool :=
 bif (p0.kind == 1) then
  bif (p0.n == 0) then
   (sEq p0.s (⟨#[]⟩ : ByteArray))
  else
   bif (p0.n == 1) then
    (sEq p0.s (⟨#[]⟩ : ByteArray))
   else
    false
 else
  bif (p0.kind == 2) then
   bif (decide ((-1000000000000000) ≤ p0.n)) then
    bif (decide (p0.n ≤ 1000000000000000)) then
     (sEq p0.s (⟨#[]⟩ : ByteArray))
    else
     false
   else
    false
  else
   bif (p0.kind == 3) then
    bif (p0.n == 0) then
     (s_Kq p0.s)
    else
     false
   else
    bif (p0.kind == 0) then
     bif (p0.n == 0) then
      (sEq p0.s (⟨#[]⟩ : ByteArray))
     else
      false
    else
     bif (p0.kind == 4) then
      bif (p0.n == 0) then
       (sEq p0.s (⟨#[]⟩ : ByteArray))
      else
       false
     else
      bif (p0.kind == 5) then
       bif (p0.n == 0) then
        (sEq p0.s (⟨#[]⟩ : ByteArray))
       else
        false
      else
       false
def c_Kw (p0 : Val) : En := .call 51 [.agg (Val.cells p0)] []
def a_Kw (p0 : Val) : Rs := .ret (.bool (s_Kw p0)) []
def H_Kw (p0 : Val) : Prop := (H_Kq p0.s) ∧ True
theorem Q16z (p0 : Val) (_H : H_Kw p0) (h0 : (p0.kind == 1) = true) : Q7 G (c_Kw p0) (.ret (.bool (bif (p0.n == 0) then
   (sEq p0.s (⟨#[]⟩ : ByteArray))
 else
   bif (p0.n == 1) then
    (sEq p0.s (⟨#[]⟩ : ByteArray))
   else
    false)) []) := by
 cases h1 : (p0.n == 0) with
 | true =>
  exact Q8 (fn := Ir.Kw) rfl VOK.nil [hB 4 h0, hB 3 h1] [] (by kernel_rfl)
 | false =>
  cases h2 : (p0.n == 1) with
  | true =>
   exact Q8 (fn := Ir.Kw) rfl VOK.nil [hB 4 h0, hB 3 h1, hB 3 h2] [] (by kernel_rfl)
  | false =>
   exact Q8 (fn := Ir.Kw) rfl VOK.nil [hB 4 h0, hB 3 h1, hB 3 h2] [] (by kernel_rfl)
theorem Q17i (p0 : Val) (_H : H_Kw p0) (h0 : (p0.kind == 1) = false) (h1 : (p0.kind == 2) = true) : Q7 G (c_Kw p0) (.ret (.bool (bif (decide ((-1000000000000000) ≤ p0.n)) then
   bif (decide (p0.n ≤ 1000000000000000)) then
    (sEq p0.s (⟨#[]⟩ : ByteArray))
   else
    false
 else
   false)) []) := by
 cases h2 : (decide ((-1000000000000000) ≤ p0.n)) with
 | true =>
  cases h3 : (decide (p0.n ≤ 1000000000000000)) with
  | true =>
   exact Q8 (fn := Ir.Kw) rfl VOK.nil [hB 4 h0, hB 1 h1, hB 3 h2, hB 3 h3] [] (by kernel_rfl)
  | false =>
   exact Q8 (fn := Ir.Kw) rfl VOK.nil [hB 4 h0, hB 1 h1, hB 3 h2, hB 3 h3] [] (by kernel_rfl)
 | false =>
  exact Q8 (fn := Ir.Kw) rfl VOK.nil [hB 4 h0, hB 1 h1, hB 3 h2] [] (by kernel_rfl)
theorem Q18u (p0 : Val) (H : H_Kw p0) (h0 : (p0.kind == 1) = false) (h1 : (p0.kind == 2) = false) (h2 : (p0.kind == 3) = true) : Q7 G (c_Kw p0) (.ret (.bool (bif (p0.n == 0) then
   (s_Kq p0.s)
 else
   false)) []) := by
 cases h3 : (p0.n == 0) with
 | true =>
  exact Q8 (fn := Ir.Kw) rfl VOK.nil [hB 4 h0, hB 1 h1, hB 1 h2, hB 3 h3] [aN (t_Kq p0.s H.1)] (by kernel_rfl)
 | false =>
  exact Q8 (fn := Ir.Kw) rfl VOK.nil [hB 4 h0, hB 1 h1, hB 1 h2, hB 3 h3] [] (by kernel_rfl)
theorem Q182 (p0 : Val) (_H : H_Kw p0) (h0 : (p0.kind == 1) = false) (h1 : (p0.kind == 2) = false) (h2 : (p0.kind == 3) = false) (h3 : (p0.kind == 0) = true) : Q7 G (c_Kw p0) (.ret (.bool (bif (p0.n == 0) then
   (sEq p0.s (⟨#[]⟩ : ByteArray))
 else
   false)) []) := by
 cases h4 : (p0.n == 0) with
 | true =>
  exact Q8 (fn := Ir.Kw) rfl VOK.nil [hB 4 h0, hB 1 h1, hB 1 h2, hB 1 h3, hB 3 h4] [] (by kernel_rfl)
 | false =>
  exact Q8 (fn := Ir.Kw) rfl VOK.nil [hB 4 h0, hB 1 h1, hB 1 h2, hB 1 h3, hB 3 h4] [] (by kernel_rfl)
theorem Q18t (p0 : Val) (_H : H_Kw p0) (h0 : (p0.kind == 1) = false) (h1 : (p0.kind == 2) = false) (h2 : (p0.kind == 3) = false) (h3 : (p0.kind == 0) = false) : Q7 G (c_Kw p0) (.ret (.bool (bif (p0.kind == 4) then
   bif (p0.n == 0) then
     (sEq p0.s (⟨#[]⟩ : ByteArray))
   else
     false
 else
   bif (p0.kind == 5) then
     bif (p0.n == 0) then
      (sEq p0.s (⟨#[]⟩ : ByteArray))
     else
      false
   else
     false)) []) := by
 cases h4 : (p0.kind == 4) with
 | true =>
  cases h5 : (p0.n == 0) with
  | true =>
   exact Q8 (fn := Ir.Kw) rfl VOK.nil [hB 4 h0, hB 1 h1, hB 1 h2, hB 1 h3, hB 1 h4, hB 3 h5] [] (by kernel_rfl)
  | false =>
   exact Q8 (fn := Ir.Kw) rfl VOK.nil [hB 4 h0, hB 1 h1, hB 1 h2, hB 1 h3, hB 1 h4, hB 3 h5] [] (by kernel_rfl)
 | false =>
  cases h5 : (p0.kind == 5) with
  | true =>
   cases h6 : (p0.n == 0) with
   | true =>
    exact Q8 (fn := Ir.Kw) rfl VOK.nil [hB 4 h0, hB 1 h1, hB 1 h2, hB 1 h3, hB 1 h4, hB 1 h5, hB 3 h6] [] (by kernel_rfl)
   | false =>
    exact Q8 (fn := Ir.Kw) rfl VOK.nil [hB 4 h0, hB 1 h1, hB 1 h2, hB 1 h3, hB 1 h4, hB 1 h5, hB 3 h6] [] (by kernel_rfl)
  | false =>
   exact Q8 (fn := Ir.Kw) rfl VOK.nil [hB 4 h0, hB 1 h1, hB 1 h2, hB 1 h3, hB 1 h4, hB 1 h5] [] (by kernel_rfl)
theorem t_Kw (p0 : Val) (H : H_Kw p0) : Q7 G (c_Kw p0) (a_Kw p0) := by
 unfold a_Kw s_Kw
 cases h0 : (p0.kind == 1) with
 | true =>
  exact Q16z p0 H h0
 | false =>
  cases h1 : (p0.kind == 2) with
  | true =>
   exact Q17i p0 H h0 h1
  | false =>
   cases h2 : (p0.kind == 3) with
   | true =>
    exact Q18u p0 H h0 h1 h2
   | false =>
    cases h3 : (p0.kind == 0) with
    | true =>
     exact Q182 p0 H h0 h1 h2 h3
    | false =>
     exact Q18t p0 H h0 h1 h2 h3
inductive Qxy where
  | k0
  | k1
def Q1b (p0 : ByteArray) : List Int → Nat → Qxy
 | [], _i0 =>
  (.k0)
 | x0 :: r0, i0 =>
  bif (decide (97 ≤ x0)) then
   bif (decide (x0 ≤ 122)) then
    Q1b p0 r0 (i0 + 1)
   else
    bif (decide (65 ≤ x0)) then
     bif (decide (x0 ≤ 90)) then
      Q1b p0 r0 (i0 + 1)
     else
      bif (decide (48 ≤ x0)) then
       bif (decide (x0 ≤ 57)) then
        Q1b p0 r0 (i0 + 1)
       else
        bif (x0 == 45) then
         Q1b p0 r0 (i0 + 1)
        else
         bif (x0 == 95) then
          Q1b p0 r0 (i0 + 1)
         else
          bif (x0 == 47) then
           Q1b p0 r0 (i0 + 1)
          else
           (.k1)
      else
       bif (x0 == 45) then
        Q1b p0 r0 (i0 + 1)
       else
        bif (x0 == 95) then
         Q1b p0 r0 (i0 + 1)
        else
         bif (x0 == 47) then
          Q1b p0 r0 (i0 + 1)
         else
          (.k1)
    else
     bif (decide (48 ≤ x0)) then
      bif (decide (x0 ≤ 57)) then
       Q1b p0 r0 (i0 + 1)
      else
       bif (x0 == 45) then
        Q1b p0 r0 (i0 + 1)
       else
        bif (x0 == 95) then
         Q1b p0 r0 (i0 + 1)
        else
         bif (x0 == 47) then
          Q1b p0 r0 (i0 + 1)
         else
          (.k1)
     else
      bif (x0 == 45) then
       Q1b p0 r0 (i0 + 1)
      else
       bif (x0 == 95) then
        Q1b p0 r0 (i0 + 1)
       else
        bif (x0 == 47) then
         Q1b p0 r0 (i0 + 1)
        else
         (.k1)
  else
   bif (decide (65 ≤ x0)) then
    bif (decide (x0 ≤ 90)) then
     Q1b p0 r0 (i0 + 1)
    else
     bif (decide (48 ≤ x0)) then
      bif (decide (x0 ≤ 57)) then
       Q1b p0 r0 (i0 + 1)
      else
       bif (x0 == 45) then
        Q1b p0 r0 (i0 + 1)
       else
        bif (x0 == 95) then
         Q1b p0 r0 (i0 + 1)
        else
         bif (x0 == 47) then
          Q1b p0 r0 (i0 + 1)
         else
          (.k1)
     else
      bif (x0 == 45) then
       Q1b p0 r0 (i0 + 1)
      else
       bif (x0 == 95) then
        Q1b p0 r0 (i0 + 1)
       else
        bif (x0 == 47) then
         Q1b p0 r0 (i0 + 1)
        else
         (.k1)
   else
    bif (decide (48 ≤ x0)) then
     bif (decide (x0 ≤ 57)) then
      Q1b p0 r0 (i0 + 1)
     else
      bif (x0 == 45) then
       Q1b p0 r0 (i0 + 1)
      else
       bif (x0 == 95) then
        Q1b p0 r0 (i0 + 1)
       else
        bif (x0 == 47) then
         Q1b p0 r0 (i0 + 1)
        else
         (.k1)
    else
     bif (x0 == 45) then
      Q1b p0 r0 (i0 + 1)
     else
      bif (x0 == 95) then
       Q1b p0 r0 (i0 + 1)
      else
       bif (x0 == 47) then
        Q1b p0 r0 (i0 + 1)
       else
        (.k1)
def Q12 (p0 : ByteArray) (i0 : Nat) : List PV :=
  [.str p0, .un, .un, .int .i64 (i0 : Int), .un, .un, .un, .un, .un, .un, .un, .un, .un, .un, .un, .un, .un, .un, .un, .un, .un, .un, .un, .un, .un, .un, .un, .un, .un, .un, .un, .un, .un, .un, .un, .un, .un, .un, .un, .un, .un, .un, .un, .un, .un, .un, .un, .un, .un, .un, .un, .un, .un, .un, .un, .un, .un, .un, .un, .un]
def Q13 (_p0 : ByteArray) (_i0 : Nat) : List Ob :=
  []
def Qn (p0 : ByteArray) (i0 : Nat) : En := .loop 0 Ir.Qjx Ir.Q16i (Q12 p0 i0) (Q13 p0 i0)
def Qob (p0 : ByteArray) (z : Nat → PV) (_zo : Nat → List PV) : St :=
  ⟨[.str p0, z 1, z 2, z 3, z 4, z 5, z 6, z 7, z 8, z 9, z 10, z 11, z 12, z 13, z 14, z 15, z 16, z 17, z 18, z 19, z 20, z 21, z 22, z 23, z 24, z 25, z 26, z 27, z 28, z 29, z 30, z 31, z 32, z 33, z 34, z 35, z 36, z 37, z 38, z 39, z 40, z 41, z 42, z 43, z 44, z 45, z 46, z 47, z 48, z 49, z 50, z 51, z 52, z 53, z 54, z 55, z 56, z 57, z 58, z 59], [], 256⟩
def Q3i (_p0 : ByteArray) (z : Nat → PV) (_zo : Nat → List PV) : St :=
  ⟨[z 0, z 1, .bool false, z 3, z 4, z 5, z 6, z 7, z 8, z 9, z 10, z 11, z 12, z 13, z 14, z 15, z 16, z 17, z 18, z 19, z 20, z 21, z 22, z 23, z 24, z 25, z 26, z 27, z 28, z 29, z 30, z 31, z 32, z 33, z 34, z 35, z 36, z 37, z 38, z 39, z 40, z 41, z 42, z 43, z 44, z 45, z 46, z 47, z 48, z 49, z 50, z 51, z 52, z 53, z 54, z 55, z 56, z 57, z 58, z 59], [], 3008⟩
def Q45 (p0 : ByteArray) (e : En) : Qxy → Prop
  | .k0 => ∃ z zo, Q7 G e (.st (.exit 0) (Qob p0 z zo))
  | .k1 => ∃ z zo, Q7 G e (.st .ret (Q3i p0 z zo))
theorem Qo (p0 : ByteArray) {e e' : En} (h : ∀ r, Q7 G e r → Q7 G e' r) : ∀ q, Q45 p0 e q → Q45 p0 e' q
  | .k0, ⟨z, zo, hz⟩ => ⟨z, zo, h _ hz⟩
  | .k1, ⟨z, zo, hz⟩ => ⟨z, zo, h _ hz⟩
def Q10 (p0 : ByteArray) : Prop := (List.length (letters p0) ≤ 4611686018427387904) ∧ True
def Qmv (p0 : ByteArray) (i0 : Nat) : List PV :=
  [.un, .un, .un, .int .i64 (i0 : Int), .un, .un, .int .i64 (i0 : Int), .str p0, .int .i64 (ByteArray.size p0 : Int), .bool false]
def Qhk (_p0 : ByteArray) (_i0 : Nat) : List (Nat × List PV) :=
  []
theorem Q118 (p0 : ByteArray) (_H : Q10 p0) (i0 : Nat) (hc0 : (decide ((i0 : Int) < (ByteArray.size p0 : Int))) = false) : Q45 p0 (Qn p0 i0) (.k0) := by
 exact ⟨(envF (Qmv p0 i0)), (zoF (Qhk p0 i0)), Qe VOK.nil (x := ((.exit 0), Qob p0 (envF (Qmv p0 i0)) (zoF (Qhk p0 i0)))) [hB 3 hc0] [] (by kernel_rfl)⟩
theorem Q12t (p0 : ByteArray) (H : Q10 p0) (x0 : Int) (i0 : Nat) (hx0 : (letters p0)[i0]? = some x0) (hi0 : i0 < List.length (letters p0)) (hc0 : (decide ((i0 : Int) < (ByteArray.size p0 : Int))) = true) (h0 : (decide (97 ≤ x0)) = true) (h1 : (decide (x0 ≤ 122)) = true) {r : Rs} (hr : Q7 G (Qn p0 (i0 + 1)) r) : Q7 G (Qn p0 i0) r := by
 have hB0 := H.1; have e0 := of_decide_eq_true h0; have e1 := of_decide_eq_true h1
 exact Q9 VOK.nil (y := (Q12 p0 (i0 + 1), Q13 p0 (i0 + 1))) [hB 3 hc0, hP 2 (Q1c p0 i0 x0 hx0), hB 2 h0, hB 2 h1, hP 34 (Qt i0 (by omega))] [] (by kernel_rfl) hr
theorem Q103 (p0 : ByteArray) (H : Q10 p0) (x0 : Int) (i0 : Nat) (hx0 : (letters p0)[i0]? = some x0) (_hi0 : i0 < List.length (letters p0)) (hc0 : (decide ((i0 : Int) < (ByteArray.size p0 : Int))) = true) (h0 : (decide (97 ≤ x0)) = true) (h1 : (decide (x0 ≤ 122)) = false) (h2 : (decide (65 ≤ x0)) = true) (h3 : (decide (x0 ≤ 90)) = true) {r : Rs} (hr : Q7 G (Qn p0 (i0 + 1)) r) : Q7 G (Qn p0 i0) r := by
 have hB0 := H.1; have e0 := of_decide_eq_true h0; have e1 := of_decide_eq_false h1; have e2 := of_decide_eq_true h2; have e3 := of_decide_eq_true h3
 exact Q9 VOK.nil (y := (Q12 p0 (i0 + 1), Q13 p0 (i0 + 1))) [hB 3 hc0, hP 2 (Q1c p0 i0 x0 hx0), hB 2 h0, hB 2 h1, hB 3 h2, hB 2 h3, hP 27 (Qt i0 (by omega))] [] (by kernel_rfl) hr
theorem Q12k (p0 : ByteArray) (H : Q10 p0) (x0 : Int) (i0 : Nat) (hx0 : (letters p0)[i0]? = some x0) (_hi0 : i0 < List.length (letters p0)) (hc0 : (decide ((i0 : Int) < (ByteArray.size p0 : Int))) = true) (h0 : (decide (97 ≤ x0)) = true) (h1 : (decide (x0 ≤ 122)) = false) (h2 : (decide (65 ≤ x0)) = true) (h3 : (decide (x0 ≤ 90)) = false) (h4 : (decide (48 ≤ x0)) = true) (h5 : (decide (x0 ≤ 57)) = true) {r : Rs} (hr : Q7 G (Qn p0 (i0 + 1)) r) : Q7 G (Qn p0 i0) r := by
 have hB0 := H.1; have e0 := of_decide_eq_true h0; have e1 := of_decide_eq_false h1; have e2 := of_decide_eq_true h2; have e3 := of_decide_eq_false h3; have e4 := of_decide_eq_true h4; have e5 := of_decide_eq_true h5
 exact Q9 VOK.nil (y := (Q12 p0 (i0 + 1), Q13 p0 (i0 + 1))) [hB 3 hc0, hP 2 (Q1c p0 i0 x0 hx0), hB 2 h0, hB 2 h1, hB 3 h2, hB 2 h3, hB 7 h4, hB 2 h5, hP 16 (Qt i0 (by omega))] [] (by kernel_rfl) hr
theorem Q10m (p0 : ByteArray) (H : Q10 p0) (x0 : Int) (i0 : Nat) (hx0 : (letters p0)[i0]? = some x0) (_hi0 : i0 < List.length (letters p0)) (hc0 : (decide ((i0 : Int) < (ByteArray.size p0 : Int))) = true) (h0 : (decide (97 ≤ x0)) = true) (h1 : (decide (x0 ≤ 122)) = false) (h2 : (decide (65 ≤ x0)) = true) (h3 : (decide (x0 ≤ 90)) = false) (h4 : (decide (48 ≤ x0)) = true) (h5 : (decide (x0 ≤ 57)) = false) (h6 : (x0 == 45) = true) {r : Rs} (hr : Q7 G (Qn p0 (i0 + 1)) r) : Q7 G (Qn p0 i0) r := by
 have hB0 := H.1; have e0 := of_decide_eq_true h0; have e1 := of_decide_eq_false h1; have e2 := of_decide_eq_true h2; have e3 := of_decide_eq_false h3; have e4 := of_decide_eq_true h4; have e5 := of_decide_eq_false h5; have e6 := eq_of_beq h6
 exact Q9 VOK.nil (y := (Q12 p0 (i0 + 1), Q13 p0 (i0 + 1))) [hB 3 hc0, hP 2 (Q1c p0 i0 x0 hx0), hB 2 h0, hB 2 h1, hB 3 h2, hB 2 h3, hB 7 h4, hB 2 h5, hP 5 (dec (!(x0 == 45)) false (by rw [h6]; rfl)), hP 10 (Qt i0 (by omega))] [] (by kernel_rfl) hr
theorem Qyc (p0 : ByteArray) (H : Q10 p0) (x0 : Int) (i0 : Nat) (hx0 : (letters p0)[i0]? = some x0) (_hi0 : i0 < List.length (letters p0)) (hc0 : (decide ((i0 : Int) < (ByteArray.size p0 : Int))) = true) (h0 : (decide (97 ≤ x0)) = true) (h1 : (decide (x0 ≤ 122)) = false) (h2 : (decide (65 ≤ x0)) = true) (h3 : (decide (x0 ≤ 90)) = false) (h4 : (decide (48 ≤ x0)) = true) (h5 : (decide (x0 ≤ 57)) = false) (h6 : (x0 == 45) = false) (h7 : (x0 == 95) = true) {r : Rs} (hr : Q7 G (Qn p0 (i0 + 1)) r) : Q7 G (Qn p0 i0) r := by
 have hB0 := H.1; have e0 := of_decide_eq_true h0; have e1 := of_decide_eq_false h1; have e2 := of_decide_eq_true h2; have e3 := of_decide_eq_false h3; have e4 := of_decide_eq_true h4; have e5 := of_decide_eq_false h5; have e6 := beq_eq_false_iff_ne.1 h6; have e7 := eq_of_beq h7
 exact Q9 VOK.nil (y := (Q12 p0 (i0 + 1), Q13 p0 (i0 + 1))) [hB 3 hc0, hP 2 (Q1c p0 i0 x0 hx0), hB 2 h0, hB 2 h1, hB 3 h2, hB 2 h3, hB 7 h4, hB 2 h5, hP 5 (dec (!(x0 == 45)) true (by rw [h6]; rfl)), hP 3 (dec (!(x0 == 95)) false (by rw [h7]; rfl)), hP 6 (Qt i0 (by omega))] [] (by kernel_rfl) hr
theorem Q12q (p0 : ByteArray) (H : Q10 p0) (x0 : Int) (i0 : Nat) (hx0 : (letters p0)[i0]? = some x0) (_hi0 : i0 < List.length (letters p0)) (hc0 : (decide ((i0 : Int) < (ByteArray.size p0 : Int))) = true) (h0 : (decide (97 ≤ x0)) = true) (h1 : (decide (x0 ≤ 122)) = false) (h2 : (decide (65 ≤ x0)) = true) (h3 : (decide (x0 ≤ 90)) = false) (h4 : (decide (48 ≤ x0)) = true) (h5 : (decide (x0 ≤ 57)) = false) (h6 : (x0 == 45) = false) (h7 : (x0 == 95) = false) (h8 : (x0 == 47) = true) {r : Rs} (hr : Q7 G (Qn p0 (i0 + 1)) r) : Q7 G (Qn p0 i0) r := by
 have hB0 := H.1; have e0 := of_decide_eq_true h0; have e1 := of_decide_eq_false h1; have e2 := of_decide_eq_true h2; have e3 := of_decide_eq_false h3; have e4 := of_decide_eq_true h4; have e5 := of_decide_eq_false h5; have e6 := beq_eq_false_iff_ne.1 h6; have e7 := beq_eq_false_iff_ne.1 h7; have e8 := eq_of_beq h8
 exact Q9 VOK.nil (y := (Q12 p0 (i0 + 1), Q13 p0 (i0 + 1))) [hB 3 hc0, hP 2 (Q1c p0 i0 x0 hx0), hB 2 h0, hB 2 h1, hB 3 h2, hB 2 h3, hB 7 h4, hB 2 h5, hP 5 (dec (!(x0 == 45)) true (by rw [h6]; rfl)), hP 3 (dec (!(x0 == 95)) true (by rw [h7]; rfl)), hP 3 (dec (!(x0 == 47)) false (by rw [h8]; rfl)), hP 2 (Qt i0 (by omega))] [] (by kernel_rfl) hr
def Qol (p0 : ByteArray) (i0 : Nat) (x0 : Int) : List PV :=
  [.str p0, .un, .un, .int .i64 (i0 : Int), .int .u8 x0, .bool false, .int .i64 (i0 : Int), .str p0, .int .i64 (ByteArray.size p0 : Int), .bool true, .un, .un, .str p0, .int .i64 (i0 : Int), .int .u8 x0, .int .u8 x0, .bool true, .bool true, .int .u8 x0, .bool false, .bool false, .bool false, .int .u8 x0, .bool true, .bool true, .int .u8 x0, .bool false, .bool false, .bool false, .bool false, .bool true, .bool true, .int .u8 x0, .bool true, .bool true, .int .u8 x0, .bool false, .bool false, .bool true, .bool true, .bool true, .int .u8 x0, .bool true, .bool true, .bool true, .int .u8 x0, .bool true, .bool true, .bool true, .int .u8 x0, .bool true, .bool true]
def Qhu (_p0 : ByteArray) (_i0 : Nat) (_x0 : Int) : List (Nat × List PV) :=
  []
theorem Qy4 (p0 : ByteArray) (_H : Q10 p0) (x0 : Int) (i0 : Nat) (hx0 : (letters p0)[i0]? = some x0) (_hi0 : i0 < List.length (letters p0)) (hc0 : (decide ((i0 : Int) < (ByteArray.size p0 : Int))) = true) (h0 : (decide (97 ≤ x0)) = true) (h1 : (decide (x0 ≤ 122)) = false) (h2 : (decide (65 ≤ x0)) = true) (h3 : (decide (x0 ≤ 90)) = false) (h4 : (decide (48 ≤ x0)) = true) (h5 : (decide (x0 ≤ 57)) = false) (h6 : (x0 == 45) = false) (h7 : (x0 == 95) = false) (h8 : (x0 == 47) = false) : Q45 p0 (Qn p0 i0) (.k1) := by
 exact ⟨(envF (Qol p0 i0 x0)), (zoF (Qhu p0 i0 x0)), Qe VOK.nil (x := (.ret, Q3i p0 (envF (Qol p0 i0 x0)) (zoF (Qhu p0 i0 x0)))) [hB 3 hc0, hP 2 (Q1c p0 i0 x0 hx0), hB 2 h0, hB 2 h1, hB 3 h2, hB 2 h3, hB 7 h4, hB 2 h5, hP 5 (dec (!(x0 == 45)) true (by rw [h6]; rfl)), hP 3 (dec (!(x0 == 95)) true (by rw [h7]; rfl)), hP 3 (dec (!(x0 == 47)) true (by rw [h8]; rfl))] [] (by kernel_rfl)⟩
theorem Q11a (p0 : ByteArray) (H : Q10 p0) (x0 : Int) (i0 : Nat) (hx0 : (letters p0)[i0]? = some x0) (_hi0 : i0 < List.length (letters p0)) (hc0 : (decide ((i0 : Int) < (ByteArray.size p0 : Int))) = true) (h0 : (decide (97 ≤ x0)) = true) (h1 : (decide (x0 ≤ 122)) = false) (h2 : (decide (65 ≤ x0)) = true) (h3 : (decide (x0 ≤ 90)) = false) (h4 : (decide (48 ≤ x0)) = false) (h5 : (x0 == 45) = true) {r : Rs} (hr : Q7 G (Qn p0 (i0 + 1)) r) : Q7 G (Qn p0 i0) r := by
 have hB0 := H.1; have e0 := of_decide_eq_true h0; have e1 := of_decide_eq_false h1; have e2 := of_decide_eq_true h2; have e3 := of_decide_eq_false h3; have e4 := of_decide_eq_false h4; have e5 := eq_of_beq h5
 exact Q9 VOK.nil (y := (Q12 p0 (i0 + 1), Q13 p0 (i0 + 1))) [hB 3 hc0, hP 2 (Q1c p0 i0 x0 hx0), hB 2 h0, hB 2 h1, hB 3 h2, hB 2 h3, hB 7 h4, hP 8 (dec (!(x0 == 45)) false (by rw [h5]; rfl)), hP 10 (Qt i0 (by omega))] [] (by kernel_rfl) hr
theorem Qz8 (p0 : ByteArray) (H : Q10 p0) (x0 : Int) (i0 : Nat) (hx0 : (letters p0)[i0]? = some x0) (_hi0 : i0 < List.length (letters p0)) (hc0 : (decide ((i0 : Int) < (ByteArray.size p0 : Int))) = true) (h0 : (decide (97 ≤ x0)) = true) (h1 : (decide (x0 ≤ 122)) = false) (h2 : (decide (65 ≤ x0)) = true) (h3 : (decide (x0 ≤ 90)) = false) (h4 : (decide (48 ≤ x0)) = false) (h5 : (x0 == 45) = false) (h6 : (x0 == 95) = true) {r : Rs} (hr : Q7 G (Qn p0 (i0 + 1)) r) : Q7 G (Qn p0 i0) r := by
 have hB0 := H.1; have e0 := of_decide_eq_true h0; have e1 := of_decide_eq_false h1; have e2 := of_decide_eq_true h2; have e3 := of_decide_eq_false h3; have e4 := of_decide_eq_false h4; have e5 := beq_eq_false_iff_ne.1 h5; have e6 := eq_of_beq h6
 exact Q9 VOK.nil (y := (Q12 p0 (i0 + 1), Q13 p0 (i0 + 1))) [hB 3 hc0, hP 2 (Q1c p0 i0 x0 hx0), hB 2 h0, hB 2 h1, hB 3 h2, hB 2 h3, hB 7 h4, hP 8 (dec (!(x0 == 45)) true (by rw [h5]; rfl)), hP 3 (dec (!(x0 == 95)) false (by rw [h6]; rfl)), hP 6 (Qt i0 (by omega))] [] (by kernel_rfl) hr
theorem Qxi (p0 : ByteArray) (H : Q10 p0) (x0 : Int) (i0 : Nat) (hx0 : (letters p0)[i0]? = some x0) (_hi0 : i0 < List.length (letters p0)) (hc0 : (decide ((i0 : Int) < (ByteArray.size p0 : Int))) = true) (h0 : (decide (97 ≤ x0)) = true) (h1 : (decide (x0 ≤ 122)) = false) (h2 : (decide (65 ≤ x0)) = true) (h3 : (decide (x0 ≤ 90)) = false) (h4 : (decide (48 ≤ x0)) = false) (h5 : (x0 == 45) = false) (h6 : (x0 == 95) = false) (h7 : (x0 == 47) = true) {r : Rs} (hr : Q7 G (Qn p0 (i0 + 1)) r) : Q7 G (Qn p0 i0) r := by
 have hB0 := H.1; have e0 := of_decide_eq_true h0; have e1 := of_decide_eq_false h1; have e2 := of_decide_eq_true h2; have e3 := of_decide_eq_false h3; have e4 := of_decide_eq_false h4; have e5 := beq_eq_false_iff_ne.1 h5; have e6 := beq_eq_false_iff_ne.1 h6; have e7 := eq_of_beq h7
 exact Q9 VOK.nil (y := (Q12 p0 (i0 + 1), Q13 p0 (i0 + 1))) [hB 3 hc0, hP 2 (Q1c p0 i0 x0 hx0), hB 2 h0, hB 2 h1, hB 3 h2, hB 2 h3, hB 7 h4, hP 8 (dec (!(x0 == 45)) true (by rw [h5]; rfl)), hP 3 (dec (!(x0 == 95)) true (by rw [h6]; rfl)), hP 3 (dec (!(x0 == 47)) false (by rw [h7]; rfl)), hP 2 (Qt i0 (by omega))] [] (by kernel_rfl) hr
def Qhc (p0 : ByteArray) (i0 : Nat) (x0 : Int) : List PV :=
  [.str p0, .un, .un, .int .i64 (i0 : Int), .int .u8 x0, .bool false, .int .i64 (i0 : Int), .str p0, .int .i64 (ByteArray.size p0 : Int), .bool true, .un, .un, .str p0, .int .i64 (i0 : Int), .int .u8 x0, .int .u8 x0, .bool true, .bool true, .int .u8 x0, .bool false, .bool false, .bool false, .int .u8 x0, .bool true, .bool true, .int .u8 x0, .bool false, .bool false, .bool false, .bool false, .bool true, .bool true, .int .u8 x0, .bool false, .bool false, .tup [], .tup [], .bool false, .bool true, .bool true, .bool true, .int .u8 x0, .bool true, .bool true, .bool true, .int .u8 x0, .bool true, .bool true, .bool true, .int .u8 x0, .bool true, .bool true]
def Qf5 (_p0 : ByteArray) (_i0 : Nat) (_x0 : Int) : List (Nat × List PV) :=
  []
theorem Qw7 (p0 : ByteArray) (_H : Q10 p0) (x0 : Int) (i0 : Nat) (hx0 : (letters p0)[i0]? = some x0) (_hi0 : i0 < List.length (letters p0)) (hc0 : (decide ((i0 : Int) < (ByteArray.size p0 : Int))) = true) (h0 : (decide (97 ≤ x0)) = true) (h1 : (decide (x0 ≤ 122)) = false) (h2 : (decide (65 ≤ x0)) = true) (h3 : (decide (x0 ≤ 90)) = false) (h4 : (decide (48 ≤ x0)) = false) (h5 : (x0 == 45) = false) (h6 : (x0 == 95) = false) (h7 : (x0 == 47) = false) : Q45 p0 (Qn p0 i0) (.k1) := by
 exact ⟨(envF (Qhc p0 i0 x0)), (zoF (Qf5 p0 i0 x0)), Qe VOK.nil (x := (.ret, Q3i p0 (envF (Qhc p0 i0 x0)) (zoF (Qf5 p0 i0 x0)))) [hB 3 hc0, hP 2 (Q1c p0 i0 x0 hx0), hB 2 h0, hB 2 h1, hB 3 h2, hB 2 h3, hB 7 h4, hP 8 (dec (!(x0 == 45)) true (by rw [h5]; rfl)), hP 3 (dec (!(x0 == 95)) true (by rw [h6]; rfl)), hP 3 (dec (!(x0 == 47)) true (by rw [h7]; rfl))] [] (by kernel_rfl)⟩
theorem Qwu (p0 : ByteArray) (H : Q10 p0) (x0 : Int) (i0 : Nat) (hx0 : (letters p0)[i0]? = some x0) (_hi0 : i0 < List.length (letters p0)) (hc0 : (decide ((i0 : Int) < (ByteArray.size p0 : Int))) = true) (h0 : (decide (97 ≤ x0)) = true) (h1 : (decide (x0 ≤ 122)) = false) (h2 : (decide (65 ≤ x0)) = false) (h3 : (decide (48 ≤ x0)) = true) (h4 : (decide (x0 ≤ 57)) = true) {r : Rs} (hr : Q7 G (Qn p0 (i0 + 1)) r) : Q7 G (Qn p0 i0) r := by
 have hB0 := H.1; have e0 := of_decide_eq_true h0; have e1 := of_decide_eq_false h1; have e2 := of_decide_eq_false h2; have e3 := of_decide_eq_true h3; have e4 := of_decide_eq_true h4
 exact Q9 VOK.nil (y := (Q12 p0 (i0 + 1), Q13 p0 (i0 + 1))) [hB 3 hc0, hP 2 (Q1c p0 i0 x0 hx0), hB 2 h0, hB 2 h1, hB 3 h2, hB 10 h3, hB 2 h4, hP 16 (Qt i0 (by omega))] [] (by kernel_rfl) hr
theorem Qvw (p0 : ByteArray) (H : Q10 p0) (x0 : Int) (i0 : Nat) (hx0 : (letters p0)[i0]? = some x0) (_hi0 : i0 < List.length (letters p0)) (hc0 : (decide ((i0 : Int) < (ByteArray.size p0 : Int))) = true) (h0 : (decide (97 ≤ x0)) = true) (h1 : (decide (x0 ≤ 122)) = false) (h2 : (decide (65 ≤ x0)) = false) (h3 : (decide (48 ≤ x0)) = true) (h4 : (decide (x0 ≤ 57)) = false) (h5 : (x0 == 45) = true) {r : Rs} (hr : Q7 G (Qn p0 (i0 + 1)) r) : Q7 G (Qn p0 i0) r := by
 have hB0 := H.1; have e0 := of_decide_eq_true h0; have e1 := of_decide_eq_false h1; have e2 := of_decide_eq_false h2; have e3 := of_decide_eq_true h3; have e4 := of_decide_eq_false h4; have e5 := eq_of_beq h5
 exact Q9 VOK.nil (y := (Q12 p0 (i0 + 1), Q13 p0 (i0 + 1))) [hB 3 hc0, hP 2 (Q1c p0 i0 x0 hx0), hB 2 h0, hB 2 h1, hB 3 h2, hB 10 h3, hB 2 h4, hP 5 (dec (!(x0 == 45)) false (by rw [h5]; rfl)), hP 10 (Qt i0 (by omega))] [] (by kernel_rfl) hr
theorem Qx2 (p0 : ByteArray) (H : Q10 p0) (x0 : Int) (i0 : Nat) (hx0 : (letters p0)[i0]? = some x0) (_hi0 : i0 < List.length (letters p0)) (hc0 : (decide ((i0 : Int) < (ByteArray.size p0 : Int))) = true) (h0 : (decide (97 ≤ x0)) = true) (h1 : (decide (x0 ≤ 122)) = false) (h2 : (decide (65 ≤ x0)) = false) (h3 : (decide (48 ≤ x0)) = true) (h4 : (decide (x0 ≤ 57)) = false) (h5 : (x0 == 45) = false) (h6 : (x0 == 95) = true) {r : Rs} (hr : Q7 G (Qn p0 (i0 + 1)) r) : Q7 G (Qn p0 i0) r := by
 have hB0 := H.1; have e0 := of_decide_eq_true h0; have e1 := of_decide_eq_false h1; have e2 := of_decide_eq_false h2; have e3 := of_decide_eq_true h3; have e4 := of_decide_eq_false h4; have e5 := beq_eq_false_iff_ne.1 h5; have e6 := eq_of_beq h6
 exact Q9 VOK.nil (y := (Q12 p0 (i0 + 1), Q13 p0 (i0 + 1))) [hB 3 hc0, hP 2 (Q1c p0 i0 x0 hx0), hB 2 h0, hB 2 h1, hB 3 h2, hB 10 h3, hB 2 h4, hP 5 (dec (!(x0 == 45)) true (by rw [h5]; rfl)), hP 3 (dec (!(x0 == 95)) false (by rw [h6]; rfl)), hP 6 (Qt i0 (by omega))] [] (by kernel_rfl) hr
theorem Qwl (p0 : ByteArray) (H : Q10 p0) (x0 : Int) (i0 : Nat) (hx0 : (letters p0)[i0]? = some x0) (_hi0 : i0 < List.length (letters p0)) (hc0 : (decide ((i0 : Int) < (ByteArray.size p0 : Int))) = true) (h0 : (decide (97 ≤ x0)) = true) (h1 : (decide (x0 ≤ 122)) = false) (h2 : (decide (65 ≤ x0)) = false) (h3 : (decide (48 ≤ x0)) = true) (h4 : (decide (x0 ≤ 57)) = false) (h5 : (x0 == 45) = false) (h6 : (x0 == 95) = false) (h7 : (x0 == 47) = true) {r : Rs} (hr : Q7 G (Qn p0 (i0 + 1)) r) : Q7 G (Qn p0 i0) r := by
 have hB0 := H.1; have e0 := of_decide_eq_true h0; have e1 := of_decide_eq_false h1; have e2 := of_decide_eq_false h2; have e3 := of_decide_eq_true h3; have e4 := of_decide_eq_false h4; have e5 := beq_eq_false_iff_ne.1 h5; have e6 := beq_eq_false_iff_ne.1 h6; have e7 := eq_of_beq h7
 exact Q9 VOK.nil (y := (Q12 p0 (i0 + 1), Q13 p0 (i0 + 1))) [hB 3 hc0, hP 2 (Q1c p0 i0 x0 hx0), hB 2 h0, hB 2 h1, hB 3 h2, hB 10 h3, hB 2 h4, hP 5 (dec (!(x0 == 45)) true (by rw [h5]; rfl)), hP 3 (dec (!(x0 == 95)) true (by rw [h6]; rfl)), hP 3 (dec (!(x0 == 47)) false (by rw [h7]; rfl)), hP 2 (Qt i0 (by omega))] [] (by kernel_rfl) hr
def Qil (p0 : ByteArray) (i0 : Nat) (x0 : Int) : List PV :=
  [.str p0, .un, .un, .int .i64 (i0 : Int), .int .u8 x0, .bool false, .int .i64 (i0 : Int), .str p0, .int .i64 (ByteArray.size p0 : Int), .bool true, .un, .un, .str p0, .int .i64 (i0 : Int), .int .u8 x0, .int .u8 x0, .bool true, .bool true, .int .u8 x0, .bool false, .bool false, .bool false, .int .u8 x0, .bool false, .bool false, .tup [], .tup [], .bool false, .bool false, .bool false, .bool true, .bool true, .int .u8 x0, .bool true, .bool true, .int .u8 x0, .bool false, .bool false, .bool true, .bool true, .bool true, .int .u8 x0, .bool true, .bool true, .bool true, .int .u8 x0, .bool true, .bool true, .bool true, .int .u8 x0, .bool true, .bool true]
def Qcx (_p0 : ByteArray) (_i0 : Nat) (_x0 : Int) : List (Nat × List PV) :=
  []
theorem Quv (p0 : ByteArray) (_H : Q10 p0) (x0 : Int) (i0 : Nat) (hx0 : (letters p0)[i0]? = some x0) (_hi0 : i0 < List.length (letters p0)) (hc0 : (decide ((i0 : Int) < (ByteArray.size p0 : Int))) = true) (h0 : (decide (97 ≤ x0)) = true) (h1 : (decide (x0 ≤ 122)) = false) (h2 : (decide (65 ≤ x0)) = false) (h3 : (decide (48 ≤ x0)) = true) (h4 : (decide (x0 ≤ 57)) = false) (h5 : (x0 == 45) = false) (h6 : (x0 == 95) = false) (h7 : (x0 == 47) = false) : Q45 p0 (Qn p0 i0) (.k1) := by
 exact ⟨(envF (Qil p0 i0 x0)), (zoF (Qcx p0 i0 x0)), Qe VOK.nil (x := (.ret, Q3i p0 (envF (Qil p0 i0 x0)) (zoF (Qcx p0 i0 x0)))) [hB 3 hc0, hP 2 (Q1c p0 i0 x0 hx0), hB 2 h0, hB 2 h1, hB 3 h2, hB 10 h3, hB 2 h4, hP 5 (dec (!(x0 == 45)) true (by rw [h5]; rfl)), hP 3 (dec (!(x0 == 95)) true (by rw [h6]; rfl)), hP 3 (dec (!(x0 == 47)) true (by rw [h7]; rfl))] [] (by kernel_rfl)⟩
theorem Qvt (p0 : ByteArray) (H : Q10 p0) (x0 : Int) (i0 : Nat) (hx0 : (letters p0)[i0]? = some x0) (_hi0 : i0 < List.length (letters p0)) (hc0 : (decide ((i0 : Int) < (ByteArray.size p0 : Int))) = true) (h0 : (decide (97 ≤ x0)) = true) (h1 : (decide (x0 ≤ 122)) = false) (h2 : (decide (65 ≤ x0)) = false) (h3 : (decide (48 ≤ x0)) = false) (h4 : (x0 == 45) = true) {r : Rs} (hr : Q7 G (Qn p0 (i0 + 1)) r) : Q7 G (Qn p0 i0) r := by
 have hB0 := H.1; have e0 := of_decide_eq_true h0; have e1 := of_decide_eq_false h1; have e2 := of_decide_eq_false h2; have e3 := of_decide_eq_false h3; have e4 := eq_of_beq h4
 exact Q9 VOK.nil (y := (Q12 p0 (i0 + 1), Q13 p0 (i0 + 1))) [hB 3 hc0, hP 2 (Q1c p0 i0 x0 hx0), hB 2 h0, hB 2 h1, hB 3 h2, hB 10 h3, hP 8 (dec (!(x0 == 45)) false (by rw [h4]; rfl)), hP 10 (Qt i0 (by omega))] [] (by kernel_rfl) hr
theorem Qx5 (p0 : ByteArray) (H : Q10 p0) (x0 : Int) (i0 : Nat) (hx0 : (letters p0)[i0]? = some x0) (_hi0 : i0 < List.length (letters p0)) (hc0 : (decide ((i0 : Int) < (ByteArray.size p0 : Int))) = true) (h0 : (decide (97 ≤ x0)) = true) (h1 : (decide (x0 ≤ 122)) = false) (h2 : (decide (65 ≤ x0)) = false) (h3 : (decide (48 ≤ x0)) = false) (h4 : (x0 == 45) = false) (h5 : (x0 == 95) = true) {r : Rs} (hr : Q7 G (Qn p0 (i0 + 1)) r) : Q7 G (Qn p0 i0) r := by
 have hB0 := H.1; have e0 := of_decide_eq_true h0; have e1 := of_decide_eq_false h1; have e2 := of_decide_eq_false h2; have e3 := of_decide_eq_false h3; have e4 := beq_eq_false_iff_ne.1 h4; have e5 := eq_of_beq h5
 exact Q9 VOK.nil (y := (Q12 p0 (i0 + 1), Q13 p0 (i0 + 1))) [hB 3 hc0, hP 2 (Q1c p0 i0 x0 hx0), hB 2 h0, hB 2 h1, hB 3 h2, hB 10 h3, hP 8 (dec (!(x0 == 45)) true (by rw [h4]; rfl)), hP 3 (dec (!(x0 == 95)) false (by rw [h5]; rfl)), hP 6 (Qt i0 (by omega))] [] (by kernel_rfl) hr
theorem Qx8 (p0 : ByteArray) (H : Q10 p0) (x0 : Int) (i0 : Nat) (hx0 : (letters p0)[i0]? = some x0) (_hi0 : i0 < List.length (letters p0)) (hc0 : (decide ((i0 : Int) < (ByteArray.size p0 : Int))) = true) (h0 : (decide (97 ≤ x0)) = true) (h1 : (decide (x0 ≤ 122)) = false) (h2 : (decide (65 ≤ x0)) = false) (h3 : (decide (48 ≤ x0)) = false) (h4 : (x0 == 45) = false) (h5 : (x0 == 95) = false) (h6 : (x0 == 47) = true) {r : Rs} (hr : Q7 G (Qn p0 (i0 + 1)) r) : Q7 G (Qn p0 i0) r := by
 have hB0 := H.1; have e0 := of_decide_eq_true h0; have e1 := of_decide_eq_false h1; have e2 := of_decide_eq_false h2; have e3 := of_decide_eq_false h3; have e4 := beq_eq_false_iff_ne.1 h4; have e5 := beq_eq_false_iff_ne.1 h5; have e6 := eq_of_beq h6
 exact Q9 VOK.nil (y := (Q12 p0 (i0 + 1), Q13 p0 (i0 + 1))) [hB 3 hc0, hP 2 (Q1c p0 i0 x0 hx0), hB 2 h0, hB 2 h1, hB 3 h2, hB 10 h3, hP 8 (dec (!(x0 == 45)) true (by rw [h4]; rfl)), hP 3 (dec (!(x0 == 95)) true (by rw [h5]; rfl)), hP 3 (dec (!(x0 == 47)) false (by rw [h6]; rfl)), hP 2 (Qt i0 (by omega))] [] (by kernel_rfl) hr
def Qgu (p0 : ByteArray) (i0 : Nat) (x0 : Int) : List PV :=
  [.str p0, .un, .un, .int .i64 (i0 : Int), .int .u8 x0, .bool false, .int .i64 (i0 : Int), .str p0, .int .i64 (ByteArray.size p0 : Int), .bool true, .un, .un, .str p0, .int .i64 (i0 : Int), .int .u8 x0, .int .u8 x0, .bool true, .bool true, .int .u8 x0, .bool false, .bool false, .bool false, .int .u8 x0, .bool false, .bool false, .tup [], .tup [], .bool false, .bool false, .bool false, .bool true, .bool true, .int .u8 x0, .bool false, .bool false, .tup [], .tup [], .bool false, .bool true, .bool true, .bool true, .int .u8 x0, .bool true, .bool true, .bool true, .int .u8 x0, .bool true, .bool true, .bool true, .int .u8 x0, .bool true, .bool true]
def Qfy (_p0 : ByteArray) (_i0 : Nat) (_x0 : Int) : List (Nat × List PV) :=
  []
theorem Qwz (p0 : ByteArray) (_H : Q10 p0) (x0 : Int) (i0 : Nat) (hx0 : (letters p0)[i0]? = some x0) (_hi0 : i0 < List.length (letters p0)) (hc0 : (decide ((i0 : Int) < (ByteArray.size p0 : Int))) = true) (h0 : (decide (97 ≤ x0)) = true) (h1 : (decide (x0 ≤ 122)) = false) (h2 : (decide (65 ≤ x0)) = false) (h3 : (decide (48 ≤ x0)) = false) (h4 : (x0 == 45) = false) (h5 : (x0 == 95) = false) (h6 : (x0 == 47) = false) : Q45 p0 (Qn p0 i0) (.k1) := by
 exact ⟨(envF (Qgu p0 i0 x0)), (zoF (Qfy p0 i0 x0)), Qe VOK.nil (x := (.ret, Q3i p0 (envF (Qgu p0 i0 x0)) (zoF (Qfy p0 i0 x0)))) [hB 3 hc0, hP 2 (Q1c p0 i0 x0 hx0), hB 2 h0, hB 2 h1, hB 3 h2, hB 10 h3, hP 8 (dec (!(x0 == 45)) true (by rw [h4]; rfl)), hP 3 (dec (!(x0 == 95)) true (by rw [h5]; rfl)), hP 3 (dec (!(x0 == 47)) true (by rw [h6]; rfl))] [] (by kernel_rfl)⟩
theorem Qxt (p0 : ByteArray) (H : Q10 p0) (x0 : Int) (i0 : Nat) (hx0 : (letters p0)[i0]? = some x0) (hi0 : i0 < List.length (letters p0)) (hc0 : (decide ((i0 : Int) < (ByteArray.size p0 : Int))) = true) (h0 : (decide (97 ≤ x0)) = false) (h1 : (decide (65 ≤ x0)) = true) (h2 : (decide (x0 ≤ 90)) = true) {r : Rs} (hr : Q7 G (Qn p0 (i0 + 1)) r) : Q7 G (Qn p0 i0) r := by
 have hB0 := H.1; have e0 := of_decide_eq_false h0; have e1 := of_decide_eq_true h1; have e2 := of_decide_eq_true h2
 exact Q9 VOK.nil (y := (Q12 p0 (i0 + 1), Q13 p0 (i0 + 1))) [hB 3 hc0, hP 2 (Q1c p0 i0 x0 hx0), hB 2 h0, hB 6 h1, hB 2 h2, hP 27 (Qt i0 (by omega))] [] (by kernel_rfl) hr
theorem Qwo (p0 : ByteArray) (H : Q10 p0) (x0 : Int) (i0 : Nat) (hx0 : (letters p0)[i0]? = some x0) (_hi0 : i0 < List.length (letters p0)) (hc0 : (decide ((i0 : Int) < (ByteArray.size p0 : Int))) = true) (h0 : (decide (97 ≤ x0)) = false) (h1 : (decide (65 ≤ x0)) = true) (h2 : (decide (x0 ≤ 90)) = false) (h3 : (decide (48 ≤ x0)) = true) (h4 : (decide (x0 ≤ 57)) = true) {r : Rs} (hr : Q7 G (Qn p0 (i0 + 1)) r) : Q7 G (Qn p0 i0) r := by
 have hB0 := H.1; have e0 := of_decide_eq_false h0; have e1 := of_decide_eq_true h1; have e2 := of_decide_eq_false h2; have e3 := of_decide_eq_true h3; have e4 := of_decide_eq_true h4
 exact Q9 VOK.nil (y := (Q12 p0 (i0 + 1), Q13 p0 (i0 + 1))) [hB 3 hc0, hP 2 (Q1c p0 i0 x0 hx0), hB 2 h0, hB 6 h1, hB 2 h2, hB 7 h3, hB 2 h4, hP 16 (Qt i0 (by omega))] [] (by kernel_rfl) hr
theorem Qwp (p0 : ByteArray) (H : Q10 p0) (x0 : Int) (i0 : Nat) (hx0 : (letters p0)[i0]? = some x0) (_hi0 : i0 < List.length (letters p0)) (hc0 : (decide ((i0 : Int) < (ByteArray.size p0 : Int))) = true) (h0 : (decide (97 ≤ x0)) = false) (h1 : (decide (65 ≤ x0)) = true) (h2 : (decide (x0 ≤ 90)) = false) (h3 : (decide (48 ≤ x0)) = true) (h4 : (decide (x0 ≤ 57)) = false) (h5 : (x0 == 45) = true) {r : Rs} (hr : Q7 G (Qn p0 (i0 + 1)) r) : Q7 G (Qn p0 i0) r := by
 have hB0 := H.1; have e0 := of_decide_eq_false h0; have e1 := of_decide_eq_true h1; have e2 := of_decide_eq_false h2; have e3 := of_decide_eq_true h3; have e4 := of_decide_eq_false h4; have e5 := eq_of_beq h5
 exact Q9 VOK.nil (y := (Q12 p0 (i0 + 1), Q13 p0 (i0 + 1))) [hB 3 hc0, hP 2 (Q1c p0 i0 x0 hx0), hB 2 h0, hB 6 h1, hB 2 h2, hB 7 h3, hB 2 h4, hP 5 (dec (!(x0 == 45)) false (by rw [h5]; rfl)), hP 10 (Qt i0 (by omega))] [] (by kernel_rfl) hr
theorem Qv3 (p0 : ByteArray) (H : Q10 p0) (x0 : Int) (i0 : Nat) (hx0 : (letters p0)[i0]? = some x0) (hi0 : i0 < List.length (letters p0)) (hc0 : (decide ((i0 : Int) < (ByteArray.size p0 : Int))) = true) (h0 : (decide (97 ≤ x0)) = false) (h1 : (decide (65 ≤ x0)) = true) (h2 : (decide (x0 ≤ 90)) = false) (h3 : (decide (48 ≤ x0)) = true) (h4 : (decide (x0 ≤ 57)) = false) (h5 : (x0 == 45) = false) (h6 : (x0 == 95) = true) {r : Rs} (hr : Q7 G (Qn p0 (i0 + 1)) r) : Q7 G (Qn p0 i0) r := by
 have hB0 := H.1; have e0 := of_decide_eq_false h0; have e1 := of_decide_eq_true h1; have e2 := of_decide_eq_false h2; have e3 := of_decide_eq_true h3; have e4 := of_decide_eq_false h4; have e5 := beq_eq_false_iff_ne.1 h5; have e6 := eq_of_beq h6
 exact Q9 VOK.nil (y := (Q12 p0 (i0 + 1), Q13 p0 (i0 + 1))) [hB 3 hc0, hP 2 (Q1c p0 i0 x0 hx0), hB 2 h0, hB 6 h1, hB 2 h2, hB 7 h3, hB 2 h4, hP 5 (dec (!(x0 == 45)) true (by rw [h5]; rfl)), hP 3 (dec (!(x0 == 95)) false (by rw [h6]; rfl)), hP 6 (Qt i0 (by omega))] [] (by kernel_rfl) hr
theorem Qxg (p0 : ByteArray) (H : Q10 p0) (x0 : Int) (i0 : Nat) (hx0 : (letters p0)[i0]? = some x0) (_hi0 : i0 < List.length (letters p0)) (hc0 : (decide ((i0 : Int) < (ByteArray.size p0 : Int))) = true) (h0 : (decide (97 ≤ x0)) = false) (h1 : (decide (65 ≤ x0)) = true) (h2 : (decide (x0 ≤ 90)) = false) (h3 : (decide (48 ≤ x0)) = true) (h4 : (decide (x0 ≤ 57)) = false) (h5 : (x0 == 45) = false) (h6 : (x0 == 95) = false) (h7 : (x0 == 47) = true) {r : Rs} (hr : Q7 G (Qn p0 (i0 + 1)) r) : Q7 G (Qn p0 i0) r := by
 have hB0 := H.1; have e0 := of_decide_eq_false h0; have e1 := of_decide_eq_true h1; have e2 := of_decide_eq_false h2; have e3 := of_decide_eq_true h3; have e4 := of_decide_eq_false h4; have e5 := beq_eq_false_iff_ne.1 h5; have e6 := beq_eq_false_iff_ne.1 h6; have e7 := eq_of_beq h7
 exact Q9 VOK.nil (y := (Q12 p0 (i0 + 1), Q13 p0 (i0 + 1))) [hB 3 hc0, hP 2 (Q1c p0 i0 x0 hx0), hB 2 h0, hB 6 h1, hB 2 h2, hB 7 h3, hB 2 h4, hP 5 (dec (!(x0 == 45)) true (by rw [h5]; rfl)), hP 3 (dec (!(x0 == 95)) true (by rw [h6]; rfl)), hP 3 (dec (!(x0 == 47)) false (by rw [h7]; rfl)), hP 2 (Qt i0 (by omega))] [] (by kernel_rfl) hr
def Qj9 (p0 : ByteArray) (i0 : Nat) (x0 : Int) : List PV :=
  [.str p0, .un, .un, .int .i64 (i0 : Int), .int .u8 x0, .bool false, .int .i64 (i0 : Int), .str p0, .int .i64 (ByteArray.size p0 : Int), .bool true, .un, .un, .str p0, .int .i64 (i0 : Int), .int .u8 x0, .int .u8 x0, .bool false, .bool false, .tup [], .tup [], .bool false, .bool false, .int .u8 x0, .bool true, .bool true, .int .u8 x0, .bool false, .bool false, .bool false, .bool false, .bool true, .bool true, .int .u8 x0, .bool true, .bool true, .int .u8 x0, .bool false, .bool false, .bool true, .bool true, .bool true, .int .u8 x0, .bool true, .bool true, .bool true, .int .u8 x0, .bool true, .bool true, .bool true, .int .u8 x0, .bool true, .bool true]
def Qcs (_p0 : ByteArray) (_i0 : Nat) (_x0 : Int) : List (Nat × List PV) :=
  []
theorem Quy (p0 : ByteArray) (_H : Q10 p0) (x0 : Int) (i0 : Nat) (hx0 : (letters p0)[i0]? = some x0) (_hi0 : i0 < List.length (letters p0)) (hc0 : (decide ((i0 : Int) < (ByteArray.size p0 : Int))) = true) (h0 : (decide (97 ≤ x0)) = false) (h1 : (decide (65 ≤ x0)) = true) (h2 : (decide (x0 ≤ 90)) = false) (h3 : (decide (48 ≤ x0)) = true) (h4 : (decide (x0 ≤ 57)) = false) (h5 : (x0 == 45) = false) (h6 : (x0 == 95) = false) (h7 : (x0 == 47) = false) : Q45 p0 (Qn p0 i0) (.k1) := by
 exact ⟨(envF (Qj9 p0 i0 x0)), (zoF (Qcs p0 i0 x0)), Qe VOK.nil (x := (.ret, Q3i p0 (envF (Qj9 p0 i0 x0)) (zoF (Qcs p0 i0 x0)))) [hB 3 hc0, hP 2 (Q1c p0 i0 x0 hx0), hB 2 h0, hB 6 h1, hB 2 h2, hB 7 h3, hB 2 h4, hP 5 (dec (!(x0 == 45)) true (by rw [h5]; rfl)), hP 3 (dec (!(x0 == 95)) true (by rw [h6]; rfl)), hP 3 (dec (!(x0 == 47)) true (by rw [h7]; rfl))] [] (by kernel_rfl)⟩
theorem Qwd (p0 : ByteArray) (H : Q10 p0) (x0 : Int) (i0 : Nat) (hx0 : (letters p0)[i0]? = some x0) (_hi0 : i0 < List.length (letters p0)) (hc0 : (decide ((i0 : Int) < (ByteArray.size p0 : Int))) = true) (h0 : (decide (97 ≤ x0)) = false) (h1 : (decide (65 ≤ x0)) = true) (h2 : (decide (x0 ≤ 90)) = false) (h3 : (decide (48 ≤ x0)) = false) (h4 : (x0 == 45) = true) {r : Rs} (hr : Q7 G (Qn p0 (i0 + 1)) r) : Q7 G (Qn p0 i0) r := by
 have hB0 := H.1; have e0 := of_decide_eq_false h0; have e1 := of_decide_eq_true h1; have e2 := of_decide_eq_false h2; have e3 := of_decide_eq_false h3; have e4 := eq_of_beq h4
 exact Q9 VOK.nil (y := (Q12 p0 (i0 + 1), Q13 p0 (i0 + 1))) [hB 3 hc0, hP 2 (Q1c p0 i0 x0 hx0), hB 2 h0, hB 6 h1, hB 2 h2, hB 7 h3, hP 8 (dec (!(x0 == 45)) false (by rw [h4]; rfl)), hP 10 (Qt i0 (by omega))] [] (by kernel_rfl) hr
theorem Qxe (p0 : ByteArray) (H : Q10 p0) (x0 : Int) (i0 : Nat) (hx0 : (letters p0)[i0]? = some x0) (_hi0 : i0 < List.length (letters p0)) (hc0 : (decide ((i0 : Int) < (ByteArray.size p0 : Int))) = true) (h0 : (decide (97 ≤ x0)) = false) (h1 : (decide (65 ≤ x0)) = true) (h2 : (decide (x0 ≤ 90)) = false) (h3 : (decide (48 ≤ x0)) = false) (h4 : (x0 == 45) = false) (h5 : (x0 == 95) = true) {r : Rs} (hr : Q7 G (Qn p0 (i0 + 1)) r) : Q7 G (Qn p0 i0) r := by
 have hB0 := H.1; have e0 := of_decide_eq_false h0; have e1 := of_decide_eq_true h1; have e2 := of_decide_eq_false h2; have e3 := of_decide_eq_false h3; have e4 := beq_eq_false_iff_ne.1 h4; have e5 := eq_of_beq h5
 exact Q9 VOK.nil (y := (Q12 p0 (i0 + 1), Q13 p0 (i0 + 1))) [hB 3 hc0, hP 2 (Q1c p0 i0 x0 hx0), hB 2 h0, hB 6 h1, hB 2 h2, hB 7 h3, hP 8 (dec (!(x0 == 45)) true (by rw [h4]; rfl)), hP 3 (dec (!(x0 == 95)) false (by rw [h5]; rfl)), hP 6 (Qt i0 (by omega))] [] (by kernel_rfl) hr
theorem Qxr (p0 : ByteArray) (H : Q10 p0) (x0 : Int) (i0 : Nat) (hx0 : (letters p0)[i0]? = some x0) (_hi0 : i0 < List.length (letters p0)) (hc0 : (decide ((i0 : Int) < (ByteArray.size p0 : Int))) = true) (h0 : (decide (97 ≤ x0)) = false) (h1 : (decide (65 ≤ x0)) = true) (h2 : (decide (x0 ≤ 90)) = false) (h3 : (decide (48 ≤ x0)) = false) (h4 : (x0 == 45) = false) (h5 : (x0 == 95) = false) (h6 : (x0 == 47) = true) {r : Rs} (hr : Q7 G (Qn p0 (i0 + 1)) r) : Q7 G (Qn p0 i0) r := by
 have hB0 := H.1; have e0 := of_decide_eq_false h0; have e1 := of_decide_eq_true h1; have e2 := of_decide_eq_false h2; have e3 := of_decide_eq_false h3; have e4 := beq_eq_false_iff_ne.1 h4; have e5 := beq_eq_false_iff_ne.1 h5; have e6 := eq_of_beq h6
 exact Q9 VOK.nil (y := (Q12 p0 (i0 + 1), Q13 p0 (i0 + 1))) [hB 3 hc0, hP 2 (Q1c p0 i0 x0 hx0), hB 2 h0, hB 6 h1, hB 2 h2, hB 7 h3, hP 8 (dec (!(x0 == 45)) true (by rw [h4]; rfl)), hP 3 (dec (!(x0 == 95)) true (by rw [h5]; rfl)), hP 3 (dec (!(x0 == 47)) false (by rw [h6]; rfl)), hP 2 (Qt i0 (by omega))] [] (by kernel_rfl) hr
def Qht (p0 : ByteArray) (i0 : Nat) (x0 : Int) : List PV :=
  [.str p0, .un, .un, .int .i64 (i0 : Int), .int .u8 x0, .bool false, .int .i64 (i0 : Int), .str p0, .int .i64 (ByteArray.size p0 : Int), .bool true, .un, .un, .str p0, .int .i64 (i0 : Int), .int .u8 x0, .int .u8 x0, .bool false, .bool false, .tup [], .tup [], .bool false, .bool false, .int .u8 x0, .bool true, .bool true, .int .u8 x0, .bool false, .bool false, .bool false, .bool false, .bool true, .bool true, .int .u8 x0, .bool false, .bool false, .tup [], .tup [], .bool false, .bool true, .bool true, .bool true, .int .u8 x0, .bool true, .bool true, .bool true, .int .u8 x0, .bool true, .bool true, .bool true, .int .u8 x0, .bool true, .bool true]
def Qce (_p0 : ByteArray) (_i0 : Nat) (_x0 : Int) : List (Nat × List PV) :=
  []
theorem Qwm (p0 : ByteArray) (_H : Q10 p0) (x0 : Int) (i0 : Nat) (hx0 : (letters p0)[i0]? = some x0) (_hi0 : i0 < List.length (letters p0)) (hc0 : (decide ((i0 : Int) < (ByteArray.size p0 : Int))) = true) (h0 : (decide (97 ≤ x0)) = false) (h1 : (decide (65 ≤ x0)) = true) (h2 : (decide (x0 ≤ 90)) = false) (h3 : (decide (48 ≤ x0)) = false) (h4 : (x0 == 45) = false) (h5 : (x0 == 95) = false) (h6 : (x0 == 47) = false) : Q45 p0 (Qn p0 i0) (.k1) := by
 exact ⟨(envF (Qht p0 i0 x0)), (zoF (Qce p0 i0 x0)), Qe VOK.nil (x := (.ret, Q3i p0 (envF (Qht p0 i0 x0)) (zoF (Qce p0 i0 x0)))) [hB 3 hc0, hP 2 (Q1c p0 i0 x0 hx0), hB 2 h0, hB 6 h1, hB 2 h2, hB 7 h3, hP 8 (dec (!(x0 == 45)) true (by rw [h4]; rfl)), hP 3 (dec (!(x0 == 95)) true (by rw [h5]; rfl)), hP 3 (dec (!(x0 == 47)) true (by rw [h6]; rfl))] [] (by kernel_rfl)⟩
theorem Qww (p0 : ByteArray) (H : Q10 p0) (x0 : Int) (i0 : Nat) (hx0 : (letters p0)[i0]? = some x0) (hi0 : i0 < List.length (letters p0)) (hc0 : (decide ((i0 : Int) < (ByteArray.size p0 : Int))) = true) (h0 : (decide (97 ≤ x0)) = false) (h1 : (decide (65 ≤ x0)) = false) (h2 : (decide (48 ≤ x0)) = true) (h3 : (decide (x0 ≤ 57)) = true) {r : Rs} (hr : Q7 G (Qn p0 (i0 + 1)) r) : Q7 G (Qn p0 i0) r := by
 have hB0 := H.1; have e0 := of_decide_eq_false h0; have e1 := of_decide_eq_false h1; have e2 := of_decide_eq_true h2; have e3 := of_decide_eq_true h3
 exact Q9 VOK.nil (y := (Q12 p0 (i0 + 1), Q13 p0 (i0 + 1))) [hB 3 hc0, hP 2 (Q1c p0 i0 x0 hx0), hB 2 h0, hB 6 h1, hB 10 h2, hB 2 h3, hP 16 (Qt i0 (by omega))] [] (by kernel_rfl) hr
theorem Qve (p0 : ByteArray) (H : Q10 p0) (x0 : Int) (i0 : Nat) (hx0 : (letters p0)[i0]? = some x0) (_hi0 : i0 < List.length (letters p0)) (hc0 : (decide ((i0 : Int) < (ByteArray.size p0 : Int))) = true) (h0 : (decide (97 ≤ x0)) = false) (h1 : (decide (65 ≤ x0)) = false) (h2 : (decide (48 ≤ x0)) = true) (h3 : (decide (x0 ≤ 57)) = false) (h4 : (x0 == 45) = true) {r : Rs} (hr : Q7 G (Qn p0 (i0 + 1)) r) : Q7 G (Qn p0 i0) r := by
 have hB0 := H.1; have e0 := of_decide_eq_false h0; have e1 := of_decide_eq_false h1; have e2 := of_decide_eq_true h2; have e3 := of_decide_eq_false h3; have e4 := eq_of_beq h4
 exact Q9 VOK.nil (y := (Q12 p0 (i0 + 1), Q13 p0 (i0 + 1))) [hB 3 hc0, hP 2 (Q1c p0 i0 x0 hx0), hB 2 h0, hB 6 h1, hB 10 h2, hB 2 h3, hP 5 (dec (!(x0 == 45)) false (by rw [h4]; rfl)), hP 10 (Qt i0 (by omega))] [] (by kernel_rfl) hr
theorem Qvj (p0 : ByteArray) (H : Q10 p0) (x0 : Int) (i0 : Nat) (hx0 : (letters p0)[i0]? = some x0) (_hi0 : i0 < List.length (letters p0)) (hc0 : (decide ((i0 : Int) < (ByteArray.size p0 : Int))) = true) (h0 : (decide (97 ≤ x0)) = false) (h1 : (decide (65 ≤ x0)) = false) (h2 : (decide (48 ≤ x0)) = true) (h3 : (decide (x0 ≤ 57)) = false) (h4 : (x0 == 45) = false) (h5 : (x0 == 95) = true) {r : Rs} (hr : Q7 G (Qn p0 (i0 + 1)) r) : Q7 G (Qn p0 i0) r := by
 have hB0 := H.1; have e0 := of_decide_eq_false h0; have e1 := of_decide_eq_false h1; have e2 := of_decide_eq_true h2; have e3 := of_decide_eq_false h3; have e4 := beq_eq_false_iff_ne.1 h4; have e5 := eq_of_beq h5
 exact Q9 VOK.nil (y := (Q12 p0 (i0 + 1), Q13 p0 (i0 + 1))) [hB 3 hc0, hP 2 (Q1c p0 i0 x0 hx0), hB 2 h0, hB 6 h1, hB 10 h2, hB 2 h3, hP 5 (dec (!(x0 == 45)) true (by rw [h4]; rfl)), hP 3 (dec (!(x0 == 95)) false (by rw [h5]; rfl)), hP 6 (Qt i0 (by omega))] [] (by kernel_rfl) hr
theorem Qxk (p0 : ByteArray) (H : Q10 p0) (x0 : Int) (i0 : Nat) (hx0 : (letters p0)[i0]? = some x0) (_hi0 : i0 < List.length (letters p0)) (hc0 : (decide ((i0 : Int) < (ByteArray.size p0 : Int))) = true) (h0 : (decide (97 ≤ x0)) = false) (h1 : (decide (65 ≤ x0)) = false) (h2 : (decide (48 ≤ x0)) = true) (h3 : (decide (x0 ≤ 57)) = false) (h4 : (x0 == 45) = false) (h5 : (x0 == 95) = false) (h6 : (x0 == 47) = true) {r : Rs} (hr : Q7 G (Qn p0 (i0 + 1)) r) : Q7 G (Qn p0 i0) r := by
 have hB0 := H.1; have e0 := of_decide_eq_false h0; have e1 := of_decide_eq_false h1; have e2 := of_decide_eq_true h2; have e3 := of_decide_eq_false h3; have e4 := beq_eq_false_iff_ne.1 h4; have e5 := beq_eq_false_iff_ne.1 h5; have e6 := eq_of_beq h6
 exact Q9 VOK.nil (y := (Q12 p0 (i0 + 1), Q13 p0 (i0 + 1))) [hB 3 hc0, hP 2 (Q1c p0 i0 x0 hx0), hB 2 h0, hB 6 h1, hB 10 h2, hB 2 h3, hP 5 (dec (!(x0 == 45)) true (by rw [h4]; rfl)), hP 3 (dec (!(x0 == 95)) true (by rw [h5]; rfl)), hP 3 (dec (!(x0 == 47)) false (by rw [h6]; rfl)), hP 2 (Qt i0 (by omega))] [] (by kernel_rfl) hr
def Qgg (p0 : ByteArray) (i0 : Nat) (x0 : Int) : List PV :=
  [.str p0, .un, .un, .int .i64 (i0 : Int), .int .u8 x0, .bool false, .int .i64 (i0 : Int), .str p0, .int .i64 (ByteArray.size p0 : Int), .bool true, .un, .un, .str p0, .int .i64 (i0 : Int), .int .u8 x0, .int .u8 x0, .bool false, .bool false, .tup [], .tup [], .bool false, .bool false, .int .u8 x0, .bool false, .bool false, .tup [], .tup [], .bool false, .bool false, .bool false, .bool true, .bool true, .int .u8 x0, .bool true, .bool true, .int .u8 x0, .bool false, .bool false, .bool true, .bool true, .bool true, .int .u8 x0, .bool true, .bool true, .bool true, .int .u8 x0, .bool true, .bool true, .bool true, .int .u8 x0, .bool true, .bool true]
def Qe7 (_p0 : ByteArray) (_i0 : Nat) (_x0 : Int) : List (Nat × List PV) :=
  []
theorem Qxu (p0 : ByteArray) (_H : Q10 p0) (x0 : Int) (i0 : Nat) (hx0 : (letters p0)[i0]? = some x0) (_hi0 : i0 < List.length (letters p0)) (hc0 : (decide ((i0 : Int) < (ByteArray.size p0 : Int))) = true) (h0 : (decide (97 ≤ x0)) = false) (h1 : (decide (65 ≤ x0)) = false) (h2 : (decide (48 ≤ x0)) = true) (h3 : (decide (x0 ≤ 57)) = false) (h4 : (x0 == 45) = false) (h5 : (x0 == 95) = false) (h6 : (x0 == 47) = false) : Q45 p0 (Qn p0 i0) (.k1) := by
 exact ⟨(envF (Qgg p0 i0 x0)), (zoF (Qe7 p0 i0 x0)), Qe VOK.nil (x := (.ret, Q3i p0 (envF (Qgg p0 i0 x0)) (zoF (Qe7 p0 i0 x0)))) [hB 3 hc0, hP 2 (Q1c p0 i0 x0 hx0), hB 2 h0, hB 6 h1, hB 10 h2, hB 2 h3, hP 5 (dec (!(x0 == 45)) true (by rw [h4]; rfl)), hP 3 (dec (!(x0 == 95)) true (by rw [h5]; rfl)), hP 3 (dec (!(x0 == 47)) true (by rw [h6]; rfl))] [] (by kernel_rfl)⟩
theorem Qvq (p0 : ByteArray) (H : Q10 p0) (x0 : Int) (i0 : Nat) (hx0 : (letters p0)[i0]? = some x0) (hi0 : i0 < List.length (letters p0)) (hc0 : (decide ((i0 : Int) < (ByteArray.size p0 : Int))) = true) (h0 : (decide (97 ≤ x0)) = false) (h1 : (decide (65 ≤ x0)) = false) (h2 : (decide (48 ≤ x0)) = false) (h3 : (x0 == 45) = true) {r : Rs} (hr : Q7 G (Qn p0 (i0 + 1)) r) : Q7 G (Qn p0 i0) r := by
 have hB0 := H.1; have e0 := of_decide_eq_false h0; have e1 := of_decide_eq_false h1; have e2 := of_decide_eq_false h2; have e3 := eq_of_beq h3
 exact Q9 VOK.nil (y := (Q12 p0 (i0 + 1), Q13 p0 (i0 + 1))) [hB 3 hc0, hP 2 (Q1c p0 i0 x0 hx0), hB 2 h0, hB 6 h1, hB 10 h2, hP 8 (dec (!(x0 == 45)) false (by rw [h3]; rfl)), hP 10 (Qt i0 (by omega))] [] (by kernel_rfl) hr
theorem Qwf (p0 : ByteArray) (H : Q10 p0) (x0 : Int) (i0 : Nat) (hx0 : (letters p0)[i0]? = some x0) (_hi0 : i0 < List.length (letters p0)) (hc0 : (decide ((i0 : Int) < (ByteArray.size p0 : Int))) = true) (h0 : (decide (97 ≤ x0)) = false) (h1 : (decide (65 ≤ x0)) = false) (h2 : (decide (48 ≤ x0)) = false) (h3 : (x0 == 45) = false) (h4 : (x0 == 95) = true) {r : Rs} (hr : Q7 G (Qn p0 (i0 + 1)) r) : Q7 G (Qn p0 i0) r := by
 have hB0 := H.1; have e0 := of_decide_eq_false h0; have e1 := of_decide_eq_false h1; have e2 := of_decide_eq_false h2; have e3 := beq_eq_false_iff_ne.1 h3; have e4 := eq_of_beq h4
 exact Q9 VOK.nil (y := (Q12 p0 (i0 + 1), Q13 p0 (i0 + 1))) [hB 3 hc0, hP 2 (Q1c p0 i0 x0 hx0), hB 2 h0, hB 6 h1, hB 10 h2, hP 8 (dec (!(x0 == 45)) true (by rw [h3]; rfl)), hP 3 (dec (!(x0 == 95)) false (by rw [h4]; rfl)), hP 6 (Qt i0 (by omega))] [] (by kernel_rfl) hr
theorem Qwe (p0 : ByteArray) (H : Q10 p0) (x0 : Int) (i0 : Nat) (hx0 : (letters p0)[i0]? = some x0) (hi0 : i0 < List.length (letters p0)) (hc0 : (decide ((i0 : Int) < (ByteArray.size p0 : Int))) = true) (h0 : (decide (97 ≤ x0)) = false) (h1 : (decide (65 ≤ x0)) = false) (h2 : (decide (48 ≤ x0)) = false) (h3 : (x0 == 45) = false) (h4 : (x0 == 95) = false) (h5 : (x0 == 47) = true) {r : Rs} (hr : Q7 G (Qn p0 (i0 + 1)) r) : Q7 G (Qn p0 i0) r := by
 have hB0 := H.1; have e0 := of_decide_eq_false h0; have e1 := of_decide_eq_false h1; have e2 := of_decide_eq_false h2; have e3 := beq_eq_false_iff_ne.1 h3; have e4 := beq_eq_false_iff_ne.1 h4; have e5 := eq_of_beq h5
 exact Q9 VOK.nil (y := (Q12 p0 (i0 + 1), Q13 p0 (i0 + 1))) [hB 3 hc0, hP 2 (Q1c p0 i0 x0 hx0), hB 2 h0, hB 6 h1, hB 10 h2, hP 8 (dec (!(x0 == 45)) true (by rw [h3]; rfl)), hP 3 (dec (!(x0 == 95)) true (by rw [h4]; rfl)), hP 3 (dec (!(x0 == 47)) false (by rw [h5]; rfl)), hP 2 (Qt i0 (by omega))] [] (by kernel_rfl) hr
def Qjz (p0 : ByteArray) (i0 : Nat) (x0 : Int) : List PV :=
  [.str p0, .un, .un, .int .i64 (i0 : Int), .int .u8 x0, .bool false, .int .i64 (i0 : Int), .str p0, .int .i64 (ByteArray.size p0 : Int), .bool true, .un, .un, .str p0, .int .i64 (i0 : Int), .int .u8 x0, .int .u8 x0, .bool false, .bool false, .tup [], .tup [], .bool false, .bool false, .int .u8 x0, .bool false, .bool false, .tup [], .tup [], .bool false, .bool false, .bool false, .bool true, .bool true, .int .u8 x0, .bool false, .bool false, .tup [], .tup [], .bool false, .bool true, .bool true, .bool true, .int .u8 x0, .bool true, .bool true, .bool true, .int .u8 x0, .bool true, .bool true, .bool true, .int .u8 x0, .bool true, .bool true]
def Qez (_p0 : ByteArray) (_i0 : Nat) (_x0 : Int) : List (Nat × List PV) :=
  []
theorem Qw8 (p0 : ByteArray) (_H : Q10 p0) (x0 : Int) (i0 : Nat) (hx0 : (letters p0)[i0]? = some x0) (_hi0 : i0 < List.length (letters p0)) (hc0 : (decide ((i0 : Int) < (ByteArray.size p0 : Int))) = true) (h0 : (decide (97 ≤ x0)) = false) (h1 : (decide (65 ≤ x0)) = false) (h2 : (decide (48 ≤ x0)) = false) (h3 : (x0 == 45) = false) (h4 : (x0 == 95) = false) (h5 : (x0 == 47) = false) : Q45 p0 (Qn p0 i0) (.k1) := by
 exact ⟨(envF (Qjz p0 i0 x0)), (zoF (Qez p0 i0 x0)), Qe VOK.nil (x := (.ret, Q3i p0 (envF (Qjz p0 i0 x0)) (zoF (Qez p0 i0 x0)))) [hB 3 hc0, hP 2 (Q1c p0 i0 x0 hx0), hB 2 h0, hB 6 h1, hB 10 h2, hP 8 (dec (!(x0 == 45)) true (by rw [h3]; rfl)), hP 3 (dec (!(x0 == 95)) true (by rw [h4]; rfl)), hP 3 (dec (!(x0 == 47)) true (by rw [h5]; rfl))] [] (by kernel_rfl)⟩
theorem Q11 (p0 : ByteArray) (H : Q10 p0) : ∀ (r0 : List Int) (i0 : Nat), List.drop i0 (letters p0) = r0 → Q45 p0 (Qn p0 i0) (Q1b p0 r0 i0)
 | [], i0, hd => by
  have hc0 : (decide ((i0 : Int) < (ByteArray.size p0 : Int))) = false := by have hL := Q4e p0; have := Q1k hd; simp; omega
  rw [Q1b]
  exact Q118 p0 H i0 hc0
 | x0 :: r0, i0, hd => by
  obtain ⟨hx0, hi0, hd'⟩ := Q15 hd
  have hc0 : (decide ((i0 : Int) < (ByteArray.size p0 : Int))) = true := by have hL := Q4e p0; simp; omega
  rw [Q1b]
  cases h0 : (decide (97 ≤ x0)) with
  | true =>
   cases h1 : (decide (x0 ≤ 122)) with
   | true =>
    exact Qo p0 (fun r hr => Q12t p0 H x0 i0 hx0 hi0 hc0 h0 h1 hr) _ (Q11 p0 H r0 (i0 + 1) hd')
   | false =>
    cases h2 : (decide (65 ≤ x0)) with
    | true =>
     cases h3 : (decide (x0 ≤ 90)) with
     | true =>
      exact Qo p0 (fun r hr => Q103 p0 H x0 i0 hx0 hi0 hc0 h0 h1 h2 h3 hr) _ (Q11 p0 H r0 (i0 + 1) hd')
     | false =>
      cases h4 : (decide (48 ≤ x0)) with
      | true =>
       cases h5 : (decide (x0 ≤ 57)) with
       | true =>
        exact Qo p0 (fun r hr => Q12k p0 H x0 i0 hx0 hi0 hc0 h0 h1 h2 h3 h4 h5 hr) _ (Q11 p0 H r0 (i0 + 1) hd')
       | false =>
        cases h6 : (x0 == 45) with
        | true =>
         exact Qo p0 (fun r hr => Q10m p0 H x0 i0 hx0 hi0 hc0 h0 h1 h2 h3 h4 h5 h6 hr) _ (Q11 p0 H r0 (i0 + 1) hd')
        | false =>
         cases h7 : (x0 == 95) with
         | true =>
          exact Qo p0 (fun r hr => Qyc p0 H x0 i0 hx0 hi0 hc0 h0 h1 h2 h3 h4 h5 h6 h7 hr) _ (Q11 p0 H r0 (i0 + 1) hd')
         | false =>
          cases h8 : (x0 == 47) with
          | true =>
           exact Qo p0 (fun r hr => Q12q p0 H x0 i0 hx0 hi0 hc0 h0 h1 h2 h3 h4 h5 h6 h7 h8 hr) _ (Q11 p0 H r0 (i0 + 1) hd')
          | false =>
           exact Qy4 p0 H x0 i0 hx0 hi0 hc0 h0 h1 h2 h3 h4 h5 h6 h7 h8
      | false =>
       cases h5 : (x0 == 45) with
       | true =>
        exact Qo p0 (fun r hr => Q11a p0 H x0 i0 hx0 hi0 hc0 h0 h1 h2 h3 h4 h5 hr) _ (Q11 p0 H r0 (i0 + 1) hd')
       | false =>
        cases h6 : (x0 == 95) with
        | true =>
         exact Qo p0 (fun r hr => Qz8 p0 H x0 i0 hx0 hi0 hc0 h0 h1 h2 h3 h4 h5 h6 hr) _ (Q11 p0 H r0 (i0 + 1) hd')
        | false =>
         cases h7 : (x0 == 47) with
         | true =>
          exact Qo p0 (fun r hr => Qxi p0 H x0 i0 hx0 hi0 hc0 h0 h1 h2 h3 h4 h5 h6 h7 hr) _ (Q11 p0 H r0 (i0 + 1) hd')
         | false =>
          exact Qw7 p0 H x0 i0 hx0 hi0 hc0 h0 h1 h2 h3 h4 h5 h6 h7
    | false =>
     cases h3 : (decide (48 ≤ x0)) with
     | true =>
      cases h4 : (decide (x0 ≤ 57)) with
      | true =>
       exact Qo p0 (fun r hr => Qwu p0 H x0 i0 hx0 hi0 hc0 h0 h1 h2 h3 h4 hr) _ (Q11 p0 H r0 (i0 + 1) hd')
      | false =>
       cases h5 : (x0 == 45) with
       | true =>
        exact Qo p0 (fun r hr => Qvw p0 H x0 i0 hx0 hi0 hc0 h0 h1 h2 h3 h4 h5 hr) _ (Q11 p0 H r0 (i0 + 1) hd')
       | false =>
        cases h6 : (x0 == 95) with
        | true =>
         exact Qo p0 (fun r hr => Qx2 p0 H x0 i0 hx0 hi0 hc0 h0 h1 h2 h3 h4 h5 h6 hr) _ (Q11 p0 H r0 (i0 + 1) hd')
        | false =>
         cases h7 : (x0 == 47) with
         | true =>
          exact Qo p0 (fun r hr => Qwl p0 H x0 i0 hx0 hi0 hc0 h0 h1 h2 h3 h4 h5 h6 h7 hr) _ (Q11 p0 H r0 (i0 + 1) hd')
         | false =>
          exact Quv p0 H x0 i0 hx0 hi0 hc0 h0 h1 h2 h3 h4 h5 h6 h7
     | false =>
      cases h4 : (x0 == 45) with
      | true =>
       exact Qo p0 (fun r hr => Qvt p0 H x0 i0 hx0 hi0 hc0 h0 h1 h2 h3 h4 hr) _ (Q11 p0 H r0 (i0 + 1) hd')
      | false =>
       cases h5 : (x0 == 95) with
       | true =>
        exact Qo p0 (fun r hr => Qx5 p0 H x0 i0 hx0 hi0 hc0 h0 h1 h2 h3 h4 h5 hr) _ (Q11 p0 H r0 (i0 + 1) hd')
       | false =>
        cases h6 : (x0 == 47) with
        | true =>
         exact Qo p0 (fun r hr => Qx8 p0 H x0 i0 hx0 hi0 hc0 h0 h1 h2 h3 h4 h5 h6 hr) _ (Q11 p0 H r0 (i0 + 1) hd')
        | false =>
         exact Qwz p0 H x0 i0 hx0 hi0 hc0 h0 h1 h2 h3 h4 h5 h6
  | false =>
   cases h1 : (decide (65 ≤ x0)) with
   | true =>
    cases h2 : (decide (x0 ≤ 90)) with
    | true =>
     exact Qo p0 (fun r hr => Qxt p0 H x0 i0 hx0 hi0 hc0 h0 h1 h2 hr) _ (Q11 p0 H r0 (i0 + 1) hd')
    | false =>
     cases h3 : (decide (48 ≤ x0)) with
     | true =>
      cases h4 : (decide (x0 ≤ 57)) with
      | true =>
       exact Qo p0 (fun r hr => Qwo p0 H x0 i0 hx0 hi0 hc0 h0 h1 h2 h3 h4 hr) _ (Q11 p0 H r0 (i0 + 1) hd')
      | false =>
       cases h5 : (x0 == 45) with
       | true =>
        exact Qo p0 (fun r hr => Qwp p0 H x0 i0 hx0 hi0 hc0 h0 h1 h2 h3 h4 h5 hr) _ (Q11 p0 H r0 (i0 + 1) hd')
       | false =>
        cases h6 : (x0 == 95) with
        | true =>
         exact Qo p0 (fun r hr => Qv3 p0 H x0 i0 hx0 hi0 hc0 h0 h1 h2 h3 h4 h5 h6 hr) _ (Q11 p0 H r0 (i0 + 1) hd')
        | false =>
         cases h7 : (x0 == 47) with
         | true =>
          exact Qo p0 (fun r hr => Qxg p0 H x0 i0 hx0 hi0 hc0 h0 h1 h2 h3 h4 h5 h6 h7 hr) _ (Q11 p0 H r0 (i0 + 1) hd')
         | false =>
          exact Quy p0 H x0 i0 hx0 hi0 hc0 h0 h1 h2 h3 h4 h5 h6 h7
     | false =>
      cases h4 : (x0 == 45) with
      | true =>
       exact Qo p0 (fun r hr => Qwd p0 H x0 i0 hx0 hi0 hc0 h0 h1 h2 h3 h4 hr) _ (Q11 p0 H r0 (i0 + 1) hd')
      | false =>
       cases h5 : (x0 == 95) with
       | true =>
        exact Qo p0 (fun r hr => Qxe p0 H x0 i0 hx0 hi0 hc0 h0 h1 h2 h3 h4 h5 hr) _ (Q11 p0 H r0 (i0 + 1) hd')
       | false =>
        cases h6 : (x0 == 47) with
        | true =>
         exact Qo p0 (fun r hr => Qxr p0 H x0 i0 hx0 hi0 hc0 h0 h1 h2 h3 h4 h5 h6 hr) _ (Q11 p0 H r0 (i0 + 1) hd')
        | false =>
         exact Qwm p0 H x0 i0 hx0 hi0 hc0 h0 h1 h2 h3 h4 h5 h6
   | false =>
    cases h2 : (decide (48 ≤ x0)) with
    | true =>
     cases h3 : (decide (x0 ≤ 57)) with
     | true =>
      exact Qo p0 (fun r hr => Qww p0 H x0 i0 hx0 hi0 hc0 h0 h1 h2 h3 hr) _ (Q11 p0 H r0 (i0 + 1) hd')
     | false =>
      cases h4 : (x0 == 45) with
      | true =>
       exact Qo p0 (fun r hr => Qve p0 H x0 i0 hx0 hi0 hc0 h0 h1 h2 h3 h4 hr) _ (Q11 p0 H r0 (i0 + 1) hd')
      | false =>
       cases h5 : (x0 == 95) with
       | true =>
        exact Qo p0 (fun r hr => Qvj p0 H x0 i0 hx0 hi0 hc0 h0 h1 h2 h3 h4 h5 hr) _ (Q11 p0 H r0 (i0 + 1) hd')
       | false =>
        cases h6 : (x0 == 47) with
        | true =>
         exact Qo p0 (fun r hr => Qxk p0 H x0 i0 hx0 hi0 hc0 h0 h1 h2 h3 h4 h5 h6 hr) _ (Q11 p0 H r0 (i0 + 1) hd')
        | false =>
         exact Qxu p0 H x0 i0 hx0 hi0 hc0 h0 h1 h2 h3 h4 h5 h6
    | false =>
     cases h3 : (x0 == 45) with
     | true =>
      exact Qo p0 (fun r hr => Qvq p0 H x0 i0 hx0 hi0 hc0 h0 h1 h2 h3 hr) _ (Q11 p0 H r0 (i0 + 1) hd')
     | false =>
      cases h4 : (x0 == 95) with
      | true =>
       exact Qo p0 (fun r hr => Qwf p0 H x0 i0 hx0 hi0 hc0 h0 h1 h2 h3 h4 hr) _ (Q11 p0 H r0 (i0 + 1) hd')
      | false =>
       cases h5 : (x0 == 47) with
       | true =>
        exact Qo p0 (fun r hr => Qwe p0 H x0 i0 hx0 hi0 hc0 h0 h1 h2 h3 h4 h5 hr) _ (Q11 p0 H r0 (i0 + 1) hd')
       | false =>
        exact Qw8 p0 H x0 i0 hx0 hi0 hc0 h0 h1 h2 h3 h4 h5
def s_Kp (p0 : ByteArray) : Bool :=
 (match (Q1b p0 (letters p0) 0) with
 | .k0 => bif (decide (1 ≤ (ByteArray.size p0 : Int))) then
   (decide ((ByteArray.size p0 : Int) ≤ 40))
  else
   false
 | .k1 => false)
def c_Kp (p0 : ByteArray) : En := .call 52 [.str p0] []
def a_Kp (p0 : ByteArray) : Rs := .ret (.bool (s_Kp p0)) []
def H_Kp (p0 : ByteArray) : Prop := (Q10 p0) ∧ True
theorem t_Kp (p0 : ByteArray) (H : H_Kp p0) : Q7 G (c_Kp p0) (a_Kp p0) := by
 unfold a_Kp s_Kp
 have hl0 := Q11 p0 (H.1) (letters p0) 0 (by simp)
 cases hr0 : (Q1b p0 (letters p0) 0) with
 | k0 =>
  rw [hr0] at hl0
  obtain ⟨z0, zo0, hl0⟩ := hl0
  try dsimp only
  cases h0 : (decide (1 ≤ (ByteArray.size p0 : Int))) with
  | true =>
   exact Q8 (fn := Ir.Kp) rfl VOK.nil [hB 4 h0] [aN hl0] (by kernel_rfl)
  | false =>
   exact Q8 (fn := Ir.Kp) rfl VOK.nil [hB 4 h0] [aN hl0] (by kernel_rfl)
 | k1 =>
  rw [hr0] at hl0
  obtain ⟨z0, zo0, hl0⟩ := hl0
  exact Q8 (fn := Ir.Kp) rfl VOK.nil [] [aN hl0] (by kernel_rfl)
def s_K2 (p0 : Int) : Bool :=
 (!(p0 == p0))
def c_K2 (p0 : Int) : En := .call 70 [.int .i64 p0] []
def a_K2 (p0 : Int) : Rs := .ret (.bool (s_K2 p0)) []
theorem t_K2 (p0 : Int) : Q7 G (c_K2 p0) (a_K2 p0) := by
 unfold a_K2 s_K2
 exact Q8 (fn := Ir.K2) rfl VOK.nil [] [] (by kernel_rfl)
def s_K0 (p0 : Int) (p1 : Int) : Int :=
 bif (s_K2 p0) then
  bif (s_K2 p1) then
   0
  else
   (-1)
 else
  bif (s_K2 p1) then
   1
  else
   bif (decide (p0 < p1)) then
    (-1)
   else
    bif (decide (p1 < p0)) then
     1
    else
     0
def c_K0 (p0 : Int) (p1 : Int) : En := .call 60 [.int .i64 p0, .int .i64 p1] []
def a_K0 (p0 : Int) (p1 : Int) : Rs := .ret (.int .i64 (s_K0 p0 p1)) []
theorem t_K0 (p0 : Int) (p1 : Int) : Q7 G (c_K0 p0 p1) (a_K0 p0 p1) := by
 unfold a_K0 s_K0
 cases h0 : (s_K2 p0) with
 | true =>
  cases h1 : (s_K2 p1) with
  | true =>
   exact Q8 (fn := Ir.K0) rfl VOK.nil [] [aB (t_K2 p0) h0, aB (t_K2 p1) h1] (by kernel_rfl)
  | false =>
   exact Q8 (fn := Ir.K0) rfl VOK.nil [] [aB (t_K2 p0) h0, aB (t_K2 p1) h1] (by kernel_rfl)
 | false =>
  cases h1 : (s_K2 p1) with
  | true =>
   exact Q8 (fn := Ir.K0) rfl VOK.nil [] [aB (t_K2 p0) h0, aB (t_K2 p1) h1] (by kernel_rfl)
  | false =>
   cases h2 : (decide (p0 < p1)) with
   | true =>
    exact Q8 (fn := Ir.K0) rfl VOK.nil [hB 11 h2] [aB (t_K2 p0) h0, aB (t_K2 p1) h1] (by kernel_rfl)
   | false =>
    cases h3 : (decide (p1 < p0)) with
    | true =>
     exact Q8 (fn := Ir.K0) rfl VOK.nil [hB 11 h2, hB 2 h3] [aB (t_K2 p0) h0, aB (t_K2 p1) h1] (by kernel_rfl)
    | false =>
     exact Q8 (fn := Ir.K0) rfl VOK.nil [hB 11 h2, hB 2 h3] [aB (t_K2 p0) h0, aB (t_K2 p1) h1] (by kernel_rfl)
def Qb1 (p0 : ByteArray) (p1 : ByteArray) : Int :=
 (sCmp p0 p1)
def Q1al (p0 : ByteArray) (p1 : ByteArray) : En := .call 44 [.str p0, .str p1] []
def Q18j (p0 : ByteArray) (p1 : ByteArray) : Rs := .ret (.int .i64 (Qb1 p0 p1)) []
theorem Q164 (p0 : ByteArray) (p1 : ByteArray) : Q7 G (Q1al p0 p1) (Q18j p0 p1) := by
 unfold Q18j Qb1
 exact Q8 (fn := Ir.K1g) rfl VOK.nil [] [aN (Q13h p0 p1)] (by kernel_rfl)
inductive Q12n where
  | k0 (q0 : Int)
  | k1 (q0 : Int)
def Q6f (p0 : List Int) : List Int → Nat → Int → Q12n
 | [], _i0, v0_1 =>
  (.k0 v0_1)
 | x0 :: r0, i0, v0_1 =>
  bif (x0 == v0_1) then
   Q6f p0 r0 (i0 + 1) v0_1
  else
   (.k1 x0)
def Qte (p0 : List Int) (i0 : Nat) (v0_1 : Int) : List PV :=
  [.un, .un, .un, .int .i64 v0_1, .un, .un, .sl (Q4s p0), .int .i64 ((List.length p0) : Int), .int .i64 (i0 : Int), .un, .un, .un, .un, .un, .un, .un, .un, .un]
def Qtz (_p0 : List Int) (_i0 : Nat) (_v0_1 : Int) : List Ob :=
  []
def Qeo (p0 : List Int) (i0 : Nat) (v0_1 : Int) : En := .loop 0 Ir.Qk0 Ir.Q16j (Qte p0 i0 v0_1) (Qtz p0 i0 v0_1)
def Qmy (_p0 : List Int) (q0 : Int) (z : Nat → PV) (_zo : Nat → List PV) : St :=
  ⟨[z 0, z 1, z 2, .int .i64 q0, z 4, z 5, z 6, z 7, z 8, z 9, z 10, z 11, z 12, z 13, z 14, z 15, z 16, z 17], [], 64⟩
def Qp0 (_p0 : List Int) (q0 : Int) (z : Nat → PV) (_zo : Nat → List PV) : St :=
  ⟨[z 0, z 1, .int .i64 q0, z 3, z 4, z 5, z 6, z 7, z 8, z 9, z 10, z 11, z 12, z 13, z 14, z 15, z 16, z 17], [], 576⟩
def Qdi (p0 : List Int) (e : En) : Q12n → Prop
  | .k0 q0 => ∃ z zo, Q7 G e (.st (.exit 0) (Qmy p0 q0 z zo))
  | .k1 q0 => ∃ z zo, Q7 G e (.st .ret (Qp0 p0 q0 z zo))
theorem Qmq (p0 : List Int) {e e' : En} (h : ∀ r, Q7 G e r → Q7 G e' r) : ∀ q, Qdi p0 e q → Qdi p0 e' q
  | .k0 _, ⟨z, zo, hz⟩ => ⟨z, zo, h _ hz⟩
  | .k1 _, ⟨z, zo, hz⟩ => ⟨z, zo, h _ hz⟩
def Q7y (p0 : List Int) : Prop := (List.length p0 ≤ 4611686018427387904) ∧ True
def Qpv (p0 : List Int) (i0 : Nat) (_v0_1 : Int) : List PV :=
  [.un, .un, .un, .un, .un, .un, .sl (Q4s p0), .int .i64 ((List.length p0) : Int), .int .i64 (i0 : Int), .bool false]
def Qgq (_p0 : List Int) (_i0 : Nat) (_v0_1 : Int) : List (Nat × List PV) :=
  []
theorem Qz9 (p0 : List Int) (_H : Q7y p0) (i0 : Nat) (v0_1 : Int) (hc0 : (decide ((i0 : Int) < ((List.length p0) : Int))) = false) : Qdi p0 (Qeo p0 i0 v0_1) (.k0 v0_1) := by
 exact ⟨(envF (Qpv p0 i0 v0_1)), (zoF (Qgq p0 i0 v0_1)), Qe VOK.nil (x := ((.exit 0), Qmy p0 v0_1 (envF (Qpv p0 i0 v0_1)) (zoF (Qgq p0 i0 v0_1)))) [hB 0 hc0] [] (by kernel_rfl)⟩
theorem Qyg (p0 : List Int) (H : Q7y p0) (x0 : Int) (i0 : Nat) (v0_1 : Int) (hx0 : p0[i0]? = some x0) (hi0 : i0 < List.length p0) (hc0 : (decide ((i0 : Int) < ((List.length p0) : Int))) = true) (h0 : (x0 == v0_1) = true) {r : Rs} (hr : Q7 G (Qeo p0 (i0 + 1) v0_1) r) : Q7 G (Qeo p0 i0 v0_1) r := by
 have hB0 := H.1; have e0 := eq_of_beq h0
 exact Q9 VOK.nil (y := (Qte p0 (i0 + 1) v0_1, Qtz p0 (i0 + 1) v0_1)) [hB 0 hc0, hP 0 (Q18 1 (Q4s p0) i0 _ (Qid hx0) rfl), hP 4 (dec (!(x0 == v0_1)) false (by rw [h0]; rfl)), hP 0 (Qt i0 (by omega))] [] (by kernel_rfl) hr
def Qoi (p0 : List Int) (i0 : Nat) (v0_1 : Int) (x0 : Int) : List PV :=
  [.un, .un, .un, .int .i64 v0_1, .un, .int .i64 x0, .sl (Q4s p0), .int .i64 ((List.length p0) : Int), .int .i64 (i0 : Int), .bool true, .rf [.int .i64 x0], .int .i64 x0, .int .i64 x0, .int .i64 v0_1, .bool true, .int .i64 x0]
def Qiz (_p0 : List Int) (_i0 : Nat) (_v0_1 : Int) (_x0 : Int) : List (Nat × List PV) :=
  []
theorem Q124 (p0 : List Int) (_H : Q7y p0) (x0 : Int) (i0 : Nat) (v0_1 : Int) (hx0 : p0[i0]? = some x0) (_hi0 : i0 < List.length p0) (hc0 : (decide ((i0 : Int) < ((List.length p0) : Int))) = true) (h0 : (x0 == v0_1) = false) : Qdi p0 (Qeo p0 i0 v0_1) (.k1 x0) := by
 exact ⟨(envF (Qoi p0 i0 v0_1 x0)), (zoF (Qiz p0 i0 v0_1 x0)), Qe VOK.nil (x := (.ret, Qp0 p0 x0 (envF (Qoi p0 i0 v0_1 x0)) (zoF (Qiz p0 i0 v0_1 x0)))) [hB 0 hc0, hP 0 (Q18 1 (Q4s p0) i0 _ (Qid hx0) rfl), hP 4 (dec (!(x0 == v0_1)) true (by rw [h0]; rfl))] [] (by kernel_rfl)⟩
theorem Qt0 (p0 : List Int) (H : Q7y p0) : ∀ (r0 : List Int) (i0 : Nat) (v0_1 : Int), List.drop i0 p0 = r0 → Qdi p0 (Qeo p0 i0 v0_1) (Q6f p0 r0 i0 v0_1)
 | [], i0, v0_1, hd => by
  have hc0 : (decide ((i0 : Int) < ((List.length p0) : Int))) = false := by have := Q1k hd; simp; omega
  rw [Q6f]
  exact Qz9 p0 H i0 v0_1 hc0
 | x0 :: r0, i0, v0_1, hd => by
  obtain ⟨hx0, hi0, hd'⟩ := Q15 hd
  have hc0 : (decide ((i0 : Int) < ((List.length p0) : Int))) = true := by simp; omega
  rw [Q6f]
  cases h0 : (x0 == v0_1) with
  | true =>
   exact Qmq p0 (fun r hr => Qyg p0 H x0 i0 v0_1 hx0 hi0 hc0 h0 hr) _ (Qt0 p0 H r0 (i0 + 1) v0_1 hd')
  | false =>
   exact Q124 p0 H x0 i0 v0_1 hx0 hi0 hc0 h0
def s_K1 (p0 : List Int) : Int :=
 (match (Q6f p0 p0 0 0) with
 | .k0 y0_0 => y0_0
 | .k1 y0_0 => y0_0)
def c_K1 (p0 : List Int) : En := .call 59 [.sl (Q4s p0)] []
def a_K1 (p0 : List Int) : Rs := .ret (.int .i64 (s_K1 p0)) []
def H_K1 (p0 : List Int) : Prop := (Q7y p0) ∧ True
theorem t_K1 (p0 : List Int) (H : H_K1 p0) : Q7 G (c_K1 p0) (a_K1 p0) := by
 unfold a_K1 s_K1
 have hl0 := Qt0 p0 (H.1) p0 0 0 (by simp)
 cases hr0 : (Q6f p0 p0 0 0) with
 | k0 y0_0 =>
  rw [hr0] at hl0
  obtain ⟨z0, zo0, hl0⟩ := hl0
  exact Q8 (fn := Ir.K1) rfl VOK.nil [hP 3 (Qi (Q4s p0) (List.length p0) (Qhm p0))] [aN hl0] (by kernel_rfl)
 | k1 y0_0 =>
  rw [hr0] at hl0
  obtain ⟨z0, zo0, hl0⟩ := hl0
  exact Q8 (fn := Ir.K1) rfl VOK.nil [hP 3 (Qi (Q4s p0) (List.length p0) (Qhm p0))] [aN hl0] (by kernel_rfl)
inductive Q10k where
  | k0
  | k1
inductive Qzf where
  | k0
  | k1
abbrev zF : Fld := (Fld.mk (⟨#[]⟩ : ByteArray) (Val.mk 0 0 (⟨#[]⟩ : ByteArray) [] []))
mutual
def s_Kx (p0 : Val) (p1 : Int) : Bool :=
 bif (p1 == 0) then
  false
 else
  bif (s_Kw p0) then
   bif (decide (64 < ((List.length p0.list) : Int))) then
    false
   else
    bif (decide (64 < ((List.length p0.fields) : Int))) then
     false
    else
     bif (p0.kind == 4) then
      bif (p0.kind == 5) then
       (match (Q3s p0 p1 p0.list 0) with
       | .k0 => (match (Q2u p0 p1 p0.fields 0) with
        | .k0 => true
        | .k1 => false)
       | .k1 => false)
      else
       bif (decide (0 < ((List.length p0.fields) : Int))) then
        false
       else
        (match (Q3s p0 p1 p0.list 0) with
        | .k0 => (match (Q2u p0 p1 p0.fields 0) with
         | .k0 => true
         | .k1 => false)
        | .k1 => false)
     else
      bif (decide (0 < ((List.length p0.list) : Int))) then
       false
      else
       bif (p0.kind == 5) then
        (match (Q3s p0 p1 p0.list 0) with
        | .k0 => (match (Q2u p0 p1 p0.fields 0) with
         | .k0 => true
         | .k1 => false)
        | .k1 => false)
       else
        bif (decide (0 < ((List.length p0.fields) : Int))) then
         false
        else
         (match (Q3s p0 p1 p0.list 0) with
         | .k0 => (match (Q2u p0 p1 p0.fields 0) with
          | .k0 => true
          | .k1 => false)
         | .k1 => false)
  else
   false
termination_by SizeOf.sizeOf p0
decreasing_by all_goals first | exact Val.Q27 _ | exact Val.Q1f _ | exact Q2d _ _ | exact Q23 _ _ | exact Q1s _ _
def Q3s (p0 : Val) (p1 : Int) : List Val → Nat → Q10k
 | [], _i0 =>
  (.k0)
 | x0 :: r0, i0 =>
  bif (s_Kx x0 (w64 (p1 - 1))) then
   Q3s p0 p1 r0 (i0 + 1)
  else
   (.k1)
termination_by l => SizeOf.sizeOf l
decreasing_by all_goals first | exact Val.Q27 _ | exact Val.Q1f _ | exact Q2d _ _ | exact Q23 _ _ | exact Q1s _ _
def Q2u (p0 : Val) (p1 : Int) : List Fld → Nat → Qzf
 | [], _i1 =>
  (.k0)
 | x1 :: r1, i1 =>
  bif (s_Kp x1.name) then
   bif (decide (0 < (i1 : Int))) then
    bif ((sLt x1.name (List.getD p0.fields (Int.toNat (w64 ((i1 : Int) - 1))) zF).name) || (sEq x1.name (List.getD p0.fields (Int.toNat (w64 ((i1 : Int) - 1))) zF).name)) then
     (.k1)
    else
     bif (s_Kx x1.v (w64 (p1 - 1))) then
      Q2u p0 p1 r1 (i1 + 1)
     else
      (.k1)
   else
    bif (s_Kx x1.v (w64 (p1 - 1))) then
     Q2u p0 p1 r1 (i1 + 1)
    else
     (.k1)
  else
   (.k1)
termination_by l => SizeOf.sizeOf l
decreasing_by all_goals first | exact Val.Q27 _ | exact Val.Q1f _ | exact Q2d _ _ | exact Q23 _ _ | exact Q1s _ _
end
def Qtt (_p0 : Val) (p1 : Int) (i0 : Nat) : List PV :=
  [.un, .int .i64 p1, .bx 0 0, .un, .un, .int .i64 (i0 : Int), .un, .un, .un, .un, .un, .un, .un, .un, .un, .un, .un, .un, .un, .un, .un, .un, .un, .un, .un, .un, .un, .un, .un, .un, .un, .un, .un, .un, .un, .un, .un, .un, .un, .un, .un, .un, .un, .un, .un, .un, .un, .un, .un, .un, .un, .un, .un, .un, .un, .un, .un, .un, .un, .un, .un, .un, .un, .un, .un, .un, .un, .un, .un, .un, .un, .un, .un, .un, .un, .un, .un, .un, .un, .un, .un, .un, .un, .un, .un, .un, .un, .un, .un, .un, .un, .un, .un, .un, .un, .un, .un, .un, .un, .un, .un, .un, .un, .un, .un, .un, .un, .un, .un]
def Qtf (p0 : Val) (_p1 : Int) (_i0 : Nat) : List Ob :=
  [⟨5, 0, true, [.int .i64 p0.kind, .int .i64 p0.n, .str p0.s, .sl (Val.rows p0.list), .sl (Fld.rows p0.fields)]⟩]
def Q2v (p0 : Val) (p1 : Int) (i0 : Nat) : En := .loop 0 Ir.Qjv Ir.Q18s (Qtt p0 p1 i0) (Qtf p0 p1 i0)
def Q38 (p0 : Val) (p1 : Int) (z : Nat → PV) (_zo : Nat → List PV) : St :=
  ⟨[z 0, .int .i64 p1, .bx 0 0, z 3, z 4, z 5, z 6, z 7, z 8, z 9, z 10, z 11, z 12, z 13, z 14, z 15, z 16, z 17, z 18, z 19, z 20, z 21, z 22, z 23, z 24, z 25, z 26, z 27, z 28, z 29, z 30, z 31, z 32, z 33, z 34, z 35, z 36, z 37, z 38, z 39, z 40, z 41, z 42, z 43, z 44, z 45, z 46, z 47, z 48, z 49, z 50, z 51, z 52, z 53, z 54, z 55, z 56, z 57, z 58, z 59, z 60, z 61, z 62, z 63, z 64, z 65, z 66, z 67, z 68, z 69, z 70, z 71, z 72, z 73, z 74, z 75, z 76, z 77, z 78, z 79, z 80, z 81, z 82, z 83, z 84, z 85, z 86, z 87, z 88, z 89, z 90, z 91, z 92, z 93, z 94, z 95, z 96, z 97, z 98, z 99, z 100, z 101, z 102, z 103, z 104, z 105, z 106, z 107, z 108], [(0, ⟨5, 0, true, [.int .i64 p0.kind, .int .i64 p0.n, .str p0.s, .sl (Val.rows p0.list), .sl (Fld.rows p0.fields)]⟩)], 321⟩
def Q59 (_p0 : Val) (_p1 : Int) (z : Nat → PV) (zo : Nat → List PV) : St :=
  ⟨[z 0, z 1, z 2, z 3, .bool false, z 5, z 6, z 7, z 8, z 9, z 10, z 11, z 12, z 13, z 14, z 15, z 16, z 17, z 18, z 19, z 20, z 21, z 22, z 23, z 24, z 25, z 26, z 27, z 28, z 29, z 30, z 31, z 32, z 33, z 34, z 35, z 36, z 37, z 38, z 39, z 40, z 41, z 42, z 43, z 44, z 45, z 46, z 47, z 48, z 49, z 50, z 51, z 52, z 53, z 54, z 55, z 56, z 57, z 58, z 59, z 60, z 61, z 62, z 63, z 64, z 65, z 66, z 67, z 68, z 69, z 70, z 71, z 72, z 73, z 74, z 75, z 76, z 77, z 78, z 79, z 80, z 81, z 82, z 83, z 84, z 85, z 86, z 87, z 88, z 89, z 90, z 91, z 92, z 93, z 94, z 95, z 96, z 97, z 98, z 99, z 100, z 101, z 102, z 103, z 104, z 105, z 106, z 107, z 108], [(0, ⟨5, 0, true, zo 0⟩)], 961⟩
def Qdj (p0 : Val) (p1 : Int) (e : En) : Q10k → Prop
  | .k0 => ∃ z zo, Q7 G e (.st (.exit 0) (Q38 p0 p1 z zo))
  | .k1 => ∃ z zo, Q7 G e (.st .ret (Q59 p0 p1 z zo))
theorem Qmm (p0 : Val) (p1 : Int) {e e' : En} (h : ∀ r, Q7 G e r → Q7 G e' r) : ∀ q, Qdj p0 p1 e q → Qdj p0 p1 e' q
  | .k0, ⟨z, zo, hz⟩ => ⟨z, zo, h _ hz⟩
  | .k1, ⟨z, zo, hz⟩ => ⟨z, zo, h _ hz⟩
def Qkd (_p0 : Val) (p1 : Int) (i1 : Nat) : List PV :=
  [.un, .int .i64 p1, .bx 0 0, .un, .un, .un, .int .i64 (i1 : Int), .un, .un, .un, .un, .un, .un, .un, .un, .un, .un, .un, .un, .un, .un, .un, .un, .un, .un, .un, .un, .un, .un, .un, .un, .un, .un, .un, .un, .un, .un, .un, .un, .un, .un, .un, .un, .un, .un, .un, .un, .un, .un, .un, .un, .un, .un, .un, .un, .un, .un, .un, .un, .un, .un, .un, .un, .un, .un, .un, .un, .un, .un, .un, .un, .un, .un, .un, .un, .un, .un, .un, .un, .un, .un, .un, .un, .un, .un, .un, .un, .un, .un, .un, .un, .un, .un, .un, .un, .un, .un, .un, .un, .un, .un, .un, .un, .un, .un, .un, .un, .un, .un]
def Qlk (p0 : Val) (_p1 : Int) (_i1 : Nat) : List Ob :=
  [⟨5, 0, true, [.int .i64 p0.kind, .int .i64 p0.n, .str p0.s, .sl (Val.rows p0.list), .sl (Fld.rows p0.fields)]⟩]
def Q2n (p0 : Val) (p1 : Int) (i1 : Nat) : En := .loop 0 Ir.Qj4 Ir.Q17b (Qkd p0 p1 i1) (Qlk p0 p1 i1)
def Q5j (p0 : Val) (_p1 : Int) (z : Nat → PV) (_zo : Nat → List PV) : St :=
  ⟨[z 0, z 1, z 2, z 3, z 4, z 5, z 6, z 7, z 8, z 9, z 10, z 11, z 12, z 13, z 14, z 15, z 16, z 17, z 18, z 19, z 20, z 21, z 22, z 23, z 24, z 25, z 26, z 27, z 28, z 29, z 30, z 31, z 32, z 33, z 34, z 35, z 36, z 37, z 38, z 39, z 40, z 41, z 42, z 43, z 44, z 45, z 46, z 47, z 48, z 49, z 50, z 51, z 52, z 53, z 54, z 55, z 56, z 57, z 58, z 59, z 60, z 61, z 62, z 63, z 64, z 65, z 66, z 67, z 68, z 69, z 70, z 71, z 72, z 73, z 74, z 75, z 76, z 77, z 78, z 79, z 80, z 81, z 82, z 83, z 84, z 85, z 86, z 87, z 88, z 89, z 90, z 91, z 92, z 93, z 94, z 95, z 96, z 97, z 98, z 99, z 100, z 101, z 102, z 103, z 104, z 105, z 106, z 107, z 108], [(0, ⟨5, 0, true, [.int .i64 p0.kind, .int .i64 p0.n, .str p0.s, .sl (Val.rows p0.list), .sl (Fld.rows p0.fields)]⟩)], 321⟩
def Q3j (_p0 : Val) (_p1 : Int) (z : Nat → PV) (zo : Nat → List PV) : St :=
  ⟨[z 0, z 1, z 2, z 3, .bool false, z 5, z 6, z 7, z 8, z 9, z 10, z 11, z 12, z 13, z 14, z 15, z 16, z 17, z 18, z 19, z 20, z 21, z 22, z 23, z 24, z 25, z 26, z 27, z 28, z 29, z 30, z 31, z 32, z 33, z 34, z 35, z 36, z 37, z 38, z 39, z 40, z 41, z 42, z 43, z 44, z 45, z 46, z 47, z 48, z 49, z 50, z 51, z 52, z 53, z 54, z 55, z 56, z 57, z 58, z 59, z 60, z 61, z 62, z 63, z 64, z 65, z 66, z 67, z 68, z 69, z 70, z 71, z 72, z 73, z 74, z 75, z 76, z 77, z 78, z 79, z 80, z 81, z 82, z 83, z 84, z 85, z 86, z 87, z 88, z 89, z 90, z 91, z 92, z 93, z 94, z 95, z 96, z 97, z 98, z 99, z 100, z 101, z 102, z 103, z 104, z 105, z 106, z 107, z 108], [(0, ⟨5, 0, true, zo 0⟩)], 2945⟩
def Q6m (p0 : Val) (p1 : Int) (e : En) : Qzf → Prop
  | .k0 => ∃ z zo, Q7 G e (.st (.exit 2) (Q5j p0 p1 z zo))
  | .k1 => ∃ z zo, Q7 G e (.st .ret (Q3j p0 p1 z zo))
theorem Qas (p0 : Val) (p1 : Int) {e e' : En} (h : ∀ r, Q7 G e r → Q7 G e' r) : ∀ q, Q6m p0 p1 e q → Q6m p0 p1 e' q
  | .k0, ⟨z, zo, hz⟩ => ⟨z, zo, h _ hz⟩
  | .k1, ⟨z, zo, hz⟩ => ⟨z, zo, h _ hz⟩
def c_Kx (p0 : Val) (p1 : Int) : En := .call 38 [.agg (Val.cells p0), .int .i64 p1] []
def a_Kx (p0 : Val) (p1 : Int) : Rs := .ret (.bool (s_Kx p0 p1)) []
abbrev H_Kx (p0 : Val) : Prop := Q31 p0
def Q21 (p0 : Val) : Prop := ∀ (q : Val), SizeOf.sizeOf q < SizeOf.sizeOf p0 → ∀ (p1 : Int), H_Kx q → Q7 G (c_Kx q p1) (a_Kx q p1)
def Qdc (p0 : Val) (_p1 : Int) : Prop := (List.length p0.list ≤ 4611686018427387904) ∧ (∀ x0 ∈ p0.list, H_Kx x0) ∧ True
def Q5r (p0 : Val) (_p1 : Int) : Prop := (List.length p0.fields ≤ 4611686018427387904) ∧ (∀ x1 ∈ p0.fields, H_Kp x1.name) ∧ (∀ (i1 : Nat) (x1 : Fld), p0.fields[i1]? = some x1 → (decide (0 < (i1 : Int))) = true → 0 ≤ (w64 ((i1 : Int) - 1))) ∧ (∀ (i1 : Nat) (x1 : Fld), p0.fields[i1]? = some x1 → (decide (0 < (i1 : Int))) = true → Int.toNat (w64 ((i1 : Int) - 1)) < List.length p0.fields) ∧ (∀ x1 ∈ p0.fields, H_Kx x1.v) ∧ True
theorem Q1t (p0 : Val) (p1 : Int) (H : H_Kx p0) : (H_Kw p0) ∧ (Qdc p0 p1) ∧ (Q5r p0 p1) ∧ True := by
  obtain ⟨_, _, h3, hl, hf, sl, sf⟩ := H.all
  unfold okS at h3
  have nm : ∀ x ∈ p0.fields, H_Kp x.name := fun x hx => by
    have := (sf x hx).1
    unfold okS at this
    exact ⟨⟨by rw [Q4e]; omega, trivial⟩, trivial⟩
  have ix : ∀ (i1 : Nat) (x1 : Fld), p0.fields[i1]? = some x1 → decide (0 < (i1 : Int)) = true → 0 ≤ w64 ((i1 : Int) - 1) ∧ Int.toNat (w64 ((i1 : Int) - 1)) < p0.fields.length := fun i x hx h => by
    have h0 := of_decide_eq_true h
    have h1 := (List.getElem?_eq_some_iff.1 hx).1
    rw [Qav (by omega)]
    omega
  exact ⟨⟨⟨⟨by rw [Q4e]; omega, trivial⟩, trivial⟩, trivial⟩, ⟨by omega, sl, trivial⟩, ⟨by omega, nm, fun i x a b => (ix i x a b).1, fun i x a b => (ix i x a b).2, fun x hx => (sf x hx).2, trivial⟩, trivial⟩
def Qpu (p0 : Val) (_p1 : Int) (i0 : Nat) : List PV :=
  [.un, .un, .un, .un, .un, .int .i64 (i0 : Int), .un, .un, .un, .un, .un, .un, .un, .un, .un, .un, .un, .un, .un, .un, .un, .un, .un, .un, .un, .un, .un, .un, .un, .un, .un, .un, .un, .un, .un, .un, .un, .un, .un, .un, .un, .un, .un, .un, .un, .un, .int .i64 (i0 : Int), .bx 0 3, .sl (Val.rows p0.list), .int .i64 ((List.length p0.list) : Int), .bool false]
def Qio (_p0 : Val) (_p1 : Int) (_i0 : Nat) : List (Nat × List PV) :=
  []
theorem Qzp (p0 : Val) (p1 : Int) (_H : Qdc p0 p1) (_rec : Q21 p0) (i0 : Nat) (hc0 : (decide ((i0 : Int) < ((List.length p0.list) : Int))) = false) : Qdj p0 p1 (Q2v p0 p1 i0) (.k0) := by
 exact ⟨(envF (Qpu p0 p1 i0)), (zoF (Qio p0 p1 i0)), Qe VOK.nil (x := ((.exit 0), Q38 p0 p1 (envF (Qpu p0 p1 i0)) (zoF (Qio p0 p1 i0)))) [hP 3 (Qi (Val.rows p0.list) (List.length p0.list) (Val.Qd p0.list)), hB 0 hc0] [] (by kernel_rfl)⟩
theorem Qz2 (p0 : Val) (p1 : Int) (H : Qdc p0 p1) (rec : Q21 p0) (x0 : Val) (i0 : Nat) (hx0 : p0.list[i0]? = some x0) (hi0 : i0 < List.length p0.list) (hc0 : (decide ((i0 : Int) < ((List.length p0.list) : Int))) = true) (h0 : (s_Kx x0 (w64 (p1 - 1))) = true) {r : Rs} (hr : Q7 G (Q2v p0 p1 (i0 + 1)) r) : Q7 G (Q2v p0 p1 i0) r := by
 have hB0 := H.1
 exact Q9 VOK.nil (y := (Qtt p0 p1 (i0 + 1), Qtf p0 p1 (i0 + 1))) [hP 3 (Qi (Val.rows p0.list) (List.length p0.list) (Val.Qd p0.list)), hB 0 hc0, hP 3 (Q18 5 (Val.rows p0.list) i0 _ (Val.Qf hx0) rfl), hP 6 (Qt i0 (by omega))] [aB (rec x0 (szL hx0) (w64 (p1 - 1)) (H.2.1 x0 (Ql hx0))) h0] (by kernel_rfl) hr
def Qou (p0 : Val) (p1 : Int) (i0 : Nat) (x0 : Val) : List PV :=
  [.un, .int .i64 p1, .bx 0 0, .un, .un, .int .i64 (i0 : Int), .un, .un, .un, .un, .un, .un, .un, .un, .un, .un, .un, .un, .un, .un, .un, .un, .un, .un, .un, .un, .un, .un, .un, .un, .un, .un, .un, .un, .un, .un, .un, .un, .un, .un, .un, .un, .un, .un, .un, .un, .int .i64 (i0 : Int), .bx 0 3, .sl (Val.rows p0.list), .int .i64 ((List.length p0.list) : Int), .bool true, .un, .un, .bx 0 3, .sl (Val.rows p0.list), .int .i64 (i0 : Int), .rf [.int .i64 x0.kind, .int .i64 x0.n, .str x0.s, .sl (Val.rows x0.list), .sl (Fld.rows x0.fields)], .agg [.int .i64 x0.kind, .int .i64 x0.n, .str x0.s, .sl (Val.rows x0.list), .sl (Fld.rows x0.fields)], .int .i64 p1, .int .i64 (w64 (p1 - 1)), .bool false, .bool true]
def Qii (p0 : Val) (_p1 : Int) (_i0 : Nat) (_x0 : Val) : List (Nat × List PV) :=
  [(0, [.int .i64 p0.kind, .int .i64 p0.n, .str p0.s, .sl (Val.rows p0.list), .sl (Fld.rows p0.fields)])]
theorem Q114 (p0 : Val) (p1 : Int) (H : Qdc p0 p1) (rec : Q21 p0) (x0 : Val) (i0 : Nat) (hx0 : p0.list[i0]? = some x0) (_hi0 : i0 < List.length p0.list) (hc0 : (decide ((i0 : Int) < ((List.length p0.list) : Int))) = true) (h0 : (s_Kx x0 (w64 (p1 - 1))) = false) : Qdj p0 p1 (Q2v p0 p1 i0) (.k1) := by
 exact ⟨(envF (Qou p0 p1 i0 x0)), (zoF (Qii p0 p1 i0 x0)), Qe VOK.nil (x := (.ret, Q59 p0 p1 (envF (Qou p0 p1 i0 x0)) (zoF (Qii p0 p1 i0 x0)))) [hP 3 (Qi (Val.rows p0.list) (List.length p0.list) (Val.Qd p0.list)), hB 0 hc0, hP 3 (Q18 5 (Val.rows p0.list) i0 _ (Val.Qf hx0) rfl)] [aB (rec x0 (szL hx0) (w64 (p1 - 1)) (H.2.1 x0 (Ql hx0))) h0] (by kernel_rfl)⟩
theorem Q94 (p0 : Val) (p1 : Int) (H : Qdc p0 p1) (rec : Q21 p0) : ∀ (r0 : List Val) (i0 : Nat), List.drop i0 p0.list = r0 → Qdj p0 p1 (Q2v p0 p1 i0) (Q3s p0 p1 r0 i0)
 | [], i0, hd => by
  have hc0 : (decide ((i0 : Int) < ((List.length p0.list) : Int))) = false := by have := Q1k hd; simp; omega
  rw [Q3s]
  exact Qzp p0 p1 H rec i0 hc0
 | x0 :: r0, i0, hd => by
  obtain ⟨hx0, hi0, hd'⟩ := Q15 hd
  have hc0 : (decide ((i0 : Int) < ((List.length p0.list) : Int))) = true := by simp; omega
  rw [Q3s]
  cases h0 : (s_Kx x0 (w64 (p1 - 1))) with
  | true =>
   exact Qmm p0 p1 (fun r hr => Qz2 p0 p1 H rec x0 i0 hx0 hi0 hc0 h0 hr) _ (Q94 p0 p1 H rec r0 (i0 + 1) hd')
  | false =>
   exact Q114 p0 p1 H rec x0 i0 hx0 hi0 hc0 h0
def Qnx (p0 : Val) (p1 : Int) (i1 : Nat) : List PV :=
  [.un, .int .i64 p1, .bx 0 0, .un, .un, .un, .int .i64 (i1 : Int), .un, .un, .un, .un, .un, .un, .un, .un, .un, .un, .un, .un, .un, .un, .un, .un, .un, .un, .un, .un, .un, .un, .un, .un, .un, .un, .un, .un, .un, .un, .un, .un, .un, .un, .un, .un, .un, .un, .un, .un, .un, .un, .un, .un, .un, .un, .un, .un, .un, .un, .un, .un, .un, .un, .un, .int .i64 (i1 : Int), .bx 0 4, .sl (Fld.rows p0.fields), .int .i64 ((List.length p0.fields) : Int), .bool false]
def Qhz (_p0 : Val) (_p1 : Int) (_i1 : Nat) : List (Nat × List PV) :=
  []
theorem Qzd (p0 : Val) (p1 : Int) (_H : Q5r p0 p1) (_rec : Q21 p0) (i1 : Nat) (hc1 : (decide ((i1 : Int) < ((List.length p0.fields) : Int))) = false) : Q6m p0 p1 (Q2n p0 p1 i1) (.k0) := by
 exact ⟨(envF (Qnx p0 p1 i1)), (zoF (Qhz p0 p1 i1)), Qe VOK.nil (x := ((.exit 2), Q5j p0 p1 (envF (Qnx p0 p1 i1)) (zoF (Qhz p0 p1 i1)))) [hP 3 (Qi (Fld.rows p0.fields) (List.length p0.fields) (Fld.Qd p0.fields)), hB 0 hc1] [] (by kernel_rfl)⟩
def Qpy (p0 : Val) (p1 : Int) (i1 : Nat) (x1 : Fld) : List PV :=
  [.un, .int .i64 p1, .bx 0 0, .un, .un, .un, .int .i64 (i1 : Int), .un, .un, .un, .un, .un, .un, .un, .un, .un, .un, .un, .un, .un, .un, .un, .un, .un, .un, .un, .un, .un, .un, .un, .un, .un, .un, .un, .un, .un, .un, .un, .un, .un, .un, .un, .un, .un, .un, .un, .un, .un, .un, .un, .un, .un, .un, .un, .un, .un, .un, .un, .un, .un, .un, .un, .int .i64 (i1 : Int), .bx 0 4, .sl (Fld.rows p0.fields), .int .i64 ((List.length p0.fields) : Int), .bool true, .un, .un, .bx 0 4, .sl (Fld.rows p0.fields), .int .i64 (i1 : Int), .rf [.str x1.name, .int .i64 x1.v.kind, .int .i64 x1.v.n, .str x1.v.s, .sl (Val.rows x1.v.list), .sl (Fld.rows x1.v.fields)], .rf [.str x1.name, .int .i64 x1.v.kind, .int .i64 x1.v.n, .str x1.v.s, .sl (Val.rows x1.v.list), .sl (Fld.rows x1.v.fields)], .str x1.name, .bool true, .bool false, .bool false, .int .i64 (i1 : Int), .bool true, .bool true, .bx 0 4, .sl (Fld.rows p0.fields), .int .i64 (i1 : Int), .rf [.str x1.name, .int .i64 x1.v.kind, .int .i64 x1.v.n, .str x1.v.s, .sl (Val.rows x1.v.list), .sl (Fld.rows x1.v.fields)], .rf [.str x1.name, .int .i64 x1.v.kind, .int .i64 x1.v.n, .str x1.v.s, .sl (Val.rows x1.v.list), .sl (Fld.rows x1.v.fields)], .str x1.name, .bx 0 4, .sl (Fld.rows p0.fields), .int .i64 (i1 : Int), .int .i64 (w64 ((i1 : Int) - 1)), .rf [.str (List.getD p0.fields (Int.toNat (w64 ((i1 : Int) - 1))) zF).name, .int .i64 (List.getD p0.fields (Int.toNat (w64 ((i1 : Int) - 1))) zF).v.kind, .int .i64 (List.getD p0.fields (Int.toNat (w64 ((i1 : Int) - 1))) zF).v.n, .str (List.getD p0.fields (Int.toNat (w64 ((i1 : Int) - 1))) zF).v.s, .sl (Val.rows (List.getD p0.fields (Int.toNat (w64 ((i1 : Int) - 1))) zF).v.list), .sl (Fld.rows (List.getD p0.fields (Int.toNat (w64 ((i1 : Int) - 1))) zF).v.fields)], .rf [.str (List.getD p0.fields (Int.toNat (w64 ((i1 : Int) - 1))) zF).name, .int .i64 (List.getD p0.fields (Int.toNat (w64 ((i1 : Int) - 1))) zF).v.kind, .int .i64 (List.getD p0.fields (Int.toNat (w64 ((i1 : Int) - 1))) zF).v.n, .str (List.getD p0.fields (Int.toNat (w64 ((i1 : Int) - 1))) zF).v.s, .sl (Val.rows (List.getD p0.fields (Int.toNat (w64 ((i1 : Int) - 1))) zF).v.list), .sl (Fld.rows (List.getD p0.fields (Int.toNat (w64 ((i1 : Int) - 1))) zF).v.fields)], .str (List.getD p0.fields (Int.toNat (w64 ((i1 : Int) - 1))) zF).name, .bool true, .bool true, .bool true, .bool true, .tup [], .tup [], .tup [], .tup [], .tup [], .tup [], .tup [], .tup [], .tup [], .tup [], .bool true]
def Qgh (p0 : Val) (_p1 : Int) (_i1 : Nat) (_x1 : Fld) : List (Nat × List PV) :=
  [(0, [.int .i64 p0.kind, .int .i64 p0.n, .str p0.s, .sl (Val.rows p0.list), .sl (Fld.rows p0.fields)])]
theorem Q10t (p0 : Val) (p1 : Int) (H : Q5r p0 p1) (_rec : Q21 p0) (x1 : Fld) (i1 : Nat) (hx1 : p0.fields[i1]? = some x1) (_hi1 : i1 < List.length p0.fields) (hc1 : (decide ((i1 : Int) < ((List.length p0.fields) : Int))) = true) (h0 : (s_Kp x1.name) = true) (h1 : (decide (0 < (i1 : Int))) = true) (h2 : ((sLt x1.name (List.getD p0.fields (Int.toNat (w64 ((i1 : Int) - 1))) zF).name) || (sEq x1.name (List.getD p0.fields (Int.toNat (w64 ((i1 : Int) - 1))) zF).name)) = true) : Q6m p0 p1 (Q2n p0 p1 i1) (.k1) := by
 exact ⟨(envF (Qpy p0 p1 i1 x1)), (zoF (Qgh p0 p1 i1 x1)), Qe VOK.nil (x := (.ret, Q3j p0 p1 (envF (Qpy p0 p1 i1 x1)) (zoF (Qgh p0 p1 i1 x1)))) [hP 3 (Qi (Fld.rows p0.fields) (List.length p0.fields) (Fld.Qd p0.fields)), hB 0 hc1, hP 3 (Q18 6 (Fld.rows p0.fields) i1 _ (Fld.Qf hx1) rfl), hB 6 h1, hP 4 (Q18 6 (Fld.rows p0.fields) i1 _ (Fld.Qf hx1) rfl), hP 6 (Qak 6 (Fld.rows p0.fields) (w64 ((i1 : Int) - 1)) _ ((H.2.2.1 i1 x1 hx1) h1) (Fld.Qf (Qu p0.fields (Int.toNat (w64 ((i1 : Int) - 1))) zF ((H.2.2.2.1 i1 x1 hx1) h1))) rfl), hB 2 h2] [aB (t_Kp x1.name (H.2.1 x1 (Ql hx1))) h0] (by kernel_rfl)⟩
theorem Qzu (p0 : Val) (p1 : Int) (H : Q5r p0 p1) (rec : Q21 p0) (x1 : Fld) (i1 : Nat) (hx1 : p0.fields[i1]? = some x1) (hi1 : i1 < List.length p0.fields) (hc1 : (decide ((i1 : Int) < ((List.length p0.fields) : Int))) = true) (h0 : (s_Kp x1.name) = true) (h1 : (decide (0 < (i1 : Int))) = true) (h2 : ((sLt x1.name (List.getD p0.fields (Int.toNat (w64 ((i1 : Int) - 1))) zF).name) || (sEq x1.name (List.getD p0.fields (Int.toNat (w64 ((i1 : Int) - 1))) zF).name)) = false) (h3 : (s_Kx x1.v (w64 (p1 - 1))) = true) {r : Rs} (hr : Q7 G (Q2n p0 p1 (i1 + 1)) r) : Q7 G (Q2n p0 p1 i1) r := by
 have hB0 := H.1; have e1 := of_decide_eq_true h1
 exact Q9 VOK.nil (y := (Qkd p0 p1 (i1 + 1), Qlk p0 p1 (i1 + 1))) [hP 3 (Qi (Fld.rows p0.fields) (List.length p0.fields) (Fld.Qd p0.fields)), hB 0 hc1, hP 3 (Q18 6 (Fld.rows p0.fields) i1 _ (Fld.Qf hx1) rfl), hB 6 h1, hP 4 (Q18 6 (Fld.rows p0.fields) i1 _ (Fld.Qf hx1) rfl), hP 6 (Qak 6 (Fld.rows p0.fields) (w64 ((i1 : Int) - 1)) _ ((H.2.2.1 i1 x1 hx1) h1) (Fld.Qf (Qu p0.fields (Int.toNat (w64 ((i1 : Int) - 1))) zF ((H.2.2.2.1 i1 x1 hx1) h1))) rfl), hB 2 h2, hP 6 (Q18 6 (Fld.rows p0.fields) i1 _ (Fld.Qf hx1) rfl), hP 8 (Qt i1 (by omega))] [aB (t_Kp x1.name (H.2.1 x1 (Ql hx1))) h0, aB (rec x1.v (szF hx1) (w64 (p1 - 1)) (H.2.2.2.2.1 x1 (Ql hx1))) h3] (by kernel_rfl) hr
def Qpn (p0 : Val) (p1 : Int) (i1 : Nat) (x1 : Fld) : List PV :=
  [.un, .int .i64 p1, .bx 0 0, .un, .un, .un, .int .i64 (i1 : Int), .un, .un, .un, .un, .un, .un, .un, .un, .un, .un, .un, .un, .un, .un, .un, .un, .un, .un, .un, .un, .un, .un, .un, .un, .un, .un, .un, .un, .un, .un, .un, .un, .un, .un, .un, .un, .un, .un, .un, .un, .un, .un, .un, .un, .un, .un, .un, .un, .un, .un, .un, .un, .un, .un, .un, .int .i64 (i1 : Int), .bx 0 4, .sl (Fld.rows p0.fields), .int .i64 ((List.length p0.fields) : Int), .bool true, .un, .un, .bx 0 4, .sl (Fld.rows p0.fields), .int .i64 (i1 : Int), .rf [.str x1.name, .int .i64 x1.v.kind, .int .i64 x1.v.n, .str x1.v.s, .sl (Val.rows x1.v.list), .sl (Fld.rows x1.v.fields)], .rf [.str x1.name, .int .i64 x1.v.kind, .int .i64 x1.v.n, .str x1.v.s, .sl (Val.rows x1.v.list), .sl (Fld.rows x1.v.fields)], .str x1.name, .bool true, .bool false, .bool false, .int .i64 (i1 : Int), .bool true, .bool true, .bx 0 4, .sl (Fld.rows p0.fields), .int .i64 (i1 : Int), .rf [.str x1.name, .int .i64 x1.v.kind, .int .i64 x1.v.n, .str x1.v.s, .sl (Val.rows x1.v.list), .sl (Fld.rows x1.v.fields)], .rf [.str x1.name, .int .i64 x1.v.kind, .int .i64 x1.v.n, .str x1.v.s, .sl (Val.rows x1.v.list), .sl (Fld.rows x1.v.fields)], .str x1.name, .bx 0 4, .sl (Fld.rows p0.fields), .int .i64 (i1 : Int), .int .i64 (w64 ((i1 : Int) - 1)), .rf [.str (List.getD p0.fields (Int.toNat (w64 ((i1 : Int) - 1))) zF).name, .int .i64 (List.getD p0.fields (Int.toNat (w64 ((i1 : Int) - 1))) zF).v.kind, .int .i64 (List.getD p0.fields (Int.toNat (w64 ((i1 : Int) - 1))) zF).v.n, .str (List.getD p0.fields (Int.toNat (w64 ((i1 : Int) - 1))) zF).v.s, .sl (Val.rows (List.getD p0.fields (Int.toNat (w64 ((i1 : Int) - 1))) zF).v.list), .sl (Fld.rows (List.getD p0.fields (Int.toNat (w64 ((i1 : Int) - 1))) zF).v.fields)], .rf [.str (List.getD p0.fields (Int.toNat (w64 ((i1 : Int) - 1))) zF).name, .int .i64 (List.getD p0.fields (Int.toNat (w64 ((i1 : Int) - 1))) zF).v.kind, .int .i64 (List.getD p0.fields (Int.toNat (w64 ((i1 : Int) - 1))) zF).v.n, .str (List.getD p0.fields (Int.toNat (w64 ((i1 : Int) - 1))) zF).v.s, .sl (Val.rows (List.getD p0.fields (Int.toNat (w64 ((i1 : Int) - 1))) zF).v.list), .sl (Fld.rows (List.getD p0.fields (Int.toNat (w64 ((i1 : Int) - 1))) zF).v.fields)], .str (List.getD p0.fields (Int.toNat (w64 ((i1 : Int) - 1))) zF).name, .bool false, .bool false, .bool false, .bool false, .bx 0 4, .sl (Fld.rows p0.fields), .int .i64 (i1 : Int), .rf [.str x1.name, .int .i64 x1.v.kind, .int .i64 x1.v.n, .str x1.v.s, .sl (Val.rows x1.v.list), .sl (Fld.rows x1.v.fields)], .rf [.int .i64 x1.v.kind, .int .i64 x1.v.n, .str x1.v.s, .sl (Val.rows x1.v.list), .sl (Fld.rows x1.v.fields)], .agg [.int .i64 x1.v.kind, .int .i64 x1.v.n, .str x1.v.s, .sl (Val.rows x1.v.list), .sl (Fld.rows x1.v.fields)], .int .i64 p1, .int .i64 (w64 (p1 - 1)), .bool false, .bool true, .bool true]
def Qh4 (p0 : Val) (_p1 : Int) (_i1 : Nat) (_x1 : Fld) : List (Nat × List PV) :=
  [(0, [.int .i64 p0.kind, .int .i64 p0.n, .str p0.s, .sl (Val.rows p0.list), .sl (Fld.rows p0.fields)])]
theorem Q10g (p0 : Val) (p1 : Int) (H : Q5r p0 p1) (rec : Q21 p0) (x1 : Fld) (i1 : Nat) (hx1 : p0.fields[i1]? = some x1) (_hi1 : i1 < List.length p0.fields) (hc1 : (decide ((i1 : Int) < ((List.length p0.fields) : Int))) = true) (h0 : (s_Kp x1.name) = true) (h1 : (decide (0 < (i1 : Int))) = true) (h2 : ((sLt x1.name (List.getD p0.fields (Int.toNat (w64 ((i1 : Int) - 1))) zF).name) || (sEq x1.name (List.getD p0.fields (Int.toNat (w64 ((i1 : Int) - 1))) zF).name)) = false) (h3 : (s_Kx x1.v (w64 (p1 - 1))) = false) : Q6m p0 p1 (Q2n p0 p1 i1) (.k1) := by
 exact ⟨(envF (Qpn p0 p1 i1 x1)), (zoF (Qh4 p0 p1 i1 x1)), Qe VOK.nil (x := (.ret, Q3j p0 p1 (envF (Qpn p0 p1 i1 x1)) (zoF (Qh4 p0 p1 i1 x1)))) [hP 3 (Qi (Fld.rows p0.fields) (List.length p0.fields) (Fld.Qd p0.fields)), hB 0 hc1, hP 3 (Q18 6 (Fld.rows p0.fields) i1 _ (Fld.Qf hx1) rfl), hB 6 h1, hP 4 (Q18 6 (Fld.rows p0.fields) i1 _ (Fld.Qf hx1) rfl), hP 6 (Qak 6 (Fld.rows p0.fields) (w64 ((i1 : Int) - 1)) _ ((H.2.2.1 i1 x1 hx1) h1) (Fld.Qf (Qu p0.fields (Int.toNat (w64 ((i1 : Int) - 1))) zF ((H.2.2.2.1 i1 x1 hx1) h1))) rfl), hB 2 h2, hP 6 (Q18 6 (Fld.rows p0.fields) i1 _ (Fld.Qf hx1) rfl)] [aB (t_Kp x1.name (H.2.1 x1 (Ql hx1))) h0, aB (rec x1.v (szF hx1) (w64 (p1 - 1)) (H.2.2.2.2.1 x1 (Ql hx1))) h3] (by kernel_rfl)⟩
theorem Q10v (p0 : Val) (p1 : Int) (H : Q5r p0 p1) (rec : Q21 p0) (x1 : Fld) (i1 : Nat) (hx1 : p0.fields[i1]? = some x1) (_hi1 : i1 < List.length p0.fields) (hc1 : (decide ((i1 : Int) < ((List.length p0.fields) : Int))) = true) (h0 : (s_Kp x1.name) = true) (h1 : (decide (0 < (i1 : Int))) = false) (h2 : (s_Kx x1.v (w64 (p1 - 1))) = true) {r : Rs} (hr : Q7 G (Q2n p0 p1 (i1 + 1)) r) : Q7 G (Q2n p0 p1 i1) r := by
 have hB0 := H.1; have e1 := of_decide_eq_false h1
 exact Q9 VOK.nil (y := (Qkd p0 p1 (i1 + 1), Qlk p0 p1 (i1 + 1))) [hP 3 (Qi (Fld.rows p0.fields) (List.length p0.fields) (Fld.Qd p0.fields)), hB 0 hc1, hP 3 (Q18 6 (Fld.rows p0.fields) i1 _ (Fld.Qf hx1) rfl), hB 6 h1, hP 21 (Q18 6 (Fld.rows p0.fields) i1 _ (Fld.Qf hx1) rfl), hP 8 (Qt i1 (by omega))] [aB (t_Kp x1.name (H.2.1 x1 (Ql hx1))) h0, aB (rec x1.v (szF hx1) (w64 (p1 - 1)) (H.2.2.2.2.1 x1 (Ql hx1))) h2] (by kernel_rfl) hr
def Qqm (p0 : Val) (p1 : Int) (i1 : Nat) (x1 : Fld) : List PV :=
  [.un, .int .i64 p1, .bx 0 0, .un, .un, .un, .int .i64 (i1 : Int), .un, .un, .un, .un, .un, .un, .un, .un, .un, .un, .un, .un, .un, .un, .un, .un, .un, .un, .un, .un, .un, .un, .un, .un, .un, .un, .un, .un, .un, .un, .un, .un, .un, .un, .un, .un, .un, .un, .un, .un, .un, .un, .un, .un, .un, .un, .un, .un, .un, .un, .un, .un, .un, .un, .un, .int .i64 (i1 : Int), .bx 0 4, .sl (Fld.rows p0.fields), .int .i64 ((List.length p0.fields) : Int), .bool true, .un, .un, .bx 0 4, .sl (Fld.rows p0.fields), .int .i64 (i1 : Int), .rf [.str x1.name, .int .i64 x1.v.kind, .int .i64 x1.v.n, .str x1.v.s, .sl (Val.rows x1.v.list), .sl (Fld.rows x1.v.fields)], .rf [.str x1.name, .int .i64 x1.v.kind, .int .i64 x1.v.n, .str x1.v.s, .sl (Val.rows x1.v.list), .sl (Fld.rows x1.v.fields)], .str x1.name, .bool true, .bool false, .bool false, .int .i64 (i1 : Int), .bool false, .bool false, .tup [], .tup [], .tup [], .tup [], .tup [], .tup [], .tup [], .tup [], .tup [], .tup [], .tup [], .tup [], .tup [], .tup [], .bool false, .bool false, .bool false, .bx 0 4, .sl (Fld.rows p0.fields), .int .i64 (i1 : Int), .rf [.str x1.name, .int .i64 x1.v.kind, .int .i64 x1.v.n, .str x1.v.s, .sl (Val.rows x1.v.list), .sl (Fld.rows x1.v.fields)], .rf [.int .i64 x1.v.kind, .int .i64 x1.v.n, .str x1.v.s, .sl (Val.rows x1.v.list), .sl (Fld.rows x1.v.fields)], .agg [.int .i64 x1.v.kind, .int .i64 x1.v.n, .str x1.v.s, .sl (Val.rows x1.v.list), .sl (Fld.rows x1.v.fields)], .int .i64 p1, .int .i64 (w64 (p1 - 1)), .bool false, .bool true, .bool true]
def Qip (p0 : Val) (_p1 : Int) (_i1 : Nat) (_x1 : Fld) : List (Nat × List PV) :=
  [(0, [.int .i64 p0.kind, .int .i64 p0.n, .str p0.s, .sl (Val.rows p0.list), .sl (Fld.rows p0.fields)])]
theorem Q11s (p0 : Val) (p1 : Int) (H : Q5r p0 p1) (rec : Q21 p0) (x1 : Fld) (i1 : Nat) (hx1 : p0.fields[i1]? = some x1) (_hi1 : i1 < List.length p0.fields) (hc1 : (decide ((i1 : Int) < ((List.length p0.fields) : Int))) = true) (h0 : (s_Kp x1.name) = true) (h1 : (decide (0 < (i1 : Int))) = false) (h2 : (s_Kx x1.v (w64 (p1 - 1))) = false) : Q6m p0 p1 (Q2n p0 p1 i1) (.k1) := by
 exact ⟨(envF (Qqm p0 p1 i1 x1)), (zoF (Qip p0 p1 i1 x1)), Qe VOK.nil (x := (.ret, Q3j p0 p1 (envF (Qqm p0 p1 i1 x1)) (zoF (Qip p0 p1 i1 x1)))) [hP 3 (Qi (Fld.rows p0.fields) (List.length p0.fields) (Fld.Qd p0.fields)), hB 0 hc1, hP 3 (Q18 6 (Fld.rows p0.fields) i1 _ (Fld.Qf hx1) rfl), hB 6 h1, hP 21 (Q18 6 (Fld.rows p0.fields) i1 _ (Fld.Qf hx1) rfl)] [aB (t_Kp x1.name (H.2.1 x1 (Ql hx1))) h0, aB (rec x1.v (szF hx1) (w64 (p1 - 1)) (H.2.2.2.2.1 x1 (Ql hx1))) h2] (by kernel_rfl)⟩
def Qoc (p0 : Val) (p1 : Int) (i1 : Nat) (x1 : Fld) : List PV :=
  [.un, .int .i64 p1, .bx 0 0, .un, .un, .un, .int .i64 (i1 : Int), .un, .un, .un, .un, .un, .un, .un, .un, .un, .un, .un, .un, .un, .un, .un, .un, .un, .un, .un, .un, .un, .un, .un, .un, .un, .un, .un, .un, .un, .un, .un, .un, .un, .un, .un, .un, .un, .un, .un, .un, .un, .un, .un, .un, .un, .un, .un, .un, .un, .un, .un, .un, .un, .un, .un, .int .i64 (i1 : Int), .bx 0 4, .sl (Fld.rows p0.fields), .int .i64 ((List.length p0.fields) : Int), .bool true, .un, .un, .bx 0 4, .sl (Fld.rows p0.fields), .int .i64 (i1 : Int), .rf [.str x1.name, .int .i64 x1.v.kind, .int .i64 x1.v.n, .str x1.v.s, .sl (Val.rows x1.v.list), .sl (Fld.rows x1.v.fields)], .rf [.str x1.name, .int .i64 x1.v.kind, .int .i64 x1.v.n, .str x1.v.s, .sl (Val.rows x1.v.list), .sl (Fld.rows x1.v.fields)], .str x1.name, .bool false, .bool true, .bool true, .tup [], .tup [], .tup [], .tup [], .tup [], .tup [], .tup [], .tup [], .tup [], .tup [], .tup [], .tup [], .tup [], .tup [], .tup [], .tup [], .tup [], .tup [], .bool true, .bool true, .tup [], .tup [], .tup [], .tup [], .tup [], .tup [], .tup [], .tup [], .tup [], .tup [], .bool true]
def Qit (p0 : Val) (_p1 : Int) (_i1 : Nat) (_x1 : Fld) : List (Nat × List PV) :=
  [(0, [.int .i64 p0.kind, .int .i64 p0.n, .str p0.s, .sl (Val.rows p0.list), .sl (Fld.rows p0.fields)])]
theorem Q10c (p0 : Val) (p1 : Int) (H : Q5r p0 p1) (_rec : Q21 p0) (x1 : Fld) (i1 : Nat) (hx1 : p0.fields[i1]? = some x1) (_hi1 : i1 < List.length p0.fields) (hc1 : (decide ((i1 : Int) < ((List.length p0.fields) : Int))) = true) (h0 : (s_Kp x1.name) = false) : Q6m p0 p1 (Q2n p0 p1 i1) (.k1) := by
 exact ⟨(envF (Qoc p0 p1 i1 x1)), (zoF (Qit p0 p1 i1 x1)), Qe VOK.nil (x := (.ret, Q3j p0 p1 (envF (Qoc p0 p1 i1 x1)) (zoF (Qit p0 p1 i1 x1)))) [hP 3 (Qi (Fld.rows p0.fields) (List.length p0.fields) (Fld.Qd p0.fields)), hB 0 hc1, hP 3 (Q18 6 (Fld.rows p0.fields) i1 _ (Fld.Qf hx1) rfl)] [aB (t_Kp x1.name (H.2.1 x1 (Ql hx1))) h0] (by kernel_rfl)⟩
theorem Q7l (p0 : Val) (p1 : Int) (H : Q5r p0 p1) (rec : Q21 p0) : ∀ (r1 : List Fld) (i1 : Nat), List.drop i1 p0.fields = r1 → Q6m p0 p1 (Q2n p0 p1 i1) (Q2u p0 p1 r1 i1)
 | [], i1, hd => by
  have hc1 : (decide ((i1 : Int) < ((List.length p0.fields) : Int))) = false := by have := Q1k hd; simp; omega
  rw [Q2u]
  exact Qzd p0 p1 H rec i1 hc1
 | x1 :: r1, i1, hd => by
  obtain ⟨hx1, hi1, hd'⟩ := Q15 hd
  have hc1 : (decide ((i1 : Int) < ((List.length p0.fields) : Int))) = true := by simp; omega
  rw [Q2u]
  cases h0 : (s_Kp x1.name) with
  | true =>
   cases h1 : (decide (0 < (i1 : Int))) with
   | true =>
    cases h2 : ((sLt x1.name (List.getD p0.fields (Int.toNat (w64 ((i1 : Int) - 1))) zF).name) || (sEq x1.name (List.getD p0.fields (Int.toNat (w64 ((i1 : Int) - 1))) zF).name)) with
    | true =>
     exact Q10t p0 p1 H rec x1 i1 hx1 hi1 hc1 h0 h1 h2
    | false =>
     cases h3 : (s_Kx x1.v (w64 (p1 - 1))) with
     | true =>
      exact Qas p0 p1 (fun r hr => Qzu p0 p1 H rec x1 i1 hx1 hi1 hc1 h0 h1 h2 h3 hr) _ (Q7l p0 p1 H rec r1 (i1 + 1) hd')
     | false =>
      exact Q10g p0 p1 H rec x1 i1 hx1 hi1 hc1 h0 h1 h2 h3
   | false =>
    cases h2 : (s_Kx x1.v (w64 (p1 - 1))) with
    | true =>
     exact Qas p0 p1 (fun r hr => Q10v p0 p1 H rec x1 i1 hx1 hi1 hc1 h0 h1 h2 hr) _ (Q7l p0 p1 H rec r1 (i1 + 1) hd')
    | false =>
     exact Q11s p0 p1 H rec x1 i1 hx1 hi1 hc1 h0 h1 h2
  | false =>
   exact Q10c p0 p1 H rec x1 i1 hx1 hi1 hc1 h0
theorem Q17k (p0 : Val) (p1 : Int) (_H : H_Kx p0) (_rec : Q21 p0) (h0 : (p1 == 0) = true) : Q7 G (c_Kx p0 p1) (.ret (.bool (false)) []) := by
 exact Q8 (fn := Ir.Kx) rfl VOK.nil [hB 3 h0] [] (by kernel_rfl)
theorem Q17l (p0 : Val) (p1 : Int) (H : H_Kx p0) (_rec : Q21 p0) (h0 : (p1 == 0) = false) (h1 : (s_Kw p0) = true) (h2 : (decide (64 < ((List.length p0.list) : Int))) = true) : Q7 G (c_Kx p0 p1) (.ret (.bool (false)) []) := by
 exact Q8 (fn := Ir.Kx) rfl VOK.nil [hB 3 h0, hP 8 (Qi (Val.rows p0.list) (List.length p0.list) (Val.Qd p0.list)), hB 0 h2] [aB (t_Kw p0 (Q1t p0 p1 H).1) h1] (by kernel_rfl)
theorem Q18n (p0 : Val) (p1 : Int) (H : H_Kx p0) (_rec : Q21 p0) (h0 : (p1 == 0) = false) (h1 : (s_Kw p0) = true) (h2 : (decide (64 < ((List.length p0.list) : Int))) = false) (h3 : (decide (64 < ((List.length p0.fields) : Int))) = true) : Q7 G (c_Kx p0 p1) (.ret (.bool (false)) []) := by
 exact Q8 (fn := Ir.Kx) rfl VOK.nil [hB 3 h0, hP 8 (Qi (Val.rows p0.list) (List.length p0.list) (Val.Qd p0.list)), hB 0 h2, hP 4 (Qi (Fld.rows p0.fields) (List.length p0.fields) (Fld.Qd p0.fields)), hB 0 h3] [aB (t_Kw p0 (Q1t p0 p1 H).1) h1] (by kernel_rfl)
theorem Q18l (p0 : Val) (p1 : Int) (H : H_Kx p0) (_rec : Q21 p0) (h0 : (p1 == 0) = false) (h1 : (s_Kw p0) = true) (h2 : (decide (64 < ((List.length p0.list) : Int))) = false) (h3 : (decide (64 < ((List.length p0.fields) : Int))) = false) (h4 : (p0.kind == 4) = true) (h5 : (p0.kind == 5) = true) (z6 : Nat → PV) (zo6 : Nat → List PV) (hl6 : Q7 G (Q2v p0 p1 0) (.st (.exit 0) (Q38 p0 p1 z6 zo6))) (z7 : Nat → PV) (zo7 : Nat → List PV) (hl7 : Q7 G (Q2n p0 p1 0) (.st (.exit 2) (Q5j p0 p1 z7 zo7))) : Q7 G (c_Kx p0 p1) (.ret (.bool (true)) []) := by
 exact Q8 (fn := Ir.Kx) rfl VOK.nil [hB 3 h0, hP 8 (Qi (Val.rows p0.list) (List.length p0.list) (Val.Qd p0.list)), hB 0 h2, hP 4 (Qi (Fld.rows p0.fields) (List.length p0.fields) (Fld.Qd p0.fields)), hB 0 h3, hP 3 (dec (!(p0.kind == 4)) false (by rw [h4]; rfl)), hP 9 (dec (!(p0.kind == 5)) false (by rw [h5]; rfl))] [aB (t_Kw p0 (Q1t p0 p1 H).1) h1, aN hl6, aN hl7] (by kernel_rfl)
theorem Q16d (p0 : Val) (p1 : Int) (H : H_Kx p0) (_rec : Q21 p0) (h0 : (p1 == 0) = false) (h1 : (s_Kw p0) = true) (h2 : (decide (64 < ((List.length p0.list) : Int))) = false) (h3 : (decide (64 < ((List.length p0.fields) : Int))) = false) (h4 : (p0.kind == 4) = true) (h5 : (p0.kind == 5) = true) (z6 : Nat → PV) (zo6 : Nat → List PV) (hl6 : Q7 G (Q2v p0 p1 0) (.st (.exit 0) (Q38 p0 p1 z6 zo6))) (z7 : Nat → PV) (zo7 : Nat → List PV) (hl7 : Q7 G (Q2n p0 p1 0) (.st .ret (Q3j p0 p1 z7 zo7))) : Q7 G (c_Kx p0 p1) (.ret (.bool (false)) []) := by
 exact Q8 (fn := Ir.Kx) rfl VOK.nil [hB 3 h0, hP 8 (Qi (Val.rows p0.list) (List.length p0.list) (Val.Qd p0.list)), hB 0 h2, hP 4 (Qi (Fld.rows p0.fields) (List.length p0.fields) (Fld.Qd p0.fields)), hB 0 h3, hP 3 (dec (!(p0.kind == 4)) false (by rw [h4]; rfl)), hP 9 (dec (!(p0.kind == 5)) false (by rw [h5]; rfl))] [aB (t_Kw p0 (Q1t p0 p1 H).1) h1, aN hl6, aN hl7] (by kernel_rfl)
theorem Q176 (p0 : Val) (p1 : Int) (H : H_Kx p0) (_rec : Q21 p0) (h0 : (p1 == 0) = false) (h1 : (s_Kw p0) = true) (h2 : (decide (64 < ((List.length p0.list) : Int))) = false) (h3 : (decide (64 < ((List.length p0.fields) : Int))) = false) (h4 : (p0.kind == 4) = true) (h5 : (p0.kind == 5) = true) (z6 : Nat → PV) (zo6 : Nat → List PV) (hl6 : Q7 G (Q2v p0 p1 0) (.st .ret (Q59 p0 p1 z6 zo6))) : Q7 G (c_Kx p0 p1) (.ret (.bool (false)) []) := by
 exact Q8 (fn := Ir.Kx) rfl VOK.nil [hB 3 h0, hP 8 (Qi (Val.rows p0.list) (List.length p0.list) (Val.Qd p0.list)), hB 0 h2, hP 4 (Qi (Fld.rows p0.fields) (List.length p0.fields) (Fld.Qd p0.fields)), hB 0 h3, hP 3 (dec (!(p0.kind == 4)) false (by rw [h4]; rfl)), hP 9 (dec (!(p0.kind == 5)) false (by rw [h5]; rfl))] [aB (t_Kw p0 (Q1t p0 p1 H).1) h1, aN hl6] (by kernel_rfl)
theorem Q16y (p0 : Val) (p1 : Int) (H : H_Kx p0) (_rec : Q21 p0) (h0 : (p1 == 0) = false) (h1 : (s_Kw p0) = true) (h2 : (decide (64 < ((List.length p0.list) : Int))) = false) (h3 : (decide (64 < ((List.length p0.fields) : Int))) = false) (h4 : (p0.kind == 4) = true) (h5 : (p0.kind == 5) = false) (h6 : (decide (0 < ((List.length p0.fields) : Int))) = true) : Q7 G (c_Kx p0 p1) (.ret (.bool (false)) []) := by
 exact Q8 (fn := Ir.Kx) rfl VOK.nil [hB 3 h0, hP 8 (Qi (Val.rows p0.list) (List.length p0.list) (Val.Qd p0.list)), hB 0 h2, hP 4 (Qi (Fld.rows p0.fields) (List.length p0.fields) (Fld.Qd p0.fields)), hB 0 h3, hP 3 (dec (!(p0.kind == 4)) false (by rw [h4]; rfl)), hP 9 (dec (!(p0.kind == 5)) true (by rw [h5]; rfl)), hP 3 (Qi (Fld.rows p0.fields) (List.length p0.fields) (Fld.Qd p0.fields)), hB 0 h6] [aB (t_Kw p0 (Q1t p0 p1 H).1) h1] (by kernel_rfl)
theorem Q18v (p0 : Val) (p1 : Int) (H : H_Kx p0) (_rec : Q21 p0) (h0 : (p1 == 0) = false) (h1 : (s_Kw p0) = true) (h2 : (decide (64 < ((List.length p0.list) : Int))) = false) (h3 : (decide (64 < ((List.length p0.fields) : Int))) = false) (h4 : (p0.kind == 4) = true) (h5 : (p0.kind == 5) = false) (h6 : (decide (0 < ((List.length p0.fields) : Int))) = false) (z7 : Nat → PV) (zo7 : Nat → List PV) (hl7 : Q7 G (Q2v p0 p1 0) (.st (.exit 0) (Q38 p0 p1 z7 zo7))) (z8 : Nat → PV) (zo8 : Nat → List PV) (hl8 : Q7 G (Q2n p0 p1 0) (.st (.exit 2) (Q5j p0 p1 z8 zo8))) : Q7 G (c_Kx p0 p1) (.ret (.bool (true)) []) := by
 exact Q8 (fn := Ir.Kx) rfl VOK.nil [hB 3 h0, hP 8 (Qi (Val.rows p0.list) (List.length p0.list) (Val.Qd p0.list)), hB 0 h2, hP 4 (Qi (Fld.rows p0.fields) (List.length p0.fields) (Fld.Qd p0.fields)), hB 0 h3, hP 3 (dec (!(p0.kind == 4)) false (by rw [h4]; rfl)), hP 9 (dec (!(p0.kind == 5)) true (by rw [h5]; rfl)), hP 3 (Qi (Fld.rows p0.fields) (List.length p0.fields) (Fld.Qd p0.fields)), hB 0 h6] [aB (t_Kw p0 (Q1t p0 p1 H).1) h1, aN hl7, aN hl8] (by kernel_rfl)
theorem Q18z (p0 : Val) (p1 : Int) (H : H_Kx p0) (_rec : Q21 p0) (h0 : (p1 == 0) = false) (h1 : (s_Kw p0) = true) (h2 : (decide (64 < ((List.length p0.list) : Int))) = false) (h3 : (decide (64 < ((List.length p0.fields) : Int))) = false) (h4 : (p0.kind == 4) = true) (h5 : (p0.kind == 5) = false) (h6 : (decide (0 < ((List.length p0.fields) : Int))) = false) (z7 : Nat → PV) (zo7 : Nat → List PV) (hl7 : Q7 G (Q2v p0 p1 0) (.st (.exit 0) (Q38 p0 p1 z7 zo7))) (z8 : Nat → PV) (zo8 : Nat → List PV) (hl8 : Q7 G (Q2n p0 p1 0) (.st .ret (Q3j p0 p1 z8 zo8))) : Q7 G (c_Kx p0 p1) (.ret (.bool (false)) []) := by
 exact Q8 (fn := Ir.Kx) rfl VOK.nil [hB 3 h0, hP 8 (Qi (Val.rows p0.list) (List.length p0.list) (Val.Qd p0.list)), hB 0 h2, hP 4 (Qi (Fld.rows p0.fields) (List.length p0.fields) (Fld.Qd p0.fields)), hB 0 h3, hP 3 (dec (!(p0.kind == 4)) false (by rw [h4]; rfl)), hP 9 (dec (!(p0.kind == 5)) true (by rw [h5]; rfl)), hP 3 (Qi (Fld.rows p0.fields) (List.length p0.fields) (Fld.Qd p0.fields)), hB 0 h6] [aB (t_Kw p0 (Q1t p0 p1 H).1) h1, aN hl7, aN hl8] (by kernel_rfl)
theorem Q16u (p0 : Val) (p1 : Int) (H : H_Kx p0) (_rec : Q21 p0) (h0 : (p1 == 0) = false) (h1 : (s_Kw p0) = true) (h2 : (decide (64 < ((List.length p0.list) : Int))) = false) (h3 : (decide (64 < ((List.length p0.fields) : Int))) = false) (h4 : (p0.kind == 4) = true) (h5 : (p0.kind == 5) = false) (h6 : (decide (0 < ((List.length p0.fields) : Int))) = false) (z7 : Nat → PV) (zo7 : Nat → List PV) (hl7 : Q7 G (Q2v p0 p1 0) (.st .ret (Q59 p0 p1 z7 zo7))) : Q7 G (c_Kx p0 p1) (.ret (.bool (false)) []) := by
 exact Q8 (fn := Ir.Kx) rfl VOK.nil [hB 3 h0, hP 8 (Qi (Val.rows p0.list) (List.length p0.list) (Val.Qd p0.list)), hB 0 h2, hP 4 (Qi (Fld.rows p0.fields) (List.length p0.fields) (Fld.Qd p0.fields)), hB 0 h3, hP 3 (dec (!(p0.kind == 4)) false (by rw [h4]; rfl)), hP 9 (dec (!(p0.kind == 5)) true (by rw [h5]; rfl)), hP 3 (Qi (Fld.rows p0.fields) (List.length p0.fields) (Fld.Qd p0.fields)), hB 0 h6] [aB (t_Kw p0 (Q1t p0 p1 H).1) h1, aN hl7] (by kernel_rfl)
theorem Q15b (p0 : Val) (p1 : Int) (H : H_Kx p0) (_rec : Q21 p0) (h0 : (p1 == 0) = false) (h1 : (s_Kw p0) = true) (h2 : (decide (64 < ((List.length p0.list) : Int))) = false) (h3 : (decide (64 < ((List.length p0.fields) : Int))) = false) (h4 : (p0.kind == 4) = false) (h5 : (decide (0 < ((List.length p0.list) : Int))) = true) : Q7 G (c_Kx p0 p1) (.ret (.bool (false)) []) := by
 exact Q8 (fn := Ir.Kx) rfl VOK.nil [hB 3 h0, hP 8 (Qi (Val.rows p0.list) (List.length p0.list) (Val.Qd p0.list)), hB 0 h2, hP 4 (Qi (Fld.rows p0.fields) (List.length p0.fields) (Fld.Qd p0.fields)), hB 0 h3, hP 3 (dec (!(p0.kind == 4)) true (by rw [h4]; rfl)), hP 3 (Qi (Val.rows p0.list) (List.length p0.list) (Val.Qd p0.list)), hB 0 h5] [aB (t_Kw p0 (Q1t p0 p1 H).1) h1] (by kernel_rfl)
theorem Q15e (p0 : Val) (p1 : Int) (H : H_Kx p0) (_rec : Q21 p0) (h0 : (p1 == 0) = false) (h1 : (s_Kw p0) = true) (h2 : (decide (64 < ((List.length p0.list) : Int))) = false) (h3 : (decide (64 < ((List.length p0.fields) : Int))) = false) (h4 : (p0.kind == 4) = false) (h5 : (decide (0 < ((List.length p0.list) : Int))) = false) (h6 : (p0.kind == 5) = true) (z7 : Nat → PV) (zo7 : Nat → List PV) (hl7 : Q7 G (Q2v p0 p1 0) (.st (.exit 0) (Q38 p0 p1 z7 zo7))) (z8 : Nat → PV) (zo8 : Nat → List PV) (hl8 : Q7 G (Q2n p0 p1 0) (.st (.exit 2) (Q5j p0 p1 z8 zo8))) : Q7 G (c_Kx p0 p1) (.ret (.bool (true)) []) := by
 exact Q8 (fn := Ir.Kx) rfl VOK.nil [hB 3 h0, hP 8 (Qi (Val.rows p0.list) (List.length p0.list) (Val.Qd p0.list)), hB 0 h2, hP 4 (Qi (Fld.rows p0.fields) (List.length p0.fields) (Fld.Qd p0.fields)), hB 0 h3, hP 3 (dec (!(p0.kind == 4)) true (by rw [h4]; rfl)), hP 3 (Qi (Val.rows p0.list) (List.length p0.list) (Val.Qd p0.list)), hB 0 h5, hP 4 (dec (!(p0.kind == 5)) false (by rw [h6]; rfl))] [aB (t_Kw p0 (Q1t p0 p1 H).1) h1, aN hl7, aN hl8] (by kernel_rfl)
theorem Q15m (p0 : Val) (p1 : Int) (H : H_Kx p0) (_rec : Q21 p0) (h0 : (p1 == 0) = false) (h1 : (s_Kw p0) = true) (h2 : (decide (64 < ((List.length p0.list) : Int))) = false) (h3 : (decide (64 < ((List.length p0.fields) : Int))) = false) (h4 : (p0.kind == 4) = false) (h5 : (decide (0 < ((List.length p0.list) : Int))) = false) (h6 : (p0.kind == 5) = true) (z7 : Nat → PV) (zo7 : Nat → List PV) (hl7 : Q7 G (Q2v p0 p1 0) (.st (.exit 0) (Q38 p0 p1 z7 zo7))) (z8 : Nat → PV) (zo8 : Nat → List PV) (hl8 : Q7 G (Q2n p0 p1 0) (.st .ret (Q3j p0 p1 z8 zo8))) : Q7 G (c_Kx p0 p1) (.ret (.bool (false)) []) := by
 exact Q8 (fn := Ir.Kx) rfl VOK.nil [hB 3 h0, hP 8 (Qi (Val.rows p0.list) (List.length p0.list) (Val.Qd p0.list)), hB 0 h2, hP 4 (Qi (Fld.rows p0.fields) (List.length p0.fields) (Fld.Qd p0.fields)), hB 0 h3, hP 3 (dec (!(p0.kind == 4)) true (by rw [h4]; rfl)), hP 3 (Qi (Val.rows p0.list) (List.length p0.list) (Val.Qd p0.list)), hB 0 h5, hP 4 (dec (!(p0.kind == 5)) false (by rw [h6]; rfl))] [aB (t_Kw p0 (Q1t p0 p1 H).1) h1, aN hl7, aN hl8] (by kernel_rfl)
theorem Q14z (p0 : Val) (p1 : Int) (H : H_Kx p0) (_rec : Q21 p0) (h0 : (p1 == 0) = false) (h1 : (s_Kw p0) = true) (h2 : (decide (64 < ((List.length p0.list) : Int))) = false) (h3 : (decide (64 < ((List.length p0.fields) : Int))) = false) (h4 : (p0.kind == 4) = false) (h5 : (decide (0 < ((List.length p0.list) : Int))) = false) (h6 : (p0.kind == 5) = true) (z7 : Nat → PV) (zo7 : Nat → List PV) (hl7 : Q7 G (Q2v p0 p1 0) (.st .ret (Q59 p0 p1 z7 zo7))) : Q7 G (c_Kx p0 p1) (.ret (.bool (false)) []) := by
 exact Q8 (fn := Ir.Kx) rfl VOK.nil [hB 3 h0, hP 8 (Qi (Val.rows p0.list) (List.length p0.list) (Val.Qd p0.list)), hB 0 h2, hP 4 (Qi (Fld.rows p0.fields) (List.length p0.fields) (Fld.Qd p0.fields)), hB 0 h3, hP 3 (dec (!(p0.kind == 4)) true (by rw [h4]; rfl)), hP 3 (Qi (Val.rows p0.list) (List.length p0.list) (Val.Qd p0.list)), hB 0 h5, hP 4 (dec (!(p0.kind == 5)) false (by rw [h6]; rfl))] [aB (t_Kw p0 (Q1t p0 p1 H).1) h1, aN hl7] (by kernel_rfl)
theorem Q161 (p0 : Val) (p1 : Int) (H : H_Kx p0) (_rec : Q21 p0) (h0 : (p1 == 0) = false) (h1 : (s_Kw p0) = true) (h2 : (decide (64 < ((List.length p0.list) : Int))) = false) (h3 : (decide (64 < ((List.length p0.fields) : Int))) = false) (h4 : (p0.kind == 4) = false) (h5 : (decide (0 < ((List.length p0.list) : Int))) = false) (h6 : (p0.kind == 5) = false) (h7 : (decide (0 < ((List.length p0.fields) : Int))) = true) : Q7 G (c_Kx p0 p1) (.ret (.bool (false)) []) := by
 exact Q8 (fn := Ir.Kx) rfl VOK.nil [hB 3 h0, hP 8 (Qi (Val.rows p0.list) (List.length p0.list) (Val.Qd p0.list)), hB 0 h2, hP 4 (Qi (Fld.rows p0.fields) (List.length p0.fields) (Fld.Qd p0.fields)), hB 0 h3, hP 3 (dec (!(p0.kind == 4)) true (by rw [h4]; rfl)), hP 3 (Qi (Val.rows p0.list) (List.length p0.list) (Val.Qd p0.list)), hB 0 h5, hP 4 (dec (!(p0.kind == 5)) true (by rw [h6]; rfl)), hP 3 (Qi (Fld.rows p0.fields) (List.length p0.fields) (Fld.Qd p0.fields)), hB 0 h7] [aB (t_Kw p0 (Q1t p0 p1 H).1) h1] (by kernel_rfl)
theorem Q158 (p0 : Val) (p1 : Int) (H : H_Kx p0) (_rec : Q21 p0) (h0 : (p1 == 0) = false) (h1 : (s_Kw p0) = true) (h2 : (decide (64 < ((List.length p0.list) : Int))) = false) (h3 : (decide (64 < ((List.length p0.fields) : Int))) = false) (h4 : (p0.kind == 4) = false) (h5 : (decide (0 < ((List.length p0.list) : Int))) = false) (h6 : (p0.kind == 5) = false) (h7 : (decide (0 < ((List.length p0.fields) : Int))) = false) (z8 : Nat → PV) (zo8 : Nat → List PV) (hl8 : Q7 G (Q2v p0 p1 0) (.st (.exit 0) (Q38 p0 p1 z8 zo8))) (z9 : Nat → PV) (zo9 : Nat → List PV) (hl9 : Q7 G (Q2n p0 p1 0) (.st (.exit 2) (Q5j p0 p1 z9 zo9))) : Q7 G (c_Kx p0 p1) (.ret (.bool (true)) []) := by
 exact Q8 (fn := Ir.Kx) rfl VOK.nil [hB 3 h0, hP 8 (Qi (Val.rows p0.list) (List.length p0.list) (Val.Qd p0.list)), hB 0 h2, hP 4 (Qi (Fld.rows p0.fields) (List.length p0.fields) (Fld.Qd p0.fields)), hB 0 h3, hP 3 (dec (!(p0.kind == 4)) true (by rw [h4]; rfl)), hP 3 (Qi (Val.rows p0.list) (List.length p0.list) (Val.Qd p0.list)), hB 0 h5, hP 4 (dec (!(p0.kind == 5)) true (by rw [h6]; rfl)), hP 3 (Qi (Fld.rows p0.fields) (List.length p0.fields) (Fld.Qd p0.fields)), hB 0 h7] [aB (t_Kw p0 (Q1t p0 p1 H).1) h1, aN hl8, aN hl9] (by kernel_rfl)
theorem Q156 (p0 : Val) (p1 : Int) (H : H_Kx p0) (_rec : Q21 p0) (h0 : (p1 == 0) = false) (h1 : (s_Kw p0) = true) (h2 : (decide (64 < ((List.length p0.list) : Int))) = false) (h3 : (decide (64 < ((List.length p0.fields) : Int))) = false) (h4 : (p0.kind == 4) = false) (h5 : (decide (0 < ((List.length p0.list) : Int))) = false) (h6 : (p0.kind == 5) = false) (h7 : (decide (0 < ((List.length p0.fields) : Int))) = false) (z8 : Nat → PV) (zo8 : Nat → List PV) (hl8 : Q7 G (Q2v p0 p1 0) (.st (.exit 0) (Q38 p0 p1 z8 zo8))) (z9 : Nat → PV) (zo9 : Nat → List PV) (hl9 : Q7 G (Q2n p0 p1 0) (.st .ret (Q3j p0 p1 z9 zo9))) : Q7 G (c_Kx p0 p1) (.ret (.bool (false)) []) := by
 exact Q8 (fn := Ir.Kx) rfl VOK.nil [hB 3 h0, hP 8 (Qi (Val.rows p0.list) (List.length p0.list) (Val.Qd p0.list)), hB 0 h2, hP 4 (Qi (Fld.rows p0.fields) (List.length p0.fields) (Fld.Qd p0.fields)), hB 0 h3, hP 3 (dec (!(p0.kind == 4)) true (by rw [h4]; rfl)), hP 3 (Qi (Val.rows p0.list) (List.length p0.list) (Val.Qd p0.list)), hB 0 h5, hP 4 (dec (!(p0.kind == 5)) true (by rw [h6]; rfl)), hP 3 (Qi (Fld.rows p0.fields) (List.length p0.fields) (Fld.Qd p0.fields)), hB 0 h7] [aB (t_Kw p0 (Q1t p0 p1 H).1) h1, aN hl8, aN hl9] (by kernel_rfl)
theorem Q160 (p0 : Val) (p1 : Int) (H : H_Kx p0) (_rec : Q21 p0) (h0 : (p1 == 0) = false) (h1 : (s_Kw p0) = true) (h2 : (decide (64 < ((List.length p0.list) : Int))) = false) (h3 : (decide (64 < ((List.length p0.fields) : Int))) = false) (h4 : (p0.kind == 4) = false) (h5 : (decide (0 < ((List.length p0.list) : Int))) = false) (h6 : (p0.kind == 5) = false) (h7 : (decide (0 < ((List.length p0.fields) : Int))) = false) (z8 : Nat → PV) (zo8 : Nat → List PV) (hl8 : Q7 G (Q2v p0 p1 0) (.st .ret (Q59 p0 p1 z8 zo8))) : Q7 G (c_Kx p0 p1) (.ret (.bool (false)) []) := by
 exact Q8 (fn := Ir.Kx) rfl VOK.nil [hB 3 h0, hP 8 (Qi (Val.rows p0.list) (List.length p0.list) (Val.Qd p0.list)), hB 0 h2, hP 4 (Qi (Fld.rows p0.fields) (List.length p0.fields) (Fld.Qd p0.fields)), hB 0 h3, hP 3 (dec (!(p0.kind == 4)) true (by rw [h4]; rfl)), hP 3 (Qi (Val.rows p0.list) (List.length p0.list) (Val.Qd p0.list)), hB 0 h5, hP 4 (dec (!(p0.kind == 5)) true (by rw [h6]; rfl)), hP 3 (Qi (Fld.rows p0.fields) (List.length p0.fields) (Fld.Qd p0.fields)), hB 0 h7] [aB (t_Kw p0 (Q1t p0 p1 H).1) h1, aN hl8] (by kernel_rfl)
theorem Q15q (p0 : Val) (p1 : Int) (H : H_Kx p0) (_rec : Q21 p0) (h0 : (p1 == 0) = false) (h1 : (s_Kw p0) = false) : Q7 G (c_Kx p0 p1) (.ret (.bool (false)) []) := by
 exact Q8 (fn := Ir.Kx) rfl VOK.nil [hB 3 h0] [aB (t_Kw p0 (Q1t p0 p1 H).1) h1] (by kernel_rfl)
theorem r_Kx (p0 : Val) (p1 : Int) (H : H_Kx p0) (rec : Q21 p0) : Q7 G (c_Kx p0 p1) (a_Kx p0 p1) := by
  unfold a_Kx
  rw [s_Kx]
  cases h0 : (p1 == 0) with
  | true =>
   exact Q17k p0 p1 H rec h0
  | false =>
   cases h1 : (s_Kw p0) with
   | true =>
    cases h2 : (decide (64 < ((List.length p0.list) : Int))) with
    | true =>
     exact Q17l p0 p1 H rec h0 h1 h2
    | false =>
     cases h3 : (decide (64 < ((List.length p0.fields) : Int))) with
     | true =>
      exact Q18n p0 p1 H rec h0 h1 h2 h3
     | false =>
      cases h4 : (p0.kind == 4) with
      | true =>
       cases h5 : (p0.kind == 5) with
       | true =>
        have hl6 := Q94 p0 p1 ((Q1t p0 p1 H).2.1) rec p0.list 0 (by simp)
        cases hr6 : (Q3s p0 p1 p0.list 0) with
        | k0 =>
          rw [hr6] at hl6
          obtain ⟨z6, zo6, hl6⟩ := hl6
          try dsimp only
          have hl7 := Q7l p0 p1 ((Q1t p0 p1 H).2.2.1) rec p0.fields 0 (by simp)
          cases hr7 : (Q2u p0 p1 p0.fields 0) with
          | k0 =>
            rw [hr7] at hl7
            obtain ⟨z7, zo7, hl7⟩ := hl7
            exact Q18l p0 p1 H rec h0 h1 h2 h3 h4 h5 z6 zo6 hl6 z7 zo7 hl7
          | k1 =>
            rw [hr7] at hl7
            obtain ⟨z7, zo7, hl7⟩ := hl7
            exact Q16d p0 p1 H rec h0 h1 h2 h3 h4 h5 z6 zo6 hl6 z7 zo7 hl7
        | k1 =>
          rw [hr6] at hl6
          obtain ⟨z6, zo6, hl6⟩ := hl6
          exact Q176 p0 p1 H rec h0 h1 h2 h3 h4 h5 z6 zo6 hl6
       | false =>
        cases h6 : (decide (0 < ((List.length p0.fields) : Int))) with
        | true =>
         exact Q16y p0 p1 H rec h0 h1 h2 h3 h4 h5 h6
        | false =>
         have hl7 := Q94 p0 p1 ((Q1t p0 p1 H).2.1) rec p0.list 0 (by simp)
         cases hr7 : (Q3s p0 p1 p0.list 0) with
         | k0 =>
           rw [hr7] at hl7
           obtain ⟨z7, zo7, hl7⟩ := hl7
           try dsimp only
           have hl8 := Q7l p0 p1 ((Q1t p0 p1 H).2.2.1) rec p0.fields 0 (by simp)
           cases hr8 : (Q2u p0 p1 p0.fields 0) with
           | k0 =>
             rw [hr8] at hl8
             obtain ⟨z8, zo8, hl8⟩ := hl8
             exact Q18v p0 p1 H rec h0 h1 h2 h3 h4 h5 h6 z7 zo7 hl7 z8 zo8 hl8
           | k1 =>
             rw [hr8] at hl8
             obtain ⟨z8, zo8, hl8⟩ := hl8
             exact Q18z p0 p1 H rec h0 h1 h2 h3 h4 h5 h6 z7 zo7 hl7 z8 zo8 hl8
         | k1 =>
           rw [hr7] at hl7
           obtain ⟨z7, zo7, hl7⟩ := hl7
           exact Q16u p0 p1 H rec h0 h1 h2 h3 h4 h5 h6 z7 zo7 hl7
      | false =>
       cases h5 : (decide (0 < ((List.length p0.list) : Int))) with
       | true =>
        exact Q15b p0 p1 H rec h0 h1 h2 h3 h4 h5
       | false =>
        cases h6 : (p0.kind == 5) with
        | true =>
         have hl7 := Q94 p0 p1 ((Q1t p0 p1 H).2.1) rec p0.list 0 (by simp)
         cases hr7 : (Q3s p0 p1 p0.list 0) with
         | k0 =>
           rw [hr7] at hl7
           obtain ⟨z7, zo7, hl7⟩ := hl7
           try dsimp only
           have hl8 := Q7l p0 p1 ((Q1t p0 p1 H).2.2.1) rec p0.fields 0 (by simp)
           cases hr8 : (Q2u p0 p1 p0.fields 0) with
           | k0 =>
             rw [hr8] at hl8
             obtain ⟨z8, zo8, hl8⟩ := hl8
             exact Q15e p0 p1 H rec h0 h1 h2 h3 h4 h5 h6 z7 zo7 hl7 z8 zo8 hl8
           | k1 =>
             rw [hr8] at hl8
             obtain ⟨z8, zo8, hl8⟩ := hl8
             exact Q15m p0 p1 H rec h0 h1 h2 h3 h4 h5 h6 z7 zo7 hl7 z8 zo8 hl8
         | k1 =>
           rw [hr7] at hl7
           obtain ⟨z7, zo7, hl7⟩ := hl7
           exact Q14z p0 p1 H rec h0 h1 h2 h3 h4 h5 h6 z7 zo7 hl7
        | false =>
         cases h7 : (decide (0 < ((List.length p0.fields) : Int))) with
         | true =>
          exact Q161 p0 p1 H rec h0 h1 h2 h3 h4 h5 h6 h7
         | false =>
          have hl8 := Q94 p0 p1 ((Q1t p0 p1 H).2.1) rec p0.list 0 (by simp)
          cases hr8 : (Q3s p0 p1 p0.list 0) with
          | k0 =>
            rw [hr8] at hl8
            obtain ⟨z8, zo8, hl8⟩ := hl8
            try dsimp only
            have hl9 := Q7l p0 p1 ((Q1t p0 p1 H).2.2.1) rec p0.fields 0 (by simp)
            cases hr9 : (Q2u p0 p1 p0.fields 0) with
            | k0 =>
              rw [hr9] at hl9
              obtain ⟨z9, zo9, hl9⟩ := hl9
              exact Q158 p0 p1 H rec h0 h1 h2 h3 h4 h5 h6 h7 z8 zo8 hl8 z9 zo9 hl9
            | k1 =>
              rw [hr9] at hl9
              obtain ⟨z9, zo9, hl9⟩ := hl9
              exact Q156 p0 p1 H rec h0 h1 h2 h3 h4 h5 h6 h7 z8 zo8 hl8 z9 zo9 hl9
          | k1 =>
            rw [hr8] at hl8
            obtain ⟨z8, zo8, hl8⟩ := hl8
            exact Q160 p0 p1 H rec h0 h1 h2 h3 h4 h5 h6 h7 z8 zo8 hl8
   | false =>
    exact Q15q p0 p1 H rec h0 h1
theorem i_Kx : ∀ (k : Nat) (p0 : Val), SizeOf.sizeOf p0 < k → ∀ (p1 : Int), H_Kx p0 → Q7 G (c_Kx p0 p1) (a_Kx p0 p1)
  | 0, _, h, _, _ => absurd h (Nat.not_lt_zero _)
  | k + 1, p0, h, p1, H => r_Kx p0 p1 H (fun q hq p1 hH => i_Kx k q (by omega) p1 hH)
theorem t_Kx (p0 : Val) (p1 : Int) (H : H_Kx p0) : Q7 G (c_Kx p0 p1) (a_Kx p0 p1) := i_Kx _ p0 (Nat.lt_succ_self _) p1 H
def s_Ko (p0 : Val) : Bool :=
 bif (s_Kx p0 12) then
  (decide ((s_Kn p0) ≤ 600))
 else
  false
def c_Ko (p0 : Val) : En := .call 23 [.agg (Val.cells p0)] []
def a_Ko (p0 : Val) : Rs := .ret (.bool (s_Ko p0)) []
def H_Ko (p0 : Val) : Prop := (H_Kx p0) ∧ (H_Kn p0) ∧ True
theorem t_Ko (p0 : Val) (H : H_Ko p0) : Q7 G (c_Ko p0) (a_Ko p0) := by
 unfold a_Ko s_Ko
 cases h0 : (s_Kx p0 12) with
 | true =>
  exact Q8 (fn := Ir.Ko) rfl VOK.nil [] [aB (t_Kx p0 12 H.1) h0, aN (t_Kn p0 H.2.1)] (by kernel_rfl)
 | false =>
  exact Q8 (fn := Ir.Ko) rfl VOK.nil [] [aB (t_Kx p0 12 H.1) h0] (by kernel_rfl)
end Go.Proofs.Ytnhhddbbppbblaa
end

section
/- What the functions on values compute (printed by a program). -/
namespace Go.Proofs.Ytnhhddbbppbblaa
open Go.Pv
inductive Qze where
  | k0
  | k1
inductive Q106 where
  | k0
  | k1
mutual
def s_Ky (p0 : Val) (p1 : Val) : Bool :=
 bif (p0.kind == p1.kind) then
  bif (p0.n == p1.n) then
   bif (sEq p0.s p1.s) then
    bif (((List.length p0.list) : Int) == ((List.length p1.list) : Int)) then
     bif (((List.length p0.fields) : Int) == ((List.length p1.fields) : Int)) then
      (match (Q58 p0 p1 p0.list 0) with
      | .k0 => (match (Q51 p0 p1 p0.fields 0) with
       | .k0 => true
       | .k1 => false)
      | .k1 => false)
     else
      false
    else
     false
   else
    false
  else
   false
 else
  false
termination_by SizeOf.sizeOf p0
decreasing_by all_goals first | exact Val.Q27 _ | exact Val.Q1f _ | exact Q2d _ _ | exact Q23 _ _ | exact Q1s _ _
def Q58 (p0 : Val) (p1 : Val) : List Val → Nat → Qze
 | [], _i0 =>
  (.k0)
 | x0 :: r0, i0 =>
  bif (s_Ky x0 (List.getD p1.list i0 (Val.mk 0 0 (⟨#[]⟩ : ByteArray) [] []))) then
   Q58 p0 p1 r0 (i0 + 1)
  else
   (.k1)
termination_by l => SizeOf.sizeOf l
decreasing_by all_goals first | exact Val.Q27 _ | exact Val.Q1f _ | exact Q2d _ _ | exact Q23 _ _ | exact Q1s _ _
def Q51 (p0 : Val) (p1 : Val) : List Fld → Nat → Q106
 | [], _i1 =>
  (.k0)
 | x1 :: r1, i1 =>
  bif (sEq x1.name (List.getD p1.fields i1 zF).name) then
   bif (s_Ky x1.v (List.getD p1.fields i1 zF).v) then
    Q51 p0 p1 r1 (i1 + 1)
   else
    (.k1)
  else
   (.k1)
termination_by l => SizeOf.sizeOf l
decreasing_by all_goals first | exact Val.Q27 _ | exact Val.Q1f _ | exact Q2d _ _ | exact Q23 _ _ | exact Q1s _ _
end
def Qsh (_p0 : Val) (_p1 : Val) (i0 : Nat) : List PV :=
  [.un, .un, .bx 0 0, .bx 1 0, .un, .int .i64 (i0 : Int), .un, .un, .un, .un, .un, .un, .un, .un, .un, .un, .un, .un, .un, .un, .un, .un, .un, .un, .un, .un, .un, .un, .un, .un, .un, .un, .un, .un, .un, .un, .un, .un, .un, .un, .un, .un, .un, .un, .un, .un, .un, .un, .un, .un, .un, .un, .un, .un, .un, .un, .un, .un, .un, .un, .un, .un, .un, .un, .un, .un, .un, .un, .un, .un, .un, .un, .un, .un, .un, .un, .un, .un, .un, .un, .un, .un, .un, .un, .un, .un, .un, .un, .un, .un, .un, .un, .un, .un, .un, .un, .un, .un, .un]
def Qtm (p0 : Val) (p1 : Val) (_i0 : Nat) : List Ob :=
  [⟨5, 0, true, [.int .i64 p0.kind, .int .i64 p0.n, .str p0.s, .sl (Val.rows p0.list), .sl (Fld.rows p0.fields)]⟩, ⟨5, 0, true, [.int .i64 p1.kind, .int .i64 p1.n, .str p1.s, .sl (Val.rows p1.list), .sl (Fld.rows p1.fields)]⟩]
def Q6l (p0 : Val) (p1 : Val) (i0 : Nat) : En := .loop 0 Ir.Qhd Ir.Q17z (Qsh p0 p1 i0) (Qtm p0 p1 i0)
def Q9h (p0 : Val) (p1 : Val) (z : Nat → PV) (_zo : Nat → List PV) : St :=
  ⟨[z 0, z 1, .bx 0 0, .bx 1 0, z 4, z 5, z 6, z 7, z 8, z 9, z 10, z 11, z 12, z 13, z 14, z 15, z 16, z 17, z 18, z 19, z 20, z 21, z 22, z 23, z 24, z 25, z 26, z 27, z 28, z 29, z 30, z 31, z 32, z 33, z 34, z 35, z 36, z 37, z 38, z 39, z 40, z 41, z 42, z 43, z 44, z 45, z 46, z 47, z 48, z 49, z 50, z 51, z 52, z 53, z 54, z 55, z 56, z 57, z 58, z 59, z 60, z 61, z 62, z 63, z 64, z 65, z 66, z 67, z 68, z 69, z 70, z 71, z 72, z 73, z 74, z 75, z 76, z 77, z 78, z 79, z 80, z 81, z 82, z 83, z 84, z 85, z 86, z 87, z 88, z 89, z 90, z 91, z 92, z 93, z 94, z 95, z 96, z 97, z 98], [(0, ⟨5, 0, true, [.int .i64 p0.kind, .int .i64 p0.n, .str p0.s, .sl (Val.rows p0.list), .sl (Fld.rows p0.fields)]⟩), (1, ⟨5, 0, true, [.int .i64 p1.kind, .int .i64 p1.n, .str p1.s, .sl (Val.rows p1.list), .sl (Fld.rows p1.fields)]⟩)], 322⟩
def Qcm (_p0 : Val) (_p1 : Val) (z : Nat → PV) (zo : Nat → List PV) : St :=
  ⟨[z 0, z 1, z 2, z 3, .bool false, z 5, z 6, z 7, z 8, z 9, z 10, z 11, z 12, z 13, z 14, z 15, z 16, z 17, z 18, z 19, z 20, z 21, z 22, z 23, z 24, z 25, z 26, z 27, z 28, z 29, z 30, z 31, z 32, z 33, z 34, z 35, z 36, z 37, z 38, z 39, z 40, z 41, z 42, z 43, z 44, z 45, z 46, z 47, z 48, z 49, z 50, z 51, z 52, z 53, z 54, z 55, z 56, z 57, z 58, z 59, z 60, z 61, z 62, z 63, z 64, z 65, z 66, z 67, z 68, z 69, z 70, z 71, z 72, z 73, z 74, z 75, z 76, z 77, z 78, z 79, z 80, z 81, z 82, z 83, z 84, z 85, z 86, z 87, z 88, z 89, z 90, z 91, z 92, z 93, z 94, z 95, z 96, z 97, z 98], [(0, ⟨5, 0, true, zo 0⟩), (1, ⟨5, 0, true, zo 1⟩)], 1154⟩
def Qf4 (p0 : Val) (p1 : Val) (e : En) : Qze → Prop
  | .k0 => ∃ z zo, Q7 G e (.st (.exit 0) (Q9h p0 p1 z zo))
  | .k1 => ∃ z zo, Q7 G e (.st .ret (Qcm p0 p1 z zo))
theorem Qo8 (p0 : Val) (p1 : Val) {e e' : En} (h : ∀ r, Q7 G e r → Q7 G e' r) : ∀ q, Qf4 p0 p1 e q → Qf4 p0 p1 e' q
  | .k0, ⟨z, zo, hz⟩ => ⟨z, zo, h _ hz⟩
  | .k1, ⟨z, zo, hz⟩ => ⟨z, zo, h _ hz⟩
def Qst (_p0 : Val) (_p1 : Val) (i1 : Nat) : List PV :=
  [.un, .un, .bx 0 0, .bx 1 0, .un, .un, .int .i64 (i1 : Int), .un, .un, .un, .un, .un, .un, .un, .un, .un, .un, .un, .un, .un, .un, .un, .un, .un, .un, .un, .un, .un, .un, .un, .un, .un, .un, .un, .un, .un, .un, .un, .un, .un, .un, .un, .un, .un, .un, .un, .un, .un, .un, .un, .un, .un, .un, .un, .un, .un, .un, .un, .un, .un, .un, .un, .un, .un, .un, .un, .un, .un, .un, .un, .un, .un, .un, .un, .un, .un, .un, .un, .un, .un, .un, .un, .un, .un, .un, .un, .un, .un, .un, .un, .un, .un, .un, .un, .un, .un, .un, .un, .un]
def Qsm (p0 : Val) (p1 : Val) (_i1 : Nat) : List Ob :=
  [⟨5, 0, true, [.int .i64 p0.kind, .int .i64 p0.n, .str p0.s, .sl (Val.rows p0.list), .sl (Fld.rows p0.fields)]⟩, ⟨5, 0, true, [.int .i64 p1.kind, .int .i64 p1.n, .str p1.s, .sl (Val.rows p1.list), .sl (Fld.rows p1.fields)]⟩]
def Q6g (p0 : Val) (p1 : Val) (i1 : Nat) : En := .loop 0 Ir.Qk1 Ir.Q18c (Qst p0 p1 i1) (Qsm p0 p1 i1)
def Qcw (p0 : Val) (p1 : Val) (z : Nat → PV) (_zo : Nat → List PV) : St :=
  ⟨[z 0, z 1, z 2, z 3, z 4, z 5, z 6, z 7, z 8, z 9, z 10, z 11, z 12, z 13, z 14, z 15, z 16, z 17, z 18, z 19, z 20, z 21, z 22, z 23, z 24, z 25, z 26, z 27, z 28, z 29, z 30, z 31, z 32, z 33, z 34, z 35, z 36, z 37, z 38, z 39, z 40, z 41, z 42, z 43, z 44, z 45, z 46, z 47, z 48, z 49, z 50, z 51, z 52, z 53, z 54, z 55, z 56, z 57, z 58, z 59, z 60, z 61, z 62, z 63, z 64, z 65, z 66, z 67, z 68, z 69, z 70, z 71, z 72, z 73, z 74, z 75, z 76, z 77, z 78, z 79, z 80, z 81, z 82, z 83, z 84, z 85, z 86, z 87, z 88, z 89, z 90, z 91, z 92, z 93, z 94, z 95, z 96, z 97, z 98], [(0, ⟨5, 0, true, [.int .i64 p0.kind, .int .i64 p0.n, .str p0.s, .sl (Val.rows p0.list), .sl (Fld.rows p0.fields)]⟩), (1, ⟨5, 0, true, [.int .i64 p1.kind, .int .i64 p1.n, .str p1.s, .sl (Val.rows p1.list), .sl (Fld.rows p1.fields)]⟩)], 322⟩
def Q8z (_p0 : Val) (_p1 : Val) (z : Nat → PV) (zo : Nat → List PV) : St :=
  ⟨[z 0, z 1, z 2, z 3, .bool false, z 5, z 6, z 7, z 8, z 9, z 10, z 11, z 12, z 13, z 14, z 15, z 16, z 17, z 18, z 19, z 20, z 21, z 22, z 23, z 24, z 25, z 26, z 27, z 28, z 29, z 30, z 31, z 32, z 33, z 34, z 35, z 36, z 37, z 38, z 39, z 40, z 41, z 42, z 43, z 44, z 45, z 46, z 47, z 48, z 49, z 50, z 51, z 52, z 53, z 54, z 55, z 56, z 57, z 58, z 59, z 60, z 61, z 62, z 63, z 64, z 65, z 66, z 67, z 68, z 69, z 70, z 71, z 72, z 73, z 74, z 75, z 76, z 77, z 78, z 79, z 80, z 81, z 82, z 83, z 84, z 85, z 86, z 87, z 88, z 89, z 90, z 91, z 92, z 93, z 94, z 95, z 96, z 97, z 98], [(0, ⟨5, 0, true, zo 0⟩), (1, ⟨5, 0, true, zo 1⟩)], 2242⟩
def Q9y (p0 : Val) (p1 : Val) (e : En) : Q106 → Prop
  | .k0 => ∃ z zo, Q7 G e (.st (.exit 2) (Qcw p0 p1 z zo))
  | .k1 => ∃ z zo, Q7 G e (.st .ret (Q8z p0 p1 z zo))
theorem Qpd (p0 : Val) (p1 : Val) {e e' : En} (h : ∀ r, Q7 G e r → Q7 G e' r) : ∀ q, Q9y p0 p1 e q → Q9y p0 p1 e' q
  | .k0, ⟨z, zo, hz⟩ => ⟨z, zo, h _ hz⟩
  | .k1, ⟨z, zo, hz⟩ => ⟨z, zo, h _ hz⟩
def c_Ky (p0 : Val) (p1 : Val) : En := .call 12 [.agg (Val.cells p0), .agg (Val.cells p1)] []
def a_Ky (p0 : Val) (p1 : Val) : Rs := .ret (.bool (s_Ky p0 p1)) []
abbrev H_Ky (p0 : Val) : Prop := Val.Sm 4611686018427387904 p0
def Q3n (p0 : Val) : Prop := ∀ (q : Val), SizeOf.sizeOf q < SizeOf.sizeOf p0 → ∀ (p1 : Val), H_Ky q → Q7 G (c_Ky q p1) (a_Ky q p1)
def Qcj (p0 : Val) (p1 : Val) : Prop := (List.length p0.list ≤ 4611686018427387904) ∧ (∀ (i0 : Nat) (x0 : Val), p0.list[i0]? = some x0 → i0 < List.length p1.list) ∧ (∀ x0 ∈ p0.list, H_Ky x0) ∧ True
def Q9q (p0 : Val) (p1 : Val) : Prop := (List.length p0.fields ≤ 4611686018427387904) ∧ (∀ (i1 : Nat) (x1 : Fld), p0.fields[i1]? = some x1 → i1 < List.length p1.fields) ∧ (∀ x1 ∈ p0.fields, H_Ky x1.v) ∧ True
theorem Qye (p0 : Val) (p1 : Val) (H : H_Ky p0) : ((((List.length p0.list) : Int) == ((List.length p1.list) : Int)) = true → (((List.length p0.fields) : Int) == ((List.length p1.fields) : Int)) = true → Qcj p0 p1) ∧ ((((List.length p0.list) : Int) == ((List.length p1.list) : Int)) = true → (((List.length p0.fields) : Int) == ((List.length p1.fields) : Int)) = true → Q9q p0 p1) ∧ True := by
  obtain ⟨h1, h2, h3, h4⟩ := H.all
  exact ⟨fun a _ => ⟨h1, fun i x hx => by have := (List.getElem?_eq_some_iff.1 hx).1; have := eq_of_beq a; omega, h3, trivial⟩, fun _ b => ⟨h2, fun i x hx => by have := (List.getElem?_eq_some_iff.1 hx).1; have := eq_of_beq b; omega, h4, trivial⟩, trivial⟩
def Qnj (p0 : Val) (_p1 : Val) (i0 : Nat) : List PV :=
  [.un, .un, .un, .un, .un, .int .i64 (i0 : Int), .un, .un, .un, .un, .un, .un, .un, .un, .un, .un, .un, .un, .un, .un, .un, .un, .un, .un, .un, .un, .un, .un, .un, .un, .un, .un, .un, .un, .un, .un, .un, .un, .un, .un, .un, .un, .un, .un, .int .i64 (i0 : Int), .bx 0 3, .sl (Val.rows p0.list), .int .i64 ((List.length p0.list) : Int), .bool false]
def Qgm (_p0 : Val) (_p1 : Val) (_i0 : Nat) : List (Nat × List PV) :=
  []
theorem Q10d (p0 : Val) (p1 : Val) (_H : Qcj p0 p1) (_rec : Q3n p0) (i0 : Nat) (hc0 : (decide ((i0 : Int) < ((List.length p0.list) : Int))) = false) : Qf4 p0 p1 (Q6l p0 p1 i0) (.k0) := by
 exact ⟨(envF (Qnj p0 p1 i0)), (zoF (Qgm p0 p1 i0)), Qe VOK.nil (x := ((.exit 0), Q9h p0 p1 (envF (Qnj p0 p1 i0)) (zoF (Qgm p0 p1 i0)))) [hP 3 (Qi (Val.rows p0.list) (List.length p0.list) (Val.Qd p0.list)), hB 0 hc0] [] (by kernel_rfl)⟩
theorem Qyt (p0 : Val) (p1 : Val) (H : Qcj p0 p1) (rec : Q3n p0) (x0 : Val) (i0 : Nat) (hx0 : p0.list[i0]? = some x0) (hi0 : i0 < List.length p0.list) (hc0 : (decide ((i0 : Int) < ((List.length p0.list) : Int))) = true) (h0 : (s_Ky x0 (List.getD p1.list i0 (Val.mk 0 0 (⟨#[]⟩ : ByteArray) [] []))) = true) {r : Rs} (hr : Q7 G (Q6l p0 p1 (i0 + 1)) r) : Q7 G (Q6l p0 p1 i0) r := by
 have hB0 := H.1
 exact Q9 VOK.nil (y := (Qsh p0 p1 (i0 + 1), Qtm p0 p1 (i0 + 1))) [hP 3 (Qi (Val.rows p0.list) (List.length p0.list) (Val.Qd p0.list)), hB 0 hc0, hP 3 (Q18 5 (Val.rows p0.list) i0 _ (Val.Qf hx0) rfl), hP 4 (Q18 5 (Val.rows p1.list) i0 _ (Val.Qf (Qu p1.list i0 (Val.mk 0 0 (⟨#[]⟩ : ByteArray) [] []) ((H.2.1 i0 x0 hx0)))) rfl), hP 4 (Qt i0 (by omega))] [aB (rec x0 (szL hx0) (List.getD p1.list i0 (Val.mk 0 0 (⟨#[]⟩ : ByteArray) [] [])) (H.2.2.1 x0 (Ql hx0))) h0] (by kernel_rfl) hr
def Qps (p0 : Val) (p1 : Val) (i0 : Nat) (x0 : Val) : List PV :=
  [.un, .un, .bx 0 0, .bx 1 0, .un, .int .i64 (i0 : Int), .un, .un, .un, .un, .un, .un, .un, .un, .un, .un, .un, .un, .un, .un, .un, .un, .un, .un, .un, .un, .un, .un, .un, .un, .un, .un, .un, .un, .un, .un, .un, .un, .un, .un, .un, .un, .un, .un, .int .i64 (i0 : Int), .bx 0 3, .sl (Val.rows p0.list), .int .i64 ((List.length p0.list) : Int), .bool true, .un, .un, .bx 0 3, .sl (Val.rows p0.list), .int .i64 (i0 : Int), .rf [.int .i64 x0.kind, .int .i64 x0.n, .str x0.s, .sl (Val.rows x0.list), .sl (Fld.rows x0.fields)], .agg [.int .i64 x0.kind, .int .i64 x0.n, .str x0.s, .sl (Val.rows x0.list), .sl (Fld.rows x0.fields)], .bx 1 3, .sl (Val.rows p1.list), .int .i64 (i0 : Int), .rf [.int .i64 (List.getD p1.list i0 (Val.mk 0 0 (⟨#[]⟩ : ByteArray) [] [])).kind, .int .i64 (List.getD p1.list i0 (Val.mk 0 0 (⟨#[]⟩ : ByteArray) [] [])).n, .str (List.getD p1.list i0 (Val.mk 0 0 (⟨#[]⟩ : ByteArray) [] [])).s, .sl (Val.rows (List.getD p1.list i0 (Val.mk 0 0 (⟨#[]⟩ : ByteArray) [] [])).list), .sl (Fld.rows (List.getD p1.list i0 (Val.mk 0 0 (⟨#[]⟩ : ByteArray) [] [])).fields)], .agg [.int .i64 (List.getD p1.list i0 (Val.mk 0 0 (⟨#[]⟩ : ByteArray) [] [])).kind, .int .i64 (List.getD p1.list i0 (Val.mk 0 0 (⟨#[]⟩ : ByteArray) [] [])).n, .str (List.getD p1.list i0 (Val.mk 0 0 (⟨#[]⟩ : ByteArray) [] [])).s, .sl (Val.rows (List.getD p1.list i0 (Val.mk 0 0 (⟨#[]⟩ : ByteArray) [] [])).list), .sl (Fld.rows (List.getD p1.list i0 (Val.mk 0 0 (⟨#[]⟩ : ByteArray) [] [])).fields)], .bool false, .bool true]
def Qk8 (p0 : Val) (p1 : Val) (_i0 : Nat) (_x0 : Val) : List (Nat × List PV) :=
  [(0, [.int .i64 p0.kind, .int .i64 p0.n, .str p0.s, .sl (Val.rows p0.list), .sl (Fld.rows p0.fields)]), (1, [.int .i64 p1.kind, .int .i64 p1.n, .str p1.s, .sl (Val.rows p1.list), .sl (Fld.rows p1.fields)])]
theorem Q10x (p0 : Val) (p1 : Val) (H : Qcj p0 p1) (rec : Q3n p0) (x0 : Val) (i0 : Nat) (hx0 : p0.list[i0]? = some x0) (_hi0 : i0 < List.length p0.list) (hc0 : (decide ((i0 : Int) < ((List.length p0.list) : Int))) = true) (h0 : (s_Ky x0 (List.getD p1.list i0 (Val.mk 0 0 (⟨#[]⟩ : ByteArray) [] []))) = false) : Qf4 p0 p1 (Q6l p0 p1 i0) (.k1) := by
 exact ⟨(envF (Qps p0 p1 i0 x0)), (zoF (Qk8 p0 p1 i0 x0)), Qe VOK.nil (x := (.ret, Qcm p0 p1 (envF (Qps p0 p1 i0 x0)) (zoF (Qk8 p0 p1 i0 x0)))) [hP 3 (Qi (Val.rows p0.list) (List.length p0.list) (Val.Qd p0.list)), hB 0 hc0, hP 3 (Q18 5 (Val.rows p0.list) i0 _ (Val.Qf hx0) rfl), hP 4 (Q18 5 (Val.rows p1.list) i0 _ (Val.Qf (Qu p1.list i0 (Val.mk 0 0 (⟨#[]⟩ : ByteArray) [] []) ((H.2.1 i0 x0 hx0)))) rfl)] [aB (rec x0 (szL hx0) (List.getD p1.list i0 (Val.mk 0 0 (⟨#[]⟩ : ByteArray) [] [])) (H.2.2.1 x0 (Ql hx0))) h0] (by kernel_rfl)⟩
theorem Qt4 (p0 : Val) (p1 : Val) (H : Qcj p0 p1) (rec : Q3n p0) : ∀ (r0 : List Val) (i0 : Nat), List.drop i0 p0.list = r0 → Qf4 p0 p1 (Q6l p0 p1 i0) (Q58 p0 p1 r0 i0)
 | [], i0, hd => by
  have hc0 : (decide ((i0 : Int) < ((List.length p0.list) : Int))) = false := by have := Q1k hd; simp; omega
  rw [Q58]
  exact Q10d p0 p1 H rec i0 hc0
 | x0 :: r0, i0, hd => by
  obtain ⟨hx0, hi0, hd'⟩ := Q15 hd
  have hc0 : (decide ((i0 : Int) < ((List.length p0.list) : Int))) = true := by simp; omega
  rw [Q58]
  cases h0 : (s_Ky x0 (List.getD p1.list i0 (Val.mk 0 0 (⟨#[]⟩ : ByteArray) [] []))) with
  | true =>
   exact Qo8 p0 p1 (fun r hr => Qyt p0 p1 H rec x0 i0 hx0 hi0 hc0 h0 hr) _ (Qt4 p0 p1 H rec r0 (i0 + 1) hd')
  | false =>
   exact Q10x p0 p1 H rec x0 i0 hx0 hi0 hc0 h0
def Qqp (p0 : Val) (_p1 : Val) (i1 : Nat) : List PV :=
  [.un, .un, .bx 0 0, .bx 1 0, .un, .un, .int .i64 (i1 : Int), .un, .un, .un, .un, .un, .un, .un, .un, .un, .un, .un, .un, .un, .un, .un, .un, .un, .un, .un, .un, .un, .un, .un, .un, .un, .un, .un, .un, .un, .un, .un, .un, .un, .un, .un, .un, .un, .un, .un, .un, .un, .un, .un, .un, .un, .un, .un, .un, .un, .un, .un, .un, .un, .un, .un, .un, .int .i64 (i1 : Int), .bx 0 4, .sl (Fld.rows p0.fields), .int .i64 ((List.length p0.fields) : Int), .bool false]
def Qh9 (_p0 : Val) (_p1 : Val) (_i1 : Nat) : List (Nat × List PV) :=
  []
theorem Qzm (p0 : Val) (p1 : Val) (_H : Q9q p0 p1) (_rec : Q3n p0) (i1 : Nat) (hc1 : (decide ((i1 : Int) < ((List.length p0.fields) : Int))) = false) : Q9y p0 p1 (Q6g p0 p1 i1) (.k0) := by
 exact ⟨(envF (Qqp p0 p1 i1)), (zoF (Qh9 p0 p1 i1)), Qe VOK.nil (x := ((.exit 2), Qcw p0 p1 (envF (Qqp p0 p1 i1)) (zoF (Qh9 p0 p1 i1)))) [hP 3 (Qi (Fld.rows p0.fields) (List.length p0.fields) (Fld.Qd p0.fields)), hB 0 hc1] [] (by kernel_rfl)⟩
theorem Q12j (p0 : Val) (p1 : Val) (H : Q9q p0 p1) (rec : Q3n p0) (x1 : Fld) (i1 : Nat) (hx1 : p0.fields[i1]? = some x1) (hi1 : i1 < List.length p0.fields) (hc1 : (decide ((i1 : Int) < ((List.length p0.fields) : Int))) = true) (h0 : (sEq x1.name (List.getD p1.fields i1 zF).name) = true) (h1 : (s_Ky x1.v (List.getD p1.fields i1 zF).v) = true) {r : Rs} (hr : Q7 G (Q6g p0 p1 (i1 + 1)) r) : Q7 G (Q6g p0 p1 i1) r := by
 have hB0 := H.1
 exact Q9 VOK.nil (y := (Qst p0 p1 (i1 + 1), Qsm p0 p1 (i1 + 1))) [hP 3 (Qi (Fld.rows p0.fields) (List.length p0.fields) (Fld.Qd p0.fields)), hB 0 hc1, hP 3 (Q18 6 (Fld.rows p0.fields) i1 _ (Fld.Qf hx1) rfl), hP 5 (Q18 6 (Fld.rows p1.fields) i1 _ (Fld.Qf (Qu p1.fields i1 zF ((H.2.1 i1 x1 hx1)))) rfl), hP 2 (dec (!(sEq x1.name (List.getD p1.fields i1 zF).name)) false (by rw [h0]; rfl)), hP 4 (Q18 6 (Fld.rows p0.fields) i1 _ (Fld.Qf hx1) rfl), hP 5 (Q18 6 (Fld.rows p1.fields) i1 _ (Fld.Qf (Qu p1.fields i1 zF ((H.2.1 i1 x1 hx1)))) rfl), hP 6 (Qt i1 (by omega))] [aB (rec x1.v (szF hx1) (List.getD p1.fields i1 zF).v (H.2.2.1 x1 (Ql hx1))) h1] (by kernel_rfl) hr
def Qnk (p0 : Val) (p1 : Val) (i1 : Nat) (x1 : Fld) : List PV :=
  [.un, .un, .bx 0 0, .bx 1 0, .un, .un, .int .i64 (i1 : Int), .un, .un, .un, .un, .un, .un, .un, .un, .un, .un, .un, .un, .un, .un, .un, .un, .un, .un, .un, .un, .un, .un, .un, .un, .un, .un, .un, .un, .un, .un, .un, .un, .un, .un, .un, .un, .un, .un, .un, .un, .un, .un, .un, .un, .un, .un, .un, .un, .un, .un, .un, .un, .un, .un, .un, .un, .int .i64 (i1 : Int), .bx 0 4, .sl (Fld.rows p0.fields), .int .i64 ((List.length p0.fields) : Int), .bool true, .un, .un, .bx 0 4, .sl (Fld.rows p0.fields), .int .i64 (i1 : Int), .rf [.str x1.name, .int .i64 x1.v.kind, .int .i64 x1.v.n, .str x1.v.s, .sl (Val.rows x1.v.list), .sl (Fld.rows x1.v.fields)], .rf [.str x1.name, .int .i64 x1.v.kind, .int .i64 x1.v.n, .str x1.v.s, .sl (Val.rows x1.v.list), .sl (Fld.rows x1.v.fields)], .str x1.name, .bx 1 4, .sl (Fld.rows p1.fields), .int .i64 (i1 : Int), .rf [.str (List.getD p1.fields i1 zF).name, .int .i64 (List.getD p1.fields i1 zF).v.kind, .int .i64 (List.getD p1.fields i1 zF).v.n, .str (List.getD p1.fields i1 zF).v.s, .sl (Val.rows (List.getD p1.fields i1 zF).v.list), .sl (Fld.rows (List.getD p1.fields i1 zF).v.fields)], .rf [.str (List.getD p1.fields i1 zF).name, .int .i64 (List.getD p1.fields i1 zF).v.kind, .int .i64 (List.getD p1.fields i1 zF).v.n, .str (List.getD p1.fields i1 zF).v.s, .sl (Val.rows (List.getD p1.fields i1 zF).v.list), .sl (Fld.rows (List.getD p1.fields i1 zF).v.fields)], .str (List.getD p1.fields i1 zF).name, .bool false, .bool false, .bx 0 4, .sl (Fld.rows p0.fields), .int .i64 (i1 : Int), .rf [.str x1.name, .int .i64 x1.v.kind, .int .i64 x1.v.n, .str x1.v.s, .sl (Val.rows x1.v.list), .sl (Fld.rows x1.v.fields)], .rf [.int .i64 x1.v.kind, .int .i64 x1.v.n, .str x1.v.s, .sl (Val.rows x1.v.list), .sl (Fld.rows x1.v.fields)], .agg [.int .i64 x1.v.kind, .int .i64 x1.v.n, .str x1.v.s, .sl (Val.rows x1.v.list), .sl (Fld.rows x1.v.fields)], .bx 1 4, .sl (Fld.rows p1.fields), .int .i64 (i1 : Int), .rf [.str (List.getD p1.fields i1 zF).name, .int .i64 (List.getD p1.fields i1 zF).v.kind, .int .i64 (List.getD p1.fields i1 zF).v.n, .str (List.getD p1.fields i1 zF).v.s, .sl (Val.rows (List.getD p1.fields i1 zF).v.list), .sl (Fld.rows (List.getD p1.fields i1 zF).v.fields)], .rf [.int .i64 (List.getD p1.fields i1 zF).v.kind, .int .i64 (List.getD p1.fields i1 zF).v.n, .str (List.getD p1.fields i1 zF).v.s, .sl (Val.rows (List.getD p1.fields i1 zF).v.list), .sl (Fld.rows (List.getD p1.fields i1 zF).v.fields)], .agg [.int .i64 (List.getD p1.fields i1 zF).v.kind, .int .i64 (List.getD p1.fields i1 zF).v.n, .str (List.getD p1.fields i1 zF).v.s, .sl (Val.rows (List.getD p1.fields i1 zF).v.list), .sl (Fld.rows (List.getD p1.fields i1 zF).v.fields)], .bool false, .bool true, .bool true]
def Qgr (p0 : Val) (p1 : Val) (_i1 : Nat) (_x1 : Fld) : List (Nat × List PV) :=
  [(0, [.int .i64 p0.kind, .int .i64 p0.n, .str p0.s, .sl (Val.rows p0.list), .sl (Fld.rows p0.fields)]), (1, [.int .i64 p1.kind, .int .i64 p1.n, .str p1.s, .sl (Val.rows p1.list), .sl (Fld.rows p1.fields)])]
theorem Qxz (p0 : Val) (p1 : Val) (H : Q9q p0 p1) (rec : Q3n p0) (x1 : Fld) (i1 : Nat) (hx1 : p0.fields[i1]? = some x1) (_hi1 : i1 < List.length p0.fields) (hc1 : (decide ((i1 : Int) < ((List.length p0.fields) : Int))) = true) (h0 : (sEq x1.name (List.getD p1.fields i1 zF).name) = true) (h1 : (s_Ky x1.v (List.getD p1.fields i1 zF).v) = false) : Q9y p0 p1 (Q6g p0 p1 i1) (.k1) := by
 exact ⟨(envF (Qnk p0 p1 i1 x1)), (zoF (Qgr p0 p1 i1 x1)), Qe VOK.nil (x := (.ret, Q8z p0 p1 (envF (Qnk p0 p1 i1 x1)) (zoF (Qgr p0 p1 i1 x1)))) [hP 3 (Qi (Fld.rows p0.fields) (List.length p0.fields) (Fld.Qd p0.fields)), hB 0 hc1, hP 3 (Q18 6 (Fld.rows p0.fields) i1 _ (Fld.Qf hx1) rfl), hP 5 (Q18 6 (Fld.rows p1.fields) i1 _ (Fld.Qf (Qu p1.fields i1 zF ((H.2.1 i1 x1 hx1)))) rfl), hP 2 (dec (!(sEq x1.name (List.getD p1.fields i1 zF).name)) false (by rw [h0]; rfl)), hP 4 (Q18 6 (Fld.rows p0.fields) i1 _ (Fld.Qf hx1) rfl), hP 5 (Q18 6 (Fld.rows p1.fields) i1 _ (Fld.Qf (Qu p1.fields i1 zF ((H.2.1 i1 x1 hx1)))) rfl)] [aB (rec x1.v (szF hx1) (List.getD p1.fields i1 zF).v (H.2.2.1 x1 (Ql hx1))) h1] (by kernel_rfl)⟩
def Qni (p0 : Val) (p1 : Val) (i1 : Nat) (x1 : Fld) : List PV :=
  [.un, .un, .bx 0 0, .bx 1 0, .un, .un, .int .i64 (i1 : Int), .un, .un, .un, .un, .un, .un, .un, .un, .un, .un, .un, .un, .un, .un, .un, .un, .un, .un, .un, .un, .un, .un, .un, .un, .un, .un, .un, .un, .un, .un, .un, .un, .un, .un, .un, .un, .un, .un, .un, .un, .un, .un, .un, .un, .un, .un, .un, .un, .un, .un, .un, .un, .un, .un, .un, .un, .int .i64 (i1 : Int), .bx 0 4, .sl (Fld.rows p0.fields), .int .i64 ((List.length p0.fields) : Int), .bool true, .un, .un, .bx 0 4, .sl (Fld.rows p0.fields), .int .i64 (i1 : Int), .rf [.str x1.name, .int .i64 x1.v.kind, .int .i64 x1.v.n, .str x1.v.s, .sl (Val.rows x1.v.list), .sl (Fld.rows x1.v.fields)], .rf [.str x1.name, .int .i64 x1.v.kind, .int .i64 x1.v.n, .str x1.v.s, .sl (Val.rows x1.v.list), .sl (Fld.rows x1.v.fields)], .str x1.name, .bx 1 4, .sl (Fld.rows p1.fields), .int .i64 (i1 : Int), .rf [.str (List.getD p1.fields i1 zF).name, .int .i64 (List.getD p1.fields i1 zF).v.kind, .int .i64 (List.getD p1.fields i1 zF).v.n, .str (List.getD p1.fields i1 zF).v.s, .sl (Val.rows (List.getD p1.fields i1 zF).v.list), .sl (Fld.rows (List.getD p1.fields i1 zF).v.fields)], .rf [.str (List.getD p1.fields i1 zF).name, .int .i64 (List.getD p1.fields i1 zF).v.kind, .int .i64 (List.getD p1.fields i1 zF).v.n, .str (List.getD p1.fields i1 zF).v.s, .sl (Val.rows (List.getD p1.fields i1 zF).v.list), .sl (Fld.rows (List.getD p1.fields i1 zF).v.fields)], .str (List.getD p1.fields i1 zF).name, .bool true, .bool true, .tup [], .tup [], .tup [], .tup [], .tup [], .tup [], .tup [], .tup [], .tup [], .tup [], .tup [], .tup [], .tup [], .tup [], .bool true]
def Qi5 (p0 : Val) (p1 : Val) (_i1 : Nat) (_x1 : Fld) : List (Nat × List PV) :=
  [(0, [.int .i64 p0.kind, .int .i64 p0.n, .str p0.s, .sl (Val.rows p0.list), .sl (Fld.rows p0.fields)]), (1, [.int .i64 p1.kind, .int .i64 p1.n, .str p1.s, .sl (Val.rows p1.list), .sl (Fld.rows p1.fields)])]
theorem Q10p (p0 : Val) (p1 : Val) (H : Q9q p0 p1) (_rec : Q3n p0) (x1 : Fld) (i1 : Nat) (hx1 : p0.fields[i1]? = some x1) (_hi1 : i1 < List.length p0.fields) (hc1 : (decide ((i1 : Int) < ((List.length p0.fields) : Int))) = true) (h0 : (sEq x1.name (List.getD p1.fields i1 zF).name) = false) : Q9y p0 p1 (Q6g p0 p1 i1) (.k1) := by
 exact ⟨(envF (Qni p0 p1 i1 x1)), (zoF (Qi5 p0 p1 i1 x1)), Qe VOK.nil (x := (.ret, Q8z p0 p1 (envF (Qni p0 p1 i1 x1)) (zoF (Qi5 p0 p1 i1 x1)))) [hP 3 (Qi (Fld.rows p0.fields) (List.length p0.fields) (Fld.Qd p0.fields)), hB 0 hc1, hP 3 (Q18 6 (Fld.rows p0.fields) i1 _ (Fld.Qf hx1) rfl), hP 5 (Q18 6 (Fld.rows p1.fields) i1 _ (Fld.Qf (Qu p1.fields i1 zF ((H.2.1 i1 x1 hx1)))) rfl), hP 2 (dec (!(sEq x1.name (List.getD p1.fields i1 zF).name)) true (by rw [h0]; rfl))] [] (by kernel_rfl)⟩
theorem Qsz (p0 : Val) (p1 : Val) (H : Q9q p0 p1) (rec : Q3n p0) : ∀ (r1 : List Fld) (i1 : Nat), List.drop i1 p0.fields = r1 → Q9y p0 p1 (Q6g p0 p1 i1) (Q51 p0 p1 r1 i1)
 | [], i1, hd => by
  have hc1 : (decide ((i1 : Int) < ((List.length p0.fields) : Int))) = false := by have := Q1k hd; simp; omega
  rw [Q51]
  exact Qzm p0 p1 H rec i1 hc1
 | x1 :: r1, i1, hd => by
  obtain ⟨hx1, hi1, hd'⟩ := Q15 hd
  have hc1 : (decide ((i1 : Int) < ((List.length p0.fields) : Int))) = true := by simp; omega
  rw [Q51]
  cases h0 : (sEq x1.name (List.getD p1.fields i1 zF).name) with
  | true =>
   cases h1 : (s_Ky x1.v (List.getD p1.fields i1 zF).v) with
   | true =>
    exact Qpd p0 p1 (fun r hr => Q12j p0 p1 H rec x1 i1 hx1 hi1 hc1 h0 h1 hr) _ (Qsz p0 p1 H rec r1 (i1 + 1) hd')
   | false =>
    exact Qxz p0 p1 H rec x1 i1 hx1 hi1 hc1 h0 h1
  | false =>
   exact Q10p p0 p1 H rec x1 i1 hx1 hi1 hc1 h0
theorem Q173 (p0 : Val) (p1 : Val) (_H : H_Ky p0) (_rec : Q3n p0) (h0 : (p0.kind == p1.kind) = true) (h1 : (p0.n == p1.n) = true) (h2 : (sEq p0.s p1.s) = true) (h3 : (((List.length p0.list) : Int) == ((List.length p1.list) : Int)) = true) (h4 : (((List.length p0.fields) : Int) == ((List.length p1.fields) : Int)) = true) (z5 : Nat → PV) (zo5 : Nat → List PV) (hl5 : Q7 G (Q6l p0 p1 0) (.st (.exit 0) (Q9h p0 p1 z5 zo5))) (z6 : Nat → PV) (zo6 : Nat → List PV) (hl6 : Q7 G (Q6g p0 p1 0) (.st (.exit 2) (Qcw p0 p1 z6 zo6))) : Q7 G (c_Ky p0 p1) (.ret (.bool (true)) []) := by
 exact Q8 (fn := Ir.Ky) rfl VOK.nil [hP 7 (dec (!(p0.kind == p1.kind)) false (by rw [h0]; rfl)), hP 5 (dec (!(p0.n == p1.n)) false (by rw [h1]; rfl)), hP 6 (dec (!(sEq p0.s p1.s)) false (by rw [h2]; rfl)), hP 4 (Qi (Val.rows p0.list) (List.length p0.list) (Val.Qd p0.list)), hP 2 (Qi (Val.rows p1.list) (List.length p1.list) (Val.Qd p1.list)), hP 0 (dec (!(((List.length p0.list) : Int) == ((List.length p1.list) : Int))) false (by rw [h3]; rfl)), hP 4 (Qi (Fld.rows p0.fields) (List.length p0.fields) (Fld.Qd p0.fields)), hP 2 (Qi (Fld.rows p1.fields) (List.length p1.fields) (Fld.Qd p1.fields)), hP 0 (dec (!(((List.length p0.fields) : Int) == ((List.length p1.fields) : Int))) false (by rw [h4]; rfl))] [aN hl5, aN hl6] (by kernel_rfl)
theorem Q17j (p0 : Val) (p1 : Val) (_H : H_Ky p0) (_rec : Q3n p0) (h0 : (p0.kind == p1.kind) = true) (h1 : (p0.n == p1.n) = true) (h2 : (sEq p0.s p1.s) = true) (h3 : (((List.length p0.list) : Int) == ((List.length p1.list) : Int)) = true) (h4 : (((List.length p0.fields) : Int) == ((List.length p1.fields) : Int)) = true) (z5 : Nat → PV) (zo5 : Nat → List PV) (hl5 : Q7 G (Q6l p0 p1 0) (.st (.exit 0) (Q9h p0 p1 z5 zo5))) (z6 : Nat → PV) (zo6 : Nat → List PV) (hl6 : Q7 G (Q6g p0 p1 0) (.st .ret (Q8z p0 p1 z6 zo6))) : Q7 G (c_Ky p0 p1) (.ret (.bool (false)) []) := by
 exact Q8 (fn := Ir.Ky) rfl VOK.nil [hP 7 (dec (!(p0.kind == p1.kind)) false (by rw [h0]; rfl)), hP 5 (dec (!(p0.n == p1.n)) false (by rw [h1]; rfl)), hP 6 (dec (!(sEq p0.s p1.s)) false (by rw [h2]; rfl)), hP 4 (Qi (Val.rows p0.list) (List.length p0.list) (Val.Qd p0.list)), hP 2 (Qi (Val.rows p1.list) (List.length p1.list) (Val.Qd p1.list)), hP 0 (dec (!(((List.length p0.list) : Int) == ((List.length p1.list) : Int))) false (by rw [h3]; rfl)), hP 4 (Qi (Fld.rows p0.fields) (List.length p0.fields) (Fld.Qd p0.fields)), hP 2 (Qi (Fld.rows p1.fields) (List.length p1.fields) (Fld.Qd p1.fields)), hP 0 (dec (!(((List.length p0.fields) : Int) == ((List.length p1.fields) : Int))) false (by rw [h4]; rfl))] [aN hl5, aN hl6] (by kernel_rfl)
theorem Q17g (p0 : Val) (p1 : Val) (_H : H_Ky p0) (_rec : Q3n p0) (h0 : (p0.kind == p1.kind) = true) (h1 : (p0.n == p1.n) = true) (h2 : (sEq p0.s p1.s) = true) (h3 : (((List.length p0.list) : Int) == ((List.length p1.list) : Int)) = true) (h4 : (((List.length p0.fields) : Int) == ((List.length p1.fields) : Int)) = true) (z5 : Nat → PV) (zo5 : Nat → List PV) (hl5 : Q7 G (Q6l p0 p1 0) (.st .ret (Qcm p0 p1 z5 zo5))) : Q7 G (c_Ky p0 p1) (.ret (.bool (false)) []) := by
 exact Q8 (fn := Ir.Ky) rfl VOK.nil [hP 7 (dec (!(p0.kind == p1.kind)) false (by rw [h0]; rfl)), hP 5 (dec (!(p0.n == p1.n)) false (by rw [h1]; rfl)), hP 6 (dec (!(sEq p0.s p1.s)) false (by rw [h2]; rfl)), hP 4 (Qi (Val.rows p0.list) (List.length p0.list) (Val.Qd p0.list)), hP 2 (Qi (Val.rows p1.list) (List.length p1.list) (Val.Qd p1.list)), hP 0 (dec (!(((List.length p0.list) : Int) == ((List.length p1.list) : Int))) false (by rw [h3]; rfl)), hP 4 (Qi (Fld.rows p0.fields) (List.length p0.fields) (Fld.Qd p0.fields)), hP 2 (Qi (Fld.rows p1.fields) (List.length p1.fields) (Fld.Qd p1.fields)), hP 0 (dec (!(((List.length p0.fields) : Int) == ((List.length p1.fields) : Int))) false (by rw [h4]; rfl))] [aN hl5] (by kernel_rfl)
theorem Q16h (p0 : Val) (p1 : Val) (_H : H_Ky p0) (_rec : Q3n p0) (h0 : (p0.kind == p1.kind) = true) (h1 : (p0.n == p1.n) = true) (h2 : (sEq p0.s p1.s) = true) (h3 : (((List.length p0.list) : Int) == ((List.length p1.list) : Int)) = true) (h4 : (((List.length p0.fields) : Int) == ((List.length p1.fields) : Int)) = false) : Q7 G (c_Ky p0 p1) (.ret (.bool (false)) []) := by
 exact Q8 (fn := Ir.Ky) rfl VOK.nil [hP 7 (dec (!(p0.kind == p1.kind)) false (by rw [h0]; rfl)), hP 5 (dec (!(p0.n == p1.n)) false (by rw [h1]; rfl)), hP 6 (dec (!(sEq p0.s p1.s)) false (by rw [h2]; rfl)), hP 4 (Qi (Val.rows p0.list) (List.length p0.list) (Val.Qd p0.list)), hP 2 (Qi (Val.rows p1.list) (List.length p1.list) (Val.Qd p1.list)), hP 0 (dec (!(((List.length p0.list) : Int) == ((List.length p1.list) : Int))) false (by rw [h3]; rfl)), hP 4 (Qi (Fld.rows p0.fields) (List.length p0.fields) (Fld.Qd p0.fields)), hP 2 (Qi (Fld.rows p1.fields) (List.length p1.fields) (Fld.Qd p1.fields)), hP 0 (dec (!(((List.length p0.fields) : Int) == ((List.length p1.fields) : Int))) true (by rw [h4]; rfl))] [] (by kernel_rfl)
theorem Q16q (p0 : Val) (p1 : Val) (_H : H_Ky p0) (_rec : Q3n p0) (h0 : (p0.kind == p1.kind) = true) (h1 : (p0.n == p1.n) = true) (h2 : (sEq p0.s p1.s) = true) (h3 : (((List.length p0.list) : Int) == ((List.length p1.list) : Int)) = false) : Q7 G (c_Ky p0 p1) (.ret (.bool (false)) []) := by
 exact Q8 (fn := Ir.Ky) rfl VOK.nil [hP 7 (dec (!(p0.kind == p1.kind)) false (by rw [h0]; rfl)), hP 5 (dec (!(p0.n == p1.n)) false (by rw [h1]; rfl)), hP 6 (dec (!(sEq p0.s p1.s)) false (by rw [h2]; rfl)), hP 4 (Qi (Val.rows p0.list) (List.length p0.list) (Val.Qd p0.list)), hP 2 (Qi (Val.rows p1.list) (List.length p1.list) (Val.Qd p1.list)), hP 0 (dec (!(((List.length p0.list) : Int) == ((List.length p1.list) : Int))) true (by rw [h3]; rfl))] [] (by kernel_rfl)
theorem Q17t (p0 : Val) (p1 : Val) (_H : H_Ky p0) (_rec : Q3n p0) (h0 : (p0.kind == p1.kind) = true) (h1 : (p0.n == p1.n) = true) (h2 : (sEq p0.s p1.s) = false) : Q7 G (c_Ky p0 p1) (.ret (.bool (false)) []) := by
 exact Q8 (fn := Ir.Ky) rfl VOK.nil [hP 7 (dec (!(p0.kind == p1.kind)) false (by rw [h0]; rfl)), hP 5 (dec (!(p0.n == p1.n)) false (by rw [h1]; rfl)), hP 6 (dec (!(sEq p0.s p1.s)) true (by rw [h2]; rfl))] [] (by kernel_rfl)
theorem Q179 (p0 : Val) (p1 : Val) (_H : H_Ky p0) (_rec : Q3n p0) (h0 : (p0.kind == p1.kind) = true) (h1 : (p0.n == p1.n) = false) : Q7 G (c_Ky p0 p1) (.ret (.bool (false)) []) := by
 exact Q8 (fn := Ir.Ky) rfl VOK.nil [hP 7 (dec (!(p0.kind == p1.kind)) false (by rw [h0]; rfl)), hP 5 (dec (!(p0.n == p1.n)) true (by rw [h1]; rfl))] [] (by kernel_rfl)
theorem Q18g (p0 : Val) (p1 : Val) (_H : H_Ky p0) (_rec : Q3n p0) (h0 : (p0.kind == p1.kind) = false) : Q7 G (c_Ky p0 p1) (.ret (.bool (false)) []) := by
 exact Q8 (fn := Ir.Ky) rfl VOK.nil [hP 7 (dec (!(p0.kind == p1.kind)) true (by rw [h0]; rfl))] [] (by kernel_rfl)
theorem r_Ky (p0 : Val) (p1 : Val) (H : H_Ky p0) (rec : Q3n p0) : Q7 G (c_Ky p0 p1) (a_Ky p0 p1) := by
  unfold a_Ky
  rw [s_Ky]
  cases h0 : (p0.kind == p1.kind) with
  | true =>
   cases h1 : (p0.n == p1.n) with
   | true =>
    cases h2 : (sEq p0.s p1.s) with
    | true =>
     cases h3 : (((List.length p0.list) : Int) == ((List.length p1.list) : Int)) with
     | true =>
      cases h4 : (((List.length p0.fields) : Int) == ((List.length p1.fields) : Int)) with
      | true =>
       have hl5 := Qt4 p0 p1 ((Qye p0 p1 H).1 h3 h4) rec p0.list 0 (by simp)
       cases hr5 : (Q58 p0 p1 p0.list 0) with
       | k0 =>
         rw [hr5] at hl5
         obtain ⟨z5, zo5, hl5⟩ := hl5
         try dsimp only
         have hl6 := Qsz p0 p1 ((Qye p0 p1 H).2.1 h3 h4) rec p0.fields 0 (by simp)
         cases hr6 : (Q51 p0 p1 p0.fields 0) with
         | k0 =>
           rw [hr6] at hl6
           obtain ⟨z6, zo6, hl6⟩ := hl6
           exact Q173 p0 p1 H rec h0 h1 h2 h3 h4 z5 zo5 hl5 z6 zo6 hl6
         | k1 =>
           rw [hr6] at hl6
           obtain ⟨z6, zo6, hl6⟩ := hl6
           exact Q17j p0 p1 H rec h0 h1 h2 h3 h4 z5 zo5 hl5 z6 zo6 hl6
       | k1 =>
         rw [hr5] at hl5
         obtain ⟨z5, zo5, hl5⟩ := hl5
         exact Q17g p0 p1 H rec h0 h1 h2 h3 h4 z5 zo5 hl5
      | false =>
       exact Q16h p0 p1 H rec h0 h1 h2 h3 h4
     | false =>
      exact Q16q p0 p1 H rec h0 h1 h2 h3
    | false =>
     exact Q17t p0 p1 H rec h0 h1 h2
   | false =>
    exact Q179 p0 p1 H rec h0 h1
  | false =>
   exact Q18g p0 p1 H rec h0
theorem i_Ky : ∀ (k : Nat) (p0 : Val), SizeOf.sizeOf p0 < k → ∀ (p1 : Val), H_Ky p0 → Q7 G (c_Ky p0 p1) (a_Ky p0 p1)
  | 0, _, h, _, _ => absurd h (Nat.not_lt_zero _)
  | k + 1, p0, h, p1, H => r_Ky p0 p1 H (fun q hq p1 hH => i_Ky k q (by omega) p1 hH)
theorem t_Ky (p0 : Val) (p1 : Val) (H : H_Ky p0) : Q7 G (c_Ky p0 p1) (a_Ky p0 p1) := i_Ky _ p0 (Nat.lt_succ_self _) p1 H
mutual
def Q2h (p0 p1 : Val) : Int := s_K1 [s_K0 p0.kind p1.kind, s_K0 p0.n p1.n, Qb1 p0.s p1.s, lcV p0.list p1.list, lcF p0.fields p1.fields]
termination_by SizeOf.sizeOf p0
decreasing_by all_goals first | exact Val.Q27 _ | exact Val.Q1f _
def lcV : List Val → List Val → Int
 | [], [] => 0
 | [], _ :: _ => -1
 | _ :: _, [] => 1
 | x :: l, y :: m => bif Q2h x y == 0 then lcV l m else Q2h x y
termination_by l => SizeOf.sizeOf l
decreasing_by all_goals first | exact Q2d _ _ | exact Q23 _ _
def lcF : List Fld → List Fld → Int
 | [], [] => 0
 | [], _ :: _ => -1
 | _ :: _, [] => 1
 | x :: l, y :: m => bif s_K1 [Qb1 x.name y.name, Q2h x.v y.v] == 0 then lcF l m else s_K1 [Qb1 x.name y.name, Q2h x.v y.v]
termination_by l => SizeOf.sizeOf l
decreasing_by all_goals first | exact Q1s _ _ | exact Q23 _ _
end
def Qz1 (p0 : Val) (p1 : Val) : En := .call 49 [.agg (Val.cells p0), .agg (Val.cells p1)] []
def Qx1 (p0 : Val) (p1 : Val) : Rs := .ret (.int .i64 (Q2h p0 p1)) []
def Qgb (p0 : Fld) (p1 : Fld) : Int :=
 (s_K1 ([(Qb1 p0.name p1.name), (Q2h p0.v p1.v)]))
def Q1aq (p0 : Fld) (p1 : Fld) : En := .call 63 [.agg (Fld.cells p0), .agg (Fld.cells p1)] []
def Q184 (p0 : Fld) (p1 : Fld) : Rs := .ret (.int .i64 (Qgb p0 p1)) []
theorem Q19d (p0 : Fld) (p1 : Fld) (hc : Q7 G (Qz1 p0.v p1.v) (Qx1 p0.v p1.v)) : Q7 G (Q1aq p0 p1) (Q184 p0 p1) := by
 unfold Q184 Qgb
 exact Q8 (fn := Ir.K1i) rfl VOK.nil [] [aN (Q164 p0.name p1.name), aN hc, aN (t_K1 ([(Qb1 p0.name p1.name), (Q2h p0.v p1.v)]) (by simp [H_K1, Q7y]))] (by kernel_rfl)
def Q3r (g : Val → Val → Int) (p0 : List Val) : Prop := ∀ x ∈ p0, ∀ y : Val, Q7 G (.call 49 [.agg (Val.cells x), .agg (Val.cells y)] []) (.ret (.int .i64 (g x y)) [])
inductive Qs6 where
  | k0
  | k1
  | k2 (q0 : Int)
def Q3x (g : Val → Val → Int) (p0 : List Val) (p1 : List Val) : List Val → Nat → Qs6
 | [], _i0 =>
  (.k0)
 | x0 :: r0, i0 =>
  bif (decide (((List.length p1) : Int) ≤ (i0 : Int))) then
   (.k1)
  else
   bif ((g x0 (List.getD p1 i0 (Val.mk 0 0 (⟨#[]⟩ : ByteArray) [] []))) == 0) then
    Q3x g p0 p1 r0 (i0 + 1)
   else
    (.k2 (g x0 (List.getD p1 i0 (Val.mk 0 0 (⟨#[]⟩ : ByteArray) [] []))))
def Qms (_g : Val → Val → Int) (p0 : List Val) (p1 : List Val) (i0 : Nat) : List PV :=
  [.sl (Val.rows p0), .sl (Val.rows p1), .fn 49 [] [], .un, .un, .un, .un, .un, .un, .un, .un, .sl (Val.rows p0), .int .i64 ((List.length p0) : Int), .int .i64 (i0 : Int), .un, .un, .un, .un, .un, .un, .un, .un, .un, .un, .un, .un, .un, .un, .un, .un, .un, .un, .un, .un, .un, .un, .un, .un, .un]
def Qnm (_g : Val → Val → Int) (_p0 : List Val) (_p1 : List Val) (_i0 : Nat) : List Ob :=
  []
def Q7g (g : Val → Val → Int) (p0 : List Val) (p1 : List Val) (i0 : Nat) : En := .loop 0 Ir.Qcv Ir.Q14l (Qms g p0 p1 i0) (Qnm g p0 p1 i0)
def Qj0 (_g : Val → Val → Int) (p0 : List Val) (p1 : List Val) (z : Nat → PV) (_zo : Nat → List PV) : St :=
  ⟨[.sl (Val.rows p0), .sl (Val.rows p1), z 2, z 3, z 4, z 5, z 6, z 7, z 8, z 9, z 10, z 11, z 12, z 13, z 14, z 15, z 16, z 17, z 18, z 19, z 20, z 21, z 22, z 23, z 24, z 25, z 26, z 27, z 28, z 29, z 30, z 31, z 32, z 33, z 34, z 35, z 36, z 37, z 38], [], 64⟩
def Qj1 (_g : Val → Val → Int) (_p0 : List Val) (_p1 : List Val) (z : Nat → PV) (zo : Nat → List PV) : St :=
  ⟨[z 0, z 1, z 2, z 3, z 4, z 5, .int .i64 1, z 7, z 8, z 9, z 10, z 11, z 12, z 13, z 14, z 15, z 16, z 17, z 18, z 19, z 20, z 21, z 22, z 23, z 24, z 25, z 26, z 27, z 28, z 29, z 30, z 31, z 32, z 33, z 34, z 35, z 36, z 37, z 38], [(256, ⟨5, 0, true, zo 256⟩)], 768⟩
def Qj8 (_g : Val → Val → Int) (_p0 : List Val) (_p1 : List Val) (q0 : Int) (z : Nat → PV) (zo : Nat → List PV) : St :=
  ⟨[z 0, z 1, z 2, z 3, z 4, z 5, .int .i64 q0, z 7, z 8, z 9, z 10, z 11, z 12, z 13, z 14, z 15, z 16, z 17, z 18, z 19, z 20, z 21, z 22, z 23, z 24, z 25, z 26, z 27, z 28, z 29, z 30, z 31, z 32, z 33, z 34, z 35, z 36, z 37, z 38], [(256, ⟨5, 0, true, zo 256⟩), (960, ⟨5, 0, true, zo 960⟩)], 1664⟩
def Q7j (g : Val → Val → Int) (p0 : List Val) (p1 : List Val) (e : En) : Qs6 → Prop
  | .k0 => ∃ z zo, Q7 G e (.st (.exit 0) (Qj0 g p0 p1 z zo))
  | .k1 => ∃ z zo, Q7 G e (.st .ret (Qj1 g p0 p1 z zo))
  | .k2 q0 => ∃ z zo, Q7 G e (.st .ret (Qj8 g p0 p1 q0 z zo))
theorem Qlv (g : Val → Val → Int) (p0 : List Val) (p1 : List Val) {e e' : En} (h : ∀ r, Q7 G e r → Q7 G e' r) : ∀ q, Q7j g p0 p1 e q → Q7j g p0 p1 e' q
  | .k0, ⟨z, zo, hz⟩ => ⟨z, zo, h _ hz⟩
  | .k1, ⟨z, zo, hz⟩ => ⟨z, zo, h _ hz⟩
  | .k2 _, ⟨z, zo, hz⟩ => ⟨z, zo, h _ hz⟩
def Q7h (_g : Val → Val → Int) (p0 : List Val) (_p1 : List Val) : Prop := (List.length p0 ≤ 4611686018427387904) ∧ True
def Qia (_g : Val → Val → Int) (p0 : List Val) (_p1 : List Val) (i0 : Nat) : List PV :=
  [.un, .un, .fn 49 [] [], .un, .un, .un, .un, .un, .un, .un, .un, .sl (Val.rows p0), .int .i64 ((List.length p0) : Int), .int .i64 (i0 : Int), .bool false]
def Qdg (_g : Val → Val → Int) (_p0 : List Val) (_p1 : List Val) (_i0 : Nat) : List (Nat × List PV) :=
  []
theorem Qw0 (g : Val → Val → Int) (p0 : List Val) (p1 : List Val) (_H : Q7h g p0 p1) (_rec : Q3r g p0) (i0 : Nat) (hc0 : (decide ((i0 : Int) < ((List.length p0) : Int))) = false) : Q7j g p0 p1 (Q7g g p0 p1 i0) (.k0) := by
 exact ⟨(envF (Qia g p0 p1 i0)), (zoF (Qdg g p0 p1 i0)), Qe VOK.nil (x := ((.exit 0), Qj0 g p0 p1 (envF (Qia g p0 p1 i0)) (zoF (Qdg g p0 p1 i0)))) [hB 0 hc0] [] (by kernel_rfl)⟩
def Qi8 (_g : Val → Val → Int) (p0 : List Val) (p1 : List Val) (i0 : Nat) (x0 : Val) : List PV :=
  [.sl (Val.rows p0), .sl (Val.rows p1), .fn 49 [] [], .un, .un, .un, .un, .int .i64 (i0 : Int), .bx 256 0, .un, .un, .sl (Val.rows p0), .int .i64 ((List.length p0) : Int), .int .i64 (i0 : Int), .bool true, .int .i64 (i0 : Int), .rf [.int .i64 x0.kind, .int .i64 x0.n, .str x0.s, .sl (Val.rows x0.list), .sl (Fld.rows x0.fields)], .agg [.int .i64 x0.kind, .int .i64 x0.n, .str x0.s, .sl (Val.rows x0.list), .sl (Fld.rows x0.fields)], .int .i64 (i0 : Int), .sl (Val.rows p1), .int .i64 ((List.length p1) : Int), .bool true]
def Qf9 (_g : Val → Val → Int) (_p0 : List Val) (_p1 : List Val) (_i0 : Nat) (x0 : Val) : List (Nat × List PV) :=
  [(256, [.int .i64 x0.kind, .int .i64 x0.n, .str x0.s, .sl (Val.rows x0.list), .sl (Fld.rows x0.fields)])]
theorem Qxl (g : Val → Val → Int) (p0 : List Val) (p1 : List Val) (_H : Q7h g p0 p1) (_rec : Q3r g p0) (x0 : Val) (i0 : Nat) (hx0 : p0[i0]? = some x0) (_hi0 : i0 < List.length p0) (hc0 : (decide ((i0 : Int) < ((List.length p0) : Int))) = true) (h0 : (decide (((List.length p1) : Int) ≤ (i0 : Int))) = true) : Q7j g p0 p1 (Q7g g p0 p1 i0) (.k1) := by
 exact ⟨(envF (Qi8 g p0 p1 i0 x0)), (zoF (Qf9 g p0 p1 i0 x0)), Qe VOK.nil (x := (.ret, Qj1 g p0 p1 (envF (Qi8 g p0 p1 i0 x0)) (zoF (Qf9 g p0 p1 i0 x0)))) [hB 0 hc0, hP 1 (Q18 5 (Val.rows p0) i0 _ (Val.Qf hx0) rfl), hP 6 (Qi (Val.rows p1) (List.length p1) (Val.Qd p1)), hB 0 h0] [] (by kernel_rfl)⟩
theorem Qvr (g : Val → Val → Int) (p0 : List Val) (p1 : List Val) (H : Q7h g p0 p1) (rec : Q3r g p0) (x0 : Val) (i0 : Nat) (hx0 : p0[i0]? = some x0) (hi0 : i0 < List.length p0) (hc0 : (decide ((i0 : Int) < ((List.length p0) : Int))) = true) (h0 : (decide (((List.length p1) : Int) ≤ (i0 : Int))) = false) (h1 : ((g x0 (List.getD p1 i0 (Val.mk 0 0 (⟨#[]⟩ : ByteArray) [] []))) == 0) = true) {r : Rs} (hr : Q7 G (Q7g g p0 p1 (i0 + 1)) r) : Q7 G (Q7g g p0 p1 i0) r := by
 have hB0 := H.1; have e0 := of_decide_eq_false h0; have e1 := eq_of_beq h1
 exact Q9 VOK.nil (y := (Qms g p0 p1 (i0 + 1), Qnm g p0 p1 (i0 + 1))) [hB 0 hc0, hP 1 (Q18 5 (Val.rows p0) i0 _ (Val.Qf hx0) rfl), hP 6 (Qi (Val.rows p1) (List.length p1) (Val.Qd p1)), hB 0 h0, hP 2 (Qak 5 (Val.rows p1) (i0 : Int) _ (by omega) (Val.Qf (Qu p1 (Int.toNat (i0 : Int)) (Val.mk 0 0 (⟨#[]⟩ : ByteArray) [] []) (by omega))) rfl), hP 9 (dec (!((g x0 (List.getD p1 i0 (Val.mk 0 0 (⟨#[]⟩ : ByteArray) [] []))) == 0)) false (by rw [h1]; rfl)), hP 0 (Qt i0 (by omega))] [aN (rec x0 (Ql hx0) (List.getD p1 i0 (Val.mk 0 0 (⟨#[]⟩ : ByteArray) [] [])))] (by kernel_rfl) hr
def Qir (g : Val → Val → Int) (p0 : List Val) (p1 : List Val) (i0 : Nat) (x0 : Val) : List PV :=
  [.sl (Val.rows p0), .sl (Val.rows p1), .fn 49 [] [], .un, .un, .un, .un, .int .i64 (i0 : Int), .bx 256 0, .bx 960 0, .int .i64 (g x0 (List.getD p1 i0 (Val.mk 0 0 (⟨#[]⟩ : ByteArray) [] []))), .sl (Val.rows p0), .int .i64 ((List.length p0) : Int), .int .i64 (i0 : Int), .bool true, .int .i64 (i0 : Int), .rf [.int .i64 x0.kind, .int .i64 x0.n, .str x0.s, .sl (Val.rows x0.list), .sl (Fld.rows x0.fields)], .agg [.int .i64 x0.kind, .int .i64 x0.n, .str x0.s, .sl (Val.rows x0.list), .sl (Fld.rows x0.fields)], .int .i64 (i0 : Int), .sl (Val.rows p1), .int .i64 ((List.length p1) : Int), .bool false, .sl (Val.rows p1), .int .i64 (i0 : Int), .rf [.int .i64 (List.getD p1 i0 (Val.mk 0 0 (⟨#[]⟩ : ByteArray) [] [])).kind, .int .i64 (List.getD p1 i0 (Val.mk 0 0 (⟨#[]⟩ : ByteArray) [] [])).n, .str (List.getD p1 i0 (Val.mk 0 0 (⟨#[]⟩ : ByteArray) [] [])).s, .sl (Val.rows (List.getD p1 i0 (Val.mk 0 0 (⟨#[]⟩ : ByteArray) [] [])).list), .sl (Fld.rows (List.getD p1 i0 (Val.mk 0 0 (⟨#[]⟩ : ByteArray) [] [])).fields)], .agg [.int .i64 (List.getD p1 i0 (Val.mk 0 0 (⟨#[]⟩ : ByteArray) [] [])).kind, .int .i64 (List.getD p1 i0 (Val.mk 0 0 (⟨#[]⟩ : ByteArray) [] [])).n, .str (List.getD p1 i0 (Val.mk 0 0 (⟨#[]⟩ : ByteArray) [] [])).s, .sl (Val.rows (List.getD p1 i0 (Val.mk 0 0 (⟨#[]⟩ : ByteArray) [] [])).list), .sl (Fld.rows (List.getD p1 i0 (Val.mk 0 0 (⟨#[]⟩ : ByteArray) [] [])).fields)], .fn 49 [] [], .agg [.int .i64 x0.kind, .int .i64 x0.n, .str x0.s, .sl (Val.rows x0.list), .sl (Fld.rows x0.fields)], .agg [.int .i64 (List.getD p1 i0 (Val.mk 0 0 (⟨#[]⟩ : ByteArray) [] [])).kind, .int .i64 (List.getD p1 i0 (Val.mk 0 0 (⟨#[]⟩ : ByteArray) [] [])).n, .str (List.getD p1 i0 (Val.mk 0 0 (⟨#[]⟩ : ByteArray) [] [])).s, .sl (Val.rows (List.getD p1 i0 (Val.mk 0 0 (⟨#[]⟩ : ByteArray) [] [])).list), .sl (Fld.rows (List.getD p1 i0 (Val.mk 0 0 (⟨#[]⟩ : ByteArray) [] [])).fields)], .int .i64 (g x0 (List.getD p1 i0 (Val.mk 0 0 (⟨#[]⟩ : ByteArray) [] []))), .int .i64 (g x0 (List.getD p1 i0 (Val.mk 0 0 (⟨#[]⟩ : ByteArray) [] []))), .bool true, .int .i64 (g x0 (List.getD p1 i0 (Val.mk 0 0 (⟨#[]⟩ : ByteArray) [] [])))]
def Qfm (_g : Val → Val → Int) (_p0 : List Val) (p1 : List Val) (i0 : Nat) (x0 : Val) : List (Nat × List PV) :=
  [(256, [.int .i64 x0.kind, .int .i64 x0.n, .str x0.s, .sl (Val.rows x0.list), .sl (Fld.rows x0.fields)]), (960, [.int .i64 (List.getD p1 i0 (Val.mk 0 0 (⟨#[]⟩ : ByteArray) [] [])).kind, .int .i64 (List.getD p1 i0 (Val.mk 0 0 (⟨#[]⟩ : ByteArray) [] [])).n, .str (List.getD p1 i0 (Val.mk 0 0 (⟨#[]⟩ : ByteArray) [] [])).s, .sl (Val.rows (List.getD p1 i0 (Val.mk 0 0 (⟨#[]⟩ : ByteArray) [] [])).list), .sl (Fld.rows (List.getD p1 i0 (Val.mk 0 0 (⟨#[]⟩ : ByteArray) [] [])).fields)])]
theorem Qvu (g : Val → Val → Int) (p0 : List Val) (p1 : List Val) (H : Q7h g p0 p1) (rec : Q3r g p0) (x0 : Val) (i0 : Nat) (hx0 : p0[i0]? = some x0) (_hi0 : i0 < List.length p0) (hc0 : (decide ((i0 : Int) < ((List.length p0) : Int))) = true) (h0 : (decide (((List.length p1) : Int) ≤ (i0 : Int))) = false) (h1 : ((g x0 (List.getD p1 i0 (Val.mk 0 0 (⟨#[]⟩ : ByteArray) [] []))) == 0) = false) : Q7j g p0 p1 (Q7g g p0 p1 i0) (.k2 (g x0 (List.getD p1 i0 (Val.mk 0 0 (⟨#[]⟩ : ByteArray) [] [])))) := by
 have hB0 := H.1; have e0 := of_decide_eq_false h0; have e1 := beq_eq_false_iff_ne.1 h1
 exact ⟨(envF (Qir g p0 p1 i0 x0)), (zoF (Qfm g p0 p1 i0 x0)), Qe VOK.nil (x := (.ret, Qj8 g p0 p1 (g x0 (List.getD p1 i0 (Val.mk 0 0 (⟨#[]⟩ : ByteArray) [] []))) (envF (Qir g p0 p1 i0 x0)) (zoF (Qfm g p0 p1 i0 x0)))) [hB 0 hc0, hP 1 (Q18 5 (Val.rows p0) i0 _ (Val.Qf hx0) rfl), hP 6 (Qi (Val.rows p1) (List.length p1) (Val.Qd p1)), hB 0 h0, hP 2 (Qak 5 (Val.rows p1) (i0 : Int) _ (by omega) (Val.Qf (Qu p1 (Int.toNat (i0 : Int)) (Val.mk 0 0 (⟨#[]⟩ : ByteArray) [] []) (by omega))) rfl), hP 9 (dec (!((g x0 (List.getD p1 i0 (Val.mk 0 0 (⟨#[]⟩ : ByteArray) [] []))) == 0)) true (by rw [h1]; rfl))] [aN (rec x0 (Ql hx0) (List.getD p1 i0 (Val.mk 0 0 (⟨#[]⟩ : ByteArray) [] [])))] (by kernel_rfl)⟩
theorem Qmk (g : Val → Val → Int) (p0 : List Val) (p1 : List Val) (H : Q7h g p0 p1) (rec : Q3r g p0) : ∀ (r0 : List Val) (i0 : Nat), List.drop i0 p0 = r0 → Q7j g p0 p1 (Q7g g p0 p1 i0) (Q3x g p0 p1 r0 i0)
 | [], i0, hd => by
  have hc0 : (decide ((i0 : Int) < ((List.length p0) : Int))) = false := by have := Q1k hd; simp; omega
  rw [Q3x]
  exact Qw0 g p0 p1 H rec i0 hc0
 | x0 :: r0, i0, hd => by
  obtain ⟨hx0, hi0, hd'⟩ := Q15 hd
  have hc0 : (decide ((i0 : Int) < ((List.length p0) : Int))) = true := by simp; omega
  rw [Q3x]
  cases h0 : (decide (((List.length p1) : Int) ≤ (i0 : Int))) with
  | true =>
   exact Qxl g p0 p1 H rec x0 i0 hx0 hi0 hc0 h0
  | false =>
   cases h1 : ((g x0 (List.getD p1 i0 (Val.mk 0 0 (⟨#[]⟩ : ByteArray) [] []))) == 0) with
   | true =>
    exact Qlv g p0 p1 (fun r hr => Qvr g p0 p1 H rec x0 i0 hx0 hi0 hc0 h0 h1 hr) _ (Qmk g p0 p1 H rec r0 (i0 + 1) hd')
   | false =>
    exact Qvu g p0 p1 H rec x0 i0 hx0 hi0 hc0 h0 h1
def Q5b (g : Val → Val → Int) (p0 : List Val) (p1 : List Val) : Int :=
 (match (Q3x g p0 p1 p0 0) with
 | .k0 => bif (decide (((List.length p0) : Int) < ((List.length p1) : Int))) then
   (-1)
  else
   0
 | .k1 => 1
 | .k2 y0_0 => y0_0)
def Q12g (p0 : List Val) (p1 : List Val) : En := .call 61 [.sl (Val.rows p0), .sl (Val.rows p1), .fn 49 [] []] []
def Qot (g : Val → Val → Int) (p0 : List Val) (p1 : List Val) : Rs := .ret (.int .i64 (Q5b g p0 p1)) []
def Qmz (g : Val → Val → Int) (p0 : List Val) (p1 : List Val) : Prop := (Q7h g p0 p1) ∧ True
theorem Qzj (g : Val → Val → Int) (p0 : List Val) (p1 : List Val) (H : Qmz g p0 p1) (rec : Q3r g p0) : Q7 G (Q12g p0 p1) (Qot g p0 p1) := by
 unfold Qot Q5b
 have hl0 := Qmk g p0 p1 (H.1) rec p0 0 (by simp)
 cases hr0 : (Q3x g p0 p1 p0 0) with
 | k0 =>
  rw [hr0] at hl0
  obtain ⟨z0, zo0, hl0⟩ := hl0
  try dsimp only
  cases h0 : (decide (((List.length p0) : Int) < ((List.length p1) : Int))) with
  | true =>
   exact Q8 (fn := Ir.K16) rfl VOK.nil [hP 2 (Qi (Val.rows p0) (List.length p0) (Val.Qd p0)), hP 2 (Qi (Val.rows p0) (List.length p0) (Val.Qd p0)), hP 1 (Qi (Val.rows p1) (List.length p1) (Val.Qd p1)), hB 0 h0] [aN hl0] (by kernel_rfl)
  | false =>
   exact Q8 (fn := Ir.K16) rfl VOK.nil [hP 2 (Qi (Val.rows p0) (List.length p0) (Val.Qd p0)), hP 2 (Qi (Val.rows p0) (List.length p0) (Val.Qd p0)), hP 1 (Qi (Val.rows p1) (List.length p1) (Val.Qd p1)), hB 0 h0] [aN hl0] (by kernel_rfl)
 | k1 =>
  rw [hr0] at hl0
  obtain ⟨z0, zo0, hl0⟩ := hl0
  exact Q8 (fn := Ir.K16) rfl VOK.nil [hP 2 (Qi (Val.rows p0) (List.length p0) (Val.Qd p0))] [aN hl0] (by kernel_rfl)
 | k2 y0_0 =>
  rw [hr0] at hl0
  obtain ⟨z0, zo0, hl0⟩ := hl0
  exact Q8 (fn := Ir.K16) rfl VOK.nil [hP 2 (Qi (Val.rows p0) (List.length p0) (Val.Qd p0))] [aN hl0] (by kernel_rfl)
def Q3p (g : Fld → Fld → Int) (p0 : List Fld) : Prop := ∀ x ∈ p0, ∀ y : Fld, Q7 G (.call 63 [.agg (Fld.cells x), .agg (Fld.cells y)] []) (.ret (.int .i64 (g x y)) [])
inductive Qu2 where
  | k0
  | k1
  | k2 (q0 : Int)
def Q3y (g : Fld → Fld → Int) (p0 : List Fld) (p1 : List Fld) : List Fld → Nat → Qu2
 | [], _i0 =>
  (.k0)
 | x0 :: r0, i0 =>
  bif (decide (((List.length p1) : Int) ≤ (i0 : Int))) then
   (.k1)
  else
   bif ((g x0 (List.getD p1 i0 zF)) == 0) then
    Q3y g p0 p1 r0 (i0 + 1)
   else
    (.k2 (g x0 (List.getD p1 i0 zF)))
def Qmp (_g : Fld → Fld → Int) (p0 : List Fld) (p1 : List Fld) (i0 : Nat) : List PV :=
  [.sl (Fld.rows p0), .sl (Fld.rows p1), .fn 63 [] [], .un, .un, .un, .un, .un, .un, .un, .un, .sl (Fld.rows p0), .int .i64 ((List.length p0) : Int), .int .i64 (i0 : Int), .un, .un, .un, .un, .un, .un, .un, .un, .un, .un, .un, .un, .un, .un, .un, .un, .un, .un, .un, .un, .un, .un, .un, .un, .un]
def Qns (_g : Fld → Fld → Int) (_p0 : List Fld) (_p1 : List Fld) (_i0 : Nat) : List Ob :=
  []
def Q7f (g : Fld → Fld → Int) (p0 : List Fld) (p1 : List Fld) (i0 : Nat) : En := .loop 0 Ir.Qfp Ir.Q141 (Qmp g p0 p1 i0) (Qns g p0 p1 i0)
def Qhq (_g : Fld → Fld → Int) (p0 : List Fld) (p1 : List Fld) (z : Nat → PV) (_zo : Nat → List PV) : St :=
  ⟨[.sl (Fld.rows p0), .sl (Fld.rows p1), z 2, z 3, z 4, z 5, z 6, z 7, z 8, z 9, z 10, z 11, z 12, z 13, z 14, z 15, z 16, z 17, z 18, z 19, z 20, z 21, z 22, z 23, z 24, z 25, z 26, z 27, z 28, z 29, z 30, z 31, z 32, z 33, z 34, z 35, z 36, z 37, z 38], [], 64⟩
def Qhb (_g : Fld → Fld → Int) (_p0 : List Fld) (_p1 : List Fld) (z : Nat → PV) (zo : Nat → List PV) : St :=
  ⟨[z 0, z 1, z 2, z 3, z 4, z 5, .int .i64 1, z 7, z 8, z 9, z 10, z 11, z 12, z 13, z 14, z 15, z 16, z 17, z 18, z 19, z 20, z 21, z 22, z 23, z 24, z 25, z 26, z 27, z 28, z 29, z 30, z 31, z 32, z 33, z 34, z 35, z 36, z 37, z 38], [(256, ⟨6, 0, true, zo 256⟩)], 768⟩
def Qjl (_g : Fld → Fld → Int) (_p0 : List Fld) (_p1 : List Fld) (q0 : Int) (z : Nat → PV) (zo : Nat → List PV) : St :=
  ⟨[z 0, z 1, z 2, z 3, z 4, z 5, .int .i64 q0, z 7, z 8, z 9, z 10, z 11, z 12, z 13, z 14, z 15, z 16, z 17, z 18, z 19, z 20, z 21, z 22, z 23, z 24, z 25, z 26, z 27, z 28, z 29, z 30, z 31, z 32, z 33, z 34, z 35, z 36, z 37, z 38], [(256, ⟨6, 0, true, zo 256⟩), (960, ⟨6, 0, true, zo 960⟩)], 1664⟩
def Q6z (g : Fld → Fld → Int) (p0 : List Fld) (p1 : List Fld) (e : En) : Qu2 → Prop
  | .k0 => ∃ z zo, Q7 G e (.st (.exit 0) (Qhq g p0 p1 z zo))
  | .k1 => ∃ z zo, Q7 G e (.st .ret (Qhb g p0 p1 z zo))
  | .k2 q0 => ∃ z zo, Q7 G e (.st .ret (Qjl g p0 p1 q0 z zo))
theorem Qla (g : Fld → Fld → Int) (p0 : List Fld) (p1 : List Fld) {e e' : En} (h : ∀ r, Q7 G e r → Q7 G e' r) : ∀ q, Q6z g p0 p1 e q → Q6z g p0 p1 e' q
  | .k0, ⟨z, zo, hz⟩ => ⟨z, zo, h _ hz⟩
  | .k1, ⟨z, zo, hz⟩ => ⟨z, zo, h _ hz⟩
  | .k2 _, ⟨z, zo, hz⟩ => ⟨z, zo, h _ hz⟩
def Q6v (_g : Fld → Fld → Int) (p0 : List Fld) (_p1 : List Fld) : Prop := (List.length p0 ≤ 4611686018427387904) ∧ True
def Qha (_g : Fld → Fld → Int) (p0 : List Fld) (_p1 : List Fld) (i0 : Nat) : List PV :=
  [.un, .un, .fn 63 [] [], .un, .un, .un, .un, .un, .un, .un, .un, .sl (Fld.rows p0), .int .i64 ((List.length p0) : Int), .int .i64 (i0 : Int), .bool false]
def Qfa (_g : Fld → Fld → Int) (_p0 : List Fld) (_p1 : List Fld) (_i0 : Nat) : List (Nat × List PV) :=
  []
theorem Qw2 (g : Fld → Fld → Int) (p0 : List Fld) (p1 : List Fld) (_H : Q6v g p0 p1) (_rec : Q3p g p0) (i0 : Nat) (hc0 : (decide ((i0 : Int) < ((List.length p0) : Int))) = false) : Q6z g p0 p1 (Q7f g p0 p1 i0) (.k0) := by
 exact ⟨(envF (Qha g p0 p1 i0)), (zoF (Qfa g p0 p1 i0)), Qe VOK.nil (x := ((.exit 0), Qhq g p0 p1 (envF (Qha g p0 p1 i0)) (zoF (Qfa g p0 p1 i0)))) [hB 0 hc0] [] (by kernel_rfl)⟩
def Qhj (_g : Fld → Fld → Int) (p0 : List Fld) (p1 : List Fld) (i0 : Nat) (x0 : Fld) : List PV :=
  [.sl (Fld.rows p0), .sl (Fld.rows p1), .fn 63 [] [], .un, .un, .un, .un, .int .i64 (i0 : Int), .bx 256 0, .un, .un, .sl (Fld.rows p0), .int .i64 ((List.length p0) : Int), .int .i64 (i0 : Int), .bool true, .int .i64 (i0 : Int), .rf [.str x0.name, .int .i64 x0.v.kind, .int .i64 x0.v.n, .str x0.v.s, .sl (Val.rows x0.v.list), .sl (Fld.rows x0.v.fields)], .agg [.str x0.name, .int .i64 x0.v.kind, .int .i64 x0.v.n, .str x0.v.s, .sl (Val.rows x0.v.list), .sl (Fld.rows x0.v.fields)], .int .i64 (i0 : Int), .sl (Fld.rows p1), .int .i64 ((List.length p1) : Int), .bool true]
def Qfn (_g : Fld → Fld → Int) (_p0 : List Fld) (_p1 : List Fld) (_i0 : Nat) (x0 : Fld) : List (Nat × List PV) :=
  [(256, [.str x0.name, .int .i64 x0.v.kind, .int .i64 x0.v.n, .str x0.v.s, .sl (Val.rows x0.v.list), .sl (Fld.rows x0.v.fields)])]
theorem Qw9 (g : Fld → Fld → Int) (p0 : List Fld) (p1 : List Fld) (_H : Q6v g p0 p1) (_rec : Q3p g p0) (x0 : Fld) (i0 : Nat) (hx0 : p0[i0]? = some x0) (_hi0 : i0 < List.length p0) (hc0 : (decide ((i0 : Int) < ((List.length p0) : Int))) = true) (h0 : (decide (((List.length p1) : Int) ≤ (i0 : Int))) = true) : Q6z g p0 p1 (Q7f g p0 p1 i0) (.k1) := by
 exact ⟨(envF (Qhj g p0 p1 i0 x0)), (zoF (Qfn g p0 p1 i0 x0)), Qe VOK.nil (x := (.ret, Qhb g p0 p1 (envF (Qhj g p0 p1 i0 x0)) (zoF (Qfn g p0 p1 i0 x0)))) [hB 0 hc0, hP 1 (Q18 6 (Fld.rows p0) i0 _ (Fld.Qf hx0) rfl), hP 6 (Qi (Fld.rows p1) (List.length p1) (Fld.Qd p1)), hB 0 h0] [] (by kernel_rfl)⟩
theorem Quj (g : Fld → Fld → Int) (p0 : List Fld) (p1 : List Fld) (H : Q6v g p0 p1) (rec : Q3p g p0) (x0 : Fld) (i0 : Nat) (hx0 : p0[i0]? = some x0) (hi0 : i0 < List.length p0) (hc0 : (decide ((i0 : Int) < ((List.length p0) : Int))) = true) (h0 : (decide (((List.length p1) : Int) ≤ (i0 : Int))) = false) (h1 : ((g x0 (List.getD p1 i0 zF)) == 0) = true) {r : Rs} (hr : Q7 G (Q7f g p0 p1 (i0 + 1)) r) : Q7 G (Q7f g p0 p1 i0) r := by
 have hB0 := H.1; have e0 := of_decide_eq_false h0; have e1 := eq_of_beq h1
 exact Q9 VOK.nil (y := (Qmp g p0 p1 (i0 + 1), Qns g p0 p1 (i0 + 1))) [hB 0 hc0, hP 1 (Q18 6 (Fld.rows p0) i0 _ (Fld.Qf hx0) rfl), hP 6 (Qi (Fld.rows p1) (List.length p1) (Fld.Qd p1)), hB 0 h0, hP 2 (Qak 6 (Fld.rows p1) (i0 : Int) _ (by omega) (Fld.Qf (Qu p1 (Int.toNat (i0 : Int)) zF (by omega))) rfl), hP 9 (dec (!((g x0 (List.getD p1 i0 zF)) == 0)) false (by rw [h1]; rfl)), hP 0 (Qt i0 (by omega))] [aN (rec x0 (Ql hx0) (List.getD p1 i0 zF))] (by kernel_rfl) hr
def Qi4 (g : Fld → Fld → Int) (p0 : List Fld) (p1 : List Fld) (i0 : Nat) (x0 : Fld) : List PV :=
  [.sl (Fld.rows p0), .sl (Fld.rows p1), .fn 63 [] [], .un, .un, .un, .un, .int .i64 (i0 : Int), .bx 256 0, .bx 960 0, .int .i64 (g x0 (List.getD p1 i0 zF)), .sl (Fld.rows p0), .int .i64 ((List.length p0) : Int), .int .i64 (i0 : Int), .bool true, .int .i64 (i0 : Int), .rf [.str x0.name, .int .i64 x0.v.kind, .int .i64 x0.v.n, .str x0.v.s, .sl (Val.rows x0.v.list), .sl (Fld.rows x0.v.fields)], .agg [.str x0.name, .int .i64 x0.v.kind, .int .i64 x0.v.n, .str x0.v.s, .sl (Val.rows x0.v.list), .sl (Fld.rows x0.v.fields)], .int .i64 (i0 : Int), .sl (Fld.rows p1), .int .i64 ((List.length p1) : Int), .bool false, .sl (Fld.rows p1), .int .i64 (i0 : Int), .rf [.str (List.getD p1 i0 zF).name, .int .i64 (List.getD p1 i0 zF).v.kind, .int .i64 (List.getD p1 i0 zF).v.n, .str (List.getD p1 i0 zF).v.s, .sl (Val.rows (List.getD p1 i0 zF).v.list), .sl (Fld.rows (List.getD p1 i0 zF).v.fields)], .agg [.str (List.getD p1 i0 zF).name, .int .i64 (List.getD p1 i0 zF).v.kind, .int .i64 (List.getD p1 i0 zF).v.n, .str (List.getD p1 i0 zF).v.s, .sl (Val.rows (List.getD p1 i0 zF).v.list), .sl (Fld.rows (List.getD p1 i0 zF).v.fields)], .fn 63 [] [], .agg [.str x0.name, .int .i64 x0.v.kind, .int .i64 x0.v.n, .str x0.v.s, .sl (Val.rows x0.v.list), .sl (Fld.rows x0.v.fields)], .agg [.str (List.getD p1 i0 zF).name, .int .i64 (List.getD p1 i0 zF).v.kind, .int .i64 (List.getD p1 i0 zF).v.n, .str (List.getD p1 i0 zF).v.s, .sl (Val.rows (List.getD p1 i0 zF).v.list), .sl (Fld.rows (List.getD p1 i0 zF).v.fields)], .int .i64 (g x0 (List.getD p1 i0 zF)), .int .i64 (g x0 (List.getD p1 i0 zF)), .bool true, .int .i64 (g x0 (List.getD p1 i0 zF))]
def Qfw (_g : Fld → Fld → Int) (_p0 : List Fld) (p1 : List Fld) (i0 : Nat) (x0 : Fld) : List (Nat × List PV) :=
  [(256, [.str x0.name, .int .i64 x0.v.kind, .int .i64 x0.v.n, .str x0.v.s, .sl (Val.rows x0.v.list), .sl (Fld.rows x0.v.fields)]), (960, [.str (List.getD p1 i0 zF).name, .int .i64 (List.getD p1 i0 zF).v.kind, .int .i64 (List.getD p1 i0 zF).v.n, .str (List.getD p1 i0 zF).v.s, .sl (Val.rows (List.getD p1 i0 zF).v.list), .sl (Fld.rows (List.getD p1 i0 zF).v.fields)])]
theorem Qx0 (g : Fld → Fld → Int) (p0 : List Fld) (p1 : List Fld) (H : Q6v g p0 p1) (rec : Q3p g p0) (x0 : Fld) (i0 : Nat) (hx0 : p0[i0]? = some x0) (_hi0 : i0 < List.length p0) (hc0 : (decide ((i0 : Int) < ((List.length p0) : Int))) = true) (h0 : (decide (((List.length p1) : Int) ≤ (i0 : Int))) = false) (h1 : ((g x0 (List.getD p1 i0 zF)) == 0) = false) : Q6z g p0 p1 (Q7f g p0 p1 i0) (.k2 (g x0 (List.getD p1 i0 zF))) := by
 have hB0 := H.1; have e0 := of_decide_eq_false h0; have e1 := beq_eq_false_iff_ne.1 h1
 exact ⟨(envF (Qi4 g p0 p1 i0 x0)), (zoF (Qfw g p0 p1 i0 x0)), Qe VOK.nil (x := (.ret, Qjl g p0 p1 (g x0 (List.getD p1 i0 zF)) (envF (Qi4 g p0 p1 i0 x0)) (zoF (Qfw g p0 p1 i0 x0)))) [hB 0 hc0, hP 1 (Q18 6 (Fld.rows p0) i0 _ (Fld.Qf hx0) rfl), hP 6 (Qi (Fld.rows p1) (List.length p1) (Fld.Qd p1)), hB 0 h0, hP 2 (Qak 6 (Fld.rows p1) (i0 : Int) _ (by omega) (Fld.Qf (Qu p1 (Int.toNat (i0 : Int)) zF (by omega))) rfl), hP 9 (dec (!((g x0 (List.getD p1 i0 zF)) == 0)) true (by rw [h1]; rfl))] [aN (rec x0 (Ql hx0) (List.getD p1 i0 zF))] (by kernel_rfl)⟩
theorem Qnl (g : Fld → Fld → Int) (p0 : List Fld) (p1 : List Fld) (H : Q6v g p0 p1) (rec : Q3p g p0) : ∀ (r0 : List Fld) (i0 : Nat), List.drop i0 p0 = r0 → Q6z g p0 p1 (Q7f g p0 p1 i0) (Q3y g p0 p1 r0 i0)
 | [], i0, hd => by
  have hc0 : (decide ((i0 : Int) < ((List.length p0) : Int))) = false := by have := Q1k hd; simp; omega
  rw [Q3y]
  exact Qw2 g p0 p1 H rec i0 hc0
 | x0 :: r0, i0, hd => by
  obtain ⟨hx0, hi0, hd'⟩ := Q15 hd
  have hc0 : (decide ((i0 : Int) < ((List.length p0) : Int))) = true := by simp; omega
  rw [Q3y]
  cases h0 : (decide (((List.length p1) : Int) ≤ (i0 : Int))) with
  | true =>
   exact Qw9 g p0 p1 H rec x0 i0 hx0 hi0 hc0 h0
  | false =>
   cases h1 : ((g x0 (List.getD p1 i0 zF)) == 0) with
   | true =>
    exact Qla g p0 p1 (fun r hr => Quj g p0 p1 H rec x0 i0 hx0 hi0 hc0 h0 h1 hr) _ (Qnl g p0 p1 H rec r0 (i0 + 1) hd')
   | false =>
    exact Qx0 g p0 p1 H rec x0 i0 hx0 hi0 hc0 h0 h1
def Q5k (g : Fld → Fld → Int) (p0 : List Fld) (p1 : List Fld) : Int :=
 (match (Q3y g p0 p1 p0 0) with
 | .k0 => bif (decide (((List.length p0) : Int) < ((List.length p1) : Int))) then
   (-1)
  else
   0
 | .k1 => 1
 | .k2 y0_0 => y0_0)
def Q10f (p0 : List Fld) (p1 : List Fld) : En := .call 62 [.sl (Fld.rows p0), .sl (Fld.rows p1), .fn 63 [] []] []
def Qqr (g : Fld → Fld → Int) (p0 : List Fld) (p1 : List Fld) : Rs := .ret (.int .i64 (Q5k g p0 p1)) []
def Qon (g : Fld → Fld → Int) (p0 : List Fld) (p1 : List Fld) : Prop := (Q6v g p0 p1) ∧ True
theorem Qyl (g : Fld → Fld → Int) (p0 : List Fld) (p1 : List Fld) (H : Qon g p0 p1) (rec : Q3p g p0) : Q7 G (Q10f p0 p1) (Qqr g p0 p1) := by
 unfold Qqr Q5k
 have hl0 := Qnl g p0 p1 (H.1) rec p0 0 (by simp)
 cases hr0 : (Q3y g p0 p1 p0 0) with
 | k0 =>
  rw [hr0] at hl0
  obtain ⟨z0, zo0, hl0⟩ := hl0
  try dsimp only
  cases h0 : (decide (((List.length p0) : Int) < ((List.length p1) : Int))) with
  | true =>
   exact Q8 (fn := Ir.K17) rfl VOK.nil [hP 2 (Qi (Fld.rows p0) (List.length p0) (Fld.Qd p0)), hP 2 (Qi (Fld.rows p0) (List.length p0) (Fld.Qd p0)), hP 1 (Qi (Fld.rows p1) (List.length p1) (Fld.Qd p1)), hB 0 h0] [aN hl0] (by kernel_rfl)
  | false =>
   exact Q8 (fn := Ir.K17) rfl VOK.nil [hP 2 (Qi (Fld.rows p0) (List.length p0) (Fld.Qd p0)), hP 2 (Qi (Fld.rows p0) (List.length p0) (Fld.Qd p0)), hP 1 (Qi (Fld.rows p1) (List.length p1) (Fld.Qd p1)), hB 0 h0] [aN hl0] (by kernel_rfl)
 | k1 =>
  rw [hr0] at hl0
  obtain ⟨z0, zo0, hl0⟩ := hl0
  exact Q8 (fn := Ir.K17) rfl VOK.nil [hP 2 (Qi (Fld.rows p0) (List.length p0) (Fld.Qd p0))] [aN hl0] (by kernel_rfl)
 | k2 y0_0 =>
  rw [hr0] at hl0
  obtain ⟨z0, zo0, hl0⟩ := hl0
  exact Q8 (fn := Ir.K17) rfl VOK.nil [hP 2 (Qi (Fld.rows p0) (List.length p0) (Fld.Qd p0))] [aN hl0] (by kernel_rfl)
theorem Q14o (p0 p1 : List Val) : ∀ (l : List Val) (i : Nat), p0.length = i + l.length → (match Q3x Q2h p0 p1 l i with | .k0 => bif decide (((List.length p0) : Int) < ((List.length p1) : Int)) then (-1 : Int) else 0 | .k1 => 1 | .k2 q => q) = lcV l (p1.drop i)
  | [], i, h => by
    rw [Q3x]
    simp only [List.length_nil, Nat.add_zero] at h
    cases e : p1.drop i with
    | nil =>
      have := List.drop_eq_nil_iff.1 e
      rw [lcV, show decide (((List.length p0) : Int) < ((List.length p1) : Int)) = false by simp; omega]
      rfl
    | cons y m =>
      have : i < p1.length := by
        apply Decidable.byContradiction
        intro hn
        rw [List.drop_eq_nil_of_le (by omega)] at e
        cases e
      rw [lcV, show decide (((List.length p0) : Int) < ((List.length p1) : Int)) = true by simp; omega]
      rfl
  | x :: l, i, h => by
    rw [Q3x]
    by_cases c : p1.length ≤ i
    · rw [show decide (((List.length p1) : Int) ≤ (i : Int)) = true by simpa using c, cond_true, List.drop_eq_nil_of_le c, lcV]
    · rw [show decide (((List.length p1) : Int) ≤ (i : Int)) = false by simpa using c, cond_false]
      have hl : i < p1.length := by omega
      rw [List.drop_eq_getElem_cons hl, lcV, List.getD_eq_getElem?_getD, List.getElem?_eq_getElem hl, Option.getD_some]
      cases Q2h x p1[i] == 0 with
      | true => exact Q14o p0 p1 l (i + 1) (by simp at h; omega)
      | false => rfl
theorem eqV (p0 p1 : List Val) : lcV p0 p1 = Q5b Q2h p0 p1 := by
  have h := Q14o p0 p1 p0 0 (by simp)
  rw [List.drop_zero] at h
  rw [← h]
  unfold Q5b
  cases Q3x Q2h p0 p1 p0 0 <;> rfl
theorem Q14g (p0 p1 : List Fld) : ∀ (l : List Fld) (i : Nat), p0.length = i + l.length → (match Q3y Qgb p0 p1 l i with | .k0 => bif decide (((List.length p0) : Int) < ((List.length p1) : Int)) then (-1 : Int) else 0 | .k1 => 1 | .k2 q => q) = lcF l (p1.drop i)
  | [], i, h => by
    rw [Q3y]
    simp only [List.length_nil, Nat.add_zero] at h
    cases e : p1.drop i with
    | nil =>
      have := List.drop_eq_nil_iff.1 e
      rw [lcF, show decide (((List.length p0) : Int) < ((List.length p1) : Int)) = false by simp; omega]
      rfl
    | cons y m =>
      have : i < p1.length := by
        apply Decidable.byContradiction
        intro hn
        rw [List.drop_eq_nil_of_le (by omega)] at e
        cases e
      rw [lcF, show decide (((List.length p0) : Int) < ((List.length p1) : Int)) = true by simp; omega]
      rfl
  | x :: l, i, h => by
    rw [Q3y]
    by_cases c : p1.length ≤ i
    · rw [show decide (((List.length p1) : Int) ≤ (i : Int)) = true by simpa using c, cond_true, List.drop_eq_nil_of_le c, lcF]
    · rw [show decide (((List.length p1) : Int) ≤ (i : Int)) = false by simpa using c, cond_false]
      have hl : i < p1.length := by omega
      rw [List.drop_eq_getElem_cons hl, lcF, List.getD_eq_getElem?_getD, List.getElem?_eq_getElem hl, Option.getD_some, Qgb]
      cases s_K1 [Qb1 x.name p1[i].name, Q2h x.v p1[i].v] == 0 with
      | true => exact Q14g p0 p1 l (i + 1) (by simp at h; omega)
      | false => rfl
theorem eqF (p0 p1 : List Fld) : lcF p0 p1 = Q5k Qgb p0 p1 := by
  have h := Q14g p0 p1 p0 0 (by simp)
  rw [List.drop_zero] at h
  rw [← h]
  unfold Q5k
  cases Q3y Qgb p0 p1 p0 0 <;> rfl
theorem Q19z (p0 : Val) (p1 : Val) : Q2h p0 p1 = ((s_K1 ([(s_K0 p0.kind p1.kind), (s_K0 p0.n p1.n), (Qb1 p0.s p1.s), (Q5b Q2h p0.list p1.list), (Q5k Qgb p0.fields p1.fields)]))) := by
  rw [Q2h, eqV, eqF]
abbrev Qxp (p0 : Val) : Prop := Val.Sm 4611686018427387904 p0
def Q15x (p0 : Val) : Prop := ∀ (q : Val), SizeOf.sizeOf q < SizeOf.sizeOf p0 → ∀ (p1 : Val), Qxp q → Q7 G (Qz1 q p1) (Qx1 q p1)
theorem Qtq (p0 : Val) (p1 : Val) (H : Qxp p0) : (Qmz Q2h p0.list p1.list) ∧ (Qon Qgb p0.fields p1.fields) ∧ True := by
  obtain ⟨h1, h2, h3, h4⟩ := H.all
  exact ⟨⟨⟨h1, trivial⟩, trivial⟩, ⟨⟨h2, trivial⟩, trivial⟩, trivial⟩
theorem Q1ac (p0 : Val) (p1 : Val) (H : Qxp p0) (rec : Q15x p0) : Q7 G (Qz1 p0 p1) (Qx1 p0 p1) := by
  unfold Qx1
  rw [Q19z]
  exact Q8 (fn := Ir.K1h) rfl VOK.nil [] [aN (t_K0 p0.kind p1.kind), aN (t_K0 p0.n p1.n), aN (Q164 p0.s p1.s), aN (Qzj Q2h p0.list p1.list (Qtq p0 p1 H).1 (fun x hx y => rec x (szM hx) y (H.all.2.2.1 x hx))), aN (Qyl Qgb p0.fields p1.fields (Qtq p0 p1 H).2.1 (fun x hx y => Q19d x y (rec x.v (szN hx) y.v (H.all.2.2.2 x hx)))), aN (t_K1 ([(s_K0 p0.kind p1.kind), (s_K0 p0.n p1.n), (Qb1 p0.s p1.s), (Q5b Q2h p0.list p1.list), (Q5k Qgb p0.fields p1.fields)]) (by simp [H_K1, Q7y]))] (by kernel_rfl)
theorem Q172 : ∀ (k : Nat) (p0 : Val), SizeOf.sizeOf p0 < k → ∀ (p1 : Val), Qxp p0 → Q7 G (Qz1 p0 p1) (Qx1 p0 p1)
  | 0, _, h, _, _ => absurd h (Nat.not_lt_zero _)
  | k + 1, p0, h, p1, H => Q1ac p0 p1 H (fun q hq p1 hH => Q172 k q (by omega) p1 hH)
theorem Q1af (p0 : Val) (p1 : Val) (H : Qxp p0) : Q7 G (Qz1 p0 p1) (Qx1 p0 p1) := Q172 _ p0 (Nat.lt_succ_self _) p1 H
def Q5o (p0 : Val) (p1 : Val) : Bool :=
 ((Q2h p0 p1) == 0)
def Q1as (p0 : Val) (p1 : Val) : En := .call 34 [.agg (Val.cells p0), .agg (Val.cells p1)] []
def Q18p (p0 : Val) (p1 : Val) : Rs := .ret (.bool (Q5o p0 p1)) []
def Q15i (p0 : Val) (_p1 : Val) : Prop := (Qxp p0) ∧ True
theorem Q13z (p0 : Val) (p1 : Val) (H : Q15i p0 p1) : Q7 G (Q1as p0 p1) (Q18p p0 p1) := by
 unfold Q18p Q5o
 exact Q8 (fn := Ir.K1j) rfl VOK.nil [] [aN (Q1af p0 p1 H.1)] (by kernel_rfl)
end Go.Proofs.Ytnhhddbbppbblaa
end

section
/- Parts of a slice of one's own, and appends of them. -/
namespace Go.Pv
def slmE (id sz n : Nat) (lo hi : Option Int) : Option Eff := (opP (fun _ => .un) (.slice sz (.c (.ms id sz 0 n)) (optI lo) (optI hi) none)).bind fun v => some ⟨v, [], []⟩
theorem Q13c (id sz n : Nat) (k : Int) (h0 : 0 ≤ k) (h1 : k ≤ (n : Int)) : slmE id sz n none (some k) = some (vE (.ms id sz 0 k.toNat)) := by
  unfold slmE
  simp only [opP, optI, Opd.ev, Q3m, asNat, Option.bind_some]
  have e0 : decide (0 ≤ k) = true := by simpa using h0
  rw [e0]
  simp only [cond_true, Option.bind_some]
  have e1 : (Nat.beq sz sz && Nat.ble 0 k.toNat && Nat.ble k.toNat n) = true := by
    rw [Nat.ble_eq_true_of_le (Nat.zero_le _), Nat.ble_eq_true_of_le (show k.toNat ≤ n by omega), Nat.beq_refl]
    rfl
  rw [e1]
  simp [vE]
theorem Q13o (id sz n : Nat) (k : Int) (h0 : 0 ≤ k) (h1 : k ≤ (n : Int)) : slmE id sz n (some k) none = some (vE (.ms id sz k.toNat (n - k.toNat))) := by
  unfold slmE
  simp only [opP, optI, Opd.ev, Q3m, asNat, Option.bind_some]
  have e0 : decide (0 ≤ k) = true := by simpa using h0
  rw [e0]
  simp only [cond_true, Option.bind_some]
  have e1 : (Nat.beq sz sz && Nat.ble k.toNat n && Nat.ble n n) = true := by
    rw [Nat.ble_eq_true_of_le (show k.toNat ≤ n by omega), Nat.ble_eq_true_of_le (Nat.le_refl n), Nat.beq_refl]
    rfl
  rw [e1]
  simp [vE]
end Go.Pv
end

section
/- Slices that are made with a length: their rows. -/
namespace Go.Pv
end Go.Pv
end

section
/- Rows of one's own: cleared behind a place, appended to from a place on. -/
namespace Go.Pv
theorem Qff {sz : Nat} : ∀ (rows : List (List PV)) (k : Nat), (∀ r ∈ rows, r.length = sz) → rows.flatten.take (k * sz) = (rows.take k).flatten
  | [], k, _ => by simp
  | r :: rs, 0, _ => by simp
  | r :: rs, k + 1, h => by
    have hr := h r List.mem_cons_self
    rw [List.flatten_cons, List.take_succ_cons, List.flatten_cons, ← Qff rs k (fun q hq => h q (List.mem_cons_of_mem _ hq)), show (k + 1) * sz = r.length + k * sz by rw [hr, Nat.add_mul]; omega, List.take_length_add_append]
theorem Que (z : List PV) : ∀ n : Nat, rep z n = (List.replicate n z).flatten
  | 0 => rfl
  | n + 1 => by rw [rep, Que z n, List.replicate_succ, List.flatten_cons]
def clrE (id sz : Nat) (gr : Bool) (cells z : List PV) (K n : Nat) : Option Eff := Q81 (look [(id, ⟨sz, 0, gr, cells⟩)]) sz z (.ms id sz K n)
theorem Q16o (id sz : Nat) (gr : Bool) (rows rows' : List (List PV)) (K n : Nat) (z : List PV) (hs : ∀ r ∈ rows, r.length = sz) (hl : K + n = rows.length) (hn : 0 < n) (hr : rows' = rows.take K) (hz : z.length = sz := by rfl) :
    clrE id sz gr rows.flatten z K n = some ⟨.tup [], [(id, some ⟨sz, 0, gr, rows'.flatten⟩)], [id]⟩ := by
  subst hr
  obtain ⟨k, rfl⟩ : ∃ k, n = k + 1 := ⟨n - 1, by omega⟩
  have h1 : (rep z (k + 1)).length = (k + 1) * sz := by
    rw [Que, Q3b sz _ (fun r hr => by rw [(List.mem_replicate.1 hr).2]; exact hz), List.length_replicate]
  have h2 : rows.flatten.length = rows.length * sz := Q3b sz rows hs
  have h3 : K * sz + (k + 1) * sz = rows.flatten.length := by rw [h2, ← hl, ← Nat.add_mul]
  unfold clrE Q81 clC
  simp only [look, Nat.beq_refl, cond_true, Option.bind_some, hz]
  rw [Nat.ble_eq_true_of_le (Nat.zero_le _), Nat.ble_eq_true_of_le (show (K + (k + 1)) * sz ≤ rows.flatten.length by rw [Nat.add_mul]; omega), h1, h3, Nat.beq_refl, Qff rows K hs]
  rfl
theorem Q12x {sz : Nat} {gr : Bool} {rows : List (List PV)} {n : Nat} (hs : ∀ r ∈ rows, r.length = sz) (h : n ≤ rows.length) : apC ⟨sz, 0, gr, rows.flatten⟩ (n * sz) = some (rows.take n).flatten := by
  have h2 : rows.flatten.length = rows.length * sz := Q3b sz rows hs
  have h3 := Qff rows n hs
  unfold apC
  cases e : Nat.beq rows.flatten.length (n * sz) with
  | true =>
    have e := Nat.eq_of_beq_eq_true e
    rw [cond_true, ← h3, ← e, List.take_length]
  | false =>
    have : n * sz ≤ rows.length * sz := Nat.mul_le_mul_right _ h
    rw [cond_false, Nat.ble_eq_true_of_le (by show n * sz ≤ rows.flatten.length; omega), Nat.ble_eq_true_of_le (Nat.zero_le _), h3]
    rfl
def aptE (id lid fr sz bytes lro : Nat) (lgr : Bool) (rows : List (List PV)) (r : List PV) (n : Nat) : Option Eff :=
  Q3z (look [(id, ⟨sz, 0, true, rows.flatten⟩), (lid, ⟨sz, lro, lgr, r⟩)]) fr sz bytes (.ms id sz 0 n) (.ms lid sz 0 1)
theorem Q189 (id lid fr sz bytes lro : Nat) (lgr : Bool) (rows rows' : List (List PV)) (r : List PV) (n n' : Nat) (hne : Nat.beq id lid = false) (hle : n ≤ rows.length) (hn' : n' = rows'.length) (hr' : rows' = rows.take n ++ [r])
    (hs : ∀ r ∈ rows, r.length = sz) (hr : r.length = sz) (hb : (n + 1) * bytes ≤ 140737488355328) :
    aptE id lid fr sz bytes lro lgr rows r n = some ⟨.ms fr sz 0 n', [(id, none), (fr, some ⟨sz, 0, true, rows'.flatten⟩)], [id, lid]⟩ := by
  subst hn' hr'
  unfold aptE Q3z
  have h1 : look [(id, (⟨sz, 0, true, rows.flatten⟩ : Ob)), (lid, ⟨sz, lro, lgr, r⟩)] lid = some ⟨sz, lro, lgr, r⟩ := by simp [look, hne]
  have h2 : look [(id, (⟨sz, 0, true, rows.flatten⟩ : Ob)), (lid, ⟨sz, lro, lgr, r⟩)] id = some ⟨sz, 0, true, rows.flatten⟩ := by simp [look]
  have hsrc : source (look [(id, (⟨sz, 0, true, rows.flatten⟩ : Ob)), (lid, ⟨sz, lro, lgr, r⟩)]) sz (.ms lid sz 0 1) = some (1, r, [lid]) := by
    simp only [source, h1, Option.bind_some]
    subst hr
    have : Nat.ble r.length r.length = true := Nat.ble_eq_true_of_le (Nat.le_refl _)
    simp [this]
  rw [hsrc, Option.bind_some]
  simp only [h2, Option.bind_some]
  have hc : (true && Nat.beq sz sz && Nat.beq sz sz && Nat.beq 0 0 && Nat.ble ((n + 1) * bytes) 140737488355328) = true := by
    simp only [Nat.beq_refl, Bool.and_true, Bool.true_and]
    exact Nat.ble_eq_true_of_le hb
  rw [hc, Q12x hs hle]
  have hl : (rows.take n ++ [r]).length = n + 1 := by
    rw [List.length_append, List.length_take]
    simp
    omega
  rw [hl]
  simp
theorem Val.Q4j (l : List Val) (k : Nat) (x : Val) : Val.rows (l.set k x) = (Val.rows l).set k (Val.cells x) := by simp [Val.Q2l, List.map_set]
theorem Fld.Q4j (l : List Fld) (k : Nat) (x : Fld) : Fld.rows (l.set k x) = (Fld.rows l).set k (Fld.cells x) := by simp [Fld.Q2l, List.map_set]
theorem Qzg {l : List (List PV)} {k : Nat} {r : List PV} (h : l[k]? = some r) : l = l.set k r := by
  apply List.ext_getElem?
  intro i
  rw [List.getElem?_set]
  by_cases e : k = i
  · subst e
    rw [if_pos rfl, h, if_pos (List.getElem?_eq_some_iff.1 h).1]
  · rw [if_neg e]
end Go.Pv
end

