/- Texts of the claim, merged by a program; what the statement does not reach is left out. -/
import Derived.Test.YtimjjohlpnkacaaGreatBWorkcodecReads3
import Derived.ChangeArms
import Derived.ChangeSlices
import Derived.ChangeOld
import Derived.Carry
import GoSem.ClaimJoined

section
/-
  Strings: equality and order.
-/
namespace Go.Pv
theorem Q14e (b : ByteArray) : ∀ (n i : Nat) (acc : List UInt8), b.size - i = n → ByteArray.toList.loop b i acc = acc.reverse ++ b.data.toList.drop i := by
 intro n
 induction n with
 | zero =>
  intro i acc h
  unfold ByteArray.toList.loop
  have h1 : ¬ i < b.size := by omega
  rw [if_neg h1]
  have : b.data.toList.drop i = [] := by
   rw [List.drop_eq_nil_iff]
   have : b.data.toList.length = b.size := Array.length_toList
   omega
  rw [this, List.append_nil]
 | succ n ih =>
  intro i acc h
  unfold ByteArray.toList.loop
  have h1 : i < b.size := by omega
  rw [if_pos h1, ih (i + 1) _ (by omega)]
  have hl : i < b.data.toList.length := by rw [show b.data.toList.length = b.size from Array.length_toList]; exact h1
  rw [List.drop_eq_getElem_cons hl, List.reverse_cons, List.append_assoc]
  congr 1
  simp only [List.singleton_append, List.cons.injEq, and_true]
  have : b.data.size = b.size := rfl
  simp [ByteArray.get!, h1, this]
theorem toList_data (b : ByteArray) : b.toList = b.data.toList := by
 unfold ByteArray.toList
 rw [Q14e b _ 0 [] rfl]
 simp
theorem toList_inj {a b : ByteArray} (h : a.toList = b.toList) : a = b := by
 rw [toList_data, toList_data] at h
 cases a
 cases b
 simp at h
 rw [h]
theorem Q8d {a b : ByteArray} : sEq a b = true ↔ a = b := by
 unfold sEq
 rw [beq_iff_eq]
 exact ⟨toList_inj, fun h => by rw [h]⟩
mutual
inductive Val where
 | mk (kind n : Int) (s : ByteArray) (list : List Val) (fields : List Fld)
inductive Fld where
 | mk (name : ByteArray) (v : Val)
end
def Val.kind : Val → Int
 | .mk k _ _ _ _ => k
def Val.n : Val → Int
 | .mk _ n _ _ _ => n
def Val.s : Val → ByteArray
 | .mk _ _ s _ _ => s
def Val.list : Val → List Val
 | .mk _ _ _ l _ => l
def Val.fields : Val → List Fld
 | .mk _ _ _ _ f => f
def Fld.name : Fld → ByteArray
 | .mk n _ => n
def Fld.v : Fld → Val
 | .mk _ v => v
mutual
def Val.cs : Val → List PV
 | .mk k n s l f => [.int .i64 k, .int .i64 n, .str s, .sl (Val.css l), .sl (Fld.css f)]
def Val.css : List Val → List (List PV)
 | [] => []
 | v :: r => v.cs :: Val.css r
def Fld.css : List Fld → List (List PV)
 | [] => []
 | f :: r => f.cs :: Fld.css r
def Fld.cs : Fld → List PV
 | .mk n v => .str n :: v.cs
end
def Val.rows (l : List Val) : List (List PV) := Val.css l
def Fld.rows (l : List Fld) : List (List PV) := Fld.css l
def Val.cells (v : Val) : List PV := [.int .i64 v.kind, .int .i64 v.n, .str v.s, .sl (Val.rows v.list), .sl (Fld.rows v.fields)]
def Fld.cells (f : Fld) : List PV := [.str f.name, .int .i64 f.v.kind, .int .i64 f.v.n, .str f.v.s, .sl (Val.rows f.v.list), .sl (Fld.rows f.v.fields)]
theorem Val.Q1pu (v : Val) : v.cs = v.cells := by cases v; rfl
theorem Fld.Q1pu (f : Fld) : f.cs = f.cells := by
 cases f with
 | mk n v => cases v; rfl
theorem Val.Q2h : Val.rows [] = [] := rfl
theorem Fld.Q2h : Fld.rows [] = [] := rfl
theorem Val.Q1w (v : Val) (l : List Val) : Val.rows (v :: l) = v.cells :: Val.rows l := by
 rw [← Val.Q1pu]
 rfl
theorem Fld.Q1w (v : Fld) (l : List Fld) : Fld.rows (v :: l) = v.cells :: Fld.rows l := by
 rw [← Fld.Q1pu]
 rfl
theorem Val.Q4i : ∀ l : List Val, Val.rows l = l.map Val.cells
 | [] => rfl
 | v :: r => by rw [Val.Q1w, Val.Q4i r]; rfl
theorem Fld.Q4i : ∀ l : List Fld, Fld.rows l = l.map Fld.cells
 | [] => rfl
 | v :: r => by rw [Fld.Q1w, Fld.Q4i r]; rfl
theorem Val.Q7 (l : List Val) : (Val.rows l).length = l.length := by simp [Val.Q4i]
theorem Fld.Q7 (l : List Fld) : (Fld.rows l).length = l.length := by simp [Fld.Q4i]
theorem Val.Qb {l : List Val} {i : Nat} {x : Val} (h : l[i]? = some x) : (Val.rows l)[i]? = some (Val.cells x) := by rw [Val.Q4i]; exact Go.Pv.Qb h
theorem Fld.Qb {l : List Fld} {i : Nat} {x : Fld} (h : l[i]? = some x) : (Fld.rows l)[i]? = some (Fld.cells x) := by rw [Fld.Q4i]; exact Go.Pv.Qb h
theorem Val.Q1l (l : List Val) (x : Val) : Val.rows (l ++ [x]) = Val.rows l ++ [Val.cells x] := by simp [Val.Q4i]
theorem Fld.Q1l (l : List Fld) (x : Fld) : Fld.rows (l ++ [x]) = Fld.rows l ++ [Fld.cells x] := by simp [Fld.Q4i]
theorem Val.Qje (l : List Val) (n : Nat) : Val.rows (l.take n) = (Val.rows l).take n := by simp [Val.Q4i, List.map_take]
theorem Fld.Qje (l : List Fld) (n : Nat) : Fld.rows (l.take n) = (Fld.rows l).take n := by simp [Fld.Q4i, List.map_take]
theorem Val.Qy9 (l : List Val) (n : Nat) : Val.rows (l.drop n) = (Val.rows l).drop n := by simp [Val.Q4i, List.map_drop]
theorem Fld.Qy9 (l : List Fld) (n : Nat) : Fld.rows (l.drop n) = (Fld.rows l).drop n := by simp [Fld.Q4i, List.map_drop]
theorem Val.Q140 (l m : List Val) : Val.rows (l ++ m) = Val.rows l ++ Val.rows m := by simp [Val.Q4i]
theorem Fld.Q140 (l m : List Fld) : Fld.rows (l ++ m) = Fld.rows l ++ Fld.rows m := by simp [Fld.Q4i]
theorem Val.Qt (l : List Val) : ∀ r ∈ Val.rows l, r.length = 5 := by rw [Val.Q4i]; exact Q4u (f := Val.cells) (fun _ => rfl) l
theorem Fld.Qt (l : List Fld) : ∀ r ∈ Fld.rows l, r.length = 6 := by rw [Fld.Q4i]; exact Q4u (f := Fld.cells) (fun _ => rfl) l
theorem Val.Q8 (l : List Val) (sz : Nat) (h : sz = 5) : ViewOK sz (Val.rows l).flatten (Val.rows l) := by subst h; exact ⟨rfl, Val.Qt l, by rw [Val.Q4i]; exact Q4d (f := Val.cells) (fun _ => rfl) l⟩
theorem Fld.Q8 (l : List Fld) (sz : Nat) (h : sz = 6) : ViewOK sz (Fld.rows l).flatten (Fld.rows l) := by subst h; exact ⟨rfl, Fld.Qt l, by rw [Fld.Q4i]; exact Q4d (f := Fld.cells) (fun _ => rfl) l⟩
theorem Val.Q13v (v : Val) : SizeOf.sizeOf v.list < SizeOf.sizeOf v := by
 cases v with
 | mk k n s l f => simp only [Val.list, Val.mk.sizeOf_spec]; omega
theorem Val.Qoe (v : Val) : SizeOf.sizeOf v.fields < SizeOf.sizeOf v := by
 cases v with
 | mk k n s l f => simp only [Val.fields, Val.mk.sizeOf_spec]; omega
theorem Fld.lt_v (f : Fld) : SizeOf.sizeOf f.v < SizeOf.sizeOf f := by
 cases f with
 | mk n v => simp only [Fld.v, Fld.mk.sizeOf_spec]; omega
theorem szL {v x : Val} {i : Nat} (h : v.list[i]? = some x) : SizeOf.sizeOf x < SizeOf.sizeOf v :=
 Nat.lt_trans (List.sizeOf_lt_of_mem (Q15 h)) v.Q13v
theorem szF {v : Val} {x : Fld} {i : Nat} (h : v.fields[i]? = some x) : SizeOf.sizeOf x.v < SizeOf.sizeOf v :=
 Nat.lt_trans x.lt_v (Nat.lt_trans (List.sizeOf_lt_of_mem (Q15 h)) v.Qoe)
inductive Val.Sm (B : Nat) : Val → Prop
  | mk (v : Val) (hl : v.list.length ≤ B) (hf : v.fields.length ≤ B) (sl : ∀ x ∈ v.list, Val.Sm B x) (sf : ∀ x ∈ v.fields, Val.Sm B x.v) : Val.Sm B v
theorem Val.Sm.all {B : Nat} {v : Val} (h : Val.Sm B v) : v.list.length ≤ B ∧ v.fields.length ≤ B ∧ (∀ x ∈ v.list, Val.Sm B x) ∧ (∀ x ∈ v.fields, Val.Sm B x.v) := by
 cases h with
 | mk _ h1 h2 h3 h4 => exact ⟨h1, h2, h3, h4⟩
theorem Val.Sm.mono {B C : Nat} (hb : B ≤ C) {v : Val} (h : Val.Sm B v) : Val.Sm C v := by
 induction h with
 | mk v h1 h2 _ _ i1 i2 => exact .mk v (by omega) (by omega) i1 i2
theorem Val.Sm.leaf {B : Nat} (k n : Int) (s : ByteArray) : Val.Sm B (.mk k n s [] []) := .mk _ (Nat.zero_le _) (Nat.zero_le _) (fun _ h => by cases h) (fun _ h => by cases h)
theorem Val.Sm.getD {B : Nat} {l : List Val} (h : ∀ x ∈ l, Val.Sm B x) (i : Nat) (k n : Int) (s : ByteArray) : Val.Sm B (l.getD i (.mk k n s [] [])) := by
  by_cases c : i < l.length
  · have := Qap l i (.mk k n s [] []) c
    exact h _ (Q15 this)
  · rw [List.getD_eq_getElem?_getD, List.getElem?_eq_none (by omega)]
    exact .leaf k n s
inductive Q85 : Val → Prop
  | mk (v : Val) (h1 : Qed v.kind) (h2 : Qed v.n) (h3 : okS v.s) (hl : v.list.length * 80 ≤ 140737488351232) (hf : v.fields.length * 96 ≤ 140737488351232) (sl : ∀ x ∈ v.list, Q85 x) (sn : ∀ x ∈ v.fields, okS x.name) (sf : ∀ x ∈ v.fields, Q85 x.v) : Q85 v
def Q1um (f : Fld) : Prop := okS f.name ∧ Q85 f.v
theorem Q85.all {v : Val} (h : Q85 v) : Qed v.kind ∧ Qed v.n ∧ okS v.s ∧ v.list.length * 80 ≤ 140737488351232 ∧ v.fields.length * 96 ≤ 140737488351232 ∧ (∀ x ∈ v.list, Q85 x) ∧ (∀ x ∈ v.fields, okS x.name ∧ Q85 x.v) := by
 cases h with
 | mk _ a b c d e f n g => exact ⟨a, b, c, d, e, f, fun x hx => ⟨n x hx, g x hx⟩⟩
theorem Q85.sm {v : Val} (h : Q85 v) : Val.Sm 4611686018427387904 v := by
 induction h with
 | mk v _ _ _ hl hf _ _ _ i1 i2 => exact .mk v (by omega) (by omega) i1 i2
def Qbq (t : Nat) : Ty := .st [.int .i64, .int .i64, .str, .sl 80 (.nm t), .sl 96 (.st [.str, .nm t])]
theorem Qlr {Γ : Nat → Option Ty} {t : Nat} (hΓ : Γ t = some (Qbq t)) : ∀ (k : Nat) (c : List PV), SizeOf.sizeOf c < k → Of Γ (.nm t) c → ∃ v : Val, c = v.cells ∧ Q85 v
 | 0, _, h, _ => absurd h (Nat.not_lt_zero _)
 | k + 1, c, hk, h => by
  have hb : Of Γ (Qbq t) c := by
   cases h with
   | nm _ ty _ hg h =>
    rw [hΓ] at hg
    injection hg with hg
    subst hg
    exact h
  have g0 := hb.st1
  obtain ⟨a0, b0, rfl, h0, g1⟩ := g0.Q3z
  obtain ⟨x0, rfl, k0⟩ := h0.i64
  obtain ⟨a1, b1, rfl, h1, g2⟩ := g1.Q3z
  obtain ⟨x1, rfl, k1⟩ := h1.i64
  obtain ⟨a2, b2, rfl, h2, g3⟩ := g2.Q3z
  obtain ⟨x2, rfl, k2⟩ := h2.str1
  obtain ⟨a3, b3, rfl, h3, g4⟩ := g3.Q3z
  obtain ⟨a4, b4, rfl, h4, g5⟩ := g4.Q3z
  have e := g5.empty
  subst e
  cases h3 with
  | sl _ _ l3 hl3 hr3 =>
  cases h4 with
  | sl _ _ l4 hl4 hr4 =>
  have s3 : SizeOf.sizeOf l3 < k := by simp at hk; omega
  have s4 : SizeOf.sizeOf l4 < k := by simp at hk; omega
  obtain ⟨x3, rfl, k3⟩ := Q9r (f := Val.cells) (ok := Q85) l3 (fun r hr' => Qlr hΓ k r (by have := List.sizeOf_lt_of_mem hr'; omega) (hr3 r hr'))
  obtain ⟨x4, rfl, k4⟩ := Q9r (f := Fld.cells) (ok := Q1um) l4 (fun r hr' => by
   have q0 := (hr4 r hr').st1
   obtain ⟨c0, d0, rfl, i0, q1⟩ := q0.Q3z
   obtain ⟨y0, rfl, m0⟩ := i0.str1
   obtain ⟨c1, d1, rfl, i1, q2⟩ := q1.Q3z
   have e := q2.empty
   subst e
   obtain ⟨y1, rfl, m1⟩ := Qlr hΓ k c1 (by have := List.sizeOf_lt_of_mem hr'; simp at this; omega) i1
   exact ⟨.mk y0 y1, by simp [Fld.cells, Val.cells, Fld.name, Fld.v], m0, m1⟩)
  rw [List.length_map] at hl3 hl4
  refine ⟨.mk x0 x1 x2 x3 x4, ?_, .mk _ k0 k1 k2 hl3 hl4 k3 (fun x hx => (k4 x hx).1) (fun x hx => (k4 x hx).2)⟩
  simp [Val.cells, Val.kind, Val.n, Val.s, Val.list, Val.fields, Val.Q4i, Fld.Q4i]
theorem Q15z {Γ : Nat → Option Ty} {t : Nat} (hΓ : Γ t = some (Qbq t)) {c : List PV} (h : Of Γ (.nm t) c) : ∃ v : Val, c = v.cells ∧ Q85 v := Qlr hΓ _ c (Nat.lt_succ_self _) h
theorem Q13u {α : Type} [SizeOf α] (x : α) (r : List α) : SizeOf.sizeOf x < SizeOf.sizeOf (x :: r) := by
 simp only [List.cons.sizeOf_spec]
 omega
theorem Q1hg {α : Type} [SizeOf α] (x : α) (r : List α) : SizeOf.sizeOf r < SizeOf.sizeOf (x :: r) := by
 simp only [List.cons.sizeOf_spec]
 omega
theorem Q183 (x : Fld) (r : List Fld) : SizeOf.sizeOf x.v < SizeOf.sizeOf (x :: r) := Nat.lt_trans x.lt_v (Q13u x r)
def gam (t : Nat) : Nat → Option Ty := fun k => bif Nat.beq k t then some (Qbq t) else none
theorem Q1o3 (t : Nat) : gam t t = some (Qbq t) := by simp [gam]
theorem gam_tab {P : Program} {t : Nat} (h : Qcf P (gam t) (Qbq t) t = true) : TabOK P (gam t) := by
 intro k ty hk
 unfold gam at hk
 cases c : Nat.beq k t with
 | false => rw [c] at hk; cases hk
 | true =>
  rw [c] at hk
  simp only [cond_true, Option.some.injEq] at hk
  subst hk
  rw [Nat.eq_of_beq_eq_true c]
  exact ⟨rfl, h⟩
end Go.Pv
namespace Go.Pv
theorem Q79 {G : Nat → Option Fun} {e e' : En} {r : Rs} (h : Q5 G e r) (he : e = e') : Q5 G e' r := he ▸ h
end Go.Pv
end

section
/- Strings byte by byte; rows that are cloned. -/
namespace Go.Pv
theorem Qv3 : ∀ p, plain p = true → bare p = true := fun p h => by cases p <;> first | rfl | (cases h)
theorem Qct {G : Nat → Option Fun} {f sz bytes : Nat} (hG : G f = some (.ax (Qnn sz bytes))) {rows : List (List PV)} {n : Nat} (hn : rows.length = n) (hv : ViewOK sz rows.flatten rows) (hb : n * bytes ≤ 140737488355328) :
  Q5 G (.call f [.sl rows] []) (.ret (.ms 0 sz 0 n) [⟨sz, 0, true, rows.flatten⟩]) := by
 refine ⟨1, ?_⟩
 subst hn
 simp only [runs, phi, hG, Qnn]
 have h1 : Q8b rows sz = true := Q12u hv.size
 have h2 : rows.flatten.all bare = true := List.all_eq_true.2 fun p hp => Qv3 p (hv.all p hp)
 rw [h1, h2, Nat.ble_eq_true_of_le hb]
 rfl
theorem Q8t {G : Nat → Option Fun} {f sz bytes : Nat} (hG : G f = some (.ax (Qno sz bytes))) {rows : List (List PV)} {n : Nat} (hn : rows.length = n) (hv : ViewOK sz rows.flatten rows) (hb : n * bytes ≤ 140737488355328) :
  Q5 G (.call f [.sl rows] []) (.ret (.sl rows) []) := by
 refine ⟨1, ?_⟩
 subst hn
 simp only [runs, phi, hG, Qno]
 have h1 : Q8b rows sz = true := Q12u hv.size
 have h2 : rows.flatten.all bare = true := List.all_eq_true.2 fun p hp => Qv3 p (hv.all p hp)
 rw [h1, h2, Nat.ble_eq_true_of_le hb]
 rfl
end Go.Pv
namespace Go.Pv
theorem szM {v x : Val} (h : x ∈ v.list) : SizeOf.sizeOf x < SizeOf.sizeOf v := Nat.lt_trans (List.sizeOf_lt_of_mem h) v.Q13v
theorem szN {v : Val} {x : Fld} (h : x ∈ v.fields) : SizeOf.sizeOf x.v < SizeOf.sizeOf v := Nat.lt_trans x.lt_v (Nat.lt_trans (List.sizeOf_lt_of_mem h) v.Qoe)
end Go.Pv
end

section
/- Arrays of bools, asked at an index of a loop. -/
namespace Go.Pv
def aixE (n sz id o : Nat) (i : Int) : Option Eff := (opP (fun _ => .un) (.aaddr n sz (.c (.bx id o)) (.c (.int .i64 i)))).bind fun v => some ⟨v, [], []⟩
theorem Q1o0 (n sz id o i : Nat) (h : i < n) : aixE n sz id o (i : Int) = some (vE (.bx id (o + i * sz))) := by
 unfold aixE
 simp only [opP, Opd.ev, asNat]
 rw [show decide (0 ≤ (i : Int)) = true by simp]
 simp only [cond_true, Option.bind_some, Int.toNat_natCast]
 rw [show Nat.blt i n = true from Nat.ble_eq_true_of_le h]
 rfl
def aldE (id sz ro : Nat) (gr : Bool) (cells : List PV) (k : Nat) : Option Eff := Qee (look [(id, ⟨sz, ro, gr, cells⟩)]) 1 false (.bx id k)
theorem Q1o1 (id sz ro : Nat) (gr : Bool) (cells : List PV) (L : List Bool) (i : Nat) (x v : Bool) (hx : L[i]? = some x) (hv : x = v) (hc : cells = L.map PV.bool := by rfl) : aldE id sz ro gr cells (0 + i * 1) = some ⟨.bool v, [], [id]⟩ := by
 subst hc hv
 have hi := (List.getElem?_eq_some_iff.1 hx).1
 unfold aldE Qee
 simp only [reads, look, Nat.beq_refl, cond_true, Option.bind_some, Nat.zero_add, Nat.mul_one, List.length_map]
 rw [Nat.ble_eq_true_of_le (show i + 1 ≤ L.length by omega)]
 simp only [cond_true, Option.bind_some]
 have e : ((L.map PV.bool).drop i).take 1 = [.bool x] := by
  rw [List.drop_eq_getElem_cons (by simpa using hi), List.take_succ_cons, List.take_zero, List.getElem_map]
  rw [List.getElem?_eq_getElem hi] at hx
  injection hx with hx
  rw [hx]
 rw [e]
 rfl
def gM (c : Bool) (v : PV) : Option Eff := bif (c == true) then some (vE v) else some ⟨.tup [], [], []⟩
theorem Q63 (c : Bool) (v : PV) : gM c v = some ⟨bif c then v else .tup [], [], []⟩ := by cases c <;> rfl
def gP (c p : Bool) : Option Eff := (some (bif c then (bif c then PV.bool p else .tup []) else .bool false)).bind fun v => some ⟨v, [], []⟩
theorem Q64 (c p : Bool) : gP c p = some (vE (.bool (c && p))) := by cases c <;> rfl
def zr (z : Nat → PV) (i : Nat) : Nat → List PV
 | 0 => []
 | k + 1 => z i :: zr z (i + 1) k
end Go.Pv
end

section
/-
  What a law is handed, where its bulk is bounded: nothing within is longer.
-/
namespace Go.Pv
open Go.RowKit
inductive Cap (N : Nat) : PV → Prop
  | bool (b : Bool) : Cap N (.bool b)
  | int (k : IntKind) (n : Int) : Cap N (.int k n)
  | str (s : ByteArray) (h : s.size ≤ N) : Cap N (.str s)
  | sl (l : List (List PV)) (h : l.length ≤ N) (hl : ∀ r ∈ l, ∀ p ∈ r, Cap N p) : Cap N (.sl l)
def CapL (N : Nat) (c : List PV) : Prop := ∀ p ∈ c, Cap N p
theorem CapL.one {N : Nat} {p : PV} (h : Cap N p) : CapL N [p] := fun q hq => by
 rw [List.mem_singleton] at hq
 subst hq
 exact h
inductive CapD {H : Type} (N : Nat) : DataW H → Prop
  | lit (l : Lit) (h : ∀ b, l = .string b → b.length ≤ N) : CapD N (.lit l)
  | agg (parts : List (DataW H)) (h : ∀ d ∈ parts, CapD N d) : CapD N (.agg parts)
  | slice (elems spare : List (DataW H)) (h : elems.length ≤ N) (hl : ∀ d ∈ elems, CapD N d) : CapD N (.slice elems spare)
  | nil : CapD N .nil
  | ptr (d : DataW H) : CapD N (.ptr d)
  | iface (t : String) (d : DataW H) : CapD N (.iface t d)
  | map (e : List (Lit × DataW H)) : CapD N (.map e)
  | held (h : H) : CapD N (.held h)
def ArgB (Γ : Nat → Option Ty) (N : Nat) (ty : Ty) (p : PV) : Prop := ∃ c, Of Γ ty c ∧ CapL N c ∧ (bif ty.isSt Γ then p = .agg c else c = [p])
section
variable {H : Type} {enc : TypeId × Value → H} {P : Program} {w : World} {base : Nat} {sp : Nat → Bool} {held : Bool} {Γ : Nat → Option Ty} {N : Nat}
end
theorem ArgB.one {Γ : Nat → Option Ty} {N : Nat} {ty : Ty} {p : PV} (h : ArgB Γ N ty p) (hs : ty.isSt Γ = false) : Of Γ ty [p] ∧ CapL N [p] := by
 obtain ⟨c, hc, hb, hp⟩ := h
 rw [hs] at hp
 have hp : c = [p] := hp
 subst hp
 exact ⟨hc, hb⟩
theorem ArgB.agg {Γ : Nat → Option Ty} {N : Nat} {ty : Ty} {p : PV} (h : ArgB Γ N ty p) (hs : ty.isSt Γ = true) : ∃ c, p = .agg c ∧ Of Γ ty c ∧ CapL N c := by
 obtain ⟨c, hc, hb, hp⟩ := h
 rw [hs] at hp
 exact ⟨c, hp, hc, hb⟩
end Go.Pv
end

section
/- Comparisons that answer -1, 0 or 1; the order of strings. -/
namespace Go.Pv
def lx (a b : Int) : Int := if a = 0 then b else a
def icmp (a b : Int) : Int := if a < b then -1 else if b < a then 1 else 0
theorem Q1zj (a b : Int) : lx (-a) (-b) = -lx a b := by
 unfold lx
 split <;> split <;> omega
theorem Q1li (a b : Int) : icmp b a = -icmp a b := by
 unfold icmp
 split <;> split <;> first | omega | (split <;> omega) | skip
 all_goals omega
theorem Q1h7 {a b : Int} : icmp a b = 0 ↔ a = b := by
  unfold icmp
  constructor
  · intro h
    split at h
    · omega
    · split at h <;> omega
  · intro h
    rw [if_neg (by omega), if_neg (by omega)]
theorem Qnq (x y : UInt8) (a b : List UInt8) : cmpL (x :: a) (y :: b) = lx (icmp (x.toNat : Int) (y.toNat : Int)) (cmpL a b) := by
  rw [cmpL]
  unfold lx icmp
  simp only [UInt8.lt_iff_toNat_lt]
  by_cases h1 : x.toNat < y.toNat
  · rw [if_pos h1, if_pos (show (x.toNat : Int) < (y.toNat : Int) by omega)]
    rfl
  · by_cases h2 : y.toNat < x.toNat
    · rw [if_neg h1, if_pos h2, if_neg (show ¬ (x.toNat : Int) < (y.toNat : Int) by omega), if_pos (show (y.toNat : Int) < (x.toNat : Int) by omega)]
      rfl
    · rw [if_neg h1, if_neg h2, if_neg (show ¬ (x.toNat : Int) < (y.toNat : Int) by omega), if_neg (show ¬ (y.toNat : Int) < (x.toNat : Int) by omega)]
      rfl
theorem Q161 : ∀ a b : List UInt8, cmpL b a = -cmpL a b
 | [], [] => rfl
 | [], _ :: _ => rfl
 | _ :: _, [] => rfl
 | x :: a, y :: b => by rw [Qnq, Qnq, Q161 a b, Q1li (x.toNat : Int) (y.toNat : Int), Q1zj]
theorem Q110 : ∀ a b : List UInt8, cmpL a b = 0 → a = b
  | [], [], _ => rfl
  | [], _ :: _, h => by simp [cmpL] at h
  | _ :: _, [], h => by simp [cmpL] at h
  | x :: a, y :: b, h => by
    rw [Qnq] at h
    unfold lx at h
    split at h
    · rename_i e
      have := Q1h7.1 e
      rw [UInt8.toNat_inj.1 (show x.toNat = y.toNat by omega), Q110 a b h]
    · omega
theorem Q1gp (a : List UInt8) : cmpL a a = 0 := by
 have := Q161 a a
 omega
theorem Q17r : ∀ a b : List UInt8, Op.bytesLess a b = decide (cmpL a b < 0)
  | [], [] => rfl
  | [], _ :: _ => rfl
  | _ :: _, [] => rfl
  | x :: a, y :: b => by
    have ih := Q17r a b
    rw [Op.bytesLess, cmpL, ih]
    by_cases h : x < y
    · simp [h]
    · by_cases h2 : y < x
      · have h3 : ¬ x = y := fun e => h (e ▸ h2)
        simp [h, h2, h3]
      · have h3 : x = y := by
          rw [UInt8.lt_iff_toNat_lt] at h h2
          exact UInt8.toNat_inj.1 (by omega)
        simp [h3]
theorem Q1i7 {a b : ByteArray} : sCmp a b = 0 ↔ a = b := ⟨fun h => toList_inj (Q110 _ _ h), fun h => by rw [h]; exact Q1gp _⟩
theorem Q1q6 (a b : ByteArray) : sLt a b = decide (sCmp a b < 0) := Q17r _ _
end Go.Pv
end

section
/- The library's stable sort as plain functions on lists, and what it answers: the stably sorted list. Program-free. -/
namespace Go.Pv.Srt
section
variable {α : Type} (z : α) (c : α → α → Int)
def gt (d : List α) (i : Int) : α := d.getD i.toNat z
end
end Go.Pv.Srt
end

section
/- The library's stable sort: its merging, and that it answers the stably sorted list. Program-free. -/
namespace Go.Pv.Srt
section
variable {α : Type} (z : α) (c : α → α → Int)
structure Tot : Prop where
  asym : ∀ x y, c x y < 0 → ¬ c y x < 0
  tr : ∀ x y w, ¬ c y x < 0 → ¬ c w y < 0 → ¬ c w x < 0
def le (x y : α) : Prop := ¬ c y x < 0
def Up (l : List α) : Prop := l.Pairwise (le c)
def eqv (x y : α) : Bool := decide (¬ c x y < 0) && decide (¬ c y x < 0)
def F (l r : List α) : Prop := l.length = r.length ∧ ∀ x, l.filter (eqv c x) = r.filter (eqv c x)
variable {c}
theorem F.rfl {l : List α} : F c l l := ⟨Eq.refl _, fun _ => Eq.refl _⟩
theorem F.trans {l r s : List α} (h : F c l r) (g : F c r s) : F c l s := ⟨h.1.trans g.1, fun x => (h.2 x).trans (g.2 x)⟩
theorem F.symm {l r : List α} (h : F c l r) : F c r l := ⟨h.1.symm, fun x => (h.2 x).symm⟩
theorem F.app {l r l' r' : List α} (h : F c l r) (g : F c l' r') : F c (l ++ l') (r ++ r') :=
 ⟨by rw [List.length_append, List.length_append, h.1, g.1], fun x => by rw [List.filter_append, List.filter_append, h.2 x, g.2 x]⟩
theorem Tot.refl (T : Tot c) (x : α) : ¬ c x x < 0 := fun h => T.asym x x h h
def bs (g : Int → Bool) : Nat → Int → Int → Int
 | 0, i, _ => i
 | k + 1, i, j => bif decide (i < j) then (bif g ((i + j) / 2) then bs g k ((i + j) / 2 + 1) j else bs g k i ((i + j) / 2)) else i
end
end Go.Pv.Srt
end

section
/- The library's stable sort: symmetric merging and the sort as a whole answer the stably sorted list. Program-free. -/
namespace Go.Pv.Srt
section
variable {α : Type} (z : α) (c : α → α → Int)
def st1 (d : List α) (a m b : Int) : Int := bs (fun h => decide (c (gt z d h) (gt z d a) < 0)) ((b - m).toNat + 1) m b
variable {c}
end
end Go.Pv.Srt
end

section
/- The library's stable sort: merging in general, blocks, the whole. Program-free. -/
namespace Go.Pv.Srt
section
variable {α : Type} (z : α) {c : α → α → Int}
end
end Go.Pv.Srt
end

section
/- The library's stable sort: blocks, and the whole: it answers what insertion answers. Program-free. -/
namespace Go.Pv.Srt
section
variable {α : Type} (z : α) (c : α → α → Int)
inductive Bl (s : Nat) : List α → Prop
  | last {l : List α} : l.length ≤ s → Up c l → Bl s l
  | cons {l r : List α} : l.length = s → Up c l → Bl s r → Bl s (l ++ r)
inductive Fu (s : Nat) : List α → Prop
  | nil : Fu s []
  | snoc {p l : List α} : Fu s p → l.length = s → Up c l → Fu s (p ++ l)
variable {c}
theorem Bl.one {s : Nat} {Q : List α} (h : Bl c s Q) (hl : Q.length ≤ s) : Up c Q := by
 cases h with
 | last _ h => exact h
 | cons h1 h2 h3 =>
  rename_i l r
  rw [List.length_append] at hl
  rw [List.length_eq_zero_iff.1 (show r.length = 0 by omega), List.append_nil]
  exact h2
theorem Bl.split {s : Nat} {Q : List α} (h : Bl c s Q) (hl : s < Q.length) : ∃ l r, Q = l ++ r ∧ l.length = s ∧ Up c l ∧ Bl c s r := by
 cases h with
 | last h _ => omega
 | cons h1 h2 h3 => exact ⟨_, _, rfl, h1, h2, h3⟩
end
end Go.Pv.Srt
end

section
/- Lists of fields: strictly sorted lists are known by their members; keeping the last field of each name of a sorted list; putting a field into a sorted list. -/
namespace Go.Pv
open Srt
theorem Qot (a : ByteArray) : sCmp a a = 0 := Q1i7.2 rfl
abbrev nlt (x y : Fld) : Prop := sCmp x.name y.name < 0
def SS (l : List Fld) : Prop := l.Pairwise nlt
theorem SS.cons {x : Fld} {l : List Fld} : SS (x :: l) ↔ (∀ y ∈ l, nlt x y) ∧ SS l := List.pairwise_cons
theorem SS.nil : SS [] := List.Pairwise.nil
theorem SS.filter {l : List Fld} (h : SS l) (p : Fld → Bool) : SS (l.filter p) := h.sublist List.filter_sublist
theorem SS.inj {l : List Fld} (h : SS l) {x y : Fld} (hx : x ∈ l) (hy : y ∈ l) (e : x.name = y.name) : x = y := by
  induction l with
  | nil => cases hx
  | cons z l ih =>
    obtain ⟨hz, hl⟩ := SS.cons.1 h
    rcases List.mem_cons.1 hx with e1 | hx' <;> rcases List.mem_cons.1 hy with e2 | hy'
    · rw [e1, e2]
    · subst e1; have := hz y hy'; unfold nlt at this; rw [e, Qot] at this; omega
    · subst e2; have := hz x hx'; unfold nlt at this; rw [e, Qot] at this; omega
    · exact ih hl hx' hy'
end Go.Pv
end

section
/- How many dK a value holds; what that bounds. -/
namespace Go.Pv
open Srt
end Go.Pv
end

section
/- Structures as dK: the parts of a map, their kinds; what decodes what was encoded. No program is in sight here. -/
namespace Go.Pv
abbrev vZ : Val := .mk 0 0 (⟨#[]⟩ : ByteArray) [] []
abbrev vN (n : Int) : Val := .mk 2 n (⟨#[]⟩ : ByteArray) [] []
abbrev vS (s : ByteArray) : Val := .mk 3 0 s [] []
abbrev vB (b : Bool) : Val := .mk 1 (bif b then 1 else 0) (⟨#[]⟩ : ByteArray) [] []
abbrev vL (l : List Val) : Val := .mk 4 0 (⟨#[]⟩ : ByteArray) l []
abbrev vM (l : List Fld) : Val := .mk 5 0 (⟨#[]⟩ : ByteArray) [] l
def Q11c (n : ByteArray) : List Fld → Val
 | [] => vZ
 | x :: r => bif sEq x.name n then x.v else Q11c n r
def prt (v : Val) (n : ByteArray) : Val := bif v.kind == 5 then Q11c n v.fields else vZ
def isM (v : Val) : Bool := v.kind == 5 || v.kind == 0
def xN (x : Val) : Int × Bool := bif x.kind == 2 then (x.n, true) else (0, x.kind == 0)
def xS (x : Val) : ByteArray × Bool := bif x.kind == 3 then (x.s, true) else ((⟨#[]⟩ : ByteArray), x.kind == 0)
def xB (x : Val) : Bool × Bool := bif x.kind == 1 then (!(x.n == 0), true) else (false, x.kind == 0)
def xL (x : Val) : List Val × Bool := bif x.kind == 4 then (x.list, true) else ([], x.kind == 0)
def xE {α : Type} (f : Val → α × Bool) (x : Val) : List α × Bool := ((xL x).1.map fun y => (f y).1, (xL x).2 && (xL x).1.all fun y => (f y).2)
abbrev dN (v : Val) (n : ByteArray) : Int × Bool := xN (prt v n)
abbrev dS (v : Val) (n : ByteArray) : ByteArray × Bool := xS (prt v n)
abbrev dB (v : Val) (n : ByteArray) : Bool × Bool := xB (prt v n)
abbrev dL (v : Val) (n : ByteArray) : List Val × Bool := xL (prt v n)
abbrev dE {α : Type} (f : Val → α × Bool) (v : Val) (n : ByteArray) : List α × Bool := xE f (prt v n)
abbrev dT {α : Type} (f : Val → α × Bool) (v : Val) (n : ByteArray) : α × Bool := f (prt v n)
theorem Qf9 {v : Val} (h : (v.kind == 5) = false) (n : ByteArray) : prt v n = vZ := by unfold prt; rw [h]; rfl
theorem Q13q {v : Val} (h : (v.kind == 5) = true) : isM v = true := by unfold isM; rw [h]; rfl
theorem Qo1 {v : Val} (h : (v.kind == 5) = false) : isM v = (v.kind == 0) := by unfold isM; rw [h]; rfl
abbrev sB : Nat := 1000000000
theorem Qpj : Val.Sm sB vZ := Val.Sm.leaf 0 0 _
theorem Q2en {l : List Val} (h : l.length ≤ sB) (g : ∀ x ∈ l, Val.Sm sB x) : Val.Sm sB (vL l) := .mk _ h (Nat.zero_le _) g (fun _ h => by cases h)
theorem Q6q {l : List Fld} (h : l.length ≤ sB) (g : ∀ x ∈ l, Val.Sm sB x.v) : Val.Sm sB (vM l) := .mk _ (Nat.zero_le _) h (fun _ h => by cases h) g
theorem Q1ip {B : Nat} (n : ByteArray) : ∀ {l : List Fld}, (∀ x ∈ l, Val.Sm B x.v) → Val.Sm B (Q11c n l)
 | [], _ => Val.Sm.leaf 0 0 _
 | x :: l, h => by
  unfold Q11c
  cases sEq x.name n with
  | true => exact h x List.mem_cons_self
  | false => exact Q1ip n fun y hy => h y (List.mem_cons_of_mem _ hy)
theorem Qp {B : Nat} {v : Val} (h : Val.Sm B v) (n : ByteArray) : Val.Sm B (prt v n) := by
 unfold prt
 cases v.kind == 5 with
 | true => exact Q1ip n h.all.2.2.2
 | false => exact Val.Sm.leaf 0 0 _
def LSm {α : Type} (p : α → Prop) (l : List α) : Prop := l.length ≤ sB ∧ ∀ x ∈ l, p x
theorem LSm.leaf {α : Type} {l : List α} (h : l.length ≤ sB) : LSm (fun _ => True) l := ⟨h, fun _ _ => trivial⟩
theorem LSm.nil {α : Type} {p : α → Prop} : LSm p [] := ⟨Nat.zero_le _, fun _ h => by cases h⟩
theorem Q69 {x : Val} (h : Val.Sm sB x) : (xL x).1.length ≤ sB ∧ ∀ y ∈ (xL x).1, Val.Sm sB y := by
 unfold xL
 cases x.kind == 4 with
 | true => exact ⟨h.all.1, h.all.2.2.1⟩
 | false => exact ⟨Nat.zero_le _, fun _ h => by cases h⟩
theorem Q7a {α : Type} {f : Val → α × Bool} {p : α → Prop} (hf : ∀ y, Val.Sm sB y → p (f y).1) {x : Val} (h : Val.Sm sB x) : LSm p (xE f x).1 := by
 have hx := Q69 h
 refine ⟨by show ((xL x).1.map _).length ≤ _; rw [List.length_map]; exact hx.1, fun z hz => ?_⟩
 obtain ⟨y, hy, rfl⟩ := List.mem_map.1 hz
 exact hf y (hx.2 y hy)
theorem Q3y {α : Type} {e : α → Val} {p : α → Prop} (he : ∀ x, p x → Val.Sm sB (e x)) {l : List α} (h : LSm p l) : Val.Sm sB (vL (l.map e)) :=
 Q2en (by rw [List.length_map]; exact h.1) fun z hz => by
  obtain ⟨x, hx, rfl⟩ := List.mem_map.1 hz
  exact he x (h.2 x hx)
theorem Q1gr {α : Type} (a b : Bool) (c : α) : (bif a then (c, b) else (c, false)) = (c, a && b) := by cases a <;> rfl
def s5 (x : Val) : Val := bif x.kind == 5 then x else vZ
theorem Qp5 {x : Val} (h : Val.Sm sB x) : Val.Sm sB (s5 x) := by
 unfold s5
 cases x.kind == 5 with
 | true => exact h
 | false => exact Qpj
theorem Q165 {α : Type} {f : Val → α × Bool} (hn : ∀ v, (v.kind == 5) = false → f v = ((f vZ).1, v.kind == 0)) (hz : (f vZ).2 = true) (x : Val) : (f (s5 x)).1 = (f x).1 ∧ (f x).2 = (isM x && (f (s5 x)).2) := by
 unfold s5
 cases h : x.kind == 5 with
 | true => exact ⟨rfl, by rw [Q13q h, cond_true, Bool.true_and]⟩
 | false => rw [hn x h, cond_false, Qo1 h, hz]; exact ⟨rfl, by rw [Bool.and_true]⟩
def rS (x : Val) : ByteArray × Bool := (bif x.kind == 0 then (⟨#[]⟩ : ByteArray) else x.s, x.kind == 3 || x.kind == 0)
def Agr {α : Type} (f g : Val → α × Bool) : Prop := ∀ v, (f v).2 = (g v).2 ∧ ((g v).2 = true → (f v).1 = (g v).1)
theorem Q269 : Agr rS xS := fun v => by
 unfold rS xS
 cases h3 : (v.kind == 3) with
 | true =>
  have : (v.kind == 0) = false := by rw [eq_of_beq h3]; rfl
  rw [this]
  exact ⟨rfl, fun _ => rfl⟩
 | false =>
  cases h0 : (v.kind == 0) with
  | true => exact ⟨rfl, fun _ => rfl⟩
  | false => exact ⟨rfl, fun h => by cases h⟩
theorem Qaa {α : Type} {f g : Val → α × Bool} (h : Agr f g) : Agr (xE f) (xE g) := fun v => by
 have h1 : ∀ l : List Val, (l.all fun y => (f y).2) = l.all fun y => (g y).2 := by
  intro l
  induction l with
  | nil => rfl
  | cons x l ih => rw [List.all_cons, List.all_cons, ih, (h x).1]
 have h2 : ∀ l : List Val, (l.all fun y => (g y).2) = true → (l.map fun y => (f y).1) = l.map fun y => (g y).1 := by
  intro l
  induction l with
  | nil => intro _; rfl
  | cons x l ih =>
   intro hl
   rw [List.all_cons, Bool.and_eq_true] at hl
   rw [List.map_cons, List.map_cons, ih hl.2, (h x).2 hl.1]
 unfold xE
 refine ⟨by rw [h1], fun hl => ?_⟩
 rw [Bool.and_eq_true] at hl
 exact h2 _ hl.2
theorem Q1zg {v : Val} (h : isM v = false) : (v.kind == 5) = false := by
 cases c : (v.kind == 5) with
 | true => rw [Q13q c] at h; cases h
 | false => rfl
end Go.Pv
end

section
/- Decoders that count what is of a bR kind: counters, and when they stay. No program is in sight here. -/
namespace Go.Pv
def bw (w : Int) (n : Nat) : Int := bif n == 0 then w else w64 (w + (n : Int))
theorem Q1ui (x y : Int) : w64 (w64 x + y) = w64 (x + y) := by
 unfold w64 IntKind.wrap
 simp [IntKind.signed, IntKind.bits]
 omega
theorem Qce (w : Int) (a b : Nat) : bw (bw w a) b = bw w (a + b) := by
 unfold bw
 cases ha : (a == 0) with
 | true =>
  have := eq_of_beq ha
  subst this
  rw [Nat.zero_add]
  rfl
 | false =>
  have ha' := beq_eq_false_iff_ne.1 ha
  cases hb : (b == 0) with
  | true =>
   have := eq_of_beq hb
   subst this
   rw [Nat.add_zero, ha]
   rfl
  | false =>
   rw [show (a + b == 0) = false from beq_eq_false_iff_ne.2 (by omega), cond_false, cond_false, cond_false, Q1ui]
   congr 1
   omega
theorem Q1z5 {n : Nat} (h : n ≤ 4611686018427387904) : decide (0 < bw 0 n) = !(n == 0) := by
 unfold bw
 cases hn : (n == 0) with
 | true => rfl
 | false =>
  have := beq_eq_false_iff_ne.1 hn
  rw [cond_false, Q134 (by omega)]
  simp
  omega
def nb (b : Bool) : Nat := bif b then 0 else 1
theorem nb0 (b : Bool) : (nb b == 0) = b := by cases b <;> rfl
theorem Qxu (b : Bool) : nb b ≤ 1 := by cases b <;> exact Nat.le_of_ble_eq_true rfl
theorem add0 (a b : Nat) : (a + b == 0) = (a == 0 && b == 0) := by
 cases a with
 | zero => rw [Nat.zero_add]; rfl
 | succ a => rw [show (a + 1 + b == 0) = false from beq_eq_false_iff_ne.2 (by omega)]; rfl
def cK (k : Int) (x : Val) : Nat := nb (x.kind == k || x.kind == 0)
def cM (v : Val) : Nat := cK 5 v
theorem cM0 (v : Val) : (cM v == 0) = isM v := nb0 _
def pK (k : Int) (v : Val) (n : ByteArray) : Nat := cM v + cK k (prt v n)
theorem kN (x : Val) : (cK 2 x == 0) = (xN x).2 := by unfold cK xN; rw [nb0]; cases (x.kind == 2) <;> rfl
theorem kS (x : Val) : (cK 3 x == 0) = (xS x).2 := by unfold cK xS; rw [nb0]; cases (x.kind == 3) <;> rfl
theorem kB (x : Val) : (cK 1 x == 0) = (xB x).2 := by unfold cK xB; rw [nb0]; cases (x.kind == 1) <;> rfl
theorem kL (x : Val) : (cK 4 x == 0) = (xL x).2 := by unfold cK xL; rw [nb0]; cases (x.kind == 4) <;> rfl
theorem pN0 (v : Val) (n : ByteArray) : (pK 2 v n == 0) = (isM v && (dN v n).2) := by unfold pK; rw [add0, cM0, kN]
theorem pS0 (v : Val) (n : ByteArray) : (pK 3 v n == 0) = (isM v && (dS v n).2) := by unfold pK; rw [add0, cM0, kS]
theorem pB0 (v : Val) (n : ByteArray) : (pK 1 v n == 0) = (isM v && (dB v n).2) := by unfold pK; rw [add0, cM0, kB]
theorem Q95 (k : Int) (x : Val) : cK k x ≤ 1 := Qxu _
theorem Q4r (k : Int) (v : Val) (n : ByteArray) : pK k v n ≤ 2 := by have := Q95 5 v; have := Q95 k (prt v n); unfold pK cM; omega
def sumC (c : Val → Nat) : List Val → Nat
 | [] => 0
 | x :: r => c x + sumC c r
theorem Q1zw {c : Val → Nat} {p : Val → Bool} (h : ∀ x, (c x == 0) = p x) : ∀ l : List Val, (sumC c l == 0) = l.all p
 | [] => rfl
 | x :: l => by rw [sumC, add0, h, Q1zw h l, List.all_cons]
theorem Q1iq {c : Val → Nat} {K B : Nat} {P : Val → Prop} (hc : ∀ x, P x → c x ≤ K) : ∀ {l : List Val}, (∀ x ∈ l, P x) → l.length ≤ B → sumC c l ≤ B * K
 | [], _, _ => Nat.zero_le _
 | x :: l, h, hl => by
  cases B with
  | zero => simp at hl
  | succ B =>
   have h1 := hc x (h x List.mem_cons_self)
   have h2 := Q1iq (B := B) hc (fun y hy => h y (List.mem_cons_of_mem _ hy)) (by simp at hl; omega)
   rw [sumC, Nat.succ_mul]
   omega
def pE (c : Val → Nat) (v : Val) (n : ByteArray) : Nat := pK 4 v n + sumC c (dL v n).1
theorem pE0 {α : Type} {f : Val → α × Bool} {c : Val → Nat} (h : ∀ x, (c x == 0) = (f x).2) (v : Val) (n : ByteArray) : (pE c v n == 0) = (isM v && (dE f v n).2) := by
 unfold pE pK
 rw [add0, add0, cM0, kL, Q1zw h, Bool.and_assoc]
 rfl
theorem Q220 {B : Nat} {x : Val} (h : Val.Sm B x) : (xL x).1.length ≤ B ∧ ∀ y ∈ (xL x).1, Val.Sm B y := by
 unfold xL
 cases x.kind == 4 with
 | true => exact ⟨h.all.1, h.all.2.2.1⟩
 | false => exact ⟨Nat.zero_le _, fun _ h => by cases h⟩
theorem Qf7 {c : Val → Nat} {B K : Nat} (hc : ∀ x, Val.Sm B x → c x ≤ K) {v : Val} (h : Val.Sm B v) (n : ByteArray) : pE c v n ≤ 2 + B * K := by
 have hx := Q220 (Qp h n)
 have h1 := Q1iq hc hx.2 hx.1
 have h2 := Q4r 4 v n
 change pK 4 v n + sumC c (xL (prt v n)).1 ≤ _
 omega
theorem Q1i8 (s : ByteArray) : sLt s s = false := by rw [Q1q6, Qot]; rfl
theorem and_tt {a b : Bool} (h : a = true) (k : b = true) : (a && b) = true := by rw [h, k]; rfl
theorem Q1zl {a b : Bool} (h : b = true) : (a || b) = true := by rw [h, Bool.or_true]
theorem Q6t {α : Type} {G : Nat → Option Fun} {c : α → En} {r : Rs} {x y : α} (h : x = y) (t : Q5 G (c x) r) : Q5 G (c y) r := h ▸ t
def resC {α : Type} (n : Nat) (x z : α) : α × Int := bif decide (0 < bw 0 n) then (z, 6) else (x, 0)
theorem Qcp {α : Type} {n : Nat} (h : n ≤ 4611686018427387904) (x z : α) : resC n x z = bif n == 0 then (x, 0) else (z, 6) := by
 unfold resC
 rw [Q1z5 h]
 cases (n == 0) <;> rfl
end Go.Pv
end

section
/- Small dK; equality of what is the same (printed by a program). -/
namespace Go.Proofs.YtimjjohlpnkacaaGreat
open Go.Pv
abbrev G : Nat → Option Fun := tabG Ir.table
abbrev Γ : Nat → Option Ty := gam 51
inductive Qx4 where
  | k0 (q0 : Int)
  | k1
mutual
def Qfx (p0 : Val) (p1 : Int) (p2 : Int) : Int :=
 bif (decide (p1 ≤ 0)) then
  (-1)
 else
  bif (decide (p2 ≤ 0)) then
   (-1)
  else
   bif (decide (1000 < (ByteArray.size p0.s : Int))) then
    (-1)
   else
    (match (Q4p p0 p2 p0.fields 0 (Q4e p0 p2 p0.list 0 (w64 (p1 - 1)))) with
    | .k0 ji => ji
    | .k1 => (-1))
termination_by SizeOf.sizeOf p0
decreasing_by all_goals first | exact Val.Q13v _ | exact Val.Qoe _
def Q4e (p0 : Val) (p2 : Int) : List Val → Nat → Int → Int
 | [], _i0, ah =>
  ah
 | x0 :: r0, i0, ah =>
  bif (decide (0 ≤ ah)) then
   Q4e p0 p2 r0 (i0 + 1) (Qfx x0 ah (w64 (p2 - 1)))
  else
   ah
termination_by l => SizeOf.sizeOf l
decreasing_by all_goals first | exact Q13u _ _ | exact Q1hg _ _ | exact Q183 _ _
def Q4p (p0 : Val) (p2 : Int) : List Fld → Nat → Int → Qx4
 | [], _i1, bQ =>
  (.k0 bQ)
 | x1 :: r1, i1, bQ =>
  bif (decide (0 ≤ bQ)) then
   bif (decide (1000 < (ByteArray.size x1.name : Int))) then
    (.k1)
   else
    Q4p p0 p2 r1 (i1 + 1) (Qfx x1.v bQ (w64 (p2 - 1)))
  else
   (.k0 bQ)
termination_by l => SizeOf.sizeOf l
decreasing_by all_goals first | exact Q13u _ _ | exact Q1hg _ _ | exact Q183 _ _
end
def Q1e7 (_p0 : Val) (p2 : Int) (i0 : Nat) (ah : Int) : List PV :=
  [.un, iN ah, iN p2, .bx 0 0, .un, .un, .un, iN (i0 : Int)] ++ nuns 65
def Q1fo (p0 : Val) (_p2 : Int) (_i0 : Nat) (_ah : Int) : List Ob :=
  [⟨5, 0, true, (Val.cells p0)⟩]
def Qcy (p0 : Val) (p2 : Int) (i0 : Nat) (ah : Int) : En := .loop 0 Ir.Qk9 Ir.Q1mm (Q1e7 p0 p2 i0 ah) (Q1fo p0 p2 i0 ah)
def Qez (p0 : Val) (p2 : Int) (q0 : Int) (z : Nat → PV) (_zo : Nat → List PV) : St :=
  ⟨[z 0, iN q0, iN p2, .bx 0 0] ++ zr z 4 69, [(0, ⟨5, 0, true, (Val.cells p0)⟩)], 577⟩
def Qdm (p0 : Val) (p2 : Int) (e : En) (q : Int) : Prop := ∃ z zo, Q5 G e (.st (.exit 0) (Qez p0 p2 q z zo))
theorem Qvt (p0 : Val) (p2 : Int) {e e' : En} (h : ∀ r, Q5 G e r → Q5 G e' r) : ∀ q, Qdm p0 p2 e q → Qdm p0 p2 e' q
  | _, ⟨z, zo, hz⟩ => ⟨z, zo, h _ hz⟩
def Q1e8 (_p0 : Val) (p2 : Int) (i1 : Nat) (bQ : Int) : List PV :=
  [.un, iN bQ, iN p2, .bx 0 0, .un, .un, .un, .un, iN (i1 : Int)] ++ nuns 64
def Q1fp (p0 : Val) (_p2 : Int) (_i1 : Nat) (_bQ : Int) : List Ob :=
  [⟨5, 0, true, (Val.cells p0)⟩]
def Qay (p0 : Val) (p2 : Int) (i1 : Nat) (bQ : Int) : En := .loop 0 Ir.Qka Ir.Q1mn (Q1e8 p0 p2 i1 bQ) (Q1fp p0 p2 i1 bQ)
def Qf0 (p0 : Val) (_p2 : Int) (q0 : Int) (z : Nat → PV) (_zo : Nat → List PV) : St :=
  ⟨[z 0, iN q0] ++ zr z 2 71, [(0, ⟨5, 0, true, (Val.cells p0)⟩)], 577⟩
def Qr6 (_p0 : Val) (_p2 : Int) (z : Nat → PV) (zo : Nat → List PV) : St :=
  ⟨zr z 0 6 ++ [iN (-1)] ++ zr z 7 66, [(0, ⟨5, 0, true, zo 0⟩)], 1153⟩
def Qbi (p0 : Val) (p2 : Int) (e : En) : Qx4 → Prop
  | .k0 q0 => ∃ z zo, Q5 G e (.st (.exit 2) (Qf0 p0 p2 q0 z zo))
  | .k1 => ∃ z zo, Q5 G e (.st .ret (Qr6 p0 p2 z zo))
theorem Qvu (p0 : Val) (p2 : Int) {e e' : En} (h : ∀ r, Q5 G e r → Q5 G e' r) : ∀ q, Qbi p0 p2 e q → Qbi p0 p2 e' q
  | .k0 _, ⟨z, zo, hz⟩ => ⟨z, zo, h _ hz⟩
  | .k1, ⟨z, zo, hz⟩ => ⟨z, zo, h _ hz⟩
def Q1kg (p0 : Val) (p1 : Int) (p2 : Int) : En := .call 170 [.agg (Val.cells p0), iN p1, iN p2] []
def Q1gj (p0 : Val) (p1 : Int) (p2 : Int) : Rs := .ret (iN (Qfx p0 p1 p2)) []
abbrev Qzw (p0 : Val) : Prop := Val.Sm 4611686018427387904 p0
def Q8v (p0 : Val) : Prop := ∀ (q : Val), SizeOf.sizeOf q < SizeOf.sizeOf p0 → ∀ (p1 : Int), ∀ (p2 : Int), Qzw q → Q5 G (Q1kg q p1 p2) (Q1gj q p1 p2)
def Qb7 (p0 : Val) (_p2 : Int) : Prop := (List.length p0.list ≤ 4611686018427387904) ∧ (∀ x0 ∈ p0.list, Qzw x0) ∧ True
def Q9m (p0 : Val) (_p2 : Int) : Prop := (List.length p0.fields ≤ 4611686018427387904) ∧ (∀ x1 ∈ p0.fields, Qzw x1.v) ∧ True
theorem Q16f (p0 : Val) (_p1 : Int) (p2 : Int) (H : Qzw p0) : (Qb7 p0 p2) ∧ (Q9m p0 p2) ∧ True := by
  obtain ⟨h1, h2, h3, h4⟩ := H.all
  simp only [Qb7, Q9m]
  exact ⟨⟨h1, h3, trivial⟩, ⟨h2, h4, trivial⟩, trivial⟩
def Qt0 (p0 : Val) (_p2 : Int) (i0 : Nat) (_ah : Int) : List PV :=
  nuns 7 ++ [iN (i0 : Int)] ++ nuns 15 ++ [iN (i0 : Int), .bx 0 3, .sl (Val.rows p0.list), iN ((List.length p0.list) : Int), .bool false, .bool false, .tup [], .tup [], .bool false]
def Qly (_p0 : Val) (_p2 : Int) (_i0 : Nat) (_ah : Int) : List (Nat × List PV) :=
  []
theorem Q1cg (p0 : Val) (p2 : Int) (_H : Qb7 p0 p2) (_rec : Q8v p0) (i0 : Nat) (ah : Int) (bF : (decide ((i0 : Int) < ((List.length p0.list) : Int))) = false) : Qdm p0 p2 (Qcy p0 p2 i0 ah) ah := by
 exact ⟨(envF (Qt0 p0 p2 i0 ah)), (zoF (Qly p0 p2 i0 ah)), Qg VOK.nil (x := ((.exit 0), Qez p0 p2 ah (envF (Qt0 p0 p2 i0 ah)) (zoF (Qly p0 p2 i0 ah)))) [hP 3 (Qq _ _ (Val.Q7 p0.list)), hB 0 bF] [] (by kernel_rfl)⟩
theorem Q19t (p0 : Val) (p2 : Int) (H : Qb7 p0 p2) (rec : Q8v p0) (x0 : Val) (i0 : Nat) (ah : Int) (bH : p0.list[i0]? = some x0) (bT : i0 < List.length p0.list) (bF : (decide ((i0 : Int) < ((List.length p0.list) : Int))) = true) (h0 : (decide (0 ≤ ah)) = true) {r : Rs} (hr : Q5 G (Qcy p0 p2 (i0 + 1) (Qfx x0 ah (w64 (p2 - 1)))) r) : Q5 G (Qcy p0 p2 i0 ah) r := by
 have hB0 := H.1; have e0 := of_decide_eq_true h0
 exact Qc VOK.nil [hP 3 (Qq _ _ (Val.Q7 p0.list)), hB 0 bF, hB 2 h0, hP 4 (Q1f 5 _ i0 _ (Val.Qb bH) rfl), hP 7 (Q26 i0 (by omega))] [aN (rec x0 (szL bH) ah (w64 (p2 - 1)) (H.2.1 x0 (Q15 bH)))] hr (by kernel_rfl)
def Qt1 (p0 : Val) (_p2 : Int) (i0 : Nat) (ah : Int) (_x0 : Val) : List PV :=
  nuns 7 ++ [iN (i0 : Int)] ++ nuns 15 ++ [iN (i0 : Int), .bx 0 3, .sl (Val.rows p0.list), iN ((List.length p0.list) : Int), .bool true, .bool true, iN ah, .bool false, .bool false]
def Qlz (_p0 : Val) (_p2 : Int) (_i0 : Nat) (_ah : Int) (_x0 : Val) : List (Nat × List PV) :=
  []
theorem Q1ch (p0 : Val) (p2 : Int) (_H : Qb7 p0 p2) (_rec : Q8v p0) (x0 : Val) (i0 : Nat) (ah : Int) (_bH : p0.list[i0]? = some x0) (_bT : i0 < List.length p0.list) (bF : (decide ((i0 : Int) < ((List.length p0.list) : Int))) = true) (h0 : (decide (0 ≤ ah)) = false) : Qdm p0 p2 (Qcy p0 p2 i0 ah) ah := by
 exact ⟨(envF (Qt1 p0 p2 i0 ah x0)), (zoF (Qlz p0 p2 i0 ah x0)), Qg VOK.nil (x := ((.exit 0), Qez p0 p2 ah (envF (Qt1 p0 p2 i0 ah x0)) (zoF (Qlz p0 p2 i0 ah x0)))) [hP 3 (Qq _ _ (Val.Q7 p0.list)), hB 0 bF, hB 2 h0] [] (by kernel_rfl)⟩
theorem Q11j (p0 : Val) (p2 : Int) (H : Qb7 p0 p2) (rec : Q8v p0) : ∀ (r0 : List Val) (i0 : Nat) (ah : Int), List.drop i0 p0.list = r0 → Qdm p0 p2 (Qcy p0 p2 i0 ah) (Q4e p0 p2 r0 i0 ah)
 | [], i0, ah, hd => by
  have bF : (decide ((i0 : Int) < ((List.length p0.list) : Int))) = false := by have := Q1n hd; simp; omega
  rw [Q4e]
  exact Q1cg p0 p2 H rec i0 ah bF
 | x0 :: r0, i0, ah, hd => by
  obtain ⟨bH, bT, hd'⟩ := Q1o hd
  have bF : (decide ((i0 : Int) < ((List.length p0.list) : Int))) = true := by simp; omega
  rw [Q4e]
  cases h0 : (decide (0 ≤ ah)) with
  | true =>
   exact Qvt p0 p2 (fun r hr => Q19t p0 p2 H rec x0 i0 ah bH bT bF h0 hr) _ (Q11j p0 p2 H rec r0 _ _ hd')
  | false =>
   exact Q1ch p0 p2 H rec x0 i0 ah bH bT bF h0
def Qt2 (p0 : Val) (p2 : Int) (i1 : Nat) (_bQ : Int) : List PV :=
  [.un, .un, iN p2, .bx 0 0, .un, .un, .un, .un, iN (i1 : Int)] ++ nuns 34 ++ [iN (i1 : Int), .bx 0 4, .sl (Fld.rows p0.fields), iN ((List.length p0.fields) : Int), .bool false, .bool false, .tup [], .tup [], .bool false]
def Qm0 (_p0 : Val) (_p2 : Int) (_i1 : Nat) (_bQ : Int) : List (Nat × List PV) :=
  []
theorem Q1ci (p0 : Val) (p2 : Int) (_H : Q9m p0 p2) (_rec : Q8v p0) (i1 : Nat) (bQ : Int) (hc1 : (decide ((i1 : Int) < ((List.length p0.fields) : Int))) = false) : Qbi p0 p2 (Qay p0 p2 i1 bQ) (.k0 bQ) := by
 exact ⟨(envF (Qt2 p0 p2 i1 bQ)), (zoF (Qm0 p0 p2 i1 bQ)), Qg VOK.nil (x := ((.exit 2), Qf0 p0 p2 bQ (envF (Qt2 p0 p2 i1 bQ)) (zoF (Qm0 p0 p2 i1 bQ)))) [hP 3 (Qq _ _ (Fld.Q7 p0.fields)), hB 0 hc1] [] (by kernel_rfl)⟩
def Qt3 (p0 : Val) (p2 : Int) (i1 : Nat) (bQ : Int) (x1 : Fld) : List PV :=
  [.un, iN bQ, iN p2, .bx 0 0, .un, .un, .un, .un, iN (i1 : Int)] ++ nuns 34 ++ [iN (i1 : Int), .bx 0 4, .sl (Fld.rows p0.fields), iN ((List.length p0.fields) : Int), .bool true, .bool true, iN bQ, .bool true, .bool true, .un, .un, .bx 0 4, .sl (Fld.rows p0.fields), iN (i1 : Int), .rf [.str x1.name, iN x1.v.kind, iN x1.v.n, .str x1.v.s, .sl (Val.rows x1.v.list), .sl (Fld.rows x1.v.fields)], .rf [.str x1.name, iN x1.v.kind, iN x1.v.n, .str x1.v.s, .sl (Val.rows x1.v.list), .sl (Fld.rows x1.v.fields)], .str x1.name, iN (ByteArray.size x1.name : Int), .bool true]
def Qm1 (p0 : Val) (_p2 : Int) (_i1 : Nat) (_bQ : Int) (_x1 : Fld) : List (Nat × List PV) :=
  [(0, (Val.cells p0))]
theorem Q1cj (p0 : Val) (p2 : Int) (_H : Q9m p0 p2) (_rec : Q8v p0) (x1 : Fld) (i1 : Nat) (bQ : Int) (fF : p0.fields[i1]? = some x1) (_gQ : i1 < List.length p0.fields) (hc1 : (decide ((i1 : Int) < ((List.length p0.fields) : Int))) = true) (h0 : (decide (0 ≤ bQ)) = true) (h1 : (decide (1000 < (ByteArray.size x1.name : Int))) = true) : Qbi p0 p2 (Qay p0 p2 i1 bQ) (.k1) := by
 exact ⟨(envF (Qt3 p0 p2 i1 bQ x1)), (zoF (Qm1 p0 p2 i1 bQ x1)), Qg VOK.nil (x := (.ret, Qr6 p0 p2 (envF (Qt3 p0 p2 i1 bQ x1)) (zoF (Qm1 p0 p2 i1 bQ x1)))) [hP 3 (Qq _ _ (Fld.Q7 p0.fields)), hB 0 hc1, hB 2 h0, hP 4 (Q1f 6 _ i1 _ (Fld.Qb fF) rfl), hB 3 h1] [] (by kernel_rfl)⟩
theorem Q19u (p0 : Val) (p2 : Int) (H : Q9m p0 p2) (rec : Q8v p0) (x1 : Fld) (i1 : Nat) (bQ : Int) (fF : p0.fields[i1]? = some x1) (gQ : i1 < List.length p0.fields) (hc1 : (decide ((i1 : Int) < ((List.length p0.fields) : Int))) = true) (h0 : (decide (0 ≤ bQ)) = true) (h1 : (decide (1000 < (ByteArray.size x1.name : Int))) = false) {r : Rs} (hr : Q5 G (Qay p0 p2 (i1 + 1) (Qfx x1.v bQ (w64 (p2 - 1)))) r) : Q5 G (Qay p0 p2 i1 bQ) r := by
 have hB0 := H.1; have e0 := of_decide_eq_true h0; have e1 := of_decide_eq_false h1
 exact Qc VOK.nil [hP 3 (Qq _ _ (Fld.Q7 p0.fields)), hB 0 hc1, hB 2 h0, hP 4 (Q1f 6 _ i1 _ (Fld.Qb fF) rfl), hB 3 h1, hP 3 (Q1f 6 _ i1 _ (Fld.Qb fF) rfl), hP 8 (Q26 i1 (by omega))] [aN (rec x1.v (szF fF) bQ (w64 (p2 - 1)) (H.2.1 x1 (Q15 fF)))] hr (by kernel_rfl)
def Qt4 (p0 : Val) (p2 : Int) (i1 : Nat) (bQ : Int) (_x1 : Fld) : List PV :=
  [.un, .un, iN p2, .bx 0 0, .un, .un, .un, .un, iN (i1 : Int)] ++ nuns 34 ++ [iN (i1 : Int), .bx 0 4, .sl (Fld.rows p0.fields), iN ((List.length p0.fields) : Int), .bool true, .bool true, iN bQ, .bool false, .bool false]
def Qm2 (_p0 : Val) (_p2 : Int) (_i1 : Nat) (_bQ : Int) (_x1 : Fld) : List (Nat × List PV) :=
  []
theorem Q1ck (p0 : Val) (p2 : Int) (_H : Q9m p0 p2) (_rec : Q8v p0) (x1 : Fld) (i1 : Nat) (bQ : Int) (_fF : p0.fields[i1]? = some x1) (_gQ : i1 < List.length p0.fields) (hc1 : (decide ((i1 : Int) < ((List.length p0.fields) : Int))) = true) (h0 : (decide (0 ≤ bQ)) = false) : Qbi p0 p2 (Qay p0 p2 i1 bQ) (.k0 bQ) := by
 exact ⟨(envF (Qt4 p0 p2 i1 bQ x1)), (zoF (Qm2 p0 p2 i1 bQ x1)), Qg VOK.nil (x := ((.exit 2), Qf0 p0 p2 bQ (envF (Qt4 p0 p2 i1 bQ x1)) (zoF (Qm2 p0 p2 i1 bQ x1)))) [hP 3 (Qq _ _ (Fld.Q7 p0.fields)), hB 0 hc1, hB 2 h0] [] (by kernel_rfl)⟩
theorem Q11k (p0 : Val) (p2 : Int) (H : Q9m p0 p2) (rec : Q8v p0) : ∀ (r1 : List Fld) (i1 : Nat) (bQ : Int), List.drop i1 p0.fields = r1 → Qbi p0 p2 (Qay p0 p2 i1 bQ) (Q4p p0 p2 r1 i1 bQ)
 | [], i1, bQ, hd => by
  have hc1 : (decide ((i1 : Int) < ((List.length p0.fields) : Int))) = false := by have := Q1n hd; simp; omega
  rw [Q4p]
  exact Q1ci p0 p2 H rec i1 bQ hc1
 | x1 :: r1, i1, bQ, hd => by
  obtain ⟨fF, gQ, hd'⟩ := Q1o hd
  have hc1 : (decide ((i1 : Int) < ((List.length p0.fields) : Int))) = true := by simp; omega
  rw [Q4p]
  cases h0 : (decide (0 ≤ bQ)) with
  | true =>
   cases h1 : (decide (1000 < (ByteArray.size x1.name : Int))) with
   | true =>
    exact Q1cj p0 p2 H rec x1 i1 bQ fF gQ hc1 h0 h1
   | false =>
    exact Qvu p0 p2 (fun r hr => Q19u p0 p2 H rec x1 i1 bQ fF gQ hc1 h0 h1 hr) _ (Q11k p0 p2 H rec r1 _ _ hd')
  | false =>
   exact Q1ck p0 p2 H rec x1 i1 bQ fF gQ hc1 h0
theorem Q2d8 (p0 : Val) (p1 : Int) (p2 : Int) (H : Qzw p0) (rec : Q8v p0) : Q5 G (Q1kg p0 p1 p2) (Q1gj p0 p1 p2) := by
  unfold Q1gj
  rw [Qfx]
  cases h0 : (decide (p1 ≤ 0)) with
  | true =>
   exact Q6 (fn := Ir.K1s) (by kernel_rfl) VOK.nil [hB 3 h0] [] (by kernel_rfl)
  | false =>
   cases h1 : (decide (p2 ≤ 0)) with
   | true =>
    exact Q6 (fn := Ir.K1s) (by kernel_rfl) VOK.nil [hB 3 h0, hB 2 h1] [] (by kernel_rfl)
   | false =>
    cases h2 : (decide (1000 < (ByteArray.size p0.s : Int))) with
    | true =>
     exact Q6 (fn := Ir.K1s) (by kernel_rfl) VOK.nil [hB 3 h0, hB 2 h1, hB 5 h2] [] (by kernel_rfl)
    | false =>
     have hl3 := Q11j p0 p2 ((Q16f p0 p1 p2 H).1) rec p0.list 0 (w64 (p1 - 1)) (by simp)
     obtain ⟨z3, zo3, hl3⟩ := hl3
     have hl4 := Q11k p0 p2 ((Q16f p0 p1 p2 H).2.1) rec p0.fields 0 (Q4e p0 p2 p0.list 0 (w64 (p1 - 1))) (by simp)
     cases hr4 : (Q4p p0 p2 p0.fields 0 (Q4e p0 p2 p0.list 0 (w64 (p1 - 1)))) with
     | k0 ji =>
       rw [hr4] at hl4
       obtain ⟨z4, iX, hl4⟩ := hl4
       exact Q6 (fn := Ir.K1s) (by kernel_rfl) VOK.nil [hB 3 h0, hB 2 h1, hB 5 h2] [aN hl3, aN hl4] (by kernel_rfl)
     | k1 =>
       rw [hr4] at hl4
       obtain ⟨z4, iX, hl4⟩ := hl4
       exact Q6 (fn := Ir.K1s) (by kernel_rfl) VOK.nil [hB 3 h0, hB 2 h1, hB 5 h2] [aN hl3, aN hl4] (by kernel_rfl)
theorem Q1zb : ∀ (k : Nat) (p0 : Val), SizeOf.sizeOf p0 < k → ∀ (p1 : Int), ∀ (p2 : Int), Qzw p0 → Q5 G (Q1kg p0 p1 p2) (Q1gj p0 p1 p2)
  | 0, _, h, _, _, _ => absurd h (Nat.not_lt_zero _)
  | k + 1, p0, h, p1, p2, H => Q2d8 p0 p1 p2 H (fun q hq p1 p2 hH => Q1zb k q (by omega) p1 p2 hH)
theorem Q2es (p0 : Val) (p1 : Int) (p2 : Int) (H : Qzw p0) : Q5 G (Q1kg p0 p1 p2) (Q1gj p0 p1 p2) := Q1zb _ p0 (Nat.lt_succ_self _) p1 p2 H
def Qyb (p0 : Val) (p1 : Int) : Bool :=
 (decide (0 ≤ (Qfx p0 p1 p1)))
def Q26f (p0 : Val) (p1 : Int) : En := .call 63 [.agg (Val.cells p0), iN p1] []
def Q1vf (p0 : Val) (p1 : Int) : Rs := .ret (.bool (Qyb p0 p1)) []
def Q1of (p0 : Val) (_p1 : Int) : Prop := (Qzw p0) ∧ True
theorem Q1qc (p0 : Val) (p1 : Int) (H : Q1of p0 p1) : Q5 G (Q26f p0 p1) (Q1vf p0 p1) := by
 unfold Q1vf Qyb
 exact Q6 (fn := Ir.K1r) (by kernel_rfl) VOK.nil [] [aN (Q2es p0 p1 p1 H.1)] (by kernel_rfl)
def Q1zq (p0 : Bool) (p1 : Bool) : Int :=
 bif p0 then
  bif p1 then
   (-1)
  else
   (-1)
 else
  bif p1 then
   1
  else
   0
def Q26g (p0 : Bool) (p1 : Bool) : En := .call 230 [.bool p0, .bool p1] []
def Q1vg (p0 : Bool) (p1 : Bool) : Rs := .ret (iN (Q1zq p0 p1)) []
theorem Q1c1 (p0 : Bool) (p1 : Bool) : Q5 G (Q26g p0 p1) (Q1vg p0 p1) := by
 unfold Q1vg Q1zq
 cases h0 : p0 with
 | true =>
  cases h1 : p1 with
  | true =>
   exact Q6 (fn := Ir.K1t) (by kernel_rfl) VOK.nil [] [] (by kernel_rfl)
  | false =>
   exact Q6 (fn := Ir.K1t) (by kernel_rfl) VOK.nil [] [] (by kernel_rfl)
 | false =>
  cases h1 : p1 with
  | true =>
   exact Q6 (fn := Ir.K1t) (by kernel_rfl) VOK.nil [] [] (by kernel_rfl)
  | false =>
   exact Q6 (fn := Ir.K1t) (by kernel_rfl) VOK.nil [] [] (by kernel_rfl)
def Q1zo (_ : Val) : Int := 0
def Q17i (p0 : Val) : List Val → Nat → Unit
 | [], _i0 =>
  ()
 | _x0 :: r0, i0 =>
  Q17i p0 r0 (i0 + 1)
def Q1e2 (_p0 : Val) (i0 : Nat) : List PV :=
  [.un, .un, .bx 0 0, .bx 1 0, .un, iN 0, iN (i0 : Int)] ++ nuns 162
def Q1fl (p0 : Val) (_i0 : Nat) : List Ob :=
  [⟨5, 0, true, (Val.cells p0)⟩, ⟨5, 0, true, (Val.cells p0)⟩]
def Qg9 (p0 : Val) (i0 : Nat) : En := .loop 0 Ir.Qk4 Ir.Q1mh (Q1e2 p0 i0) (Q1fl p0 i0)
def Qr1 (p0 : Val) (z : Nat → PV) (_zo : Nat → List PV) : St :=
  ⟨[z 0, z 1, .bx 0 0, .bx 1 0, z 4, iN 0] ++ zr z 6 163, [(0, ⟨5, 0, true, (Val.cells p0)⟩), (1, ⟨5, 0, true, (Val.cells p0)⟩)], 1026⟩
def Qbg (p0 : Val) (e : En) (_q : Unit) : Prop := ∃ z zo, Q5 G e (.st (.exit 0) (Qr1 p0 z zo))
theorem Qvo (p0 : Val) {e e' : En} (h : ∀ r, Q5 G e r → Q5 G e' r) : ∀ q, Qbg p0 e q → Qbg p0 e' q
  | _, ⟨z, zo, hz⟩ => ⟨z, zo, h _ hz⟩
def Q17j (p0 : Val) : List Fld → Nat → Unit
 | [], _i1 =>
  ()
 | _x1 :: r1, i1 =>
  Q17j p0 r1 (i1 + 1)
def Q1e3 (_p0 : Val) (i1 : Nat) : List PV :=
  [.un, .un, .bx 0 0, .bx 1 0, .un, iN 0, .un, iN (i1 : Int)] ++ nuns 161
def Q1fm (p0 : Val) (_i1 : Nat) : List Ob :=
  [⟨5, 0, true, (Val.cells p0)⟩, ⟨5, 0, true, (Val.cells p0)⟩]
def Qga (p0 : Val) (i1 : Nat) : En := .loop 0 Ir.Qk5 Ir.Q1mi (Q1e3 p0 i1) (Q1fm p0 i1)
def Qr2 (p0 : Val) (z : Nat → PV) (_zo : Nat → List PV) : St :=
  ⟨[z 0, z 1, .bx 0 0, .bx 1 0, z 4, iN 0] ++ zr z 6 163, [(0, ⟨5, 0, true, (Val.cells p0)⟩), (1, ⟨5, 0, true, (Val.cells p0)⟩)], 1026⟩
def Qbh (p0 : Val) (e : En) (_q : Unit) : Prop := ∃ z zo, Q5 G e (.st (.exit 2) (Qr2 p0 z zo))
theorem Qvp (p0 : Val) {e e' : En} (h : ∀ r, Q5 G e r → Q5 G e' r) : ∀ q, Qbh p0 e q → Qbh p0 e' q
  | _, ⟨z, zo, hz⟩ => ⟨z, zo, h _ hz⟩
theorem Q2a0 (p0 : Val) : Q1zo p0 = (0) := by
  rfl
def Q1ke (p0 : Val) : En := .call 194 [.agg (Val.cells p0), .agg (Val.cells p0)] []
def Q1gh (p0 : Val) : Rs := .ret (iN (Q1zo p0)) []
abbrev Qzu (p0 : Val) : Prop := Val.Sm 4611686018427387904 p0
def Qcb (p0 : Val) : Prop := ∀ (q : Val), SizeOf.sizeOf q < SizeOf.sizeOf p0 → Qzu q → Q5 G (Q1ke q) (Q1gh q)
def Qd3 (p0 : Val) : Prop := (List.length p0.list ≤ 4611686018427387904) ∧ (∀ x0 ∈ p0.list, Qzu x0) ∧ True
def Qd4 (p0 : Val) : Prop := (List.length p0.fields ≤ 4611686018427387904) ∧ (∀ x1 ∈ p0.fields, Qzu x1.v) ∧ True
theorem Q16c (p0 : Val) (H : Qzu p0) : (Qd3 p0) ∧ (Qd4 p0) ∧ True := by
  obtain ⟨h1, h2, h3, h4⟩ := H.all
  simp only [Qd3, Qd4]
  exact ⟨⟨h1, h3, trivial⟩, ⟨h2, h4, trivial⟩, trivial⟩
def Qsv (p0 : Val) (i0 : Nat) : List PV :=
  nuns 6 ++ [iN (i0 : Int)] ++ nuns 38 ++ [iN (i0 : Int), .bx 0 3, .sl (Val.rows p0.list), iN ((List.length p0.list) : Int), .bool false, .bool false, .tup [], .tup [], .tup [], .tup [], .tup [], .bool false, .bool false, .tup [], .tup [], .bool false]
def Qlt (_p0 : Val) (_i0 : Nat) : List (Nat × List PV) :=
  []
theorem Q1cb (p0 : Val) (_H : Qd3 p0) (_rec : Qcb p0) (i0 : Nat) (bF : (decide ((i0 : Int) < ((List.length p0.list) : Int))) = false) : Qbg p0 (Qg9 p0 i0) () := by
 exact ⟨(envF (Qsv p0 i0)), (zoF (Qlt p0 i0)), Qg VOK.nil (x := ((.exit 0), Qr1 p0 (envF (Qsv p0 i0)) (zoF (Qlt p0 i0)))) [hP 3 (Qq _ _ (Val.Q7 p0.list)), hB 0 bF] [] (by kernel_rfl)⟩
theorem Q19o (p0 : Val) (H : Qd3 p0) (rec : Qcb p0) (x0 : Val) (i0 : Nat) (bH : p0.list[i0]? = some x0) (bT : i0 < List.length p0.list) (bF : (decide ((i0 : Int) < ((List.length p0.list) : Int))) = true) {r : Rs} (hr : Q5 G (Qg9 p0 (i0 + 1)) r) : Q5 G (Qg9 p0 i0) r := by
 have hB0 := H.1
 exact Qc VOK.nil [hP 3 (Qq _ _ (Val.Q7 p0.list)), hB 0 bF, hP 4 (Qq _ _ (Val.Q7 p0.list)), hB 0 bF, hP 8 (Q1f 5 _ i0 _ (Val.Qb bH) rfl), hP 4 (Q1f 5 _ i0 _ (Val.Qb bH) rfl), hP 4 (Q26 i0 (by omega))] [aN (rec x0 (szL bH) (H.2.1 x0 (Q15 bH)))] hr (by kernel_rfl)
theorem Q11e (p0 : Val) (H : Qd3 p0) (rec : Qcb p0) : ∀ (r0 : List Val) (i0 : Nat), List.drop i0 p0.list = r0 → Qbg p0 (Qg9 p0 i0) (Q17i p0 r0 i0)
 | [], i0, hd => by
  have bF : (decide ((i0 : Int) < ((List.length p0.list) : Int))) = false := by have := Q1n hd; simp; omega
  show Qbg p0 _ ()
  exact Q1cb p0 H rec i0 bF
 | x0 :: r0, i0, hd => by
  obtain ⟨bH, bT, hd'⟩ := Q1o hd
  have bF : (decide ((i0 : Int) < ((List.length p0.list) : Int))) = true := by simp; omega
  show Qbg p0 _ ()
  exact Qvo p0 (fun r hr => Q19o p0 H rec x0 i0 bH bT bF hr) _ (Q11e p0 H rec r0 _ hd')
def Qsw (p0 : Val) (i1 : Nat) : List PV :=
  nuns 7 ++ [iN (i1 : Int)] ++ nuns 83 ++ [iN (i1 : Int), .bx 0 4, .sl (Fld.rows p0.fields), iN ((List.length p0.fields) : Int), .bool false, .bool false, .tup [], .tup [], .tup [], .tup [], .tup [], .bool false, .bool false, .tup [], .tup [], .bool false]
def Qlu (_p0 : Val) (_i1 : Nat) : List (Nat × List PV) :=
  []
theorem Q1cc (p0 : Val) (_H : Qd4 p0) (_rec : Qcb p0) (i1 : Nat) (hc1 : (decide ((i1 : Int) < ((List.length p0.fields) : Int))) = false) : Qbh p0 (Qga p0 i1) () := by
 exact ⟨(envF (Qsw p0 i1)), (zoF (Qlu p0 i1)), Qg VOK.nil (x := ((.exit 2), Qr2 p0 (envF (Qsw p0 i1)) (zoF (Qlu p0 i1)))) [hP 3 (Qq _ _ (Fld.Q7 p0.fields)), hB 0 hc1] [] (by kernel_rfl)⟩
theorem Q19p (p0 : Val) (H : Qd4 p0) (rec : Qcb p0) (x1 : Fld) (i1 : Nat) (fF : p0.fields[i1]? = some x1) (gQ : i1 < List.length p0.fields) (hc1 : (decide ((i1 : Int) < ((List.length p0.fields) : Int))) = true) {r : Rs} (hr : Q5 G (Qga p0 (i1 + 1)) r) : Q5 G (Qga p0 i1) r := by
 have hB0 := H.1
 exact Qc VOK.nil [hP 3 (Qq _ _ (Fld.Q7 p0.fields)), hB 0 hc1, hP 4 (Qq _ _ (Fld.Q7 p0.fields)), hB 0 hc1, hP 8 (Q1f 6 _ i1 _ (Fld.Qb fF) rfl), hP 5 (Q1f 6 _ i1 _ (Fld.Qb fF) rfl), hP 2 (dec (sLt x1.name x1.name) false (Q1i8 _)), hP 3 (Q1f 6 _ i1 _ (Fld.Qb fF) rfl), hP 5 (Q1f 6 _ i1 _ (Fld.Qb fF) rfl), hP 2 (dec (!((sLt x1.name x1.name) || (sEq x1.name x1.name))) false (by rw [(Q1zl (Q8d.2 rfl))]; rfl)), hP 7 (Q1f 6 _ i1 _ (Fld.Qb fF) rfl), hP 5 (Q1f 6 _ i1 _ (Fld.Qb fF) rfl), hP 5 (Q26 i1 (by omega))] [aN (Q1c1 false false), aN (rec x1.v (szF fF) (H.2.1 x1 (Q15 fF)))] hr (by kernel_rfl)
theorem Q11f (p0 : Val) (H : Qd4 p0) (rec : Qcb p0) : ∀ (r1 : List Fld) (i1 : Nat), List.drop i1 p0.fields = r1 → Qbh p0 (Qga p0 i1) (Q17j p0 r1 i1)
 | [], i1, hd => by
  have hc1 : (decide ((i1 : Int) < ((List.length p0.fields) : Int))) = false := by have := Q1n hd; simp; omega
  show Qbh p0 _ ()
  exact Q1cc p0 H rec i1 hc1
 | x1 :: r1, i1, hd => by
  obtain ⟨fF, gQ, hd'⟩ := Q1o hd
  have hc1 : (decide ((i1 : Int) < ((List.length p0.fields) : Int))) = true := by simp; omega
  show Qbh p0 _ ()
  exact Qvp p0 (fun r hr => Q19p p0 H rec x1 i1 fF gQ hc1 hr) _ (Q11f p0 H rec r1 _ hd')
theorem Q2d6 (p0 : Val) (H : Qzu p0) (rec : Qcb p0) : Q5 G (Q1ke p0) (Q1gh p0) := by
  unfold Q1gh
  rw [Q2a0]
  have hl0 := Q11e p0 ((Q16c p0 H).1) rec p0.list 0 (by simp)
  obtain ⟨z0, eG, hl0⟩ := hl0
  have hl1 := Q11f p0 ((Q16c p0 H).2.1) rec p0.fields 0 (by simp)
  obtain ⟨z1, jk, hl1⟩ := hl1
  exact Q6 (fn := Ir.K1l) (by kernel_rfl) VOK.nil [hP 7 (dec (decide (p0.kind < p0.kind)) false (decide_eq_false (Int.lt_irrefl _))), hP 4 (dec (decide (p0.kind < p0.kind)) false (decide_eq_false (Int.lt_irrefl _))), hP 8 (dec (decide (p0.n < p0.n)) false (decide_eq_false (Int.lt_irrefl _))), hP 4 (dec (decide (p0.n < p0.n)) false (decide_eq_false (Int.lt_irrefl _))), hP 8 (dec (sLt p0.s p0.s) false (Q1i8 _)), hP 4 (dec (!((sLt p0.s p0.s) || (sEq p0.s p0.s))) false (by rw [(Q1zl (Q8d.2 rfl))]; rfl)), hP 7 (Qq _ _ (Val.Q7 p0.list)), hP 2 (Qq _ _ (Val.Q7 p0.list)), hP 0 (dec (decide (((List.length p0.list) : Int) < ((List.length p0.list) : Int))) false (decide_eq_false (Int.lt_irrefl _))), hP 2 (Qq _ _ (Val.Q7 p0.list)), hP 2 (Qq _ _ (Val.Q7 p0.list)), hP 0 (dec (decide (((List.length p0.list) : Int) < ((List.length p0.list) : Int))) false (decide_eq_false (Int.lt_irrefl _))), hP 7 (Qq _ _ (Fld.Q7 p0.fields)), hP 2 (Qq _ _ (Fld.Q7 p0.fields)), hP 0 (dec (decide (((List.length p0.fields) : Int) < ((List.length p0.fields) : Int))) false (decide_eq_false (Int.lt_irrefl _))), hP 2 (Qq _ _ (Fld.Q7 p0.fields)), hP 2 (Qq _ _ (Fld.Q7 p0.fields)), hP 0 (dec (decide (((List.length p0.fields) : Int) < ((List.length p0.fields) : Int))) false (decide_eq_false (Int.lt_irrefl _)))] [aN (Q1c1 false false), aN (Q1c1 false false), aN (Q1c1 false false), aN hl0, aN (Q1c1 false false), aN hl1, aN (Q1c1 false false)] (by kernel_rfl)
theorem Q1z9 : ∀ (k : Nat) (p0 : Val), SizeOf.sizeOf p0 < k → Qzu p0 → Q5 G (Q1ke p0) (Q1gh p0)
  | 0, _, h, _ => absurd h (Nat.not_lt_zero _)
  | k + 1, p0, h, H => Q2d6 p0 H (fun q hq hH => Q1z9 k q (by omega) hH)
theorem Q2ep (p0 : Val) (H : Qzu p0) : Q5 G (Q1ke p0) (Q1gh p0) := Q1z9 _ p0 (Nat.lt_succ_self _) H
def Q1zp (_p0 : Val) : Bool :=
 true
def Q26d (p0 : Val) : En := .call 98 [.agg (Val.cells p0), .agg (Val.cells p0)] []
def Q1vc (p0 : Val) : Rs := .ret (.bool (Q1zp p0)) []
def Q1oe (p0 : Val) : Prop := (Qzu p0) ∧ True
theorem Q1zx (p0 : Val) (H : Q1oe p0) : Q5 G (Q26d p0) (Q1vc p0) := by
 unfold Q1vc Q1zp
 exact Q6 (fn := Ir.K1n) (by kernel_rfl) VOK.nil [] [aN (Q6t (c := fun y => .call 194 [.agg (Val.cells p0), .agg (Val.cells y)] []) rfl (Q2ep p0 H.1))] (by kernel_rfl)
def Q17n (p0 : List ByteArray) : List ByteArray → Nat → Unit
 | [], _i0 =>
  ()
 | _x0 :: r0, i0 =>
  Q17n p0 r0 (i0 + 1)
def Q1ed (p0 : List ByteArray) (i0 : Nat) : List PV :=
  [.sl (Qz p0), .sl (Qz p0), .un, .un, .un, iN (i0 : Int)] ++ nuns 20
def Q1ft (_p0 : List ByteArray) (_i0 : Nat) : List Ob :=
  []
def Qgh (p0 : List ByteArray) (i0 : Nat) : En := .loop 0 Ir.Qkf Ir.Q1ms (Q1ed p0 i0) (Q1ft p0 i0)
def Qrb (_p0 : List ByteArray) (z : Nat → PV) (_zo : Nat → List PV) : St :=
  ⟨zr z 0 26, [], 256⟩
def Qbm (p0 : List ByteArray) (e : En) (_q : Unit) : Prop := ∃ z zo, Q5 G e (.st (.exit 0) (Qrb p0 z zo))
theorem Qvy (p0 : List ByteArray) {e e' : En} (h : ∀ r, Q5 G e r → Q5 G e' r) : ∀ q, Qbm p0 e q → Qbm p0 e' q
  | _, ⟨z, zo, hz⟩ => ⟨z, zo, h _ hz⟩
def Qhh (p0 : List ByteArray) : Prop := (List.length p0 ≤ 4611686018427387904) ∧ True
def Qt9 (p0 : List ByteArray) (i0 : Nat) : List PV :=
  [.sl (Qz p0), .sl (Qz p0), .un, .un, .un, iN (i0 : Int)] ++ nuns 5 ++ [iN (i0 : Int), .sl (Qz p0), iN ((List.length p0) : Int), .bool false]
def Qm7 (_p0 : List ByteArray) (_i0 : Nat) : List (Nat × List PV) :=
  []
theorem Q1cp (p0 : List ByteArray) (_H : Qhh p0) (i0 : Nat) (bF : (decide ((i0 : Int) < ((List.length p0) : Int))) = false) : Qbm p0 (Qgh p0 i0) () := by
 exact ⟨(envF (Qt9 p0 i0)), (zoF (Qm7 p0 i0)), Qg VOK.nil (x := ((.exit 0), Qrb p0 (envF (Qt9 p0 i0)) (zoF (Qm7 p0 i0)))) [hP 2 (Qq _ _ (Q2d p0)), hB 0 bF] [] (by kernel_rfl)⟩
abbrev BA : Type := ByteArray
theorem Q1a4 (p0 : List ByteArray) (H : Qhh p0) (x0 : BA) (i0 : Nat) (bH : p0[i0]? = some x0) (bT : i0 < List.length p0) (bF : (decide ((i0 : Int) < ((List.length p0) : Int))) = true) {r : Rs} (hr : Q5 G (Qgh p0 (i0 + 1)) r) : Q5 G (Qgh p0 i0) r := by
 have hB0 := H.1
 exact Qc VOK.nil [hP 2 (Qq _ _ (Q2d p0)), hB 0 bF, hP 2 (Q1f 1 _ i0 _ (Q83 bH) rfl), hP 3 (Q1f 1 _ i0 _ (Q83 bH) rfl), hP 1 (dec (!(sEq x0 x0)) false (by rw [(Q8d.2 rfl)]; rfl)), hP 1 (Q26 i0 (by omega))] [] hr (by kernel_rfl)
theorem Q11o (p0 : List ByteArray) (H : Qhh p0) : ∀ (r0 : List ByteArray) (i0 : Nat), List.drop i0 p0 = r0 → Qbm p0 (Qgh p0 i0) (Q17n p0 r0 i0)
 | [], i0, hd => by
  have bF : (decide ((i0 : Int) < ((List.length p0) : Int))) = false := by have := Q1n hd; simp; omega
  show Qbm p0 _ ()
  exact Q1cp p0 H i0 bF
 | x0 :: r0, i0, hd => by
  obtain ⟨bH, bT, hd'⟩ := Q1o hd
  have bF : (decide ((i0 : Int) < ((List.length p0) : Int))) = true := by simp; omega
  show Qbm p0 _ ()
  exact Qvy p0 (fun r hr => Q1a4 p0 H x0 i0 bH bT bF hr) _ (Q11o p0 H r0 _ hd')
def Q1zt (_p0 : List ByteArray) : Bool :=
 true
def Q26m (p0 : List ByteArray) : En := .call 120 [.sl (Qz p0), .sl (Qz p0)] []
def Q1vm (p0 : List ByteArray) : Rs := .ret (.bool (Q1zt p0)) []
def Q1oh (p0 : List ByteArray) : Prop := (Qhh p0) ∧ True
theorem Q1zz (p0 : List ByteArray) (H : Q1oh p0) : Q5 G (Q26m p0) (Q1vm p0) := by
 unfold Q1vm Q1zt
 have hl0 := Q11o p0 (H.1) p0 0 (by simp)
 obtain ⟨z0, eG, hl0⟩ := hl0
 exact Q6 (fn := Ir.K1z) (by kernel_rfl) VOK.nil [hP 2 (Qq _ _ (Q2d p0)), hP 1 (Qq _ _ (Q2d p0)), hP 0 (dec (!(((List.length p0) : Int) == ((List.length p0) : Int))) false (by rw [(beq_self_eq_true _)]; rfl))] [aN hl0] (by kernel_rfl)
end Go.Proofs.YtimjjohlpnkacaaGreat
end

section
/- Parts of a slice of one's own, and appends of them. -/
namespace Go.Pv
def slmE (id sz n : Nat) (lo hi : Option Int) : Option Eff := (opP (fun _ => .un) (.slice sz (.c (.ms id sz 0 n)) (optI lo) (optI hi) none)).bind fun v => some ⟨v, [], []⟩
theorem Q190 (id sz n : Nat) (k : Int) (h0 : 0 ≤ k) (h1 : k ≤ (n : Int)) : slmE id sz n none (some k) = some (vE (.ms id sz 0 k.toNat)) := by
 unfold slmE
 simp only [opP, optI, Opd.ev, Q6r, asNat, Option.bind_some]
 have e0 : decide (0 ≤ k) = true := by simpa using h0
 rw [e0]
 simp only [cond_true, Option.bind_some]
 have e1 : (Nat.beq sz sz && Nat.ble 0 k.toNat && Nat.ble k.toNat n) = true := by
  rw [Nat.ble_eq_true_of_le (Nat.zero_le _), Nat.ble_eq_true_of_le (show k.toNat ≤ n by omega), Nat.beq_refl]
  rfl
 rw [e1]
 simp [vE]
theorem Q166 (id sz n : Nat) (k : Int) (h0 : 0 ≤ k) (h1 : k ≤ (n : Int)) : slmE id sz n (some k) none = some (vE (.ms id sz k.toNat (n - k.toNat))) := by
 unfold slmE
 simp only [opP, optI, Opd.ev, Q6r, asNat, Option.bind_some]
 have e0 : decide (0 ≤ k) = true := by simpa using h0
 rw [e0]
 simp only [cond_true, Option.bind_some]
 have e1 : (Nat.beq sz sz && Nat.ble k.toNat n && Nat.ble n n) = true := by
  rw [Nat.ble_eq_true_of_le (show k.toNat ≤ n by omega), Nat.ble_eq_true_of_le (Nat.le_refl n), Nat.beq_refl]
  rfl
 rw [e1]
 simp [vE]
theorem Qoi {sz : Nat} {rows : List (List PV)} (hs : ∀ r ∈ rows, r.length = sz) (off len : Nat) (h : off + len ≤ rows.length) :
  (rows.flatten.drop (off * sz)).take (len * sz) = ((rows.drop off).take len).flatten ∧ Nat.ble ((off + len) * sz) rows.flatten.length = true := by
 have hs' : ∀ r ∈ rows.drop off, r.length = sz := fun r hr => hs r (List.mem_of_mem_drop hr)
 have e : ∀ (l : List (List PV)) (k : Nat), (∀ r ∈ l, r.length = sz) → l.flatten.take (k * sz) = (l.take k).flatten := by
  intro l
  induction l with
  | nil => simp
  | cons q l ih =>
   intro k hl
   cases k with
   | zero => simp
   | succ k =>
    have hq := hl q List.mem_cons_self
    rw [List.flatten_cons, List.take_succ_cons, List.flatten_cons, ← ih k (fun r hr => hl r (List.mem_cons_of_mem _ hr)), show (k + 1) * sz = q.length + k * sz by rw [hq, Nat.add_mul]; omega, List.take_length_add_append]
 refine ⟨by rw [Qao sz rows off hs, e _ _ hs'], Nat.ble_eq_true_of_le ?_⟩
 rw [Q62 sz rows hs]
 exact Nat.mul_le_mul_right _ h
def appE (id fr sz bytes ro : Nat) (gr : Bool) (rows : List (List PV)) (off len : Nat) : Option Eff := Q4q (look [(id, ⟨sz, ro, gr, rows.flatten⟩)]) fr sz bytes (.ns sz) (.ms id sz off len)
theorem Q1kb (id fr sz bytes ro : Nat) (gr : Bool) (rows : List (List PV)) (off len : Nat) (hs : ∀ r ∈ rows, r.length = sz) (h : off + len ≤ rows.length) (h0 : len = 0) : appE id fr sz bytes ro gr rows off len = some ⟨.ns sz, [], [id]⟩ := by
 subst h0
 obtain ⟨_, h2⟩ := Qoi hs off 0 h
 unfold appE Q4q
 simp only [source, look, Nat.beq_refl, cond_true, Option.bind_some, Bool.true_and]
 rw [h2]
 simp
 rfl
theorem Q1z3 (id fr sz bytes ro : Nat) (gr : Bool) (rows rows' : List (List PV)) (off len n' : Nat) (hs : ∀ r ∈ rows, r.length = sz) (h : off + len ≤ rows.length) (h0 : len ≠ 0) (hr : rows' = (rows.drop off).take len) (hn : n' = len) (hb : len * bytes ≤ 140737488355328) :
  appE id fr sz bytes ro gr rows off len = some ⟨.ms fr sz 0 n', [(fr, some ⟨sz, 0, true, rows'.flatten⟩)], [id]⟩ := by
 subst hr hn
 obtain ⟨h1, h2⟩ := Qoi hs off n' h
 unfold appE Q4q
 simp only [source, look, Nat.beq_refl, cond_true, Option.bind_some, Bool.true_and]
 rw [h2]
 simp only [cond_true, Option.bind_some]
 rw [Nat.ble_eq_true_of_le hb, h1]
 cases n' with
 | zero => exact absurd rfl h0
 | succ n => rfl
def Q1z1 (id yid fr sz bytes ro : Nat) (cells : List PV) (yro : Nat) (ygr : Bool) (yrows : List (List PV)) (n off len : Nat) : Option Eff := Q4q (look [(id, ⟨sz, ro, true, cells⟩), (yid, ⟨sz, yro, ygr, yrows.flatten⟩)]) fr sz bytes (.ms id sz 0 n) (.ms yid sz off len)
theorem Q1gl (id yid fr sz bytes ro : Nat) (cells : List PV) (rows0 : List (List PV)) (yro : Nat) (ygr : Bool) (yrows rows' : List (List PV)) (n off len n' : Nat) (hne : Nat.beq id yid = false) (hc : cells = rows0.flatten) (hn : n = rows0.length) (hn' : n' = rows'.length) (hr' : rows' = rows0 ++ (yrows.drop off).take len)
  (hs0 : ∀ r ∈ rows0, r.length = sz) (hs : ∀ r ∈ yrows, r.length = sz) (h : off + len ≤ yrows.length) (hb : (n + len) * bytes ≤ 140737488355328) :
  Q1z1 id yid fr sz bytes ro cells yro ygr yrows n off len = some ⟨.ms fr sz 0 n', [(id, none), (fr, some ⟨sz, ro, true, rows'.flatten⟩)], [id, yid]⟩ := by
 subst hc hn hn' hr'
 obtain ⟨h1, h2⟩ := Qoi hs off len h
 unfold Q1z1 Q4q
 simp only [source, look, hne, Nat.beq_refl, cond_true, cond_false, Option.bind_some, Bool.true_and]
 rw [h2]
 simp only [cond_true, Option.bind_some]
 rw [Nat.ble_eq_true_of_le hb, h1, cond_true, Q1o2 (ob := ⟨sz, ro, true, rows0.flatten⟩) (Q62 sz rows0 hs0)]
 have hl : ((yrows.drop off).take len).length = len := by simp; omega
 simp [hl]
end Go.Pv
end

section
/- Slices that are made with a length: their rows. -/
namespace Go.Pv
end Go.Pv
end

section
/- Rows of one's own: cleared behind a place, appended to from a place on. -/
namespace Go.Pv
theorem Q114 {sz : Nat} : ∀ (rows : List (List PV)) (k : Nat), (∀ r ∈ rows, r.length = sz) → rows.flatten.take (k * sz) = (rows.take k).flatten
 | [], k, _ => by simp
 | r :: rs, 0, _ => by simp
 | r :: rs, k + 1, h => by
  have hr := h r List.mem_cons_self
  rw [List.flatten_cons, List.take_succ_cons, List.flatten_cons, ← Q114 rs k (fun q hq => h q (List.mem_cons_of_mem _ hq)), show (k + 1) * sz = r.length + k * sz by rw [hr, Nat.add_mul]; omega, List.take_length_add_append]
theorem Q1ka {sz : Nat} {gr : Bool} {rows : List (List PV)} {n : Nat} (hs : ∀ r ∈ rows, r.length = sz) (h : n ≤ rows.length) : apC ⟨sz, 0, gr, rows.flatten⟩ (n * sz) = some (rows.take n).flatten := by
 have h2 : rows.flatten.length = rows.length * sz := Q62 sz rows hs
 have h3 := Q114 rows n hs
 unfold apC
 cases e : Nat.beq rows.flatten.length (n * sz) with
 | true =>
  have e := Nat.eq_of_beq_eq_true e
  rw [cond_true, ← h3, ← e, List.take_length]
 | false =>
  have : n * sz ≤ rows.length * sz := Nat.mul_le_mul_right _ h
  rw [cond_false, Nat.ble_eq_true_of_le (by show n * sz ≤ rows.flatten.length; omega), Nat.ble_eq_true_of_le (Nat.zero_le _), h3]
  rfl
def aptE (id lid fr sz bytes lro : Nat) (lgr : Bool) (rows : List (List PV)) (r : List PV) (n : Nat) : Option Eff :=
 Q4q (look [(id, ⟨sz, 0, true, rows.flatten⟩), (lid, ⟨sz, lro, lgr, r⟩)]) fr sz bytes (.ms id sz 0 n) (.ms lid sz 0 1)
theorem Qum (id lid fr sz bytes lro : Nat) (lgr : Bool) (rows rows' : List (List PV)) (r : List PV) (n n' : Nat) (hne : Nat.beq id lid = false) (hle : n ≤ rows.length) (hn' : n' = rows'.length) (hr' : rows' = rows.take n ++ [r])
  (hs : ∀ r ∈ rows, r.length = sz) (hr : r.length = sz) (hb : (n + 1) * bytes ≤ 140737488355328) :
  aptE id lid fr sz bytes lro lgr rows r n = some ⟨.ms fr sz 0 n', [(id, none), (fr, some ⟨sz, 0, true, rows'.flatten⟩)], [id, lid]⟩ := by
 subst hn' hr'
 unfold aptE Q4q
 have h1 : look [(id, (⟨sz, 0, true, rows.flatten⟩ : Ob)), (lid, ⟨sz, lro, lgr, r⟩)] lid = some ⟨sz, lro, lgr, r⟩ := by simp [look, hne]
 have h2 : look [(id, (⟨sz, 0, true, rows.flatten⟩ : Ob)), (lid, ⟨sz, lro, lgr, r⟩)] id = some ⟨sz, 0, true, rows.flatten⟩ := by simp [look]
 have hsrc : source (look [(id, (⟨sz, 0, true, rows.flatten⟩ : Ob)), (lid, ⟨sz, lro, lgr, r⟩)]) sz (.ms lid sz 0 1) = some (1, r, [lid]) := by
  simp only [source, h1, Option.bind_some]
  subst hr
  have : Nat.ble r.length r.length = true := Nat.ble_eq_true_of_le (Nat.le_refl _)
  simp [this]
 rw [hsrc, Option.bind_some]
 simp only [h2, Option.bind_some]
 have hc : (true && Nat.beq sz sz && Nat.beq sz sz && Nat.beq 0 0 && Nat.ble ((n + 1) * bytes) 140737488355328) = true := by
  simp only [Nat.beq_refl, Bool.and_true, Bool.true_and]
  exact Nat.ble_eq_true_of_le hb
 rw [hc, Q1ka hs hle]
 have hl : (rows.take n ++ [r]).length = n + 1 := by
  rw [List.length_append, List.length_take]
  simp
  omega
 rw [hl]
 simp
theorem Q145 {l : List (List PV)} {k : Nat} {r : List PV} (h : l[k]? = some r) : l = l.set k r := by
  apply List.ext_getElem?
  intro i
  rw [List.getElem?_set]
  by_cases e : k = i
  · subst e
    rw [if_pos rfl, h, if_pos (List.getElem?_eq_some_iff.1 h).1]
  · rw [if_neg e]
end Go.Pv
end

section
/- What copying dK computes (printed by a program). -/
namespace Go.Proofs.YtimjjohlpnkacaaGreat
open Go.Pv
def Q1zu (p0 : Val) : Val := p0
def Q17o (p0 : Val) : List Val → Nat → Unit
 | [], _i0 =>
  ()
 | _x0 :: r0, i0 =>
  Q17o p0 r0 (i0 + 1)
def Q1fb (p0 : Val) (i0 : Nat) : List PV :=
  [.un, .bx 0 0, .bx 1 0] ++ nuns 9 ++ [.ms 2 5 0 (List.length p0.list), iN ((List.length p0.list) : Int), iN (i0 : Int)] ++ nuns 33
abbrev eB : ByteArray := ⟨#[]⟩
def Qzk (p0 : Val) (_i0 : Nat) : List Ob :=
  [⟨5, 0, true, [iN p0.kind, iN p0.n, .str p0.s, .ms 2 5 0 (List.length p0.list), .sl (Fld.rows p0.fields)]⟩, ⟨5, 0, true, [iN 0, iN 0, .str eB, .ms 3 5 0 0, .ms 4 6 0 0]⟩, ⟨5, 0, true, (Val.rows p0.list).flatten⟩, ⟨5, 0, true, []⟩, ⟨6, 0, true, []⟩]
def Qh1 (p0 : Val) (i0 : Nat) : En := .loop 0 Ir.Qld Ir.Q1nq (Q1fb p0 i0) (Qzk p0 i0)
def Qsa (p0 : Val) (z : Nat → PV) (_zo : Nat → List PV) : St :=
  ⟨[z 0, .bx 0 0, .bx 1 0] ++ zr z 3 45, [(0, ⟨5, 0, true, [iN p0.kind, iN p0.n, .str p0.s, .ms 2 5 0 (List.length p0.list), .sl (Fld.rows p0.fields)]⟩), (1, ⟨5, 0, true, [iN 0, iN 0, .str eB, .ms 3 5 0 0, .ms 4 6 0 0]⟩), (2, ⟨5, 0, true, (Val.rows p0.list).flatten⟩), (3, ⟨5, 0, true, []⟩), (4, ⟨6, 0, true, []⟩)], 69⟩
theorem Q15p (p0 : Val) (i0 : Nat) : VOK (Go.Pv.look (number 0 (Qzk p0 i0))) [(2, Val.rows p0.list)] := (VOK.cons (show Seen _ _ from Q3r (ob := ⟨5, 0, true, (Val.rows p0.list).flatten⟩) (Val.Q8 p0.list 5 rfl)) VOK.nil)
def Qbn (p0 : Val) (e : En) (_q : Unit) : Prop := ∃ z zo, Q5 G e (.st (.exit 0) (Qsa p0 z zo))
theorem Qwm (p0 : Val) {e e' : En} (h : ∀ r, Q5 G e r → Q5 G e' r) : ∀ q, Qbn p0 e q → Qbn p0 e' q
  | _, ⟨z, zo, hz⟩ => ⟨z, zo, h _ hz⟩
def Q17p (p0 : Val) : List Fld → Nat → Unit
 | [], _i1 =>
  ()
 | _x1 :: r1, i1 =>
  Q17p p0 r1 (i1 + 1)
def Q1fc (p0 : Val) (i1 : Nat) : List PV :=
  [.un, .bx 0 0, .bx 1 0] ++ nuns 28 ++ [.ms 2 6 0 (List.length p0.fields), iN ((List.length p0.fields) : Int), iN (i1 : Int)] ++ nuns 14
def Qzl (p0 : Val) (_i1 : Nat) : List Ob :=
  [⟨5, 0, true, [iN p0.kind, iN p0.n, .str p0.s, .ms 3 5 0 (List.length p0.list), .ms 2 6 0 (List.length p0.fields)]⟩, ⟨5, 0, true, [iN 0, iN 0, .str eB, .ms 4 5 0 0, .ms 5 6 0 0]⟩, ⟨6, 0, true, (Fld.rows p0.fields).flatten⟩, ⟨5, 0, true, (Val.rows p0.list).flatten⟩, ⟨5, 0, true, []⟩, ⟨6, 0, true, []⟩]
def Qh2 (p0 : Val) (i1 : Nat) : En := .loop 0 Ir.Qle Ir.Q1nr (Q1fc p0 i1) (Qzl p0 i1)
def Qsb (p0 : Val) (z : Nat → PV) (_zo : Nat → List PV) : St :=
  ⟨[z 0, .bx 0 0, .bx 1 0] ++ zr z 3 45, [(0, ⟨5, 0, true, [iN p0.kind, iN p0.n, .str p0.s, .ms 3 5 0 (List.length p0.list), .ms 2 6 0 (List.length p0.fields)]⟩), (1, ⟨5, 0, true, [iN 0, iN 0, .str eB, .ms 4 5 0 0, .ms 5 6 0 0]⟩), (2, ⟨6, 0, true, (Fld.rows p0.fields).flatten⟩), (3, ⟨5, 0, true, (Val.rows p0.list).flatten⟩), (4, ⟨5, 0, true, []⟩), (5, ⟨6, 0, true, []⟩)], 70⟩
theorem Q15q (p0 : Val) (i1 : Nat) : VOK (Go.Pv.look (number 0 (Qzl p0 i1))) [(2, Fld.rows p0.fields), (3, Val.rows p0.list)] := (VOK.cons (show Seen _ _ from Q3r (ob := ⟨6, 0, true, (Fld.rows p0.fields).flatten⟩) (Fld.Q8 p0.fields 6 rfl)) (VOK.cons (show Seen _ _ from Q3r (ob := ⟨5, 0, true, (Val.rows p0.list).flatten⟩) (Val.Q8 p0.list 5 rfl)) VOK.nil))
def Qbo (p0 : Val) (e : En) (_q : Unit) : Prop := ∃ z zo, Q5 G e (.st (.exit 2) (Qsb p0 z zo))
theorem Qwn (p0 : Val) {e e' : En} (h : ∀ r, Q5 G e r → Q5 G e' r) : ∀ q, Qbo p0 e q → Qbo p0 e' q
  | _, ⟨z, zo, hz⟩ => ⟨z, zo, h _ hz⟩
theorem Q2c5 (p0 : Val) : Q1zu p0 = (p0) := by
  rfl
def Q1ki (p0 : Val) : En := .call 189 [.agg (Val.cells p0)] []
def Q1gk (p0 : Val) : Rs := .ret (.agg (Val.cells (Q1zu p0))) []
abbrev Qzy (p0 : Val) : Prop := Val.Sm 1000000000 p0
def Qcd (p0 : Val) : Prop := ∀ (q : Val), SizeOf.sizeOf q < SizeOf.sizeOf p0 → Qzy q → Q5 G (Q1ki q) (Q1gk q)
def Qhw (p0 : Val) : Prop := (List.length p0.list ≤ 4611686018427387904) ∧ (∀ x0 ∈ p0.list, Qzy x0) ∧ True
def Qhx (p0 : Val) : Prop := (List.length p0.fields ≤ 4611686018427387904) ∧ (∀ x1 ∈ p0.fields, Qzy x1.v) ∧ True
theorem Qjb (p0 : Val) (H : Qzy p0) : (List.length p0.list * 80 ≤ 140737488355328) ∧ (Qhw p0) ∧ (List.length p0.fields * 96 ≤ 140737488355328) ∧ (Qhx p0) ∧ True := by
  obtain ⟨h1, h2, h3, h4⟩ := H.all
  exact ⟨by omega, ⟨by omega, h3, trivial⟩, by omega, ⟨by omega, h4, trivial⟩, trivial⟩
def Quc (p0 : Val) (i0 : Nat) : List PV :=
  nuns 12 ++ [.ms 2 5 0 (List.length p0.list), iN ((List.length p0.list) : Int), iN (i0 : Int), .bool false]
def Qn9 (_p0 : Val) (_i0 : Nat) : List (Nat × List PV) :=
  []
theorem Q1dr (p0 : Val) (_H : Qhw p0) (_rec : Qcd p0) (i0 : Nat) (bF : (decide ((i0 : Int) < ((List.length p0.list) : Int))) = false) : Qbn p0 (Qh1 p0 i0) () := by
 exact ⟨(envF (Quc p0 i0)), (zoF (Qn9 p0 i0)), Qg (Q15p p0 i0) (x := ((.exit 0), Qsa p0 (envF (Quc p0 i0)) (zoF (Qn9 p0 i0)))) [hB 0 bF] [] (by kernel_rfl)⟩
theorem Q1bg (p0 : Val) (H : Qhw p0) (rec : Qcd p0) (x0 : Val) (i0 : Nat) (bH : p0.list[i0]? = some x0) (bT : i0 < List.length p0.list) (bF : (decide ((i0 : Int) < ((List.length p0.list) : Int))) = true) {r : Rs} (hr : Q5 G (Qh1 p0 (i0 + 1)) r) : Q5 G (Qh1 p0 i0) r := by
 have hB0 := H.1
 exact Qc (Q15p p0 i0) [hB 0 bF, hP 1 (Qaq 2 5 (List.length p0.list) (i0 : Int) i0 (by omega) (by omega) (by omega)), hP 0 (Q1ha 2 5 0 true ((Val.rows p0.list).flatten) (Val.rows p0.list) 5 true i0 0 (i0 * 5) (Val.cells x0) (.agg [iN x0.kind, iN x0.n, .str x0.s, .sl (Val.rows x0.list), .sl (Fld.rows x0.fields)]) rfl rfl (Val.Qb bH) (Val.Qt p0.list) (by decide) rfl), hP 8 (Qaq 2 5 (List.length p0.list) (i0 : Int) i0 (by omega) (by omega) (by omega)), hV 0 [(2, Val.rows p0.list)] (Q1c0 2 5 true ((Val.rows p0.list).flatten) (Val.rows p0.list) (Val.rows p0.list) 5 i0 0 (i0 * 5) _ (.agg [iN x0.kind, iN x0.n, .str x0.s, .sl (Val.rows x0.list), .sl (Fld.rows x0.fields)]) rfl rfl (Val.Qb bH) (Val.Qt p0.list) (by decide) rfl rfl (Q145 (Val.Qb bH))), hS 0 true (Val.Q8 p0.list 5 rfl), hP 0 (Q26 i0 (by omega))] [aN (rec x0 (szL bH) (H.2.1 x0 (Q15 bH)))] hr (by kernel_rfl)
theorem Q12c (p0 : Val) (H : Qhw p0) (rec : Qcd p0) : ∀ (r0 : List Val) (i0 : Nat), List.drop i0 p0.list = r0 → Qbn p0 (Qh1 p0 i0) (Q17o p0 r0 i0)
 | [], i0, hd => by
  have bF : (decide ((i0 : Int) < ((List.length p0.list) : Int))) = false := by have := Q1n hd; simp; omega
  show Qbn p0 _ ()
  exact Q1dr p0 H rec i0 bF
 | x0 :: r0, i0, hd => by
  obtain ⟨bH, bT, hd'⟩ := Q1o hd
  have bF : (decide ((i0 : Int) < ((List.length p0.list) : Int))) = true := by simp; omega
  show Qbn p0 _ ()
  exact Qwm p0 (fun r hr => Q1bg p0 H rec x0 i0 bH bT bF hr) _ (Q12c p0 H rec r0 _ hd')
def Qud (p0 : Val) (i1 : Nat) : List PV :=
  nuns 31 ++ [.ms 2 6 0 (List.length p0.fields), iN ((List.length p0.fields) : Int), iN (i1 : Int), .bool false]
def Qna (_p0 : Val) (_i1 : Nat) : List (Nat × List PV) :=
  []
theorem Q1ds (p0 : Val) (_H : Qhx p0) (_rec : Qcd p0) (i1 : Nat) (hc1 : (decide ((i1 : Int) < ((List.length p0.fields) : Int))) = false) : Qbo p0 (Qh2 p0 i1) () := by
 exact ⟨(envF (Qud p0 i1)), (zoF (Qna p0 i1)), Qg (Q15q p0 i1) (x := ((.exit 2), Qsb p0 (envF (Qud p0 i1)) (zoF (Qna p0 i1)))) [hB 0 hc1] [] (by kernel_rfl)⟩
theorem Q1bh (p0 : Val) (H : Qhx p0) (rec : Qcd p0) (x1 : Fld) (i1 : Nat) (fF : p0.fields[i1]? = some x1) (gQ : i1 < List.length p0.fields) (hc1 : (decide ((i1 : Int) < ((List.length p0.fields) : Int))) = true) {r : Rs} (hr : Q5 G (Qh2 p0 (i1 + 1)) r) : Q5 G (Qh2 p0 i1) r := by
 have hB0 := H.1
 exact Qc (Q15q p0 i1) [hB 0 hc1, hP 1 (Qaq 2 6 (List.length p0.fields) (i1 : Int) i1 (by omega) (by omega) (by omega)), hP 0 (Q1ha 2 6 0 true ((Fld.rows p0.fields).flatten) (Fld.rows p0.fields) 6 true i1 0 (i1 * 6) (Fld.cells x1) (.agg [.str x1.name, iN x1.v.kind, iN x1.v.n, .str x1.v.s, .sl (Val.rows x1.v.list), .sl (Fld.rows x1.v.fields)]) rfl rfl (Fld.Qb fF) (Fld.Qt p0.fields) (by decide) rfl), hP 9 (Qaq 2 6 (List.length p0.fields) (i1 : Int) i1 (by omega) (by omega) (by omega)), hV 1 [(2, Fld.rows p0.fields)] (Q1c0 2 6 true ((Fld.rows p0.fields).flatten) (Fld.rows p0.fields) (Fld.rows p0.fields) 5 i1 1 (i1 * 6 + 1) _ (.agg [iN x1.v.kind, iN x1.v.n, .str x1.v.s, .sl (Val.rows x1.v.list), .sl (Fld.rows x1.v.fields)]) rfl rfl (Fld.Qb fF) (Fld.Qt p0.fields) (by decide) rfl rfl (Q145 (Fld.Qb fF))), hS 0 true (Fld.Q8 p0.fields 6 rfl), hP 0 (Q26 i1 (by omega))] [aN (rec x1.v (szF fF) (H.2.1 x1 (Q15 fF)))] hr (by kernel_rfl)
theorem Q12d (p0 : Val) (H : Qhx p0) (rec : Qcd p0) : ∀ (r1 : List Fld) (i1 : Nat), List.drop i1 p0.fields = r1 → Qbo p0 (Qh2 p0 i1) (Q17p p0 r1 i1)
 | [], i1, hd => by
  have hc1 : (decide ((i1 : Int) < ((List.length p0.fields) : Int))) = false := by have := Q1n hd; simp; omega
  show Qbo p0 _ ()
  exact Q1ds p0 H rec i1 hc1
 | x1 :: r1, i1, hd => by
  obtain ⟨fF, gQ, hd'⟩ := Q1o hd
  have hc1 : (decide ((i1 : Int) < ((List.length p0.fields) : Int))) = true := by simp; omega
  show Qbo p0 _ ()
  exact Qwn p0 (fun r hr => Q1bh p0 H rec x1 i1 fF gQ hc1 hr) _ (Q12d p0 H rec r1 _ hd')
theorem Q2do (p0 : Val) (H : Qzy p0) (rec : Qcd p0) : Q5 G (Q1ki p0) (Q1gk p0) := by
  unfold Q1gk
  rw [Q2c5]
  have hl0 := Q12c p0 ((Qjb p0 H).2.1) rec p0.list 0 (by simp)
  obtain ⟨z0, eG, hl0⟩ := hl0
  have hl1 := Q12d p0 ((Qjb p0 H).2.2.2.1) rec p0.fields 0 (by simp)
  obtain ⟨z1, jk, hl1⟩ := hl1
  exact Q6 (fn := Ir.K53) (by kernel_rfl) VOK.nil [hQ (Val.Q8 p0.list 5 rfl), hS 0 true (Val.Q8 p0.list 5 rfl), hQ (Fld.Q8 p0.fields 6 rfl), hS 0 true (Fld.Q8 p0.fields 6 rfl), hS 0 true (Val.Q8 p0.list 5 rfl), hQ (Val.Q7 p0.list).symm, hQ (Fld.Q7 p0.fields).symm] [aV [(0, Val.rows p0.list)] (Qct (G := G) (f := 222) (sz := 5) (bytes := 80) rfl (Val.Q7 p0.list) (Val.Q8 p0.list 5 rfl) (Qjb p0 H).1), aV [(2, Val.rows p0.list)] hl0, aV [(0, Fld.rows p0.fields)] (Qct (G := G) (f := 185) (sz := 6) (bytes := 96) rfl (Fld.Q7 p0.fields) (Fld.Q8 p0.fields 6 rfl) (Qjb p0 H).2.2.1), aV [(2, Fld.rows p0.fields), (3, Val.rows p0.list)] hl1] (by kernel_rfl)
theorem Q1zc : ∀ (k : Nat) (p0 : Val), SizeOf.sizeOf p0 < k → Qzy p0 → Q5 G (Q1ki p0) (Q1gk p0)
  | 0, _, h, _ => absurd h (Nat.not_lt_zero _)
  | k + 1, p0, h, H => Q2do p0 H (fun q hq hH => Q1zc k q (by omega) hH)
theorem Q2fq (p0 : Val) (H : Qzy p0) : Q5 G (Q1ki p0) (Q1gk p0) := Q1zc _ p0 (Nat.lt_succ_self _) H
inductive Q151 where
  | k0
  | k1 (q0 : Val)
def Q8p (p0 : Val) (p1 : BA) : List Fld → Nat → Q151
 | [], _i0 =>
  (.k0)
 | x0 :: r0, i0 =>
  bif (sEq x0.name p1) then
   (.k1 x0.v)
  else
   Q8p p0 p1 r0 (i0 + 1)
def Q1fa (p0 : Val) (p1 : BA) (i0 : Nat) : List PV :=
  [.un, .str p1, .un, .un, .bx 0 0] ++ nuns 7 ++ [.sl (Fld.rows p0.fields), iN ((List.length p0.fields) : Int), iN (i0 : Int)] ++ nuns 12
def Q1fw (_p0 : Val) (_p1 : BA) (_i0 : Nat) : List Ob :=
  [⟨5, 0, true, [iN 0, iN 0, .str eB, .ms 1 5 0 0, .ms 2 6 0 0]⟩, ⟨5, 0, true, []⟩, ⟨6, 0, true, []⟩]
def Qd1 (p0 : Val) (p1 : BA) (i0 : Nat) : En := .loop 0 Ir.Qlc Ir.Q1np (Q1fa p0 p1 i0) (Q1fw p0 p1 i0)
def Qs8 (_p0 : Val) (_p1 : BA) (z : Nat → PV) (_zo : Nat → List PV) : St :=
  ⟨[z 0, z 1, z 2, z 3, .bx 0 0] ++ zr z 5 22, [(0, ⟨5, 0, true, [iN 0, iN 0, .str eB, .ms 1 5 0 0, .ms 2 6 0 0]⟩), (1, ⟨5, 0, true, []⟩), (2, ⟨6, 0, true, []⟩)], 67⟩
def Qs9 (_p0 : Val) (_p1 : BA) (q0 : Val) (z : Nat → PV) (zo : Nat → List PV) : St :=
  ⟨[z 0, z 1, z 2, z 3, .bx 0 0, .bool true] ++ zr z 6 21, [(0, ⟨5, 0, true, (Val.cells q0)⟩), (1, ⟨5, 0, true, zo 1⟩), (2, ⟨6, 0, true, zo 2⟩), (195, ⟨6, 0, true, zo 195⟩)], 899⟩
def Qdz (p0 : Val) (p1 : BA) (e : En) : Q151 → Prop
  | .k0 => ∃ z zo, Q5 G e (.st (.exit 0) (Qs8 p0 p1 z zo))
  | .k1 q0 => ∃ z zo, Q5 G e (.st .ret (Qs9 p0 p1 q0 z zo))
theorem Qwl (p0 : Val) (p1 : BA) {e e' : En} (h : ∀ r, Q5 G e r → Q5 G e' r) : ∀ q, Qdz p0 p1 e q → Qdz p0 p1 e' q
  | .k0, ⟨z, zo, hz⟩ => ⟨z, zo, h _ hz⟩
  | .k1 _, ⟨z, zo, hz⟩ => ⟨z, zo, h _ hz⟩
def Qdd (p0 : Val) (_p1 : BA) : Prop := (List.length p0.fields ≤ 4611686018427387904) ∧ (∀ x0 ∈ p0.fields, Qzy x0.v) ∧ True
def Qu9 (p0 : Val) (p1 : BA) (i0 : Nat) : List PV :=
  [.un, .str p1] ++ nuns 10 ++ [.sl (Fld.rows p0.fields), iN ((List.length p0.fields) : Int), iN (i0 : Int), .bool false]
def Qn7 (_p0 : Val) (_p1 : BA) (_i0 : Nat) : List (Nat × List PV) :=
  []
theorem Q1dp (p0 : Val) (p1 : BA) (_H : Qdd p0 p1) (i0 : Nat) (bF : (decide ((i0 : Int) < ((List.length p0.fields) : Int))) = false) : Qdz p0 p1 (Qd1 p0 p1 i0) (.k0) := by
 exact ⟨(envF (Qu9 p0 p1 i0)), (zoF (Qn7 p0 p1 i0)), Qg VOK.nil (x := ((.exit 0), Qs8 p0 p1 (envF (Qu9 p0 p1 i0)) (zoF (Qn7 p0 p1 i0)))) [hB 0 bF] [] (by kernel_rfl)⟩
def Qub (p0 : Val) (p1 : BA) (i0 : Nat) (x0 : Fld) : List PV :=
  [.un, .str p1] ++ nuns 5 ++ [.bx 195 0, .un, .un, .un, .un, .sl (Fld.rows p0.fields), iN ((List.length p0.fields) : Int), iN (i0 : Int), .bool true, .rf [.str x0.name, iN x0.v.kind, iN x0.v.n, .str x0.v.s, .sl (Val.rows x0.v.list), .sl (Fld.rows x0.v.fields)], .agg [.str x0.name, iN x0.v.kind, iN x0.v.n, .str x0.v.s, .sl (Val.rows x0.v.list), .sl (Fld.rows x0.v.fields)], .bx 195 0, .str x0.name, .str p1, .bool true, .bx 195 1, .agg [iN x0.v.kind, iN x0.v.n, .str x0.v.s, .sl (Val.rows x0.v.list), .sl (Fld.rows x0.v.fields)], .agg [iN x0.v.kind, iN x0.v.n, .str x0.v.s, .sl (Val.rows x0.v.list), .sl (Fld.rows x0.v.fields)]]
def Qn8 (_p0 : Val) (_p1 : BA) (_i0 : Nat) (x0 : Fld) : List (Nat × List PV) :=
  [(1, []), (2, []), (195, (Fld.cells x0))]
theorem Q1dq (p0 : Val) (p1 : BA) (H : Qdd p0 p1) (x0 : Fld) (i0 : Nat) (bH : p0.fields[i0]? = some x0) (_bT : i0 < List.length p0.fields) (bF : (decide ((i0 : Int) < ((List.length p0.fields) : Int))) = true) (h0 : (sEq x0.name p1) = true) : Qdz p0 p1 (Qd1 p0 p1 i0) (.k1 x0.v) := by
 exact ⟨(envF (Qub p0 p1 i0 x0)), (zoF (Qn8 p0 p1 i0 x0)), Qg VOK.nil (x := (.ret, Qs9 p0 p1 x0.v (envF (Qub p0 p1 i0 x0)) (zoF (Qn8 p0 p1 i0 x0)))) [hB 0 bF, hP 0 (Q1f 6 _ i0 _ (Fld.Qb bH) rfl), hB 6 h0] [aN (Q2fq x0.v (H.2.1 x0 (Q15 bH)))] (by kernel_rfl)⟩
theorem Q1bf (p0 : Val) (p1 : BA) (H : Qdd p0 p1) (x0 : Fld) (i0 : Nat) (bH : p0.fields[i0]? = some x0) (bT : i0 < List.length p0.fields) (bF : (decide ((i0 : Int) < ((List.length p0.fields) : Int))) = true) (h0 : (sEq x0.name p1) = false) {r : Rs} (hr : Q5 G (Qd1 p0 p1 (i0 + 1)) r) : Q5 G (Qd1 p0 p1 i0) r := by
 have hB0 := H.1
 exact Qc VOK.nil [hB 0 bF, hP 0 (Q1f 6 _ i0 _ (Fld.Qb bH) rfl), hB 6 h0, hP 0 (Q26 i0 (by omega))] [] hr (by kernel_rfl)
theorem Q12b (p0 : Val) (p1 : BA) (H : Qdd p0 p1) : ∀ (r0 : List Fld) (i0 : Nat), List.drop i0 p0.fields = r0 → Qdz p0 p1 (Qd1 p0 p1 i0) (Q8p p0 p1 r0 i0)
 | [], i0, hd => by
  have bF : (decide ((i0 : Int) < ((List.length p0.fields) : Int))) = false := by have := Q1n hd; simp; omega
  rw [Q8p]
  exact Q1dp p0 p1 H i0 bF
 | x0 :: r0, i0, hd => by
  obtain ⟨bH, bT, hd'⟩ := Q1o hd
  have bF : (decide ((i0 : Int) < ((List.length p0.fields) : Int))) = true := by simp; omega
  rw [Q8p]
  cases h0 : (sEq x0.name p1) with
  | true =>
   exact Q1dq p0 p1 H x0 i0 bH bT bF h0
  | false =>
   exact Qwl p0 p1 (fun r hr => Q1bf p0 p1 H x0 i0 bH bT bF h0 hr) _ (Q12b p0 p1 H r0 _ hd')
def Qpi (p0 : Val) (p1 : BA) : Val × Bool :=
 bif (p0.kind == 5) then
  (match (Q8p p0 p1 p0.fields 0) with
  | .k0 => ((Val.mk 0 0 eB [] []), false)
  | .k1 jh => (jh, true))
 else
  ((Val.mk 0 0 eB [] []), false)
def Q28s (p0 : Val) (p1 : BA) : En := .call 184 [.agg (Val.cells p0), .str p1] []
def Q1xu (p0 : Val) (p1 : BA) : Rs := .ret (.tup [.agg (Val.cells (Qpi p0 p1).1), .bool (Qpi p0 p1).2]) []
def Q1jz (p0 : Val) (p1 : BA) : Prop := (Qdd p0 p1) ∧ True
theorem Q1me (p0 : Val) (p1 : BA) (H : Q1jz p0 p1) : Q5 G (Q28s p0 p1) (Q1xu p0 p1) := by
 unfold Q1xu Qpi
 cases h0 : (p0.kind == 5) with
 | true =>
  have hl1 := Q12b p0 p1 (H.1) p0.fields 0 (by simp)
  cases hr1 : (Q8p p0 p1 p0.fields 0) with
  | k0 =>
   rw [hr1] at hl1
   obtain ⟨z1, jk, hl1⟩ := hl1
   exact Q6 (fn := Ir.K4x) (by kernel_rfl) VOK.nil [hB 5 h0, hP 2 (Qq _ _ (Fld.Q7 p0.fields))] [aN hl1] (by kernel_rfl)
  | k1 jh =>
   rw [hr1] at hl1
   obtain ⟨z1, jk, hl1⟩ := hl1
   exact Q6 (fn := Ir.K4x) (by kernel_rfl) VOK.nil [hB 5 h0, hP 2 (Qq _ _ (Fld.Q7 p0.fields))] [aN hl1] (by kernel_rfl)
 | false =>
  exact Q6 (fn := Ir.K4x) (by kernel_rfl) VOK.nil [hB 5 h0] [] (by kernel_rfl)
end Go.Proofs.YtimjjohlpnkacaaGreat
end

section
/- What building a map computes (printed by a program). -/
namespace Go.Proofs.YtimjjohlpnkacaaGreat
open Go.Pv
end Go.Proofs.YtimjjohlpnkacaaGreat
end

section
/- Maps of at most 20 fields, fields of a name and equality in plain words. -/
namespace Go.Proofs.YtimjjohlpnkacaaGreat
open Go.Pv Go.Pv.Srt
theorem vind {P : Val → Prop} (h : ∀ v : Val, (∀ x ∈ v.list, P x) → (∀ f ∈ v.fields, P f.v) → P v) : ∀ v, P v := by
  have key : ∀ (k : Nat) (v : Val), SizeOf.sizeOf v < k → P v := by
    intro k
    induction k with
    | zero => intro v hv; exact absurd hv (Nat.not_lt_zero _)
    | succ k ih => intro v hv; exact h v (fun x hx => ih x (by have := szM hx; omega)) (fun f hf => ih f.v (by have := szN hf; omega))
  exact fun v => key _ v (Nat.lt_succ_self _)
theorem vprt (v : Val) (n : BA) : (Qpi v n).1 = prt v n := by
  unfold Qpi prt
  cases v.kind == 5 with
  | false => rfl
  | true =>
    simp only [cond_true]
    have : ∀ (l : List Fld) (i : Nat), (match Q8p v n l i with | .k0 => (Val.mk 0 0 ⟨#[]⟩ [] [], false) | .k1 y => (y, true)).1 = Q11c n l := by
      intro l
      induction l with
      | nil => intro i; rfl
      | cons x l ih =>
        intro i
        rw [Q8p, Q11c]
        cases sEq x.name n with
        | true => rfl
        | false => exact ih (i + 1)
    exact this _ _
theorem Q1ur {v : Val} (h : Val.Sm sB v) (n : BA) : Q1jz v n := ⟨⟨Nat.le_trans h.all.2.1 (Nat.le_of_ble_eq_true rfl), h.all.2.2.2, trivial⟩, trivial⟩
end Go.Proofs.YtimjjohlpnkacaaGreat
end

section
/- Structures and kinds of objects as dK, in plain words (printed by a program). -/
namespace Go.Proofs.YtimjjohlpnkacaaGreat
open Go.Pv
structure aj where
  key : ByteArray
  op : Int
  dK : List ByteArray
def aj.cells (x : aj) : List PV :=
  [.str x.key, iN x.op, .sl (Qz x.dK)]
def aj.rows (l : List aj) : List (List PV) := l.map aj.cells
theorem aj.Q7 (l : List aj) : (aj.rows l).length = l.length := by simp [aj.rows]
theorem aj.Qb {l : List aj} {i : Nat} {x : aj} (h : l[i]? = some x) : (aj.rows l)[i]? = some (aj.cells x) := Go.Pv.Qb h
theorem aj.Q1l (l : List aj) (x : aj) : aj.rows (l ++ [x]) = aj.rows l ++ [aj.cells x] := by simp [aj.rows]
theorem aj.Qt (l : List aj) : ∀ r ∈ aj.rows l, r.length = 3 := Q4u (f := aj.cells) (fun _ => rfl) l
theorem aj.Q8 (l : List aj) (sz : Nat) (h : sz = 3) : ViewOK sz (aj.rows l).flatten (aj.rows l) := by subst h; exact ⟨rfl, aj.Qt l, Q4d (f := aj.cells) (fun _ => rfl) l⟩
structure bf where
  key : ByteArray
  value : ByteArray
def bf.cells (x : bf) : List PV :=
  [.str x.key, .str x.value]
def bf.rows (l : List bf) : List (List PV) := l.map bf.cells
theorem bf.Q7 (l : List bf) : (bf.rows l).length = l.length := by simp [bf.rows]
theorem bf.Qb {l : List bf} {i : Nat} {x : bf} (h : l[i]? = some x) : (bf.rows l)[i]? = some (bf.cells x) := Go.Pv.Qb h
theorem bf.Q1l (l : List bf) (x : bf) : bf.rows (l ++ [x]) = bf.rows l ++ [bf.cells x] := by simp [bf.rows]
theorem bf.Qt (l : List bf) : ∀ r ∈ bf.rows l, r.length = 2 := Q4u (f := bf.cells) (fun _ => rfl) l
theorem bf.Q8 (l : List bf) (sz : Nat) (h : sz = 2) : ViewOK sz (bf.rows l).flatten (bf.rows l) := by subst h; exact ⟨rfl, bf.Qt l, Q4d (f := bf.cells) (fun _ => rfl) l⟩
structure aW where
  iP : Int
  eX : Int
  gN : Int
def aW.cells (x : aW) : List PV :=
  [iN x.iP, iN x.eX, iN x.gN]
def aW.rows (l : List aW) : List (List PV) := l.map aW.cells
structure bA where
  fU : Int
  fC : Int
  fA : Int
  eZ : Int
def bA.cells (x : bA) : List PV :=
  [iN x.fU, iN x.fC, iN x.fA, iN x.eZ]
def bA.rows (l : List bA) : List (List PV) := l.map bA.cells
theorem bA.Q7 (l : List bA) : (bA.rows l).length = l.length := by simp [bA.rows]
theorem bA.Qb {l : List bA} {i : Nat} {x : bA} (h : l[i]? = some x) : (bA.rows l)[i]? = some (bA.cells x) := Go.Pv.Qb h
theorem bA.Q1l (l : List bA) (x : bA) : bA.rows (l ++ [x]) = bA.rows l ++ [bA.cells x] := by simp [bA.rows]
theorem bA.Qt (l : List bA) : ∀ r ∈ bA.rows l, r.length = 4 := Q4u (f := bA.cells) (fun _ => rfl) l
theorem bA.Q8 (l : List bA) (sz : Nat) (h : sz = 4) : ViewOK sz (bA.rows l).flatten (bA.rows l) := by subst h; exact ⟨rfl, bA.Qt l, Q4d (f := bA.cells) (fun _ => rfl) l⟩
structure aK where
  name : ByteArray
  fV : ByteArray
  eu : aW
  fI : aW
  live : List bA
  ready : List bA
  eO : List bA
def aK.cells (x : aK) : List PV :=
  [.str x.name, .str x.fV, iN x.eu.iP, iN x.eu.eX, iN x.eu.gN, iN x.fI.iP, iN x.fI.eX, iN x.fI.gN, .sl (bA.rows x.live), .sl (bA.rows x.ready), .sl (bA.rows x.eO)]
def aK.rows (l : List aK) : List (List PV) := l.map aK.cells
theorem aK.Q7 (l : List aK) : (aK.rows l).length = l.length := by simp [aK.rows]
theorem aK.Qb {l : List aK} {i : Nat} {x : aK} (h : l[i]? = some x) : (aK.rows l)[i]? = some (aK.cells x) := Go.Pv.Qb h
theorem aK.Q1l (l : List aK) (x : aK) : aK.rows (l ++ [x]) = aK.rows l ++ [aK.cells x] := by simp [aK.rows]
theorem aK.Qt (l : List aK) : ∀ r ∈ aK.rows l, r.length = 11 := Q4u (f := aK.cells) (fun _ => rfl) l
theorem aK.Q8 (l : List aK) (sz : Nat) (h : sz = 11) : ViewOK sz (aK.rows l).flatten (aK.rows l) := by subst h; exact ⟨rfl, aK.Qt l, Q4d (f := aK.cells) (fun _ => rfl) l⟩
structure aP where
  bX : Bool
  bq : List aj
  dM : Int
def aP.cells (x : aP) : List PV :=
  [.bool x.bX, .sl (aj.rows x.bq), iN x.dM]
def aP.rows (l : List aP) : List (List PV) := l.map aP.cells
theorem aP.Q7 (l : List aP) : (aP.rows l).length = l.length := by simp [aP.rows]
theorem aP.Qb {l : List aP} {i : Nat} {x : aP} (h : l[i]? = some x) : (aP.rows l)[i]? = some (aP.cells x) := Go.Pv.Qb h
theorem aP.Q1l (l : List aP) (x : aP) : aP.rows (l ++ [x]) = aP.rows l ++ [aP.cells x] := by simp [aP.rows]
theorem aP.Qt (l : List aP) : ∀ r ∈ aP.rows l, r.length = 3 := Q4u (f := aP.cells) (fun _ => rfl) l
theorem aP.Q8 (l : List aP) (sz : Nat) (h : sz = 3) : ViewOK sz (aP.rows l).flatten (aP.rows l) := by subst h; exact ⟨rfl, aP.Qt l, Q4d (f := aP.cells) (fun _ => rfl) l⟩
structure aS where
  bX : Bool
  gL : Bool
  bq : List aj
  dn : ByteArray
  dM : Int
def aS.cells (x : aS) : List PV :=
  [.bool x.bX, .bool x.gL, .sl (aj.rows x.bq), .str x.dn, iN x.dM]
def aS.rows (l : List aS) : List (List PV) := l.map aS.cells
theorem aS.Q7 (l : List aS) : (aS.rows l).length = l.length := by simp [aS.rows]
theorem aS.Qb {l : List aS} {i : Nat} {x : aS} (h : l[i]? = some x) : (aS.rows l)[i]? = some (aS.cells x) := Go.Pv.Qb h
theorem aS.Q1l (l : List aS) (x : aS) : aS.rows (l ++ [x]) = aS.rows l ++ [aS.cells x] := by simp [aS.rows]
theorem aS.Qt (l : List aS) : ∀ r ∈ aS.rows l, r.length = 5 := Q4u (f := aS.cells) (fun _ => rfl) l
theorem aS.Q8 (l : List aS) (sz : Nat) (h : sz = 5) : ViewOK sz (aS.rows l).flatten (aS.rows l) := by subst h; exact ⟨rfl, aS.Qt l, Q4d (f := aS.cells) (fun _ => rfl) l⟩
structure aF where
  fq : Int
  dn : ByteArray
  bq : List aj
  bX : Bool
def aF.cells (x : aF) : List PV :=
  [iN x.fq, .str x.dn, .sl (aj.rows x.bq), .bool x.bX]
def aF.rows (l : List aF) : List (List PV) := l.map aF.cells
theorem aF.Q7 (l : List aF) : (aF.rows l).length = l.length := by simp [aF.rows]
theorem aF.Qb {l : List aF} {i : Nat} {x : aF} (h : l[i]? = some x) : (aF.rows l)[i]? = some (aF.cells x) := Go.Pv.Qb h
theorem aF.Q1l (l : List aF) (x : aF) : aF.rows (l ++ [x]) = aF.rows l ++ [aF.cells x] := by simp [aF.rows]
theorem aF.Qt (l : List aF) : ∀ r ∈ aF.rows l, r.length = 4 := Q4u (f := aF.cells) (fun _ => rfl) l
theorem aF.Q8 (l : List aF) (sz : Nat) (h : sz = 4) : ViewOK sz (aF.rows l).flatten (aF.rows l) := by subst h; exact ⟨rfl, aF.Qt l, Q4d (f := aF.cells) (fun _ => rfl) l⟩
structure aI where
  key : ByteArray
  value : ByteArray
  eY : Bool
  fG : Int
  fu : Int
def aI.cells (x : aI) : List PV :=
  [.str x.key, .str x.value, .bool x.eY, iN x.fG, iN x.fu]
def aI.rows (l : List aI) : List (List PV) := l.map aI.cells
theorem aI.Q7 (l : List aI) : (aI.rows l).length = l.length := by simp [aI.rows]
theorem aI.Qb {l : List aI} {i : Nat} {x : aI} (h : l[i]? = some x) : (aI.rows l)[i]? = some (aI.cells x) := Go.Pv.Qb h
theorem aI.Q1l (l : List aI) (x : aI) : aI.rows (l ++ [x]) = aI.rows l ++ [aI.cells x] := by simp [aI.rows]
theorem aI.Qt (l : List aI) : ∀ r ∈ aI.rows l, r.length = 5 := Q4u (f := aI.cells) (fun _ => rfl) l
theorem aI.Q8 (l : List aI) (sz : Nat) (h : sz = 5) : ViewOK sz (aI.rows l).flatten (aI.rows l) := by subst h; exact ⟨rfl, aI.Qt l, Q4d (f := aI.cells) (fun _ => rfl) l⟩
structure bC where
  fD : ByteArray
  dQ : Int
  eD : Int
  fH : Int
  dz : List aK
  bZ : List aj
  d9 : List aP
  dI : List aS
  eP : List aF
  cO : List aI
def bC.cells (x : bC) : List PV :=
  [.str x.fD, iN x.dQ, iN x.eD, iN x.fH, .sl (aK.rows x.dz), .sl (aj.rows x.bZ), .sl (aP.rows x.d9), .sl (aS.rows x.dI), .sl (aF.rows x.eP), .sl (aI.rows x.cO)]
def bC.rows (l : List bC) : List (List PV) := l.map bC.cells
structure bn where
  bP : List bf
  aU : bC
def bn.cells (x : bn) : List PV :=
  [.sl (bf.rows x.bP), .str x.aU.fD, iN x.aU.dQ, iN x.aU.eD, iN x.aU.fH, .sl (aK.rows x.aU.dz), .sl (aj.rows x.aU.bZ), .sl (aP.rows x.aU.d9), .sl (aS.rows x.aU.dI), .sl (aF.rows x.aU.eP), .sl (aI.rows x.aU.cO)]
def bn.rows (l : List bn) : List (List PV) := l.map bn.cells
structure bK where
  eU : Bool
  n : Int
def bK.cells (x : bK) : List PV :=
  [.bool x.eU, iN x.n]
def bK.rows (l : List bK) : List (List PV) := l.map bK.cells
structure aX where
  dR : Int
  bY : Int
  fB : Int
  ready : Int
  dU : Int
  eH : Int
  bG : Bool
def aX.cells (x : aX) : List PV :=
  [iN x.dR, iN x.bY, iN x.fB, iN x.ready, iN x.dU, iN x.eH, .bool x.bG]
def aX.rows (l : List aX) : List (List PV) := l.map aX.cells
structure dZ where
  name : ByteArray
  target : Int
def dZ.cells (x : dZ) : List PV :=
  [.str x.name, iN x.target]
def dZ.rows (l : List dZ) : List (List PV) := l.map dZ.cells
structure dW where
  at_ : Int
  bY : Int
def dW.cells (x : dW) : List PV :=
  [iN x.at_, iN x.bY]
def dW.rows (l : List dW) : List (List PV) := l.map dW.cells
structure dA where
  key : ByteArray
  at_ : Int
def dA.cells (x : dA) : List PV :=
  [.str x.key, iN x.at_]
def dA.rows (l : List dA) : List (List PV) := l.map dA.cells
structure aC where
  name : ByteArray
  gU : Int
  target : Int
def aC.cells (x : aC) : List PV :=
  [.str x.name, iN x.gU, iN x.target]
def aC.rows (l : List aC) : List (List PV) := l.map aC.cells
theorem aC.Q7 (l : List aC) : (aC.rows l).length = l.length := by simp [aC.rows]
theorem aC.Qb {l : List aC} {i : Nat} {x : aC} (h : l[i]? = some x) : (aC.rows l)[i]? = some (aC.cells x) := Go.Pv.Qb h
theorem aC.Q1l (l : List aC) (x : aC) : aC.rows (l ++ [x]) = aC.rows l ++ [aC.cells x] := by simp [aC.rows]
theorem aC.Qt (l : List aC) : ∀ r ∈ aC.rows l, r.length = 3 := Q4u (f := aC.cells) (fun _ => rfl) l
theorem aC.Q8 (l : List aC) (sz : Nat) (h : sz = 3) : ViewOK sz (aC.rows l).flatten (aC.rows l) := by subst h; exact ⟨rfl, aC.Qt l, Q4d (f := aC.cells) (fun _ => rfl) l⟩
structure aT where
  iQ : ByteArray
  fD : ByteArray
  dF : Int
  ready : Bool
  dH : Bool
def aT.cells (x : aT) : List PV :=
  [.str x.iQ, .str x.fD, iN x.dF, .bool x.ready, .bool x.dH]
def aT.rows (l : List aT) : List (List PV) := l.map aT.cells
theorem aT.Q7 (l : List aT) : (aT.rows l).length = l.length := by simp [aT.rows]
theorem aT.Qb {l : List aT} {i : Nat} {x : aT} (h : l[i]? = some x) : (aT.rows l)[i]? = some (aT.cells x) := Go.Pv.Qb h
theorem aT.Q1l (l : List aT) (x : aT) : aT.rows (l ++ [x]) = aT.rows l ++ [aT.cells x] := by simp [aT.rows]
theorem aT.Qt (l : List aT) : ∀ r ∈ aT.rows l, r.length = 5 := Q4u (f := aT.cells) (fun _ => rfl) l
theorem aT.Q8 (l : List aT) (sz : Nat) (h : sz = 5) : ViewOK sz (aT.rows l).flatten (aT.rows l) := by subst h; exact ⟨rfl, aT.Qt l, Q4d (f := aT.cells) (fun _ => rfl) l⟩
structure bM where
  bO : ByteArray
  bq : List aj
def bM.cells (x : bM) : List PV :=
  [.str x.bO, .sl (aj.rows x.bq)]
def bM.rows (l : List bM) : List (List PV) := l.map bM.cells
theorem bM.Q7 (l : List bM) : (bM.rows l).length = l.length := by simp [bM.rows]
theorem bM.Qb {l : List bM} {i : Nat} {x : bM} (h : l[i]? = some x) : (bM.rows l)[i]? = some (bM.cells x) := Go.Pv.Qb h
theorem bM.Q1l (l : List bM) (x : bM) : bM.rows (l ++ [x]) = bM.rows l ++ [bM.cells x] := by simp [bM.rows]
theorem bM.Qt (l : List bM) : ∀ r ∈ bM.rows l, r.length = 2 := Q4u (f := bM.cells) (fun _ => rfl) l
theorem bM.Q8 (l : List bM) (sz : Nat) (h : sz = 2) : ViewOK sz (bM.rows l).flatten (bM.rows l) := by subst h; exact ⟨rfl, bM.Qt l, Q4d (f := bM.cells) (fun _ => rfl) l⟩
structure aG where
  dV : Bool
  dJ : List bM
  dG : List Int
def aG.cells (x : aG) : List PV :=
  [.bool x.dV, .sl (bM.rows x.dJ), .sl (Q3h x.dG)]
def aG.rows (l : List aG) : List (List PV) := l.map aG.cells
theorem aG.Q7 (l : List aG) : (aG.rows l).length = l.length := by simp [aG.rows]
theorem aG.Qb {l : List aG} {i : Nat} {x : aG} (h : l[i]? = some x) : (aG.rows l)[i]? = some (aG.cells x) := Go.Pv.Qb h
theorem aG.Q1l (l : List aG) (x : aG) : aG.rows (l ++ [x]) = aG.rows l ++ [aG.cells x] := by simp [aG.rows]
theorem aG.Qt (l : List aG) : ∀ r ∈ aG.rows l, r.length = 3 := Q4u (f := aG.cells) (fun _ => rfl) l
theorem aG.Q8 (l : List aG) (sz : Nat) (h : sz = 3) : ViewOK sz (aG.rows l).flatten (aG.rows l) := by subst h; exact ⟨rfl, aG.Qt l, Q4d (f := aG.cells) (fun _ => rfl) l⟩
structure bW where
  kind : ByteArray
  name : ByteArray
  fZ : Int
  fM : Bool
  block : Bool
def bW.cells (x : bW) : List PV :=
  [.str x.kind, .str x.name, iN x.fZ, .bool x.fM, .bool x.block]
def bW.rows (l : List bW) : List (List PV) := l.map bW.cells
theorem bW.Q7 (l : List bW) : (bW.rows l).length = l.length := by simp [bW.rows]
theorem bW.Qb {l : List bW} {i : Nat} {x : bW} (h : l[i]? = some x) : (bW.rows l)[i]? = some (bW.cells x) := Go.Pv.Qb h
theorem bW.Qt (l : List bW) : ∀ r ∈ bW.rows l, r.length = 5 := Q4u (f := bW.cells) (fun _ => rfl) l
theorem bW.Q8 (l : List bW) (sz : Nat) (h : sz = 5) : ViewOK sz (bW.rows l).flatten (bW.rows l) := by subst h; exact ⟨rfl, bW.Qt l, Q4d (f := bW.cells) (fun _ => rfl) l⟩
structure bD where
  name : ByteArray
  fields : List ByteArray
def bD.cells (x : bD) : List PV :=
  [.str x.name, .sl (Qz x.fields)]
def bD.rows (l : List bD) : List (List PV) := l.map bD.cells
theorem bD.Q7 (l : List bD) : (bD.rows l).length = l.length := by simp [bD.rows]
theorem bD.Qb {l : List bD} {i : Nat} {x : bD} (h : l[i]? = some x) : (bD.rows l)[i]? = some (bD.cells x) := Go.Pv.Qb h
theorem bD.Qt (l : List bD) : ∀ r ∈ bD.rows l, r.length = 2 := Q4u (f := bD.cells) (fun _ => rfl) l
theorem bD.Q8 (l : List bD) (sz : Nat) (h : sz = 2) : ViewOK sz (bD.rows l).flatten (bD.rows l) := by subst h; exact ⟨rfl, bD.Qt l, Q4d (f := bD.cells) (fun _ => rfl) l⟩
structure bN where
  kind : ByteArray
  bO : ByteArray
  name : ByteArray
  fZ : Int
  dx : Int
  bU : Int
  dw : Int
  cB : Bool
  cu : Int
  bP : List bf
  bS : List bW
  bL : List ByteArray
  bg : List bD
def bN.cells (x : bN) : List PV :=
  [.str x.kind, .str x.bO, .str x.name, iN x.fZ, iN x.dx, iN x.bU, iN x.dw, .bool x.cB, iN x.cu, .sl (bf.rows x.bP), .sl (bW.rows x.bS), .sl (Qz x.bL), .sl (bD.rows x.bg)]
def bN.rows (l : List bN) : List (List PV) := l.map bN.cells
structure aD where
  aM : bN
  aU : Val
  aZ : Val
def aD.cells (x : aD) : List PV :=
  [.str x.aM.kind, .str x.aM.bO, .str x.aM.name, iN x.aM.fZ, iN x.aM.dx, iN x.aM.bU, iN x.aM.dw, .bool x.aM.cB, iN x.aM.cu, .sl (bf.rows x.aM.bP), .sl (bW.rows x.aM.bS), .sl (Qz x.aM.bL), .sl (bD.rows x.aM.bg), iN x.aU.kind, iN x.aU.n, .str x.aU.s, .sl (Val.rows x.aU.list), .sl (Fld.rows x.aU.fields), iN x.aZ.kind, iN x.aZ.n, .str x.aZ.s, .sl (Val.rows x.aZ.list), .sl (Fld.rows x.aZ.fields)]
def aD.rows (l : List aD) : List (List PV) := l.map aD.cells
structure iC where
  aM : bN
  gD : Int
  gG : Int
  iB : Int
  gu : Int
  iA : Bool
  fT : Bool
  bB : bn
  iG : Int
  gV : Int
  bG : Int
  started : Int
  ig : Int
  done : List Int
  iK : Int
def iC.cells (x : iC) : List PV :=
  [.str x.aM.kind, .str x.aM.bO, .str x.aM.name, iN x.aM.fZ, iN x.aM.dx, iN x.aM.bU, iN x.aM.dw, .bool x.aM.cB, iN x.aM.cu, .sl (bf.rows x.aM.bP), .sl (bW.rows x.aM.bS), .sl (Qz x.aM.bL), .sl (bD.rows x.aM.bg), iN x.gD, iN x.gG, iN x.iB, iN x.gu, .bool x.iA, .bool x.fT, .sl (bf.rows x.bB.bP), .str x.bB.aU.fD, iN x.bB.aU.dQ, iN x.bB.aU.eD, iN x.bB.aU.fH, .sl (aK.rows x.bB.aU.dz), .sl (aj.rows x.bB.aU.bZ), .sl (aP.rows x.bB.aU.d9), .sl (aS.rows x.bB.aU.dI), .sl (aF.rows x.bB.aU.eP), .sl (aI.rows x.bB.aU.cO), iN x.iG, iN x.gV, iN x.bG, iN x.started, iN x.ig, .sl (Q3h x.done), iN x.iK]
def iC.rows (l : List iC) : List (List PV) := l.map iC.cells
structure dY where
  aM : bN
  bY : Int
  dh : Int
  iV : Int
  gu : Int
  bq : List aj
  bB : bn
  iJ : Bool
  jd : Bool
  iY : bK
  dD : bK
  jl : Int
  aZ : aX
def dY.cells (x : dY) : List PV :=
  [.str x.aM.kind, .str x.aM.bO, .str x.aM.name, iN x.aM.fZ, iN x.aM.dx, iN x.aM.bU, iN x.aM.dw, .bool x.aM.cB, iN x.aM.cu, .sl (bf.rows x.aM.bP), .sl (bW.rows x.aM.bS), .sl (Qz x.aM.bL), .sl (bD.rows x.aM.bg), iN x.bY, iN x.dh, iN x.iV, iN x.gu, .sl (aj.rows x.bq), .sl (bf.rows x.bB.bP), .str x.bB.aU.fD, iN x.bB.aU.dQ, iN x.bB.aU.eD, iN x.bB.aU.fH, .sl (aK.rows x.bB.aU.dz), .sl (aj.rows x.bB.aU.bZ), .sl (aP.rows x.bB.aU.d9), .sl (aS.rows x.bB.aU.dI), .sl (aF.rows x.bB.aU.eP), .sl (aI.rows x.bB.aU.cO), .bool x.iJ, .bool x.jd, .bool x.iY.eU, iN x.iY.n, .bool x.dD.eU, iN x.dD.n, iN x.jl, iN x.aZ.dR, iN x.aZ.bY, iN x.aZ.fB, iN x.aZ.ready, iN x.aZ.dU, iN x.aZ.eH, .bool x.aZ.bG]
def dY.rows (l : List dY) : List (List PV) := l.map dY.cells
structure dX where
  aM : bN
  iy : ByteArray
  target : ByteArray
  min_ : Int
  max_ : Int
  iW : List dZ
  iF : Int
  iO : Int
  iw : Int
  iM : bK
  gZ : bK
  fC : Int
  iZ : List dW
  jf : Int
def dX.cells (x : dX) : List PV :=
  [.str x.aM.kind, .str x.aM.bO, .str x.aM.name, iN x.aM.fZ, iN x.aM.dx, iN x.aM.bU, iN x.aM.dw, .bool x.aM.cB, iN x.aM.cu, .sl (bf.rows x.aM.bP), .sl (bW.rows x.aM.bS), .sl (Qz x.aM.bL), .sl (bD.rows x.aM.bg), .str x.iy, .str x.target, iN x.min_, iN x.max_, .sl (dZ.rows x.iW), iN x.iF, iN x.iO, iN x.iw, .bool x.iM.eU, iN x.iM.n, .bool x.gZ.eU, iN x.gZ.n, iN x.fC, .sl (dW.rows x.iZ), iN x.jf]
def dX.rows (l : List dX) : List (List PV) := l.map dX.cells
structure aO where
  aM : bN
  bY : Int
  dh : Int
  fK : Int
  bq : List aj
  bB : bn
  aZ : aX
def aO.cells (x : aO) : List PV :=
  [.str x.aM.kind, .str x.aM.bO, .str x.aM.name, iN x.aM.fZ, iN x.aM.dx, iN x.aM.bU, iN x.aM.dw, .bool x.aM.cB, iN x.aM.cu, .sl (bf.rows x.aM.bP), .sl (bW.rows x.aM.bS), .sl (Qz x.aM.bL), .sl (bD.rows x.aM.bg), iN x.bY, iN x.dh, iN x.fK, .sl (aj.rows x.bq), .sl (bf.rows x.bB.bP), .str x.bB.aU.fD, iN x.bB.aU.dQ, iN x.bB.aU.eD, iN x.bB.aU.fH, .sl (aK.rows x.bB.aU.dz), .sl (aj.rows x.bB.aU.bZ), .sl (aP.rows x.bB.aU.d9), .sl (aS.rows x.bB.aU.dI), .sl (aF.rows x.bB.aU.eP), .sl (aI.rows x.bB.aU.cO), iN x.aZ.dR, iN x.aZ.bY, iN x.aZ.fB, iN x.aZ.ready, iN x.aZ.dU, iN x.aZ.eH, .bool x.aZ.bG]
def aO.rows (l : List aO) : List (List PV) := l.map aO.cells
structure fP where
  aM : bN
  bq : List aj
  gX : List bK
  gK : List bK
  dR : Int
  iU : Int
  iT : Int
  iH : Int
  iR : Int
  iD : List dA
def fP.cells (x : fP) : List PV :=
  [.str x.aM.kind, .str x.aM.bO, .str x.aM.name, iN x.aM.fZ, iN x.aM.dx, iN x.aM.bU, iN x.aM.dw, .bool x.aM.cB, iN x.aM.cu, .sl (bf.rows x.aM.bP), .sl (bW.rows x.aM.bS), .sl (Qz x.aM.bL), .sl (bD.rows x.aM.bg), .sl (aj.rows x.bq), .sl (bK.rows x.gX), .sl (bK.rows x.gK), iN x.dR, iN x.iU, iN x.iT, iN x.iH, iN x.iR, .sl (dA.rows x.iD)]
def fP.rows (l : List fP) : List (List PV) := l.map fP.cells
structure aL where
  aM : bN
  bY : Int
  fE : Int
  dh : Int
  fJ : Bool
  bq : List aj
  bB : bn
  aZ : aX
def aL.cells (x : aL) : List PV :=
  [.str x.aM.kind, .str x.aM.bO, .str x.aM.name, iN x.aM.fZ, iN x.aM.dx, iN x.aM.bU, iN x.aM.dw, .bool x.aM.cB, iN x.aM.cu, .sl (bf.rows x.aM.bP), .sl (bW.rows x.aM.bS), .sl (Qz x.aM.bL), .sl (bD.rows x.aM.bg), iN x.bY, iN x.fE, iN x.dh, .bool x.fJ, .sl (aj.rows x.bq), .sl (bf.rows x.bB.bP), .str x.bB.aU.fD, iN x.bB.aU.dQ, iN x.bB.aU.eD, iN x.bB.aU.fH, .sl (aK.rows x.bB.aU.dz), .sl (aj.rows x.bB.aU.bZ), .sl (aP.rows x.bB.aU.d9), .sl (aS.rows x.bB.aU.dI), .sl (aF.rows x.bB.aU.eP), .sl (aI.rows x.bB.aU.cO), iN x.aZ.dR, iN x.aZ.bY, iN x.aZ.fB, iN x.aZ.ready, iN x.aZ.dU, iN x.aZ.eH, .bool x.aZ.bG]
def aL.rows (l : List aL) : List (List PV) := l.map aL.cells
structure aQ where
  aM : bN
  dh : Int
  dD : bK
  bq : List aj
  bB : bn
  aZ : aX
def aQ.cells (x : aQ) : List PV :=
  [.str x.aM.kind, .str x.aM.bO, .str x.aM.name, iN x.aM.fZ, iN x.aM.dx, iN x.aM.bU, iN x.aM.dw, .bool x.aM.cB, iN x.aM.cu, .sl (bf.rows x.aM.bP), .sl (bW.rows x.aM.bS), .sl (Qz x.aM.bL), .sl (bD.rows x.aM.bg), iN x.dh, .bool x.dD.eU, iN x.dD.n, .sl (aj.rows x.bq), .sl (bf.rows x.bB.bP), .str x.bB.aU.fD, iN x.bB.aU.dQ, iN x.bB.aU.eD, iN x.bB.aU.fH, .sl (aK.rows x.bB.aU.dz), .sl (aj.rows x.bB.aU.bZ), .sl (aP.rows x.bB.aU.d9), .sl (aS.rows x.bB.aU.dI), .sl (aF.rows x.bB.aU.eP), .sl (aI.rows x.bB.aU.cO), iN x.aZ.dR, iN x.aZ.bY, iN x.aZ.fB, iN x.aZ.ready, iN x.aZ.dU, iN x.aZ.eH, .bool x.aZ.bG]
def aQ.rows (l : List aQ) : List (List PV) := l.map aQ.cells
structure aY where
  aM : bN
  bq : List aj
  dG : List aC
  gB : Bool
  dF : Int
def aY.cells (x : aY) : List PV :=
  [.str x.aM.kind, .str x.aM.bO, .str x.aM.name, iN x.aM.fZ, iN x.aM.dx, iN x.aM.bU, iN x.aM.dw, .bool x.aM.cB, iN x.aM.cu, .sl (bf.rows x.aM.bP), .sl (bW.rows x.aM.bS), .sl (Qz x.aM.bL), .sl (bD.rows x.aM.bg), .sl (aj.rows x.bq), .sl (aC.rows x.dG), .bool x.gB, iN x.dF]
def aY.rows (l : List aY) : List (List PV) := l.map aY.cells
structure aH where
  aM : bN
  dG : List aC
  eF : List aT
def aH.cells (x : aH) : List PV :=
  [.str x.aM.kind, .str x.aM.bO, .str x.aM.name, iN x.aM.fZ, iN x.aM.dx, iN x.aM.bU, iN x.aM.dw, .bool x.aM.cB, iN x.aM.cu, .sl (bf.rows x.aM.bP), .sl (bW.rows x.aM.bS), .sl (Qz x.aM.bL), .sl (bD.rows x.aM.bg), .sl (aC.rows x.dG), .sl (aT.rows x.eF)]
def aH.rows (l : List aH) : List (List PV) := l.map aH.cells
structure aA where
  aM : bN
  bq : List aj
  fQ : Bool
  dV : Bool
  dO : List aG
def aA.cells (x : aA) : List PV :=
  [.str x.aM.kind, .str x.aM.bO, .str x.aM.name, iN x.aM.fZ, iN x.aM.dx, iN x.aM.bU, iN x.aM.dw, .bool x.aM.cB, iN x.aM.cu, .sl (bf.rows x.aM.bP), .sl (bW.rows x.aM.bS), .sl (Qz x.aM.bL), .sl (bD.rows x.aM.bg), .sl (aj.rows x.bq), .bool x.fQ, .bool x.dV, .sl (aG.rows x.dO)]
def aA.rows (l : List aA) : List (List PV) := l.map aA.cells
structure bI where
  aM : bN
  gW : aW
  gY : aW
  iE : Int
  has : Int
def bI.cells (x : bI) : List PV :=
  [.str x.aM.kind, .str x.aM.bO, .str x.aM.name, iN x.aM.fZ, iN x.aM.dx, iN x.aM.bU, iN x.aM.dw, .bool x.aM.cB, iN x.aM.cu, .sl (bf.rows x.aM.bP), .sl (bW.rows x.aM.bS), .sl (Qz x.aM.bL), .sl (bD.rows x.aM.bg), iN x.gW.iP, iN x.gW.eX, iN x.gW.gN, iN x.gY.iP, iN x.gY.eX, iN x.gY.gN, iN x.iE, iN x.has]
def bI.rows (l : List bI) : List (List PV) := l.map bI.cells
structure gq where
  aM : bN
  iL : ByteArray
  je : Int
  iq : Int
  iI : Int
  fT : Bool
  fO : iC
  last : Int
def gq.cells (x : gq) : List PV :=
  [.str x.aM.kind, .str x.aM.bO, .str x.aM.name, iN x.aM.fZ, iN x.aM.dx, iN x.aM.bU, iN x.aM.dw, .bool x.aM.cB, iN x.aM.cu, .sl (bf.rows x.aM.bP), .sl (bW.rows x.aM.bS), .sl (Qz x.aM.bL), .sl (bD.rows x.aM.bg), .str x.iL, iN x.je, iN x.iq, iN x.iI, .bool x.fT, .str x.fO.aM.kind, .str x.fO.aM.bO, .str x.fO.aM.name, iN x.fO.aM.fZ, iN x.fO.aM.dx, iN x.fO.aM.bU, iN x.fO.aM.dw, .bool x.fO.aM.cB, iN x.fO.aM.cu, .sl (bf.rows x.fO.aM.bP), .sl (bW.rows x.fO.aM.bS), .sl (Qz x.fO.aM.bL), .sl (bD.rows x.fO.aM.bg), iN x.fO.gD, iN x.fO.gG, iN x.fO.iB, iN x.fO.gu, .bool x.fO.iA, .bool x.fO.fT, .sl (bf.rows x.fO.bB.bP), .str x.fO.bB.aU.fD, iN x.fO.bB.aU.dQ, iN x.fO.bB.aU.eD, iN x.fO.bB.aU.fH, .sl (aK.rows x.fO.bB.aU.dz), .sl (aj.rows x.fO.bB.aU.bZ), .sl (aP.rows x.fO.bB.aU.d9), .sl (aS.rows x.fO.bB.aU.dI), .sl (aF.rows x.fO.bB.aU.eP), .sl (aI.rows x.fO.bB.aU.cO), iN x.fO.iG, iN x.fO.gV, iN x.fO.bG, iN x.fO.started, iN x.fO.ig, .sl (Q3h x.fO.done), iN x.fO.iK, iN x.last]
def gq.rows (l : List gq) : List (List PV) := l.map gq.cells
def Q2b : ByteArray := ⟨#[68, 97, 101, 109, 111, 110, 83, 101, 116]⟩
def Q1k : ByteArray := ⟨#[69, 110, 100, 112, 111, 105, 110, 116, 83, 101, 116]⟩
def Q12 : ByteArray := ⟨#[78, 101, 116, 119, 111, 114, 107, 80, 111, 108, 105, 99, 121]⟩
def Q3a : ByteArray := ⟨#[81, 117, 111, 116, 97]⟩
def Q22 : ByteArray := ⟨#[82, 101, 112, 108, 105, 99, 97, 83, 101, 116]⟩
def Q2r : ByteArray := ⟨#[83, 101, 114, 118, 105, 99, 101]⟩
def Q1u : ByteArray := ⟨#[83, 116, 97, 116, 101, 102, 117, 108, 83, 101, 116]⟩
def Q10 : ByteArray := ⟨#[97, 100, 100, 114, 101, 115, 115]⟩
def Q2t : ByteArray := ⟨#[97, 110, 116, 105]⟩
def Q19k : ByteArray := ⟨#[97, 116]⟩
def Q2c : ByteArray := ⟨#[97, 118, 97, 105, 108, 97, 98, 108, 101]⟩
def Q72 : ByteArray := ⟨#[99, 111, 109, 112, 108, 101, 116, 105, 111, 110, 115]⟩
def Qo : ByteArray := ⟨#[99, 111, 110, 116, 97, 105, 110, 101, 114, 115]⟩
def Q3k : ByteArray := ⟨#[99, 112, 117]⟩
def Qa1 : ByteArray := ⟨#[100, 101, 97, 100, 108, 105, 110, 101]⟩
def Q35 : ByteArray := ⟨#[100, 101, 108, 97, 121]⟩
def Q42 : ByteArray := ⟨#[100, 105, 115, 107]⟩
def Q2e : ByteArray := ⟨#[101, 102, 102, 101, 99, 116]⟩
def Qw : ByteArray := ⟨#[101, 103, 114, 101, 115, 115]⟩
def Q2f : ByteArray := ⟨#[101, 120, 105, 115, 116, 115]⟩
def Q4a : ByteArray := ⟨#[102, 97, 105, 108, 101, 100]⟩
def Q30 : ByteArray := ⟨#[102, 97, 105, 108, 117, 114, 101]⟩
def Q2s : ByteArray := ⟨#[103, 114, 97, 99, 101]⟩
def Q4m : ByteArray := ⟨#[104, 97, 114, 100]⟩
def Q76 : ByteArray := ⟨#[104, 97, 115]⟩
def Qr : ByteArray := ⟨#[105, 109, 97, 103, 101]⟩
def Qbu : ByteArray := ⟨#[105, 110, 100, 101, 120, 101, 100]⟩
def Q3e : ByteArray := ⟨#[105, 110, 103, 114, 101, 115, 115]⟩
def Q20 : ByteArray := ⟨#[105, 116, 101, 109, 115]⟩
def Q1c : ByteArray := ⟨#[107, 101, 121]⟩
def Qj : ByteArray := ⟨#[108, 97, 98, 101, 108, 115]⟩
def Q18 : ByteArray := ⟨#[108, 105, 109, 105, 116]⟩
def Q2a : ByteArray := ⟨#[108, 105, 118, 101]⟩
def Q1t : ByteArray := ⟨#[109, 97, 120, 83, 107, 101, 119]⟩
def Q2p : ByteArray := ⟨#[109, 101, 109, 111, 114, 121]⟩
def Q11 : ByteArray := ⟨#[109, 105, 110, 82, 101, 97, 100, 121]⟩
def kw_n : ByteArray := ⟨#[110]⟩
def Qi : ByteArray := ⟨#[110, 97, 109, 101]⟩
def Q1r : ByteArray := ⟨#[110, 97, 109, 101, 115, 112, 97, 99, 101]⟩
def Q1b : ByteArray := ⟨#[110, 111, 100, 101]⟩
def Q13 : ByteArray := ⟨#[110, 111, 100, 101, 83, 101, 108, 101, 99, 116, 111, 114]⟩
def Qs : ByteArray := ⟨#[110, 111, 100, 101, 84, 101, 114, 109, 115]⟩
def Q17 : ByteArray := ⟨#[111, 98, 115, 101, 114, 118, 101, 100]⟩
def Q4t : ByteArray := ⟨#[111, 112]⟩
def Q3c : ByteArray := ⟨#[112, 97, 114, 97, 108, 108, 101, 108]⟩
def Q73 : ByteArray := ⟨#[112, 97, 114, 97, 108, 108, 101, 108, 105, 115, 109]⟩
def Q2z : ByteArray := ⟨#[112, 97, 114, 116, 105, 116, 105, 111, 110]⟩
def Q21 : ByteArray := ⟨#[112, 101, 101, 114, 115]⟩
def Q2w : ByteArray := ⟨#[112, 101, 114, 99, 101, 110, 116]⟩
def Q38 : ByteArray := ⟨#[112, 101, 114, 105, 111, 100]⟩
def Q2v : ByteArray := ⟨#[112, 111, 100]⟩
def Qy : ByteArray := ⟨#[112, 111, 100, 84, 101, 114, 109, 115]⟩
def Q51 : ByteArray := ⟨#[112, 111, 100, 115]⟩
def Q3i : ByteArray := ⟨#[112, 111, 114, 116]⟩
def Qn : ByteArray := ⟨#[112, 111, 114, 116, 115]⟩
def Q1p : ByteArray := ⟨#[112, 114, 105, 111, 114, 105, 116, 121]⟩
def Q2x : ByteArray := ⟨#[112, 114, 111, 103, 114, 101, 115, 115]⟩
def Qh : ByteArray := ⟨#[114, 101, 97, 100, 121]⟩
def Qf : ByteArray := ⟨#[114, 101, 112, 108, 105, 99, 97, 115]⟩
def Qe : ByteArray := ⟨#[114, 101, 113, 117, 101, 115, 116]⟩
def Qa : ByteArray := ⟨#[114, 101, 113, 117, 105, 114, 101, 100]⟩
def Q1z : ByteArray := ⟨#[114, 101, 115, 116, 97, 114, 116]⟩
def Qbv : ByteArray := ⟨#[114, 101, 116, 114, 105, 101, 115]⟩
def Q3d : ByteArray := ⟨#[114, 101, 118, 105, 115, 105, 111, 110]⟩
def Q28 : ByteArray := ⟨#[114, 117, 108, 101, 115]⟩
def Q2i : ByteArray := ⟨#[115, 101, 99, 111, 110, 100, 115]⟩
def Q0 : ByteArray := ⟨#[115, 101, 108, 101, 99, 116, 111, 114]⟩
def Q31 : ByteArray := ⟨#[115, 112, 101, 99]⟩
def Q1q : ByteArray := ⟨#[115, 112, 114, 101, 97, 100]⟩
def Q1j : ByteArray := ⟨#[115, 116, 97, 114, 116, 117, 112]⟩
def Q3v : ByteArray := ⟨#[115, 116, 105, 99, 107, 121]⟩
def Q39 : ByteArray := ⟨#[115, 117, 99, 99, 101, 115, 115]⟩
def Q8o : ByteArray := ⟨#[115, 117, 115, 112, 101, 110, 100, 101, 100]⟩
def Q2y : ByteArray := ⟨#[116, 97, 114, 103, 101, 116]⟩
def Qv : ByteArray := ⟨#[116, 101, 109, 112, 108, 97, 116, 101]⟩
def Q1y : ByteArray := ⟨#[116, 101, 114, 109, 105, 110, 97, 116, 105, 110, 103]⟩
def Ql : ByteArray := ⟨#[116, 111, 108, 101, 114, 97, 116, 105, 111, 110, 115]⟩
def Qm : ByteArray := ⟨#[116, 111, 112, 111, 108, 111, 103, 121]⟩
def Q2g : ByteArray := ⟨#[117, 110, 97, 118, 97, 105, 108, 97, 98, 108, 101]⟩
def Q27 : ByteArray := ⟨#[117, 112, 100, 97, 116, 101, 100]⟩
def Q4n : ByteArray := ⟨#[117, 115, 101, 100]⟩
def Q1s : ByteArray := ⟨#[118, 97, 108, 117, 101]⟩
def Q29 : ByteArray := ⟨#[118, 97, 108, 117, 101, 115]⟩
def Q1d : ByteArray := ⟨#[119, 101, 105, 103, 104, 116]⟩
def aj.enc (x : aj) : Val := vM [.mk Q1c (vS x.key), .mk Q4t (vN x.op), .mk Q29 (vL (x.dK.map vS))]
def aj.dec (v : Val) : aj × Bool := (aj.mk (dS v Q1c).1 (dN v Q4t).1 (dE xS v Q29).1, isM v && (dS v Q1c).2 && (dN v Q4t).2 && (dE xS v Q29).2)
def aj.sm (x : aj) : Prop := LSm (fun _ : ByteArray => True) x.dK ∧ True
theorem aj.Q33 {x : aj} (h : aj.sm x) : Val.Sm sB (aj.enc x) := Q6q (Nat.le_of_ble_eq_true rfl) (List.forall_mem_cons.2 ⟨Val.Sm.leaf 3 _ _, List.forall_mem_cons.2 ⟨Val.Sm.leaf 2 _ _, List.forall_mem_cons.2 ⟨Q3y (fun _ h => Val.Sm.leaf _ _ _) h.1, fun _ h => by cases h⟩⟩⟩)
theorem aj.Q34 {v : Val} (h : Val.Sm sB v) : aj.sm (aj.dec v).1 := ⟨Q7a (fun _ _h => trivial) (Qp h _), trivial⟩
def aj.rdec (v : Val) : aj × Bool := (aj.mk (dS v Q1c).1 (dN v Q4t).1 (dE rS v Q29).1, isM v && (dS v Q1c).2 && (dN v Q4t).2 && (dE rS v Q29).2)
theorem aj.agr : Agr aj.rdec aj.dec := fun v => by
  obtain ⟨a0, b0⟩ := Qaa Q269 (prt v Q29)
  unfold aj.rdec aj.dec
  simp only [dE, a0]
  refine ⟨trivial, fun h => ?_⟩
  simp only [Bool.and_eq_true] at h
  rw [b0 h.2]
def bf.enc (x : bf) : Val := vM [.mk Q1c (vS x.key), .mk Q1s (vS x.value)]
def bf.dec (v : Val) : bf × Bool := (bf.mk (dS v Q1c).1 (dS v Q1s).1, isM v && (dS v Q1c).2 && (dS v Q1s).2)
def bf.sm (_ : bf) : Prop := True
theorem bf.Q33 {x : bf} (_ : bf.sm x) : Val.Sm sB (bf.enc x) := Q6q (Nat.le_of_ble_eq_true rfl) (List.forall_mem_cons.2 ⟨Val.Sm.leaf 3 _ _, List.forall_mem_cons.2 ⟨Val.Sm.leaf 3 _ _, fun _ h => by cases h⟩⟩)
theorem bf.Q34 {v : Val} (_ : Val.Sm sB v) : bf.sm (bf.dec v).1 := trivial
def aW.enc (x : aW) : Val := vM [.mk Q3k (vN x.iP), .mk Q42 (vN x.gN), .mk Q2p (vN x.eX)]
def aW.dec (v : Val) : aW × Bool := (aW.mk (dN v Q3k).1 (dN v Q2p).1 (dN v Q42).1, isM v && (dN v Q3k).2 && (dN v Q42).2 && (dN v Q2p).2)
def aW.sm (_ : aW) : Prop := True
theorem aW.Q33 {x : aW} (_ : aW.sm x) : Val.Sm sB (aW.enc x) := Q6q (Nat.le_of_ble_eq_true rfl) (List.forall_mem_cons.2 ⟨Val.Sm.leaf 2 _ _, List.forall_mem_cons.2 ⟨Val.Sm.leaf 2 _ _, List.forall_mem_cons.2 ⟨Val.Sm.leaf 2 _ _, fun _ h => by cases h⟩⟩⟩)
theorem aW.Q34 {v : Val} (_ : Val.Sm sB v) : aW.sm (aW.dec v).1 := trivial
theorem aW.Qak {v : Val} (h : (v.kind == 5) = false) : aW.dec v = ((aW.dec vZ).1, v.kind == 0) := by
  unfold aW.dec
  simp only [dN, Qf9 h, Qo1 h]
  generalize (v.kind == 0) = b
  cases b <;> rfl
theorem aW.sub1 (x : Val) : (aW.dec (s5 x)).1 = (aW.dec x).1 := (Q165 (f := aW.dec) (fun _ h => aW.Qak h) rfl x).1
theorem aW.sub2 (v : Val) (k : BA) : (aW.dec (prt v k)).2 = (isM (prt v k) && (aW.dec (s5 (prt v k))).2) := (Q165 (f := aW.dec) (fun _ h => aW.Qak h) rfl _).2
def bA.enc (x : bA) : Val := vM [.mk Q35 (vN x.fU), .mk Q30 (vN x.eZ), .mk Q38 (vN x.fC), .mk Q39 (vN x.fA)]
def bA.dec (v : Val) : bA × Bool := (bA.mk (dN v Q35).1 (dN v Q38).1 (dN v Q39).1 (dN v Q30).1, isM v && (dN v Q35).2 && (dN v Q30).2 && (dN v Q38).2 && (dN v Q39).2)
def bA.sm (_ : bA) : Prop := True
theorem bA.Q33 {x : bA} (_ : bA.sm x) : Val.Sm sB (bA.enc x) := Q6q (Nat.le_of_ble_eq_true rfl) (List.forall_mem_cons.2 ⟨Val.Sm.leaf 2 _ _, List.forall_mem_cons.2 ⟨Val.Sm.leaf 2 _ _, List.forall_mem_cons.2 ⟨Val.Sm.leaf 2 _ _, List.forall_mem_cons.2 ⟨Val.Sm.leaf 2 _ _, fun _ h => by cases h⟩⟩⟩⟩)
theorem bA.Q34 {v : Val} (_ : Val.Sm sB v) : bA.sm (bA.dec v).1 := trivial
def aK.enc (x : aK) : Val := vM [.mk Qr (vS x.fV), .mk Q18 (aW.enc x.fI), .mk Q2a (vL (x.live.map bA.enc)), .mk Qi (vS x.name), .mk Qh (vL (x.ready.map bA.enc)), .mk Qe (aW.enc x.eu), .mk Q1j (vL (x.eO.map bA.enc))]
def aK.dec (v : Val) : aK × Bool := (aK.mk (dS v Qi).1 (dS v Qr).1 (dT aW.dec v Qe).1 (dT aW.dec v Q18).1 (dE bA.dec v Q2a).1 (dE bA.dec v Qh).1 (dE bA.dec v Q1j).1, isM v && (dS v Qr).2 && (dT aW.dec v Q18).2 && (dE bA.dec v Q2a).2 && (dS v Qi).2 && (dE bA.dec v Qh).2 && (dT aW.dec v Qe).2 && (dE bA.dec v Q1j).2)
def aK.sm (x : aK) : Prop := aW.sm x.eu ∧ aW.sm x.fI ∧ LSm bA.sm x.live ∧ LSm bA.sm x.ready ∧ LSm bA.sm x.eO ∧ True
theorem aK.Q33 {x : aK} (h : aK.sm x) : Val.Sm sB (aK.enc x) := Q6q (Nat.le_of_ble_eq_true rfl) (List.forall_mem_cons.2 ⟨Val.Sm.leaf 3 _ _, List.forall_mem_cons.2 ⟨aW.Q33 h.2.1, List.forall_mem_cons.2 ⟨Q3y (fun _ h => bA.Q33 h) h.2.2.1, List.forall_mem_cons.2 ⟨Val.Sm.leaf 3 _ _, List.forall_mem_cons.2 ⟨Q3y (fun _ h => bA.Q33 h) h.2.2.2.1, List.forall_mem_cons.2 ⟨aW.Q33 h.1, List.forall_mem_cons.2 ⟨Q3y (fun _ h => bA.Q33 h) h.2.2.2.2.1, fun _ h => by cases h⟩⟩⟩⟩⟩⟩⟩)
theorem aK.Q34 {v : Val} (h : Val.Sm sB v) : aK.sm (aK.dec v).1 := ⟨aW.Q34 (Qp h _), aW.Q34 (Qp h _), Q7a (fun _ h => bA.Q34 h) (Qp h _), Q7a (fun _ h => bA.Q34 h) (Qp h _), Q7a (fun _ h => bA.Q34 h) (Qp h _), trivial⟩
def aP.enc (x : aP) : Val := vM [.mk Qa (vB x.bX), .mk Q0 (vL (x.bq.map aj.enc)), .mk Q1d (vN x.dM)]
def aP.dec (v : Val) : aP × Bool := (aP.mk (dB v Qa).1 (dE aj.dec v Q0).1 (dN v Q1d).1, isM v && (dB v Qa).2 && (dE aj.dec v Q0).2 && (dN v Q1d).2)
def aP.sm (x : aP) : Prop := LSm aj.sm x.bq ∧ True
theorem aP.Q33 {x : aP} (h : aP.sm x) : Val.Sm sB (aP.enc x) := Q6q (Nat.le_of_ble_eq_true rfl) (List.forall_mem_cons.2 ⟨Val.Sm.leaf 1 _ _, List.forall_mem_cons.2 ⟨Q3y (fun _ h => aj.Q33 h) h.1, List.forall_mem_cons.2 ⟨Val.Sm.leaf 2 _ _, fun _ h => by cases h⟩⟩⟩)
theorem aP.Q34 {v : Val} (h : Val.Sm sB v) : aP.sm (aP.dec v).1 := ⟨Q7a (fun _ h => aj.Q34 h) (Qp h _), trivial⟩
def aP.rdec (v : Val) : aP × Bool := (aP.mk (dB v Qa).1 (dE aj.rdec v Q0).1 (dN v Q1d).1, isM v && (dB v Qa).2 && (dE aj.rdec v Q0).2 && (dN v Q1d).2)
theorem aP.agr : Agr aP.rdec aP.dec := fun v => by
  obtain ⟨a0, b0⟩ := Qaa aj.agr (prt v Q0)
  unfold aP.rdec aP.dec
  simp only [dE, a0]
  refine ⟨trivial, fun h => ?_⟩
  simp only [Bool.and_eq_true] at h
  rw [b0 h.1.2]
def aS.enc (x : aS) : Val := vM [.mk Q2t (vB x.gL), .mk Qa (vB x.bX), .mk Q0 (vL (x.bq.map aj.enc)), .mk Qm (vS x.dn), .mk Q1d (vN x.dM)]
def aS.dec (v : Val) : aS × Bool := (aS.mk (dB v Qa).1 (dB v Q2t).1 (dE aj.dec v Q0).1 (dS v Qm).1 (dN v Q1d).1, isM v && (dB v Q2t).2 && (dB v Qa).2 && (dE aj.dec v Q0).2 && (dS v Qm).2 && (dN v Q1d).2)
def aS.sm (x : aS) : Prop := LSm aj.sm x.bq ∧ True
theorem aS.Q33 {x : aS} (h : aS.sm x) : Val.Sm sB (aS.enc x) := Q6q (Nat.le_of_ble_eq_true rfl) (List.forall_mem_cons.2 ⟨Val.Sm.leaf 1 _ _, List.forall_mem_cons.2 ⟨Val.Sm.leaf 1 _ _, List.forall_mem_cons.2 ⟨Q3y (fun _ h => aj.Q33 h) h.1, List.forall_mem_cons.2 ⟨Val.Sm.leaf 3 _ _, List.forall_mem_cons.2 ⟨Val.Sm.leaf 2 _ _, fun _ h => by cases h⟩⟩⟩⟩⟩)
theorem aS.Q34 {v : Val} (h : Val.Sm sB v) : aS.sm (aS.dec v).1 := ⟨Q7a (fun _ h => aj.Q34 h) (Qp h _), trivial⟩
def aS.rdec (v : Val) : aS × Bool := (aS.mk (dB v Qa).1 (dB v Q2t).1 (dE aj.rdec v Q0).1 (dS v Qm).1 (dN v Q1d).1, isM v && (dB v Q2t).2 && (dB v Qa).2 && (dE aj.rdec v Q0).2 && (dS v Qm).2 && (dN v Q1d).2)
theorem aS.agr : Agr aS.rdec aS.dec := fun v => by
  obtain ⟨a0, b0⟩ := Qaa aj.agr (prt v Q0)
  unfold aS.rdec aS.dec
  simp only [dE, a0]
  refine ⟨trivial, fun h => ?_⟩
  simp only [Bool.and_eq_true] at h
  rw [b0 h.1.1.2]
def aF.enc (x : aF) : Val := vM [.mk Q1t (vN x.fq), .mk Qa (vB x.bX), .mk Q0 (vL (x.bq.map aj.enc)), .mk Qm (vS x.dn)]
def aF.dec (v : Val) : aF × Bool := (aF.mk (dN v Q1t).1 (dS v Qm).1 (dE aj.dec v Q0).1 (dB v Qa).1, isM v && (dN v Q1t).2 && (dB v Qa).2 && (dE aj.dec v Q0).2 && (dS v Qm).2)
def aF.sm (x : aF) : Prop := LSm aj.sm x.bq ∧ True
theorem aF.Q33 {x : aF} (h : aF.sm x) : Val.Sm sB (aF.enc x) := Q6q (Nat.le_of_ble_eq_true rfl) (List.forall_mem_cons.2 ⟨Val.Sm.leaf 2 _ _, List.forall_mem_cons.2 ⟨Val.Sm.leaf 1 _ _, List.forall_mem_cons.2 ⟨Q3y (fun _ h => aj.Q33 h) h.1, List.forall_mem_cons.2 ⟨Val.Sm.leaf 3 _ _, fun _ h => by cases h⟩⟩⟩⟩)
theorem aF.Q34 {v : Val} (h : Val.Sm sB v) : aF.sm (aF.dec v).1 := ⟨Q7a (fun _ h => aj.Q34 h) (Qp h _), trivial⟩
def aF.rdec (v : Val) : aF × Bool := (aF.mk (dN v Q1t).1 (dS v Qm).1 (dE aj.rdec v Q0).1 (dB v Qa).1, isM v && (dN v Q1t).2 && (dB v Qa).2 && (dE aj.rdec v Q0).2 && (dS v Qm).2)
theorem aF.agr : Agr aF.rdec aF.dec := fun v => by
  obtain ⟨a0, b0⟩ := Qaa aj.agr (prt v Q0)
  unfold aF.rdec aF.dec
  simp only [dE, a0]
  refine ⟨trivial, fun h => ?_⟩
  simp only [Bool.and_eq_true] at h
  rw [b0 h.1.2]
def aI.enc (x : aI) : Val := vM [.mk Q2e (vN x.fG), .mk Q2f (vB x.eY), .mk Q1c (vS x.key), .mk Q2i (vN x.fu), .mk Q1s (vS x.value)]
def aI.dec (v : Val) : aI × Bool := (aI.mk (dS v Q1c).1 (dS v Q1s).1 (dB v Q2f).1 (dN v Q2e).1 (dN v Q2i).1, isM v && (dN v Q2e).2 && (dB v Q2f).2 && (dS v Q1c).2 && (dN v Q2i).2 && (dS v Q1s).2)
def aI.sm (_ : aI) : Prop := True
theorem aI.Q33 {x : aI} (_ : aI.sm x) : Val.Sm sB (aI.enc x) := Q6q (Nat.le_of_ble_eq_true rfl) (List.forall_mem_cons.2 ⟨Val.Sm.leaf 2 _ _, List.forall_mem_cons.2 ⟨Val.Sm.leaf 1 _ _, List.forall_mem_cons.2 ⟨Val.Sm.leaf 3 _ _, List.forall_mem_cons.2 ⟨Val.Sm.leaf 2 _ _, List.forall_mem_cons.2 ⟨Val.Sm.leaf 3 _ _, fun _ h => by cases h⟩⟩⟩⟩⟩)
theorem aI.Q34 {v : Val} (_ : Val.Sm sB v) : aI.sm (aI.dec v).1 := trivial
def bC.enc (x : bC) : Val := vM [.mk Qo (vL (x.dz.map aK.enc)), .mk Q2s (vN x.fH), .mk Q1b (vS x.fD), .mk Q13 (vL (x.bZ.map aj.enc)), .mk Qs (vL (x.d9.map aP.enc)), .mk Qy (vL (x.dI.map aS.enc)), .mk Q1p (vN x.dQ), .mk Q1z (vN x.eD), .mk Q1q (vL (x.eP.map aF.enc)), .mk Ql (vL (x.cO.map aI.enc))]
def bC.dec (v : Val) : bC × Bool := (bC.mk (dS v Q1b).1 (dN v Q1p).1 (dN v Q1z).1 (dN v Q2s).1 (dE aK.dec v Qo).1 (dE aj.dec v Q13).1 (dE aP.dec v Qs).1 (dE aS.dec v Qy).1 (dE aF.dec v Q1q).1 (dE aI.dec v Ql).1, isM v && (dE aK.dec v Qo).2 && (dN v Q2s).2 && (dS v Q1b).2 && (dE aj.dec v Q13).2 && (dE aP.dec v Qs).2 && (dE aS.dec v Qy).2 && (dN v Q1p).2 && (dN v Q1z).2 && (dE aF.dec v Q1q).2 && (dE aI.dec v Ql).2)
def bC.sm (x : bC) : Prop := LSm aK.sm x.dz ∧ LSm aj.sm x.bZ ∧ LSm aP.sm x.d9 ∧ LSm aS.sm x.dI ∧ LSm aF.sm x.eP ∧ LSm aI.sm x.cO ∧ True
theorem bC.Q33 {x : bC} (h : bC.sm x) : Val.Sm sB (bC.enc x) := Q6q (Nat.le_of_ble_eq_true rfl) (List.forall_mem_cons.2 ⟨Q3y (fun _ h => aK.Q33 h) h.1, List.forall_mem_cons.2 ⟨Val.Sm.leaf 2 _ _, List.forall_mem_cons.2 ⟨Val.Sm.leaf 3 _ _, List.forall_mem_cons.2 ⟨Q3y (fun _ h => aj.Q33 h) h.2.1, List.forall_mem_cons.2 ⟨Q3y (fun _ h => aP.Q33 h) h.2.2.1, List.forall_mem_cons.2 ⟨Q3y (fun _ h => aS.Q33 h) h.2.2.2.1, List.forall_mem_cons.2 ⟨Val.Sm.leaf 2 _ _, List.forall_mem_cons.2 ⟨Val.Sm.leaf 2 _ _, List.forall_mem_cons.2 ⟨Q3y (fun _ h => aF.Q33 h) h.2.2.2.2.1, List.forall_mem_cons.2 ⟨Q3y (fun _ h => aI.Q33 h) h.2.2.2.2.2.1, fun _ h => by cases h⟩⟩⟩⟩⟩⟩⟩⟩⟩⟩)
theorem bC.Q34 {v : Val} (h : Val.Sm sB v) : bC.sm (bC.dec v).1 := ⟨Q7a (fun _ h => aK.Q34 h) (Qp h _), Q7a (fun _ h => aj.Q34 h) (Qp h _), Q7a (fun _ h => aP.Q34 h) (Qp h _), Q7a (fun _ h => aS.Q34 h) (Qp h _), Q7a (fun _ h => aF.Q34 h) (Qp h _), Q7a (fun _ h => aI.Q34 h) (Qp h _), trivial⟩
theorem bC.Qak {v : Val} (h : (v.kind == 5) = false) : bC.dec v = ((bC.dec vZ).1, v.kind == 0) := by
  unfold bC.dec
  simp only [dN, dS, dE, Qf9 h, Qo1 h]
  generalize (v.kind == 0) = b
  cases b <;> rfl
def bC.rdec (v : Val) : bC × Bool := (bC.mk (dS v Q1b).1 (dN v Q1p).1 (dN v Q1z).1 (dN v Q2s).1 (dE aK.dec v Qo).1 (dE aj.rdec v Q13).1 (dE aP.rdec v Qs).1 (dE aS.rdec v Qy).1 (dE aF.rdec v Q1q).1 (dE aI.dec v Ql).1, isM v && (dE aK.dec v Qo).2 && (dN v Q2s).2 && (dS v Q1b).2 && (dE aj.rdec v Q13).2 && (dE aP.rdec v Qs).2 && (dE aS.rdec v Qy).2 && (dN v Q1p).2 && (dN v Q1z).2 && (dE aF.rdec v Q1q).2 && (dE aI.dec v Ql).2)
theorem bC.agr : Agr bC.rdec bC.dec := fun v => by
  obtain ⟨a0, b0⟩ := Qaa aj.agr (prt v Q13)
  obtain ⟨a1, b1⟩ := Qaa aP.agr (prt v Qs)
  obtain ⟨a2, b2⟩ := Qaa aS.agr (prt v Qy)
  obtain ⟨a3, b3⟩ := Qaa aF.agr (prt v Q1q)
  unfold bC.rdec bC.dec
  simp only [dE, a0, a1, a2, a3]
  refine ⟨trivial, fun h => ?_⟩
  simp only [Bool.and_eq_true] at h
  rw [b0 h.1.1.1.1.1.1.2, b1 h.1.1.1.1.1.2, b2 h.1.1.1.1.2, b3 h.1.2]
theorem bC.sub1 (x : Val) : (bC.dec (s5 x)).1 = (bC.dec x).1 := (Q165 (f := bC.dec) (fun _ h => bC.Qak h) rfl x).1
theorem bC.sub2 (v : Val) (k : BA) : (bC.dec (prt v k)).2 = (isM (prt v k) && (bC.dec (s5 (prt v k))).2) := (Q165 (f := bC.dec) (fun _ h => bC.Qak h) rfl _).2
def bn.enc (x : bn) : Val := vM [.mk Qj (vL (x.bP.map bf.enc)), .mk Q31 (bC.enc x.aU)]
def bn.dec (v : Val) : bn × Bool := (bn.mk (dE bf.dec v Qj).1 (dT bC.dec v Q31).1, isM v && (dE bf.dec v Qj).2 && (dT bC.dec v Q31).2)
def bn.sm (x : bn) : Prop := LSm bf.sm x.bP ∧ bC.sm x.aU ∧ True
theorem bn.Q33 {x : bn} (h : bn.sm x) : Val.Sm sB (bn.enc x) := Q6q (Nat.le_of_ble_eq_true rfl) (List.forall_mem_cons.2 ⟨Q3y (fun _ h => bf.Q33 h) h.1, List.forall_mem_cons.2 ⟨bC.Q33 h.2.1, fun _ h => by cases h⟩⟩)
theorem bn.Q34 {v : Val} (h : Val.Sm sB v) : bn.sm (bn.dec v).1 := ⟨Q7a (fun _ h => bf.Q34 h) (Qp h _), bC.Q34 (Qp h _), trivial⟩
theorem bn.Qak {v : Val} (h : (v.kind == 5) = false) : bn.dec v = ((bn.dec vZ).1, v.kind == 0) := by
  unfold bn.dec
  simp only [dE, dT, Qf9 h, Qo1 h]
  generalize (v.kind == 0) = b
  cases b <;> rfl
def bK.enc (x : bK) : Val := vM [.mk kw_n (vN x.n), .mk Q2w (vB x.eU)]
def bK.dec (v : Val) : bK × Bool := (bK.mk (dB v Q2w).1 (dN v kw_n).1, isM v && (dN v kw_n).2 && (dB v Q2w).2)
def bK.sm (_ : bK) : Prop := True
theorem bK.Q33 {x : bK} (_ : bK.sm x) : Val.Sm sB (bK.enc x) := Q6q (Nat.le_of_ble_eq_true rfl) (List.forall_mem_cons.2 ⟨Val.Sm.leaf 2 _ _, List.forall_mem_cons.2 ⟨Val.Sm.leaf 1 _ _, fun _ h => by cases h⟩⟩)
theorem bK.Q34 {v : Val} (_ : Val.Sm sB v) : bK.sm (bK.dec v).1 := trivial
def aX.enc (x : aX) : Val := vM [.mk Q2c (vN x.dU), .mk Q4a (vB x.bG), .mk Q17 (vN x.dR), .mk Q2x (vN x.eH), .mk Qh (vN x.ready), .mk Qf (vN x.bY), .mk Q27 (vN x.fB)]
def aX.dec (v : Val) : aX × Bool := (aX.mk (dN v Q17).1 (dN v Qf).1 (dN v Q27).1 (dN v Qh).1 (dN v Q2c).1 (dN v Q2x).1 (dB v Q4a).1, isM v && (dN v Q2c).2 && (dB v Q4a).2 && (dN v Q17).2 && (dN v Q2x).2 && (dN v Qh).2 && (dN v Qf).2 && (dN v Q27).2)
def aX.sm (_ : aX) : Prop := True
theorem aX.Q33 {x : aX} (_ : aX.sm x) : Val.Sm sB (aX.enc x) := Q6q (Nat.le_of_ble_eq_true rfl) (List.forall_mem_cons.2 ⟨Val.Sm.leaf 2 _ _, List.forall_mem_cons.2 ⟨Val.Sm.leaf 1 _ _, List.forall_mem_cons.2 ⟨Val.Sm.leaf 2 _ _, List.forall_mem_cons.2 ⟨Val.Sm.leaf 2 _ _, List.forall_mem_cons.2 ⟨Val.Sm.leaf 2 _ _, List.forall_mem_cons.2 ⟨Val.Sm.leaf 2 _ _, List.forall_mem_cons.2 ⟨Val.Sm.leaf 2 _ _, fun _ h => by cases h⟩⟩⟩⟩⟩⟩⟩)
theorem aX.Q34 {v : Val} (_ : Val.Sm sB v) : aX.sm (aX.dec v).1 := trivial
def dZ.dec (v : Val) : dZ × Bool := (dZ.mk (dS v Qi).1 (dN v Q2y).1, isM v && (dS v Qi).2 && (dN v Q2y).2)
def dW.dec (v : Val) : dW × Bool := (dW.mk (dN v Q19k).1 (dN v Qf).1, isM v && (dN v Q19k).2 && (dN v Qf).2)
def dA.dec (v : Val) : dA × Bool := (dA.mk (dS v Q1c).1 (dN v Q19k).1, isM v && (dN v Q19k).2 && (dS v Q1c).2)
def aC.enc (x : aC) : Val := vM [.mk Qi (vS x.name), .mk Q3i (vN x.gU), .mk Q2y (vN x.target)]
def aC.dec (v : Val) : aC × Bool := (aC.mk (dS v Qi).1 (dN v Q3i).1 (dN v Q2y).1, isM v && (dS v Qi).2 && (dN v Q3i).2 && (dN v Q2y).2)
def aC.sm (_ : aC) : Prop := True
theorem aC.Q33 {x : aC} (_ : aC.sm x) : Val.Sm sB (aC.enc x) := Q6q (Nat.le_of_ble_eq_true rfl) (List.forall_mem_cons.2 ⟨Val.Sm.leaf 3 _ _, List.forall_mem_cons.2 ⟨Val.Sm.leaf 2 _ _, List.forall_mem_cons.2 ⟨Val.Sm.leaf 2 _ _, fun _ h => by cases h⟩⟩⟩)
theorem aC.Q34 {v : Val} (_ : Val.Sm sB v) : aC.sm (aC.dec v).1 := trivial
def aT.enc (x : aT) : Val := vM [.mk Q10 (vN x.dF), .mk Q1b (vS x.fD), .mk Q2v (vS x.iQ), .mk Qh (vB x.ready), .mk Q1y (vB x.dH)]
def aT.dec (v : Val) : aT × Bool := (aT.mk (dS v Q2v).1 (dS v Q1b).1 (dN v Q10).1 (dB v Qh).1 (dB v Q1y).1, isM v && (dN v Q10).2 && (dS v Q1b).2 && (dS v Q2v).2 && (dB v Qh).2 && (dB v Q1y).2)
def aT.sm (_ : aT) : Prop := True
theorem aT.Q33 {x : aT} (_ : aT.sm x) : Val.Sm sB (aT.enc x) := Q6q (Nat.le_of_ble_eq_true rfl) (List.forall_mem_cons.2 ⟨Val.Sm.leaf 2 _ _, List.forall_mem_cons.2 ⟨Val.Sm.leaf 3 _ _, List.forall_mem_cons.2 ⟨Val.Sm.leaf 3 _ _, List.forall_mem_cons.2 ⟨Val.Sm.leaf 1 _ _, List.forall_mem_cons.2 ⟨Val.Sm.leaf 1 _ _, fun _ h => by cases h⟩⟩⟩⟩⟩)
theorem aT.Q34 {v : Val} (_ : Val.Sm sB v) : aT.sm (aT.dec v).1 := trivial
def bM.enc (x : bM) : Val := vM [.mk Q1r (vS x.bO), .mk Q0 (vL (x.bq.map aj.enc))]
def bM.dec (v : Val) : bM × Bool := (bM.mk (dS v Q1r).1 (dE aj.dec v Q0).1, isM v && (dS v Q1r).2 && (dE aj.dec v Q0).2)
def bM.sm (x : bM) : Prop := LSm aj.sm x.bq ∧ True
theorem bM.Q33 {x : bM} (h : bM.sm x) : Val.Sm sB (bM.enc x) := Q6q (Nat.le_of_ble_eq_true rfl) (List.forall_mem_cons.2 ⟨Val.Sm.leaf 3 _ _, List.forall_mem_cons.2 ⟨Q3y (fun _ h => aj.Q33 h) h.1, fun _ h => by cases h⟩⟩)
theorem bM.Q34 {v : Val} (h : Val.Sm sB v) : bM.sm (bM.dec v).1 := ⟨Q7a (fun _ h => aj.Q34 h) (Qp h _), trivial⟩
def bM.rdec (v : Val) : bM × Bool := (bM.mk (dS v Q1r).1 (dE aj.rdec v Q0).1, isM v && (dS v Q1r).2 && (dE aj.rdec v Q0).2)
theorem bM.agr : Agr bM.rdec bM.dec := fun v => by
  obtain ⟨a0, b0⟩ := Qaa aj.agr (prt v Q0)
  unfold bM.rdec bM.dec
  simp only [dE, a0]
  refine ⟨trivial, fun h => ?_⟩
  simp only [Bool.and_eq_true] at h
  rw [b0 h.2]
def aG.enc (x : aG) : Val := vM [.mk Qw (vB x.dV), .mk Q21 (vL (x.dJ.map bM.enc)), .mk Qn (vL (x.dG.map vN))]
def aG.dec (v : Val) : aG × Bool := (aG.mk (dB v Qw).1 (dE bM.dec v Q21).1 (dE xN v Qn).1, isM v && (dB v Qw).2 && (dE bM.dec v Q21).2 && (dE xN v Qn).2)
def aG.sm (x : aG) : Prop := LSm bM.sm x.dJ ∧ LSm (fun _ : Int => True) x.dG ∧ True
theorem aG.Q33 {x : aG} (h : aG.sm x) : Val.Sm sB (aG.enc x) := Q6q (Nat.le_of_ble_eq_true rfl) (List.forall_mem_cons.2 ⟨Val.Sm.leaf 1 _ _, List.forall_mem_cons.2 ⟨Q3y (fun _ h => bM.Q33 h) h.1, List.forall_mem_cons.2 ⟨Q3y (fun _ h => Val.Sm.leaf _ _ _) h.2.1, fun _ h => by cases h⟩⟩⟩)
theorem aG.Q34 {v : Val} (h : Val.Sm sB v) : aG.sm (aG.dec v).1 := ⟨Q7a (fun _ h => bM.Q34 h) (Qp h _), Q7a (fun _ _h => trivial) (Qp h _), trivial⟩
def aG.rdec (v : Val) : aG × Bool := (aG.mk (dB v Qw).1 (dE bM.rdec v Q21).1 (dE xN v Qn).1, isM v && (dB v Qw).2 && (dE bM.rdec v Q21).2 && (dE xN v Qn).2)
theorem aG.agr : Agr aG.rdec aG.dec := fun v => by
  obtain ⟨a0, b0⟩ := Qaa bM.agr (prt v Q21)
  unfold aG.rdec aG.dec
  simp only [dE, a0]
  refine ⟨trivial, fun h => ?_⟩
  simp only [Bool.and_eq_true] at h
  rw [b0 h.1.2]
def Q135 : bn := (bn.mk [] (bC.mk eB 0 0 0 [] [] [] [] [] []))
def Qpl (v : Val) : bn × Int := bif !(bn.dec v).2 then (Q135, 6) else ((bn.dec v).1, 0)
def tD (v : Val) (n : BA) : bn × Bool := ((Qpl (prt v n)).1, (bn.dec (prt v n)).2)
def tC (v : Val) (n : BA) : Nat := cM v + (bif (prt v n).kind == 0 then 0 else nb (bn.dec (prt v n)).2)
theorem tC0 (v : Val) (n : BA) : (tC v n == 0) = (isM v && (tD v n).2) := by
  have z : ∀ x : Val, (x.kind == 0) = true → (bn.dec x).2 = true := fun x h => by
    have h5 : (x.kind == 5) = false := by rw [eq_of_beq h]; rfl
    rw [bn.Qak h5]
    exact h
  unfold tC tD
  rw [add0, cM0]
  cases h : ((prt v n).kind == 0) with
  | true => rw [z _ h]; rfl
  | false => rw [cond_false, nb0]
theorem Q1qa {v : Val} (h : Val.Sm sB v) (n : BA) : bn.sm (tD v n).1 := by
  have z : bn.sm Q135 := bn.Q34 (v := vZ) Qpj
  unfold tD Qpl
  cases (bn.dec (prt v n)).2 with
  | true => exact bn.Q34 (Qp h n)
  | false => exact z
theorem Q1q9 (v : Val) (n : BA) : tC v n ≤ 2 := by
  have a := Q95 5 v
  have b := Qxu (bn.dec (prt v n)).2
  unfold tC cM
  cases ((prt v n).kind == 0) with
  | true => rw [cond_true]; omega
  | false => rw [cond_false]; omega
def aj.cnt (v : Val) : Nat := cM v + pK 3 v Q1c + pK 2 v Q4t + pE (cK 3) v Q29
theorem aj.cnt0 (v : Val) : (aj.cnt v == 0) = (aj.dec v).2 := by
  unfold aj.cnt aj.dec
  simp only [add0, cM0, pS0, pN0, pE0 kS, dN, dS, dE, Bool.and_assoc, Bool.and_left_comm, Bool.and_comm, Bool.and_self_left]
theorem aj.Q3q {v : Val} (h : Val.Sm 1000 v) : aj.cnt v ≤ 1007 := by
  have g0 := Q95 5 v
  have g1 := Q4r 3 v Q1c
  have g2 := Q4r 2 v Q4t
  have g3 := Qf7 (c := (cK 3)) (K := 1) (fun x hx => Q95 _ _) h Q29
  unfold aj.cnt cM
  omega
def aW.cnt (v : Val) : Nat := pK 2 v Q3k + pK 2 v Q2p + pK 2 v Q42
theorem aW.cnt0 (v : Val) : (aW.cnt v == 0) = (aW.dec v).2 := by
  unfold aW.cnt aW.dec
  simp only [add0, pN0, dN, Bool.and_assoc, Bool.and_left_comm, Bool.and_comm, Bool.and_self_left]
theorem aW.Q3q {v : Val} (_ : Val.Sm 1000 v) : aW.cnt v ≤ 6 := by
  have g0 := Q4r 2 v Q3k
  have g1 := Q4r 2 v Q2p
  have g2 := Q4r 2 v Q42
  unfold aW.cnt
  omega
def bK.cnt (v : Val) : Nat := pK 1 v Q2w + pK 2 v kw_n
theorem bK.cnt0 (v : Val) : (bK.cnt v == 0) = (bK.dec v).2 := by
  unfold bK.cnt bK.dec
  simp only [add0, pB0, pN0, dN, dB, Bool.and_assoc, Bool.and_left_comm, Bool.and_comm, Bool.and_self_left]
theorem bK.Q3q {v : Val} (_ : Val.Sm 1000 v) : bK.cnt v ≤ 4 := by
  have g0 := Q4r 1 v Q2w
  have g1 := Q4r 2 v kw_n
  unfold bK.cnt
  omega
def aX.cnt (v : Val) : Nat := pK 2 v Q17 + pK 2 v Qf + pK 2 v Q27 + pK 2 v Qh + pK 2 v Q2c + pK 2 v Q2x + pK 1 v Q4a
theorem aX.cnt0 (v : Val) : (aX.cnt v == 0) = (aX.dec v).2 := by
  unfold aX.cnt aX.dec
  simp only [add0, pN0, pB0, dN, dB, Bool.and_assoc, Bool.and_left_comm, Bool.and_comm, Bool.and_self_left]
theorem aX.Q3q {v : Val} (_ : Val.Sm 1000 v) : aX.cnt v ≤ 14 := by
  have g0 := Q4r 2 v Q17
  have g1 := Q4r 2 v Qf
  have g2 := Q4r 2 v Q27
  have g3 := Q4r 2 v Qh
  have g4 := Q4r 2 v Q2c
  have g5 := Q4r 2 v Q2x
  have g6 := Q4r 1 v Q4a
  unfold aX.cnt
  omega
def dZ.cnt (v : Val) : Nat := pK 3 v Qi + pK 2 v Q2y
def dW.cnt (v : Val) : Nat := pK 2 v Q19k + pK 2 v Qf
def dA.cnt (v : Val) : Nat := pK 3 v Q1c + pK 2 v Q19k
def aC.cnt (v : Val) : Nat := pK 3 v Qi + pK 2 v Q3i + pK 2 v Q2y
theorem aC.cnt0 (v : Val) : (aC.cnt v == 0) = (aC.dec v).2 := by
  unfold aC.cnt aC.dec
  simp only [add0, pS0, pN0, dN, dS, Bool.and_assoc, Bool.and_left_comm, Bool.and_comm, Bool.and_self_left]
theorem aC.Q3q {v : Val} (_ : Val.Sm 1000 v) : aC.cnt v ≤ 6 := by
  have g0 := Q4r 3 v Qi
  have g1 := Q4r 2 v Q3i
  have g2 := Q4r 2 v Q2y
  unfold aC.cnt
  omega
def aT.cnt (v : Val) : Nat := pK 3 v Q2v + pK 3 v Q1b + pK 2 v Q10 + pK 1 v Qh + pK 1 v Q1y
theorem aT.cnt0 (v : Val) : (aT.cnt v == 0) = (aT.dec v).2 := by
  unfold aT.cnt aT.dec
  simp only [add0, pS0, pN0, pB0, dN, dS, dB, Bool.and_assoc, Bool.and_left_comm, Bool.and_comm, Bool.and_self_left]
theorem aT.Q3q {v : Val} (_ : Val.Sm 1000 v) : aT.cnt v ≤ 10 := by
  have g0 := Q4r 3 v Q2v
  have g1 := Q4r 3 v Q1b
  have g2 := Q4r 2 v Q10
  have g3 := Q4r 1 v Qh
  have g4 := Q4r 1 v Q1y
  unfold aT.cnt
  omega
def bM.cnt (v : Val) : Nat := pK 3 v Q1r + pE aj.cnt v Q0
theorem bM.cnt0 (v : Val) : (bM.cnt v == 0) = (bM.dec v).2 := by
  unfold bM.cnt bM.dec
  simp only [add0, pS0, pE0 aj.cnt0, dS, dE, Bool.and_assoc, Bool.and_left_comm, Bool.and_comm, Bool.and_self_left]
theorem bM.Q3q {v : Val} (h : Val.Sm 1000 v) : bM.cnt v ≤ 1007004 := by
  have g0 := Q4r 3 v Q1r
  have g1 := Qf7 (c := aj.cnt) (K := 1007) (fun x hx => aj.Q3q hx) h Q0
  unfold bM.cnt
  omega
def aG.cnt (v : Val) : Nat := pK 1 v Qw + pE bM.cnt v Q21 + pE (cK 2) v Qn
theorem aG.cnt0 (v : Val) : (aG.cnt v == 0) = (aG.dec v).2 := by
  unfold aG.cnt aG.dec
  simp only [add0, pB0, pE0 bM.cnt0, pE0 kN, dB, dE, Bool.and_assoc, Bool.and_left_comm, Bool.and_comm, Bool.and_self_left]
theorem aG.Q3q {v : Val} (h : Val.Sm 1000 v) : aG.cnt v ≤ 1007005006 := by
  have g0 := Q4r 1 v Qw
  have g1 := Qf7 (c := bM.cnt) (K := 1007004) (fun x hx => bM.Q3q hx) h Q21
  have g2 := Qf7 (c := (cK 2)) (K := 1) (fun x hx => Q95 _ _) h Qn
  unfold aG.cnt
  omega
def JobS.dec (v : Val) : iC × Bool := (iC.mk ((bN.mk eB eB eB 0 0 0 0 false 0 [] [] [] [])) (dN v Q72).1 (dN v Q73).1 (dN v Qbv).1 (dN v Qa1).1 (dB v Qbu).1 (dB v Q8o).1 (tD v Qv).1 (0) (0) (0) (0) (0) ([]) (0), isM v && (dN v Q72).2 && (dN v Qa1).2 && (dB v Qbu).2 && (dN v Q73).2 && (dN v Qbv).2 && (dB v Q8o).2 && (tD v Qv).2)
def JobS.cnt (v : Val) : Nat := pK 2 v Q72 + pK 2 v Q73 + pK 2 v Qbv + pK 2 v Qa1 + pK 1 v Qbu + pK 1 v Q8o + tC v Qv
def aO.encS (x : aO) : Val := vM [.mk Q11 (vN x.dh), .mk Qf (vN x.bY), .mk Q3d (vN x.fK), .mk Q0 (vL (x.bq.map aj.enc)), .mk Qv (bn.enc x.bB)]
def aO.encT (x : aO) : Val := aX.enc x.aZ
def aO.obj (x : aO) : aD := ⟨{ x.aM with kind := Q22 }, aO.encS x, aO.encT x⟩
def aO.of (o : aD) : aO := aO.mk o.aM (dN o.aU Qf).1 (dN o.aU Q11).1 (dN o.aU Q3d).1 (dE aj.dec o.aU Q0).1 (tD o.aU Qv).1 (aX.dec o.aZ).1
def aO.ok (o : aD) : Bool := sEq o.aM.kind Q22 && (isM o.aU && (isM o.aZ && ((dN o.aU Q11).2 && ((dN o.aU Qf).2 && ((dN o.aU Q3d).2 && ((dE aj.dec o.aU Q0).2 && ((tD o.aU Qv).2 && (aX.dec o.aZ).2)))))))
def aO.cnt (o : aD) : Nat := nb (sEq o.aM.kind Q22) + cM o.aU + cM o.aZ + pK 2 o.aU Qf + pK 2 o.aU Q11 + pK 2 o.aU Q3d + pE aj.cnt o.aU Q0 + tC o.aU Qv + aX.cnt o.aZ
theorem aO.cnt0 (o : aD) : (aO.cnt o == 0) = aO.ok o := by
  unfold aO.cnt aO.ok
  simp only [add0, nb0, cM0, pN0, pE0 aj.cnt0, tC0, aX.cnt0, dN, dE, Bool.and_assoc, Bool.and_left_comm, Bool.and_comm, Bool.and_self_left]
theorem aO.Q3q {o : aD} (h : Val.Sm 1000 o.aU ∧ Val.Sm 1000 o.aZ) : aO.cnt o ≤ 1007027 := by
  have g0 := Qxu (sEq o.aM.kind Q22)
  have g1 := Q95 5 o.aU
  have g2 := Q95 5 o.aZ
  have g3 := Q4r 2 o.aU Qf
  have g4 := Q4r 2 o.aU Q11
  have g5 := Q4r 2 o.aU Q3d
  have g6 := Qf7 (c := aj.cnt) (K := 1007) (fun x hx => aj.Q3q hx) h.1 Q0
  have g7 := Q1q9 o.aU Qv
  have g8 := aX.Q3q h.2
  unfold aO.cnt cM
  omega
def aO.sm (x : aO) : Prop := LSm aj.sm x.bq ∧ bn.sm x.bB ∧ aX.sm x.aZ ∧ True
theorem aO.Q99 {x : aO} (h : aO.sm x) : Val.Sm sB (aO.encS x) ∧ Val.Sm sB (aO.encT x) := ⟨Q6q (Nat.le_of_ble_eq_true rfl) (List.forall_mem_cons.2 ⟨Val.Sm.leaf 2 _ _, List.forall_mem_cons.2 ⟨Val.Sm.leaf 2 _ _, List.forall_mem_cons.2 ⟨Val.Sm.leaf 2 _ _, List.forall_mem_cons.2 ⟨Q3y (fun _ h => aj.Q33 h) h.1, List.forall_mem_cons.2 ⟨bn.Q33 h.2.1, fun _ h => by cases h⟩⟩⟩⟩⟩), aX.Q33 h.2.2.1⟩
theorem aO.Q9a {o : aD} (h : Val.Sm sB o.aU ∧ Val.Sm sB o.aZ) : aO.sm (aO.of o) := ⟨Q7a (fun _ h => aj.Q34 h) (Qp h.1 _), Q1qa h.1 _, aX.Q34 h.2, trivial⟩
def aO.R (o : aD) : aO × Int := bif aO.ok o then (aO.of o, 0) else ((aO.mk (bN.mk eB eB eB 0 0 0 0 false 0 [] [] [] []) 0 0 0 [] (bn.mk [] (bC.mk eB 0 0 0 [] [] [] [] [] [])) (aX.mk 0 0 0 0 0 0 false)), 6)
abbrev aO.z : aO := (aO.mk (bN.mk eB eB eB 0 0 0 0 false 0 [] [] [] []) 0 0 0 [] (bn.mk [] (bC.mk eB 0 0 0 [] [] [] [] [] [])) (aX.mk 0 0 0 0 0 0 false))
theorem aO.rc {o : aD} (h : Val.Sm 1000 o.aU ∧ Val.Sm 1000 o.aZ) : resC (aO.cnt o) (aO.of o) aO.z = aO.R o := by
  rw [Qcp (Nat.le_trans (aO.Q3q h) (Nat.le_of_ble_eq_true rfl)), aO.cnt0]
  rfl
theorem aO.z_sm : aO.sm aO.z := by
  have h0 := Qpj
  exact aO.Q9a (o := ⟨(bN.mk eB eB eB 0 0 0 0 false 0 [] [] [] []), vZ, vZ⟩) ⟨h0, h0⟩
theorem aO.R_sm {o : aD} (h : Val.Sm sB o.aU ∧ Val.Sm sB o.aZ) : aO.sm (aO.R o).1 := by
  unfold aO.R
  cases aO.ok o with
  | true => exact aO.Q9a h
  | false => exact aO.z_sm
def aL.encS (x : aL) : Val := vM [.mk Q11 (vN x.dh), .mk Q3c (vB x.fJ), .mk Q2z (vN x.fE), .mk Qf (vN x.bY), .mk Q0 (vL (x.bq.map aj.enc)), .mk Qv (bn.enc x.bB)]
def aL.encT (x : aL) : Val := aX.enc x.aZ
def aL.obj (x : aL) : aD := ⟨{ x.aM with kind := Q1u }, aL.encS x, aL.encT x⟩
def aL.of (o : aD) : aL := aL.mk o.aM (dN o.aU Qf).1 (dN o.aU Q2z).1 (dN o.aU Q11).1 (dB o.aU Q3c).1 (dE aj.dec o.aU Q0).1 (tD o.aU Qv).1 (aX.dec o.aZ).1
def aL.ok (o : aD) : Bool := sEq o.aM.kind Q1u && (isM o.aU && (isM o.aZ && ((dN o.aU Q11).2 && ((dB o.aU Q3c).2 && ((dN o.aU Q2z).2 && ((dN o.aU Qf).2 && ((dE aj.dec o.aU Q0).2 && ((tD o.aU Qv).2 && (aX.dec o.aZ).2))))))))
def aL.cnt (o : aD) : Nat := nb (sEq o.aM.kind Q1u) + cM o.aU + cM o.aZ + pK 2 o.aU Qf + pK 2 o.aU Q2z + pK 2 o.aU Q11 + pK 1 o.aU Q3c + pE aj.cnt o.aU Q0 + tC o.aU Qv + aX.cnt o.aZ
theorem aL.cnt0 (o : aD) : (aL.cnt o == 0) = aL.ok o := by
  unfold aL.cnt aL.ok
  simp only [add0, nb0, cM0, pN0, pB0, pE0 aj.cnt0, tC0, aX.cnt0, dN, dB, dE, Bool.and_assoc, Bool.and_left_comm, Bool.and_comm, Bool.and_self_left]
theorem aL.Q3q {o : aD} (h : Val.Sm 1000 o.aU ∧ Val.Sm 1000 o.aZ) : aL.cnt o ≤ 1007029 := by
  have g0 := Qxu (sEq o.aM.kind Q1u)
  have g1 := Q95 5 o.aU
  have g2 := Q95 5 o.aZ
  have g3 := Q4r 2 o.aU Qf
  have g4 := Q4r 2 o.aU Q2z
  have g5 := Q4r 2 o.aU Q11
  have g6 := Q4r 1 o.aU Q3c
  have g7 := Qf7 (c := aj.cnt) (K := 1007) (fun x hx => aj.Q3q hx) h.1 Q0
  have g8 := Q1q9 o.aU Qv
  have g9 := aX.Q3q h.2
  unfold aL.cnt cM
  omega
def aL.sm (x : aL) : Prop := LSm aj.sm x.bq ∧ bn.sm x.bB ∧ aX.sm x.aZ ∧ True
theorem aL.Q99 {x : aL} (h : aL.sm x) : Val.Sm sB (aL.encS x) ∧ Val.Sm sB (aL.encT x) := ⟨Q6q (Nat.le_of_ble_eq_true rfl) (List.forall_mem_cons.2 ⟨Val.Sm.leaf 2 _ _, List.forall_mem_cons.2 ⟨Val.Sm.leaf 1 _ _, List.forall_mem_cons.2 ⟨Val.Sm.leaf 2 _ _, List.forall_mem_cons.2 ⟨Val.Sm.leaf 2 _ _, List.forall_mem_cons.2 ⟨Q3y (fun _ h => aj.Q33 h) h.1, List.forall_mem_cons.2 ⟨bn.Q33 h.2.1, fun _ h => by cases h⟩⟩⟩⟩⟩⟩), aX.Q33 h.2.2.1⟩
theorem aL.Q9a {o : aD} (h : Val.Sm sB o.aU ∧ Val.Sm sB o.aZ) : aL.sm (aL.of o) := ⟨Q7a (fun _ h => aj.Q34 h) (Qp h.1 _), Q1qa h.1 _, aX.Q34 h.2, trivial⟩
def aL.R (o : aD) : aL × Int := bif aL.ok o then (aL.of o, 0) else ((aL.mk (bN.mk eB eB eB 0 0 0 0 false 0 [] [] [] []) 0 0 0 false [] (bn.mk [] (bC.mk eB 0 0 0 [] [] [] [] [] [])) (aX.mk 0 0 0 0 0 0 false)), 6)
abbrev aL.z : aL := (aL.mk (bN.mk eB eB eB 0 0 0 0 false 0 [] [] [] []) 0 0 0 false [] (bn.mk [] (bC.mk eB 0 0 0 [] [] [] [] [] [])) (aX.mk 0 0 0 0 0 0 false))
theorem aL.rc {o : aD} (h : Val.Sm 1000 o.aU ∧ Val.Sm 1000 o.aZ) : resC (aL.cnt o) (aL.of o) aL.z = aL.R o := by
  rw [Qcp (Nat.le_trans (aL.Q3q h) (Nat.le_of_ble_eq_true rfl)), aL.cnt0]
  rfl
theorem aL.z_sm : aL.sm aL.z := by
  have h0 := Qpj
  exact aL.Q9a (o := ⟨(bN.mk eB eB eB 0 0 0 0 false 0 [] [] [] []), vZ, vZ⟩) ⟨h0, h0⟩
theorem aL.R_sm {o : aD} (h : Val.Sm sB o.aU ∧ Val.Sm sB o.aZ) : aL.sm (aL.R o).1 := by
  unfold aL.R
  cases aL.ok o with
  | true => exact aL.Q9a h
  | false => exact aL.z_sm
def aQ.encS (x : aQ) : Val := vM [.mk Q11 (vN x.dh), .mk Q0 (vL (x.bq.map aj.enc)), .mk Qv (bn.enc x.bB), .mk Q2g (bK.enc x.dD)]
def aQ.encT (x : aQ) : Val := aX.enc x.aZ
def aQ.obj (x : aQ) : aD := ⟨{ x.aM with kind := Q2b }, aQ.encS x, aQ.encT x⟩
def aQ.of (o : aD) : aQ := aQ.mk o.aM (dN o.aU Q11).1 (dT bK.dec o.aU Q2g).1 (dE aj.dec o.aU Q0).1 (tD o.aU Qv).1 (aX.dec o.aZ).1
def aQ.ok (o : aD) : Bool := sEq o.aM.kind Q2b && (isM o.aU && (isM o.aZ && ((dN o.aU Q11).2 && ((dE aj.dec o.aU Q0).2 && ((tD o.aU Qv).2 && ((dT bK.dec o.aU Q2g).2 && (aX.dec o.aZ).2))))))
def aQ.cnt (o : aD) : Nat := nb (sEq o.aM.kind Q2b) + cM o.aU + cM o.aZ + pK 2 o.aU Q11 + (cM o.aU + bK.cnt (prt o.aU Q2g)) + pE aj.cnt o.aU Q0 + tC o.aU Qv + aX.cnt o.aZ
theorem aQ.cnt0 (o : aD) : (aQ.cnt o == 0) = aQ.ok o := by
  unfold aQ.cnt aQ.ok
  simp only [add0, nb0, cM0, pN0, bK.cnt0, pE0 aj.cnt0, tC0, aX.cnt0, dN, dE, dT, Bool.and_assoc, Bool.and_left_comm, Bool.and_comm, Bool.and_self_left]
theorem aQ.Q3q {o : aD} (h : Val.Sm 1000 o.aU ∧ Val.Sm 1000 o.aZ) : aQ.cnt o ≤ 1007028 := by
  have g0 := Qxu (sEq o.aM.kind Q2b)
  have g1 := Q95 5 o.aU
  have g2 := Q95 5 o.aZ
  have g3 := Q4r 2 o.aU Q11
  have g4 := bK.Q3q (Qp h.1 Q2g)
  have g5 := Qf7 (c := aj.cnt) (K := 1007) (fun x hx => aj.Q3q hx) h.1 Q0
  have g6 := Q1q9 o.aU Qv
  have g7 := aX.Q3q h.2
  unfold aQ.cnt cM
  omega
def aQ.sm (x : aQ) : Prop := bK.sm x.dD ∧ LSm aj.sm x.bq ∧ bn.sm x.bB ∧ aX.sm x.aZ ∧ True
theorem aQ.Q99 {x : aQ} (h : aQ.sm x) : Val.Sm sB (aQ.encS x) ∧ Val.Sm sB (aQ.encT x) := ⟨Q6q (Nat.le_of_ble_eq_true rfl) (List.forall_mem_cons.2 ⟨Val.Sm.leaf 2 _ _, List.forall_mem_cons.2 ⟨Q3y (fun _ h => aj.Q33 h) h.2.1, List.forall_mem_cons.2 ⟨bn.Q33 h.2.2.1, List.forall_mem_cons.2 ⟨bK.Q33 h.1, fun _ h => by cases h⟩⟩⟩⟩), aX.Q33 h.2.2.2.1⟩
theorem aQ.Q9a {o : aD} (h : Val.Sm sB o.aU ∧ Val.Sm sB o.aZ) : aQ.sm (aQ.of o) := ⟨bK.Q34 (Qp h.1 _), Q7a (fun _ h => aj.Q34 h) (Qp h.1 _), Q1qa h.1 _, aX.Q34 h.2, trivial⟩
def aQ.R (o : aD) : aQ × Int := bif aQ.ok o then (aQ.of o, 0) else ((aQ.mk (bN.mk eB eB eB 0 0 0 0 false 0 [] [] [] []) 0 (bK.mk false 0) [] (bn.mk [] (bC.mk eB 0 0 0 [] [] [] [] [] [])) (aX.mk 0 0 0 0 0 0 false)), 6)
abbrev aQ.z : aQ := (aQ.mk (bN.mk eB eB eB 0 0 0 0 false 0 [] [] [] []) 0 (bK.mk false 0) [] (bn.mk [] (bC.mk eB 0 0 0 [] [] [] [] [] [])) (aX.mk 0 0 0 0 0 0 false))
theorem aQ.rc {o : aD} (h : Val.Sm 1000 o.aU ∧ Val.Sm 1000 o.aZ) : resC (aQ.cnt o) (aQ.of o) aQ.z = aQ.R o := by
  rw [Qcp (Nat.le_trans (aQ.Q3q h) (Nat.le_of_ble_eq_true rfl)), aQ.cnt0]
  rfl
theorem aQ.z_sm : aQ.sm aQ.z := by
  have h0 := Qpj
  exact aQ.Q9a (o := ⟨(bN.mk eB eB eB 0 0 0 0 false 0 [] [] [] []), vZ, vZ⟩) ⟨h0, h0⟩
theorem aQ.R_sm {o : aD} (h : Val.Sm sB o.aU ∧ Val.Sm sB o.aZ) : aQ.sm (aQ.R o).1 := by
  unfold aQ.R
  cases aQ.ok o with
  | true => exact aQ.Q9a h
  | false => exact aQ.z_sm
def aY.encS (x : aY) : Val := vM [.mk Qn (vL (x.dG.map aC.enc)), .mk Q0 (vL (x.bq.map aj.enc)), .mk Q3v (vB x.gB)]
def aY.encT (x : aY) : Val := vM [.mk Q10 (vN x.dF)]
def aY.obj (x : aY) : aD := ⟨{ x.aM with kind := Q2r }, aY.encS x, aY.encT x⟩
def aY.of (o : aD) : aY := aY.mk o.aM (dE aj.dec o.aU Q0).1 (dE aC.dec o.aU Qn).1 (dB o.aU Q3v).1 (dN o.aZ Q10).1
def aY.ok (o : aD) : Bool := sEq o.aM.kind Q2r && (isM o.aU && (isM o.aZ && ((dE aC.dec o.aU Qn).2 && ((dE aj.dec o.aU Q0).2 && ((dB o.aU Q3v).2 && (dN o.aZ Q10).2)))))
def aY.cnt (o : aD) : Nat := nb (sEq o.aM.kind Q2r) + cM o.aU + cM o.aZ + pE aj.cnt o.aU Q0 + pE aC.cnt o.aU Qn + pK 1 o.aU Q3v + pK 2 o.aZ Q10
theorem aY.cnt0 (o : aD) : (aY.cnt o == 0) = aY.ok o := by
  unfold aY.cnt aY.ok
  simp only [add0, nb0, cM0, pE0 aj.cnt0, pE0 aC.cnt0, pB0, pN0, dN, dB, dE, Bool.and_assoc, Bool.and_left_comm, Bool.and_comm, Bool.and_self_left]
theorem aY.Q3q {o : aD} (h : Val.Sm 1000 o.aU ∧ Val.Sm 1000 o.aZ) : aY.cnt o ≤ 1013011 := by
  have g0 := Qxu (sEq o.aM.kind Q2r)
  have g1 := Q95 5 o.aU
  have g2 := Q95 5 o.aZ
  have g3 := Qf7 (c := aj.cnt) (K := 1007) (fun x hx => aj.Q3q hx) h.1 Q0
  have g4 := Qf7 (c := aC.cnt) (K := 6) (fun x hx => aC.Q3q hx) h.1 Qn
  have g5 := Q4r 1 o.aU Q3v
  have g6 := Q4r 2 o.aZ Q10
  unfold aY.cnt cM
  omega
def aY.sm (x : aY) : Prop := LSm aj.sm x.bq ∧ LSm aC.sm x.dG ∧ True
theorem aY.Q99 {x : aY} (h : aY.sm x) : Val.Sm sB (aY.encS x) ∧ Val.Sm sB (aY.encT x) := ⟨Q6q (Nat.le_of_ble_eq_true rfl) (List.forall_mem_cons.2 ⟨Q3y (fun _ h => aC.Q33 h) h.2.1, List.forall_mem_cons.2 ⟨Q3y (fun _ h => aj.Q33 h) h.1, List.forall_mem_cons.2 ⟨Val.Sm.leaf 1 _ _, fun _ h => by cases h⟩⟩⟩), Q6q (Nat.le_of_ble_eq_true rfl) (List.forall_mem_cons.2 ⟨Val.Sm.leaf 2 _ _, fun _ h => by cases h⟩)⟩
theorem aY.Q9a {o : aD} (h : Val.Sm sB o.aU ∧ Val.Sm sB o.aZ) : aY.sm (aY.of o) := ⟨Q7a (fun _ h => aj.Q34 h) (Qp h.1 _), Q7a (fun _ h => aC.Q34 h) (Qp h.1 _), trivial⟩
def aY.R (o : aD) : aY × Int := bif aY.ok o then (aY.of o, 0) else ((aY.mk (bN.mk eB eB eB 0 0 0 0 false 0 [] [] [] []) [] [] false 0), 6)
abbrev aY.z : aY := (aY.mk (bN.mk eB eB eB 0 0 0 0 false 0 [] [] [] []) [] [] false 0)
theorem aY.rc {o : aD} (h : Val.Sm 1000 o.aU ∧ Val.Sm 1000 o.aZ) : resC (aY.cnt o) (aY.of o) aY.z = aY.R o := by
  rw [Qcp (Nat.le_trans (aY.Q3q h) (Nat.le_of_ble_eq_true rfl)), aY.cnt0]
  rfl
theorem aY.z_sm : aY.sm aY.z := by
  have h0 := Qpj
  exact aY.Q9a (o := ⟨(bN.mk eB eB eB 0 0 0 0 false 0 [] [] [] []), vZ, vZ⟩) ⟨h0, h0⟩
theorem aY.R_sm {o : aD} (h : Val.Sm sB o.aU ∧ Val.Sm sB o.aZ) : aY.sm (aY.R o).1 := by
  unfold aY.R
  cases aY.ok o with
  | true => exact aY.Q9a h
  | false => exact aY.z_sm
def aH.encS (x : aH) : Val := vM [.mk Q20 (vL (x.eF.map aT.enc)), .mk Qn (vL (x.dG.map aC.enc))]
def aH.encT (_ : aH) : Val := vM []
def aH.obj (x : aH) : aD := ⟨{ x.aM with kind := Q1k }, aH.encS x, aH.encT x⟩
def aH.of (o : aD) : aH := aH.mk o.aM (dE aC.dec o.aU Qn).1 (dE aT.dec o.aU Q20).1
def aH.ok (o : aD) : Bool := sEq o.aM.kind Q1k && (isM o.aU && (isM o.aZ && ((dE aT.dec o.aU Q20).2 && (dE aC.dec o.aU Qn).2)))
def aH.cnt (o : aD) : Nat := nb (sEq o.aM.kind Q1k) + cM o.aU + cM o.aZ + pE aC.cnt o.aU Qn + pE aT.cnt o.aU Q20
theorem aH.cnt0 (o : aD) : (aH.cnt o == 0) = aH.ok o := by
  unfold aH.cnt aH.ok
  simp only [add0, nb0, cM0, pE0 aC.cnt0, pE0 aT.cnt0, dE, Bool.and_assoc, Bool.and_left_comm, Bool.and_comm, Bool.and_self_left]
theorem aH.Q3q {o : aD} (h : Val.Sm 1000 o.aU ∧ Val.Sm 1000 o.aZ) : aH.cnt o ≤ 16007 := by
  have g0 := Qxu (sEq o.aM.kind Q1k)
  have g1 := Q95 5 o.aU
  have g2 := Q95 5 o.aZ
  have g3 := Qf7 (c := aC.cnt) (K := 6) (fun x hx => aC.Q3q hx) h.1 Qn
  have g4 := Qf7 (c := aT.cnt) (K := 10) (fun x hx => aT.Q3q hx) h.1 Q20
  unfold aH.cnt cM
  omega
def aH.sm (x : aH) : Prop := LSm aC.sm x.dG ∧ LSm aT.sm x.eF ∧ True
theorem aH.Q99 {x : aH} (h : aH.sm x) : Val.Sm sB (aH.encS x) ∧ Val.Sm sB (aH.encT x) := ⟨Q6q (Nat.le_of_ble_eq_true rfl) (List.forall_mem_cons.2 ⟨Q3y (fun _ h => aT.Q33 h) h.2.1, List.forall_mem_cons.2 ⟨Q3y (fun _ h => aC.Q33 h) h.1, fun _ h => by cases h⟩⟩), Q6q (Nat.le_of_ble_eq_true rfl) (fun _ h => by cases h)⟩
theorem aH.Q9a {o : aD} (h : Val.Sm sB o.aU ∧ Val.Sm sB o.aZ) : aH.sm (aH.of o) := ⟨Q7a (fun _ h => aC.Q34 h) (Qp h.1 _), Q7a (fun _ h => aT.Q34 h) (Qp h.1 _), trivial⟩
def aH.R (o : aD) : aH × Int := bif aH.ok o then (aH.of o, 0) else ((aH.mk (bN.mk eB eB eB 0 0 0 0 false 0 [] [] [] []) [] []), 6)
abbrev aH.z : aH := (aH.mk (bN.mk eB eB eB 0 0 0 0 false 0 [] [] [] []) [] [])
theorem aH.rc {o : aD} (h : Val.Sm 1000 o.aU ∧ Val.Sm 1000 o.aZ) : resC (aH.cnt o) (aH.of o) aH.z = aH.R o := by
  rw [Qcp (Nat.le_trans (aH.Q3q h) (Nat.le_of_ble_eq_true rfl)), aH.cnt0]
  rfl
theorem aH.z_sm : aH.sm aH.z := by
  have h0 := Qpj
  exact aH.Q9a (o := ⟨(bN.mk eB eB eB 0 0 0 0 false 0 [] [] [] []), vZ, vZ⟩) ⟨h0, h0⟩
theorem aH.R_sm {o : aD} (h : Val.Sm sB o.aU ∧ Val.Sm sB o.aZ) : aH.sm (aH.R o).1 := by
  unfold aH.R
  cases aH.ok o with
  | true => exact aH.Q9a h
  | false => exact aH.z_sm
def aA.encS (x : aA) : Val := vM [.mk Qw (vB x.dV), .mk Q3e (vB x.fQ), .mk Q28 (vL (x.dO.map aG.enc)), .mk Q0 (vL (x.bq.map aj.enc))]
def aA.encT (_ : aA) : Val := vM []
def aA.obj (x : aA) : aD := ⟨{ x.aM with kind := Q12 }, aA.encS x, aA.encT x⟩
def aA.of (o : aD) : aA := aA.mk o.aM (dE aj.dec o.aU Q0).1 (dB o.aU Q3e).1 (dB o.aU Qw).1 (dE aG.dec o.aU Q28).1
def aA.ok (o : aD) : Bool := sEq o.aM.kind Q12 && (isM o.aU && (isM o.aZ && ((dB o.aU Qw).2 && ((dB o.aU Q3e).2 && ((dE aG.dec o.aU Q28).2 && (dE aj.dec o.aU Q0).2)))))
def aA.cnt (o : aD) : Nat := nb (sEq o.aM.kind Q12) + cM o.aU + cM o.aZ + pE aj.cnt o.aU Q0 + pK 1 o.aU Q3e + pK 1 o.aU Qw + pE aG.cnt o.aU Q28
theorem aA.cnt0 (o : aD) : (aA.cnt o == 0) = aA.ok o := by
  unfold aA.cnt aA.ok
  simp only [add0, nb0, cM0, pE0 aj.cnt0, pB0, pE0 aG.cnt0, dB, dE, Bool.and_assoc, Bool.and_left_comm, Bool.and_comm, Bool.and_self_left]
theorem aA.Q3q {o : aD} (h : Val.Sm 1000 o.aU ∧ Val.Sm 1000 o.aZ) : aA.cnt o ≤ 1007006013011 := by
  have g0 := Qxu (sEq o.aM.kind Q12)
  have g1 := Q95 5 o.aU
  have g2 := Q95 5 o.aZ
  have g3 := Qf7 (c := aj.cnt) (K := 1007) (fun x hx => aj.Q3q hx) h.1 Q0
  have g4 := Q4r 1 o.aU Q3e
  have g5 := Q4r 1 o.aU Qw
  have g6 := Qf7 (c := aG.cnt) (K := 1007005006) (fun x hx => aG.Q3q hx) h.1 Q28
  unfold aA.cnt cM
  omega
def aA.sm (x : aA) : Prop := LSm aj.sm x.bq ∧ LSm aG.sm x.dO ∧ True
theorem aA.Q99 {x : aA} (h : aA.sm x) : Val.Sm sB (aA.encS x) ∧ Val.Sm sB (aA.encT x) := ⟨Q6q (Nat.le_of_ble_eq_true rfl) (List.forall_mem_cons.2 ⟨Val.Sm.leaf 1 _ _, List.forall_mem_cons.2 ⟨Val.Sm.leaf 1 _ _, List.forall_mem_cons.2 ⟨Q3y (fun _ h => aG.Q33 h) h.2.1, List.forall_mem_cons.2 ⟨Q3y (fun _ h => aj.Q33 h) h.1, fun _ h => by cases h⟩⟩⟩⟩), Q6q (Nat.le_of_ble_eq_true rfl) (fun _ h => by cases h)⟩
theorem aA.Q9a {o : aD} (h : Val.Sm sB o.aU ∧ Val.Sm sB o.aZ) : aA.sm (aA.of o) := ⟨Q7a (fun _ h => aj.Q34 h) (Qp h.1 _), Q7a (fun _ h => aG.Q34 h) (Qp h.1 _), trivial⟩
def aA.R (o : aD) : aA × Int := bif aA.ok o then (aA.of o, 0) else ((aA.mk (bN.mk eB eB eB 0 0 0 0 false 0 [] [] [] []) [] false false []), 6)
abbrev aA.z : aA := (aA.mk (bN.mk eB eB eB 0 0 0 0 false 0 [] [] [] []) [] false false [])
theorem aA.rc {o : aD} (h : Val.Sm 1000 o.aU ∧ Val.Sm 1000 o.aZ) : resC (aA.cnt o) (aA.of o) aA.z = aA.R o := by
  rw [Qcp (Nat.le_trans (aA.Q3q h) (Nat.le_of_ble_eq_true rfl)), aA.cnt0]
  rfl
theorem aA.z_sm : aA.sm aA.z := by
  have h0 := Qpj
  exact aA.Q9a (o := ⟨(bN.mk eB eB eB 0 0 0 0 false 0 [] [] [] []), vZ, vZ⟩) ⟨h0, h0⟩
theorem aA.R_sm {o : aD} (h : Val.Sm sB o.aU ∧ Val.Sm sB o.aZ) : aA.sm (aA.R o).1 := by
  unfold aA.R
  cases aA.ok o with
  | true => exact aA.Q9a h
  | false => exact aA.z_sm
def bI.encS (x : bI) : Val := vM [.mk Q4m (aW.enc x.gW), .mk Q51 (vN x.iE)]
def bI.encT (x : bI) : Val := vM [.mk Q76 (vN x.has), .mk Q4n (aW.enc x.gY)]
def bI.obj (x : bI) : aD := ⟨{ x.aM with kind := Q3a }, bI.encS x, bI.encT x⟩
def bI.of (o : aD) : bI := bI.mk o.aM (dT aW.dec o.aU Q4m).1 (dT aW.dec o.aZ Q4n).1 (dN o.aU Q51).1 (dN o.aZ Q76).1
def bI.ok (o : aD) : Bool := sEq o.aM.kind Q3a && (isM o.aU && (isM o.aZ && ((dT aW.dec o.aU Q4m).2 && ((dN o.aU Q51).2 && ((dN o.aZ Q76).2 && (dT aW.dec o.aZ Q4n).2)))))
def bI.cnt (o : aD) : Nat := nb (sEq o.aM.kind Q3a) + cM o.aU + cM o.aZ + (cM o.aU + aW.cnt (prt o.aU Q4m)) + pK 2 o.aU Q51 + (cM o.aZ + aW.cnt (prt o.aZ Q4n)) + pK 2 o.aZ Q76
theorem bI.cnt0 (o : aD) : (bI.cnt o == 0) = bI.ok o := by
  unfold bI.cnt bI.ok
  simp only [add0, nb0, cM0, aW.cnt0, pN0, dN, dT, Bool.and_assoc, Bool.and_left_comm, Bool.and_comm, Bool.and_self_left]
theorem bI.Q3q {o : aD} (h : Val.Sm 1000 o.aU ∧ Val.Sm 1000 o.aZ) : bI.cnt o ≤ 21 := by
  have g0 := Qxu (sEq o.aM.kind Q3a)
  have g1 := Q95 5 o.aU
  have g2 := Q95 5 o.aZ
  have g3 := aW.Q3q (Qp h.1 Q4m)
  have g4 := Q4r 2 o.aU Q51
  have g5 := aW.Q3q (Qp h.2 Q4n)
  have g6 := Q4r 2 o.aZ Q76
  unfold bI.cnt cM
  omega
def bI.sm (x : bI) : Prop := aW.sm x.gW ∧ aW.sm x.gY ∧ True
theorem bI.Q99 {x : bI} (h : bI.sm x) : Val.Sm sB (bI.encS x) ∧ Val.Sm sB (bI.encT x) := ⟨Q6q (Nat.le_of_ble_eq_true rfl) (List.forall_mem_cons.2 ⟨aW.Q33 h.1, List.forall_mem_cons.2 ⟨Val.Sm.leaf 2 _ _, fun _ h => by cases h⟩⟩), Q6q (Nat.le_of_ble_eq_true rfl) (List.forall_mem_cons.2 ⟨Val.Sm.leaf 2 _ _, List.forall_mem_cons.2 ⟨aW.Q33 h.2.1, fun _ h => by cases h⟩⟩)⟩
theorem bI.Q9a {o : aD} (h : Val.Sm sB o.aU ∧ Val.Sm sB o.aZ) : bI.sm (bI.of o) := ⟨aW.Q34 (Qp h.1 _), aW.Q34 (Qp h.2 _), trivial⟩
def bI.R (o : aD) : bI × Int := bif bI.ok o then (bI.of o, 0) else ((bI.mk (bN.mk eB eB eB 0 0 0 0 false 0 [] [] [] []) (aW.mk 0 0 0) (aW.mk 0 0 0) 0 0), 6)
abbrev bI.z : bI := (bI.mk (bN.mk eB eB eB 0 0 0 0 false 0 [] [] [] []) (aW.mk 0 0 0) (aW.mk 0 0 0) 0 0)
theorem bI.rc {o : aD} (h : Val.Sm 1000 o.aU ∧ Val.Sm 1000 o.aZ) : resC (bI.cnt o) (bI.of o) bI.z = bI.R o := by
  rw [Qcp (Nat.le_trans (bI.Q3q h) (Nat.le_of_ble_eq_true rfl)), bI.cnt0]
  rfl
theorem bI.z_sm : bI.sm bI.z := by
  have h0 := Qpj
  exact bI.Q9a (o := ⟨(bN.mk eB eB eB 0 0 0 0 false 0 [] [] [] []), vZ, vZ⟩) ⟨h0, h0⟩
theorem bI.R_sm {o : aD} (h : Val.Sm sB o.aU ∧ Val.Sm sB o.aZ) : bI.sm (bI.R o).1 := by
  unfold bI.R
  cases bI.ok o with
  | true => exact bI.Q9a h
  | false => exact bI.z_sm
def aD.sm (x : aD) : Prop := Val.Sm sB x.aU ∧ Val.Sm sB x.aZ
theorem Qco {α : Type} {n m : Nat} {x y z : α} (h : n = m) (g : x = y) : resC n x z = resC m y z := by rw [h, g]
theorem getL (x : Val) : (bif x.kind == 4 then x else vZ).list = (xL x).1 := by
  unfold xL
  cases (x.kind == 4) <;> rfl
theorem getN (x : Val) : (bif x.kind == 2 then x else vZ).n = (xN x).1 := by
  unfold xN
  cases (x.kind == 2) <;> rfl
theorem getS (x : Val) : (bif x.kind == 3 then x else vZ).s = (xS x).1 := by
  unfold xS
  cases (x.kind == 3) <;> rfl
theorem getB (x : Val) : (!((bif x.kind == 1 then x else vZ).n == 0)) = (xB x).1 := by
  unfold xB
  cases (x.kind == 1) <;> rfl
end Go.Proofs.YtimjjohlpnkacaaGreat
end

section
/- Metadata that are copied (printed by a program). -/
namespace Go.Proofs.YtimjjohlpnkacaaGreat
open Go.Pv
def Q17q (p0 : bN) : List bD → Nat → Unit
 | [], _i0 =>
  ()
 | _x0 :: r0, i0 =>
  Q17q p0 r0 (i0 + 1)
def Q1fd (p0 : bN) (i0 : Nat) : List PV :=
  [.un, .bx 0 0, .bx 1 0] ++ nuns 19 ++ [.ms 2 2 0 (List.length p0.bg), iN ((List.length p0.bg) : Int), iN (i0 : Int)] ++ nuns 14
def Qzm (p0 : bN) (_i0 : Nat) : List Ob :=
  [⟨13, 0, true, [.str p0.kind, .str p0.bO, .str p0.name, iN p0.fZ, iN p0.dx, iN p0.bU, iN p0.dw, .bool p0.cB, iN p0.cu, .sl (bf.rows p0.bP), .sl (bW.rows p0.bS), .sl (Qz p0.bL), .ms 2 2 0 (List.length p0.bg)]⟩, ⟨13, 0, true, [.str eB, .str eB, .str eB, iN 0, iN 0, iN 0, iN 0, .bool false, iN 0, .ms 3 2 0 0, .ms 4 5 0 0, .ms 5 1 0 0, .ms 6 2 0 0]⟩, ⟨2, 0, true, (bD.rows p0.bg).flatten⟩, ⟨2, 0, true, []⟩, ⟨5, 0, true, []⟩, ⟨1, 0, true, []⟩, ⟨2, 0, true, []⟩]
def Qh3 (p0 : bN) (i0 : Nat) : En := .loop 0 Ir.Qlf Ir.Q1ns (Q1fd p0 i0) (Qzm p0 i0)
def Qsc (p0 : bN) (z : Nat → PV) (_zo : Nat → List PV) : St :=
  ⟨[z 0, .bx 0 0, .bx 1 0] ++ zr z 3 36, [(0, ⟨13, 0, true, [.str p0.kind, .str p0.bO, .str p0.name, iN p0.fZ, iN p0.dx, iN p0.bU, iN p0.dw, .bool p0.cB, iN p0.cu, .sl (bf.rows p0.bP), .sl (bW.rows p0.bS), .sl (Qz p0.bL), .ms 2 2 0 (List.length p0.bg)]⟩), (1, ⟨13, 0, true, [.str eB, .str eB, .str eB, iN 0, iN 0, iN 0, iN 0, .bool false, iN 0, .ms 3 2 0 0, .ms 4 5 0 0, .ms 5 1 0 0, .ms 6 2 0 0]⟩), (2, ⟨2, 0, true, (bD.rows p0.bg).flatten⟩), (3, ⟨2, 0, true, []⟩), (4, ⟨5, 0, true, []⟩), (5, ⟨1, 0, true, []⟩), (6, ⟨2, 0, true, []⟩)], 71⟩
theorem Q15r (p0 : bN) (i0 : Nat) : VOK (Go.Pv.look (number 0 (Qzm p0 i0))) [(2, bD.rows p0.bg)] := (VOK.cons (show Seen _ _ from Q3r (ob := ⟨2, 0, true, (bD.rows p0.bg).flatten⟩) (bD.Q8 p0.bg 2 rfl)) VOK.nil)
def Qbp (p0 : bN) (e : En) (_q : Unit) : Prop := ∃ z zo, Q5 G e (.st (.exit 0) (Qsc p0 z zo))
theorem Qwo (p0 : bN) {e e' : En} (h : ∀ r, Q5 G e r → Q5 G e' r) : ∀ q, Qbp p0 e q → Qbp p0 e' q
  | _, ⟨z, zo, hz⟩ => ⟨z, zo, h _ hz⟩
def Qhy (p0 : bN) : Prop := (List.length p0.bg ≤ 4611686018427387904) ∧ (∀ x0 ∈ p0.bg, List.length x0.fields * 16 ≤ 140737488355328) ∧ True
def Que (p0 : bN) (i0 : Nat) : List PV :=
  nuns 22 ++ [.ms 2 2 0 (List.length p0.bg), iN ((List.length p0.bg) : Int), iN (i0 : Int), .bool false]
def Qnb (_p0 : bN) (_i0 : Nat) : List (Nat × List PV) :=
  []
theorem Q1dt (p0 : bN) (_H : Qhy p0) (i0 : Nat) (bF : (decide ((i0 : Int) < ((List.length p0.bg) : Int))) = false) : Qbp p0 (Qh3 p0 i0) () := by
 exact ⟨(envF (Que p0 i0)), (zoF (Qnb p0 i0)), Qg (Q15r p0 i0) (x := ((.exit 0), Qsc p0 (envF (Que p0 i0)) (zoF (Qnb p0 i0)))) [hB 0 bF] [] (by kernel_rfl)⟩
theorem Q1bi (p0 : bN) (H : Qhy p0) (x0 : bD) (i0 : Nat) (bH : p0.bg[i0]? = some x0) (bT : i0 < List.length p0.bg) (bF : (decide ((i0 : Int) < ((List.length p0.bg) : Int))) = true) {r : Rs} (hr : Q5 G (Qh3 p0 (i0 + 1)) r) : Q5 G (Qh3 p0 i0) r := by
 have hB0 := H.1
 exact Qc (Q15r p0 i0) [hB 0 bF, hP 1 (Qaq 2 2 (List.length p0.bg) (i0 : Int) i0 (by omega) (by omega) (by omega)), hP 0 (Q1ha 2 2 0 true ((bD.rows p0.bg).flatten) (bD.rows p0.bg) 2 true i0 0 (i0 * 2) (bD.cells x0) (.agg [.str x0.name, .sl (Qz x0.fields)]) rfl rfl (bD.Qb bH) (bD.Qt p0.bg) (by decide) rfl), hP 9 (Qaq 2 2 (List.length p0.bg) (i0 : Int) i0 (by omega) (by omega) (by omega)), hV 1 [(2, bD.rows p0.bg)] (Q1c0 2 2 true ((bD.rows p0.bg).flatten) (bD.rows p0.bg) (bD.rows p0.bg) 1 i0 1 (i0 * 2 + 1) _ (.sl (Qz x0.fields)) rfl rfl (bD.Qb bH) (bD.Qt p0.bg) (by decide) rfl rfl (Q145 (bD.Qb bH))), hS 0 true (bD.Q8 p0.bg 2 rfl), hP 0 (Q26 i0 (by omega))] [aN (Q8t (G := G) (f := 177) (sz := 1) (bytes := 16) rfl (Q2d x0.fields) (Q32 x0.fields 1 rfl) (H.2.1 x0 (Q15 bH)))] hr (by kernel_rfl)
theorem Q12e (p0 : bN) (H : Qhy p0) : ∀ (r0 : List bD) (i0 : Nat), List.drop i0 p0.bg = r0 → Qbp p0 (Qh3 p0 i0) (Q17q p0 r0 i0)
 | [], i0, hd => by
  have bF : (decide ((i0 : Int) < ((List.length p0.bg) : Int))) = false := by have := Q1n hd; simp; omega
  show Qbp p0 _ ()
  exact Q1dt p0 H i0 bF
 | x0 :: r0, i0, hd => by
  obtain ⟨bH, bT, hd'⟩ := Q1o hd
  have bF : (decide ((i0 : Int) < ((List.length p0.bg) : Int))) = true := by simp; omega
  show Qbp p0 _ ()
  exact Qwo p0 (fun r hr => Q1bi p0 H x0 i0 bH bT bF hr) _ (Q12e p0 H r0 _ hd')
def Q1zv (p0 : bN) : bN := p0
theorem Q2cg (p0 : bN) : Q1zv p0 = (p0) := by
  rfl
def Q293 (p0 : bN) : En := .call 70 [.agg (bN.cells p0)] []
def Q1y5 (p0 : bN) : Rs := .ret (.agg (bN.cells (Q1zv p0))) []
def Qbz (p0 : bN) : Prop := (List.length p0.bP * 32 ≤ 140737488355328) ∧ (List.length p0.bS * 48 ≤ 140737488355328) ∧ (List.length p0.bL * 16 ≤ 140737488355328) ∧ (List.length p0.bg * 40 ≤ 140737488355328) ∧ (Qhy p0) ∧ True
theorem Q14b (p0 : bN) (H : Qbz p0) : Q5 G (Q293 p0) (Q1y5 p0) := by
 unfold Q1y5
 rw [Q2cg]
 have hl0 := Q12e p0 (H.2.2.2.2.1) p0.bg 0 (by simp)
 obtain ⟨z0, eG, hl0⟩ := hl0
 exact Q6 (fn := Ir.K5z) (by kernel_rfl) VOK.nil [hQ (bD.Q8 p0.bg 2 rfl), hS 0 true (bD.Q8 p0.bg 2 rfl), hQ (bD.Q7 p0.bg).symm] [aN (Q8t (G := G) (f := 175) (sz := 2) (bytes := 32) rfl (bf.Q7 p0.bP) (bf.Q8 p0.bP 2 rfl) H.1), aN (Q8t (G := G) (f := 176) (sz := 5) (bytes := 48) rfl (bW.Q7 p0.bS) (bW.Q8 p0.bS 5 rfl) H.2.1), aN (Q8t (G := G) (f := 177) (sz := 1) (bytes := 16) rfl (Q2d p0.bL) (Q32 p0.bL 1 rfl) H.2.2.1), aV [(0, bD.rows p0.bg)] (Qct (G := G) (f := 178) (sz := 2) (bytes := 40) rfl (bD.Q7 p0.bg) (bD.Q8 p0.bg 2 rfl) H.2.2.2.1), aV [(2, bD.rows p0.bg)] hl0] (by kernel_rfl)
end Go.Proofs.YtimjjohlpnkacaaGreat
end

section
/- What the encoders of templates compute (printed by a program). -/
namespace Go.Proofs.YtimjjohlpnkacaaGreat
open Go.Pv
end Go.Proofs.YtimjjohlpnkacaaGreat
end

section
/- What the program's encoders compute (printed by a program). -/
namespace Go.Proofs.YtimjjohlpnkacaaGreat
open Go.Pv
end Go.Proofs.YtimjjohlpnkacaaGreat
end

