/- Texts of the claim, merged by a program; what the statement does not reach is left out. -/
import Derived.Test.YtimjjohlpnkacaaGreatBWorkcodecDecodes3
import Derived.OpenShut
import Derived.ChangeArms
import Derived.ChangeSlices
import Derived.ChangeOld
import Derived.Carry
import GoSem.ClaimJoined

section
/-
  What a law is handed, as plain Lean dV.
-/
namespace Go.Pv
def okI (k : IntKind) (n : Int) : Prop := (Lit.int k n).wf = true
def Qf3 (n : Int) : Prop := -9223372036854775808 ≤ n ∧ n ≤ 9223372036854775807
def okU8 (n : Int) : Prop := 0 ≤ n ∧ n ≤ 255
theorem okI.i64 {n : Int} (h : okI .i64 n) : Qf3 n := by
 unfold okI at h
 simp [Lit.wf, IntKind.min, IntKind.max, IntKind.signed, IntKind.bits] at h
 exact h
theorem okI.u8 {n : Int} (h : okI .u8 n) : okU8 n := by
 unfold okI at h
 simp [Lit.wf, IntKind.min, IntKind.max, IntKind.signed, IntKind.bits] at h
 unfold okU8
 omega
def okS (s : ByteArray) : Prop := s.size ≤ 140737488351232
def okL {α : Type} (bytes : Nat) (ok : α → Prop) (l : List α) : Prop := l.length * bytes ≤ 140737488351232 ∧ ∀ x ∈ l, ok x
section
variable {Γ : Nat → Option Ty}
theorem OfL.Q4k {f : Ty} {fs : List Ty} {c : List PV} (h : OfL Γ (f :: fs) c) : ∃ a b, c = a ++ b ∧ Of Γ f a ∧ OfL Γ fs b := by
 cases h with
 | cons _ _ a b h1 h2 => exact ⟨a, b, rfl, h1, h2⟩
theorem OfL.empty {c : List PV} (h : OfL Γ [] c) : c = [] := by cases h; rfl
theorem Of.str1 {c : List PV} (h : Of Γ .str c) : ∃ s, c = [.str s] ∧ okS s := by
 cases h with
 | str s h => exact ⟨s, rfl, h⟩
theorem Of.Q26t {c : List PV} (h : Of Γ .bool c) : ∃ b, c = [.bool b] := by
 cases h with
 | bool b => exact ⟨b, rfl⟩
theorem Of.bool2 {c : List PV} (h : Of Γ .bool c) : ∃ b, c = [.bool b] ∧ True := by
 obtain ⟨b, hb⟩ := h.Q26t
 exact ⟨b, hb, trivial⟩
theorem Of.int1 {k : IntKind} {c : List PV} (h : Of Γ (.int k) c) : ∃ n, c = [.int k n] ∧ okI k n := by
 cases h with
 | int _ n h => exact ⟨n, rfl, h⟩
theorem Of.i64 {c : List PV} (h : Of Γ (.int .i64) c) : ∃ n, c = [.int .i64 n] ∧ Qf3 n := by
 obtain ⟨n, h1, h2⟩ := h.int1
 exact ⟨n, h1, h2.i64⟩
theorem Of.u8 {c : List PV} (h : Of Γ (.int .u8) c) : ∃ n, c = [.int .u8 n] ∧ okU8 n := by
 obtain ⟨n, h1, h2⟩ := h.int1
 exact ⟨n, h1, h2.u8⟩
theorem Of.st1 {fs : List Ty} {c : List PV} (h : Of Γ (.st fs) c) : OfL Γ fs c := by
 cases h with
 | st _ _ h => exact h
theorem Qa7 {α : Type} {f : α → List PV} {ok : α → Prop} : ∀ (l : List (List PV)), (∀ r ∈ l, ∃ x, r = f x ∧ ok x) → ∃ xs : List α, l = xs.map f ∧ ∀ x ∈ xs, ok x
  | [], _ => ⟨[], rfl, fun _ h => absurd h List.not_mem_nil⟩
  | r :: rs, h => by
    obtain ⟨x, hx, hok⟩ := h r List.mem_cons_self
    obtain ⟨xs, hxs, hoks⟩ := Qa7 rs (fun q hq => h q (List.mem_cons_of_mem _ hq))
    refine ⟨x :: xs, by rw [hx, hxs]; rfl, fun y hy => ?_⟩
    rcases List.mem_cons.1 hy with rfl | hy
    · exact hok
    · exact hoks y hy
theorem Of.sl1 {bytes : Nat} {e : Ty} {c : List PV} {α : Type} {f : α → List PV} {ok : α → Prop} (h : Of Γ (.sl bytes e) c) (he : ∀ r, Of Γ e r → ∃ x, r = f x ∧ ok x) : ∃ xs : List α, c = [.sl (xs.map f)] ∧ okL bytes ok xs := by
 cases h with
 | sl _ _ l h hl =>
  obtain ⟨xs, rfl, hok⟩ := Qa7 l (fun r hr => he r (hl r hr))
  exact ⟨xs, rfl, by simpa using h, hok⟩
theorem Arg.one {ty : Ty} {p : PV} (h : Arg Γ ty p) (hs : ty.isSt Γ = false) : Of Γ ty [p] := by
 obtain ⟨c, hc, hp⟩ := h
 rw [hs] at hp
 have hp : c = [p] := hp
 subst hp
 exact hc
theorem Arg.agg {ty : Ty} {p : PV} (h : Arg Γ ty p) (hs : ty.isSt Γ = true) : ∃ c, p = .agg c ∧ Of Γ ty c := by
 obtain ⟨c, hc, hp⟩ := h
 rw [hs] at hp
 exact ⟨c, hp, hc⟩
end
end Go.Pv
end

section
/-
  Strings: equality and order.
-/
namespace Go.Pv
theorem Q15f (b : ByteArray) : ∀ (n i : Nat) (acc : List UInt8), b.size - i = n → ByteArray.toList.loop b i acc = acc.reverse ++ b.data.toList.drop i := by
 intro n
 induction n with
 | zero =>
  intro i acc h
  unfold ByteArray.toList.loop
  have h1 : ¬ i < b.size := by omega
  rw [if_neg h1]
  have : b.data.toList.drop i = [] := by
   rw [List.drop_eq_nil_iff]
   have : b.data.toList.length = b.size := Array.length_toList
   omega
  rw [this, List.append_nil]
 | succ n ih =>
  intro i acc h
  unfold ByteArray.toList.loop
  have h1 : i < b.size := by omega
  rw [if_pos h1, ih (i + 1) _ (by omega)]
  have hl : i < b.data.toList.length := by rw [show b.data.toList.length = b.size from Array.length_toList]; exact h1
  rw [List.drop_eq_getElem_cons hl, List.reverse_cons, List.append_assoc]
  congr 1
  simp only [List.singleton_append, List.cons.injEq, and_true]
  have : b.data.size = b.size := rfl
  simp [ByteArray.get!, h1, this]
theorem toList_data (b : ByteArray) : b.toList = b.data.toList := by
 unfold ByteArray.toList
 rw [Q15f b _ 0 [] rfl]
 simp
theorem toList_inj {a b : ByteArray} (h : a.toList = b.toList) : a = b := by
 rw [toList_data, toList_data] at h
 cases a
 cases b
 simp at h
 rw [h]
theorem Q8w {a b : ByteArray} : sEq a b = true ↔ a = b := by
 unfold sEq
 rw [beq_iff_eq]
 exact ⟨toList_inj, fun h => by rw [h]⟩
mutual
inductive Val where
 | mk (kind n : Int) (s : ByteArray) (list : List Val) (fields : List Fld)
inductive Fld where
 | mk (name : ByteArray) (v : Val)
end
def Val.kind : Val → Int
 | .mk k _ _ _ _ => k
def Val.n : Val → Int
 | .mk _ n _ _ _ => n
def Val.s : Val → ByteArray
 | .mk _ _ s _ _ => s
def Val.list : Val → List Val
 | .mk _ _ _ l _ => l
def Val.fields : Val → List Fld
 | .mk _ _ _ _ f => f
def Fld.name : Fld → ByteArray
 | .mk n _ => n
def Fld.v : Fld → Val
 | .mk _ v => v
mutual
def Val.cs : Val → List PV
 | .mk k n s l f => [.int .i64 k, .int .i64 n, .str s, .sl (Val.css l), .sl (Fld.css f)]
def Val.css : List Val → List (List PV)
 | [] => []
 | v :: r => v.cs :: Val.css r
def Fld.css : List Fld → List (List PV)
 | [] => []
 | f :: r => f.cs :: Fld.css r
def Fld.cs : Fld → List PV
 | .mk n v => .str n :: v.cs
end
def Val.rows (l : List Val) : List (List PV) := Val.css l
def Fld.rows (l : List Fld) : List (List PV) := Fld.css l
def Val.cells (v : Val) : List PV := [.int .i64 v.kind, .int .i64 v.n, .str v.s, .sl (Val.rows v.list), .sl (Fld.rows v.fields)]
def Fld.cells (f : Fld) : List PV := [.str f.name, .int .i64 f.v.kind, .int .i64 f.v.n, .str f.v.s, .sl (Val.rows f.v.list), .sl (Fld.rows f.v.fields)]
theorem Val.Q1qo (v : Val) : v.cs = v.cells := by cases v; rfl
theorem Fld.Q1qo (f : Fld) : f.cs = f.cells := by
 cases f with
 | mk n v => cases v; rfl
theorem Val.Q2k : Val.rows [] = [] := rfl
theorem Fld.Q2k : Fld.rows [] = [] := rfl
theorem Val.Q20 (v : Val) (l : List Val) : Val.rows (v :: l) = v.cells :: Val.rows l := by
 rw [← Val.Q1qo]
 rfl
theorem Fld.Q20 (v : Fld) (l : List Fld) : Fld.rows (v :: l) = v.cells :: Fld.rows l := by
 rw [← Fld.Q1qo]
 rfl
theorem Val.Q55 : ∀ l : List Val, Val.rows l = l.map Val.cells
 | [] => rfl
 | v :: r => by rw [Val.Q20, Val.Q55 r]; rfl
theorem Fld.Q55 : ∀ l : List Fld, Fld.rows l = l.map Fld.cells
 | [] => rfl
 | v :: r => by rw [Fld.Q20, Fld.Q55 r]; rfl
theorem Val.Q5 (l : List Val) : (Val.rows l).length = l.length := by simp [Val.Q55]
theorem Fld.Q5 (l : List Fld) : (Fld.rows l).length = l.length := by simp [Fld.Q55]
theorem Val.Qb {l : List Val} {i : Nat} {x : Val} (h : l[i]? = some x) : (Val.rows l)[i]? = some (Val.cells x) := by rw [Val.Q55]; exact Go.Pv.Qb h
theorem Fld.Qb {l : List Fld} {i : Nat} {x : Fld} (h : l[i]? = some x) : (Fld.rows l)[i]? = some (Fld.cells x) := by rw [Fld.Q55]; exact Go.Pv.Qb h
theorem Val.Q1n (l : List Val) (x : Val) : Val.rows (l ++ [x]) = Val.rows l ++ [Val.cells x] := by simp [Val.Q55]
theorem Fld.Q1n (l : List Fld) (x : Fld) : Fld.rows (l ++ [x]) = Fld.rows l ++ [Fld.cells x] := by simp [Fld.Q55]
theorem Val.Qk3 (l : List Val) (n : Nat) : Val.rows (l.take n) = (Val.rows l).take n := by simp [Val.Q55, List.map_take]
theorem Fld.Qk3 (l : List Fld) (n : Nat) : Fld.rows (l.take n) = (Fld.rows l).take n := by simp [Fld.Q55, List.map_take]
theorem Val.Qyy (l : List Val) (n : Nat) : Val.rows (l.drop n) = (Val.rows l).drop n := by simp [Val.Q55, List.map_drop]
theorem Fld.Qyy (l : List Fld) (n : Nat) : Fld.rows (l.drop n) = (Fld.rows l).drop n := by simp [Fld.Q55, List.map_drop]
theorem Val.Q153 (l m : List Val) : Val.rows (l ++ m) = Val.rows l ++ Val.rows m := by simp [Val.Q55]
theorem Fld.Q153 (l m : List Fld) : Fld.rows (l ++ m) = Fld.rows l ++ Fld.rows m := by simp [Fld.Q55]
theorem Val.Qw (l : List Val) : ∀ r ∈ Val.rows l, r.length = 5 := by rw [Val.Q55]; exact Q5j (f := Val.cells) (fun _ => rfl) l
theorem Fld.Qw (l : List Fld) : ∀ r ∈ Fld.rows l, r.length = 6 := by rw [Fld.Q55]; exact Q5j (f := Fld.cells) (fun _ => rfl) l
theorem Val.Q8 (l : List Val) (sz : Nat) (h : sz = 5) : ViewOK sz (Val.rows l).flatten (Val.rows l) := by subst h; exact ⟨rfl, Val.Qw l, by rw [Val.Q55]; exact Q4u (f := Val.cells) (fun _ => rfl) l⟩
theorem Fld.Q8 (l : List Fld) (sz : Nat) (h : sz = 6) : ViewOK sz (Fld.rows l).flatten (Fld.rows l) := by subst h; exact ⟨rfl, Fld.Qw l, by rw [Fld.Q55]; exact Q4u (f := Fld.cells) (fun _ => rfl) l⟩
theorem Val.Q14w (v : Val) : SizeOf.sizeOf v.list < SizeOf.sizeOf v := by
 cases v with
 | mk k n s l f => simp only [Val.list, Val.mk.sizeOf_spec]; omega
theorem Val.Qox (v : Val) : SizeOf.sizeOf v.fields < SizeOf.sizeOf v := by
 cases v with
 | mk k n s l f => simp only [Val.fields, Val.mk.sizeOf_spec]; omega
theorem Fld.lt_v (f : Fld) : SizeOf.sizeOf f.v < SizeOf.sizeOf f := by
 cases f with
 | mk n v => simp only [Fld.v, Fld.mk.sizeOf_spec]; omega
theorem szL {v x : Val} {i : Nat} (h : v.list[i]? = some x) : SizeOf.sizeOf x < SizeOf.sizeOf v :=
 Nat.lt_trans (List.sizeOf_lt_of_mem (Q1i h)) v.Q14w
theorem szF {v : Val} {x : Fld} {i : Nat} (h : v.fields[i]? = some x) : SizeOf.sizeOf x.v < SizeOf.sizeOf v :=
 Nat.lt_trans x.lt_v (Nat.lt_trans (List.sizeOf_lt_of_mem (Q1i h)) v.Qox)
inductive Val.Sm (B : Nat) : Val → Prop
  | mk (v : Val) (hl : v.list.length ≤ B) (hf : v.fields.length ≤ B) (sl : ∀ x ∈ v.list, Val.Sm B x) (sf : ∀ x ∈ v.fields, Val.Sm B x.v) : Val.Sm B v
theorem Val.Sm.all {B : Nat} {v : Val} (h : Val.Sm B v) : v.list.length ≤ B ∧ v.fields.length ≤ B ∧ (∀ x ∈ v.list, Val.Sm B x) ∧ (∀ x ∈ v.fields, Val.Sm B x.v) := by
 cases h with
 | mk _ h1 h2 h3 h4 => exact ⟨h1, h2, h3, h4⟩
theorem Val.Sm.mono {B C : Nat} (hb : B ≤ C) {v : Val} (h : Val.Sm B v) : Val.Sm C v := by
 induction h with
 | mk v h1 h2 _ _ i1 i2 => exact .mk v (by omega) (by omega) i1 i2
theorem Val.Sm.leaf {B : Nat} (k n : Int) (s : ByteArray) : Val.Sm B (.mk k n s [] []) := .mk _ (Nat.zero_le _) (Nat.zero_le _) (fun _ h => by cases h) (fun _ h => by cases h)
theorem Val.Sm.getD {B : Nat} {l : List Val} (h : ∀ x ∈ l, Val.Sm B x) (i : Nat) (k n : Int) (s : ByteArray) : Val.Sm B (l.getD i (.mk k n s [] [])) := by
  by_cases c : i < l.length
  · have := Qb3 l i (.mk k n s [] []) c
    exact h _ (Q1i this)
  · rw [List.getD_eq_getElem?_getD, List.getElem?_eq_none (by omega)]
    exact .leaf k n s
inductive Q8o : Val → Prop
  | mk (v : Val) (h1 : Qf3 v.kind) (h2 : Qf3 v.n) (h3 : okS v.s) (hl : v.list.length * 80 ≤ 140737488351232) (hf : v.fields.length * 96 ≤ 140737488351232) (sl : ∀ x ∈ v.list, Q8o x) (sn : ∀ x ∈ v.fields, okS x.name) (sf : ∀ x ∈ v.fields, Q8o x.v) : Q8o v
def Q1v9 (f : Fld) : Prop := okS f.name ∧ Q8o f.v
theorem Q8o.all {v : Val} (h : Q8o v) : Qf3 v.kind ∧ Qf3 v.n ∧ okS v.s ∧ v.list.length * 80 ≤ 140737488351232 ∧ v.fields.length * 96 ≤ 140737488351232 ∧ (∀ x ∈ v.list, Q8o x) ∧ (∀ x ∈ v.fields, okS x.name ∧ Q8o x.v) := by
 cases h with
 | mk _ a b c d e f n g => exact ⟨a, b, c, d, e, f, fun x hx => ⟨n x hx, g x hx⟩⟩
theorem Q8o.sm {v : Val} (h : Q8o v) : Val.Sm 4611686018427387904 v := by
 induction h with
 | mk v _ _ _ hl hf _ _ _ i1 i2 => exact .mk v (by omega) (by omega) i1 i2
def Qc6 (t : Nat) : Ty := .st [.int .i64, .int .i64, .str, .sl 80 (.nm t), .sl 96 (.st [.str, .nm t])]
theorem Qma {Γ : Nat → Option Ty} {t : Nat} (hΓ : Γ t = some (Qc6 t)) : ∀ (k : Nat) (c : List PV), SizeOf.sizeOf c < k → Of Γ (.nm t) c → ∃ v : Val, c = v.cells ∧ Q8o v
 | 0, _, h, _ => absurd h (Nat.not_lt_zero _)
 | k + 1, c, hk, h => by
  have hb : Of Γ (Qc6 t) c := by
   cases h with
   | nm _ ty _ hg h =>
    rw [hΓ] at hg
    injection hg with hg
    subst hg
    exact h
  have g0 := hb.st1
  obtain ⟨a0, b0, rfl, h0, g1⟩ := g0.Q4k
  obtain ⟨x0, rfl, k0⟩ := h0.i64
  obtain ⟨a1, b1, rfl, h1, g2⟩ := g1.Q4k
  obtain ⟨x1, rfl, k1⟩ := h1.i64
  obtain ⟨a2, b2, rfl, h2, g3⟩ := g2.Q4k
  obtain ⟨x2, rfl, k2⟩ := h2.str1
  obtain ⟨a3, b3, rfl, h3, g4⟩ := g3.Q4k
  obtain ⟨a4, b4, rfl, h4, g5⟩ := g4.Q4k
  have e := g5.empty
  subst e
  cases h3 with
  | sl _ _ l3 hl3 hr3 =>
  cases h4 with
  | sl _ _ l4 hl4 hr4 =>
  have s3 : SizeOf.sizeOf l3 < k := by simp at hk; omega
  have s4 : SizeOf.sizeOf l4 < k := by simp at hk; omega
  obtain ⟨x3, rfl, k3⟩ := Qa7 (f := Val.cells) (ok := Q8o) l3 (fun r hr' => Qma hΓ k r (by have := List.sizeOf_lt_of_mem hr'; omega) (hr3 r hr'))
  obtain ⟨x4, rfl, k4⟩ := Qa7 (f := Fld.cells) (ok := Q1v9) l4 (fun r hr' => by
   have q0 := (hr4 r hr').st1
   obtain ⟨c0, d0, rfl, i0, q1⟩ := q0.Q4k
   obtain ⟨y0, rfl, m0⟩ := i0.str1
   obtain ⟨c1, d1, rfl, i1, q2⟩ := q1.Q4k
   have e := q2.empty
   subst e
   obtain ⟨y1, rfl, m1⟩ := Qma hΓ k c1 (by have := List.sizeOf_lt_of_mem hr'; simp at this; omega) i1
   exact ⟨.mk y0 y1, by simp [Fld.cells, Val.cells, Fld.name, Fld.v], m0, m1⟩)
  rw [List.length_map] at hl3 hl4
  refine ⟨.mk x0 x1 x2 x3 x4, ?_, .mk _ k0 k1 k2 hl3 hl4 k3 (fun x hx => (k4 x hx).1) (fun x hx => (k4 x hx).2)⟩
  simp [Val.cells, Val.kind, Val.n, Val.s, Val.list, Val.fields, Val.Q55, Fld.Q55]
theorem Q16v {Γ : Nat → Option Ty} {t : Nat} (hΓ : Γ t = some (Qc6 t)) {c : List PV} (h : Of Γ (.nm t) c) : ∃ v : Val, c = v.cells ∧ Q8o v := Qma hΓ _ c (Nat.lt_succ_self _) h
theorem Q14v {α : Type} [SizeOf α] (x : α) (r : List α) : SizeOf.sizeOf x < SizeOf.sizeOf (x :: r) := by
 simp only [List.cons.sizeOf_spec]
 omega
theorem Q1i2 {α : Type} [SizeOf α] (x : α) (r : List α) : SizeOf.sizeOf r < SizeOf.sizeOf (x :: r) := by
 simp only [List.cons.sizeOf_spec]
 omega
theorem Q18y (x : Fld) (r : List Fld) : SizeOf.sizeOf x.v < SizeOf.sizeOf (x :: r) := Nat.lt_trans x.lt_v (Q14v x r)
def gam (t : Nat) : Nat → Option Ty := fun k => bif Nat.beq k t then some (Qc6 t) else none
theorem Q1ou (t : Nat) : gam t t = some (Qc6 t) := by simp [gam]
theorem gam_tab {P : Program} {t : Nat} (h : Qd3 P (gam t) (Qc6 t) t = true) : TabOK P (gam t) := by
 intro k ty hk
 unfold gam at hk
 cases c : Nat.beq k t with
 | false => rw [c] at hk; cases hk
 | true =>
  rw [c] at hk
  simp only [cond_true, Option.some.injEq] at hk
  subst hk
  rw [Nat.eq_of_beq_eq_true c]
  exact ⟨rfl, h⟩
end Go.Pv
namespace Go.Pv
theorem Q87 {G : Nat → Option Fun} {e e' : En} {r : Rs} (h : Q0 G e r) (he : e = e') : Q0 G e' r := he ▸ h
end Go.Pv
end

section
/- Strings byte by byte; rows that are cloned. -/
namespace Go.Pv
theorem Qvv : ∀ p, plain p = true → bare p = true := fun p h => by cases p <;> first | rfl | (cases h)
theorem Qde {G : Nat → Option Fun} {f sz bytes : Nat} (hG : G f = some (.ax (Qo6 sz bytes))) {rows : List (List PV)} {n : Nat} (hn : rows.length = n) (hv : ViewOK sz rows.flatten rows) (hb : n * bytes ≤ 140737488355328) :
  Q0 G (.call f [.sl rows] []) (.ret (.ms 0 sz 0 n) [⟨sz, 0, true, rows.flatten⟩]) := by
 refine ⟨1, ?_⟩
 subst hn
 simp only [runs, phi, hG, Qo6]
 have h1 : Q8u rows sz = true := Q13j hv.size
 have h2 : rows.flatten.all bare = true := List.all_eq_true.2 fun p hp => Qvv p (hv.all p hp)
 rw [h1, h2, Nat.ble_eq_true_of_le hb]
 rfl
theorem Q9b {G : Nat → Option Fun} {f sz bytes : Nat} (hG : G f = some (.ax (Qo7 sz bytes))) {rows : List (List PV)} {n : Nat} (hn : rows.length = n) (hv : ViewOK sz rows.flatten rows) (hb : n * bytes ≤ 140737488355328) :
  Q0 G (.call f [.sl rows] []) (.ret (.sl rows) []) := by
 refine ⟨1, ?_⟩
 subst hn
 simp only [runs, phi, hG, Qo7]
 have h1 : Q8u rows sz = true := Q13j hv.size
 have h2 : rows.flatten.all bare = true := List.all_eq_true.2 fun p hp => Qvv p (hv.all p hp)
 rw [h1, h2, Nat.ble_eq_true_of_le hb]
 rfl
end Go.Pv
namespace Go.Pv
theorem szM {v x : Val} (h : x ∈ v.list) : SizeOf.sizeOf x < SizeOf.sizeOf v := Nat.lt_trans (List.sizeOf_lt_of_mem h) v.Q14w
theorem szN {v : Val} {x : Fld} (h : x ∈ v.fields) : SizeOf.sizeOf x.v < SizeOf.sizeOf v := Nat.lt_trans x.lt_v (Nat.lt_trans (List.sizeOf_lt_of_mem h) v.Qox)
end Go.Pv
end

section
/- Arrays of bools, asked at an index of a loop. -/
namespace Go.Pv
def aixE (n sz id o : Nat) (i : Int) : Option Eff := (opP (fun _ => .un) (.aaddr n sz (.c (.bx id o)) (.c (.int .i64 i)))).bind fun v => some ⟨v, [], []⟩
theorem Q1or (n sz id o i : Nat) (h : i < n) : aixE n sz id o (i : Int) = some (vE (.bx id (o + i * sz))) := by
 unfold aixE
 simp only [opP, Opd.ev, asNat]
 rw [show decide (0 ≤ (i : Int)) = true by simp]
 simp only [cond_true, Option.bind_some, Int.toNat_natCast]
 rw [show Nat.blt i n = true from Nat.ble_eq_true_of_le h]
 rfl
def aldE (id sz ro : Nat) (gr : Bool) (cells : List PV) (k : Nat) : Option Eff := Qf4 (look [(id, ⟨sz, ro, gr, cells⟩)]) 1 false (.bx id k)
theorem Q1os (id sz ro : Nat) (gr : Bool) (cells : List PV) (L : List Bool) (i : Nat) (x v : Bool) (hx : L[i]? = some x) (hv : x = v) (hc : cells = L.map PV.bool := by rfl) : aldE id sz ro gr cells (0 + i * 1) = some ⟨.bool v, [], [id]⟩ := by
 subst hc hv
 have hi := (List.getElem?_eq_some_iff.1 hx).1
 unfold aldE Qf4
 simp only [reads, look, Nat.beq_refl, cond_true, Option.bind_some, Nat.zero_add, Nat.mul_one, List.length_map]
 rw [Nat.ble_eq_true_of_le (show i + 1 ≤ L.length by omega)]
 simp only [cond_true, Option.bind_some]
 have e : ((L.map PV.bool).drop i).take 1 = [.bool x] := by
  rw [List.drop_eq_getElem_cons (by simpa using hi), List.take_succ_cons, List.take_zero, List.getElem_map]
  rw [List.getElem?_eq_getElem hi] at hx
  injection hx with hx
  rw [hx]
 rw [e]
 rfl
def gM (c : Bool) (v : PV) : Option Eff := bif (c == true) then some (vE v) else some ⟨.tup [], [], []⟩
theorem Q6v (c : Bool) (v : PV) : gM c v = some ⟨bif c then v else .tup [], [], []⟩ := by cases c <;> rfl
def gP (c p : Bool) : Option Eff := (some (bif c then (bif c then PV.bool p else .tup []) else .bool false)).bind fun v => some ⟨v, [], []⟩
theorem Q6w (c p : Bool) : gP c p = some (vE (.bool (c && p))) := by cases c <;> rfl
def zr (z : Nat → PV) (i : Nat) : Nat → List PV
 | 0 => []
 | k + 1 => z i :: zr z (i + 1) k
end Go.Pv
end

section
/-
  What a law is handed, where its bulk is bounded: nothing within is longer.
-/
namespace Go.Pv
open Go.RowKit
inductive Cap (N : Nat) : PV → Prop
  | bool (b : Bool) : Cap N (.bool b)
  | int (k : IntKind) (n : Int) : Cap N (.int k n)
  | str (s : ByteArray) (h : s.size ≤ N) : Cap N (.str s)
  | sl (l : List (List PV)) (h : l.length ≤ N) (hl : ∀ r ∈ l, ∀ p ∈ r, Cap N p) : Cap N (.sl l)
def CapL (N : Nat) (c : List PV) : Prop := ∀ p ∈ c, Cap N p
theorem CapL.one {N : Nat} {p : PV} (h : Cap N p) : CapL N [p] := fun q hq => by
 rw [List.mem_singleton] at hq
 subst hq
 exact h
inductive CapD {H : Type} (N : Nat) : DataW H → Prop
  | lit (l : Lit) (h : ∀ b, l = .string b → b.length ≤ N) : CapD N (.lit l)
  | agg (parts : List (DataW H)) (h : ∀ d ∈ parts, CapD N d) : CapD N (.agg parts)
  | slice (elems spare : List (DataW H)) (h : elems.length ≤ N) (hl : ∀ d ∈ elems, CapD N d) : CapD N (.slice elems spare)
  | nil : CapD N .nil
  | ptr (d : DataW H) : CapD N (.ptr d)
  | iface (t : String) (d : DataW H) : CapD N (.iface t d)
  | map (e : List (Lit × DataW H)) : CapD N (.map e)
  | held (h : H) : CapD N (.held h)
def ArgB (Γ : Nat → Option Ty) (N : Nat) (ty : Ty) (p : PV) : Prop := ∃ c, Of Γ ty c ∧ CapL N c ∧ (bif ty.isSt Γ then p = .agg c else c = [p])
section
variable {H : Type} {enc : TypeId × Value → H} {P : Program} {w : World} {base : Nat} {sp : Nat → Bool} {held : Bool} {Γ : Nat → Option Ty} {N : Nat}
end
theorem ArgB.one {Γ : Nat → Option Ty} {N : Nat} {ty : Ty} {p : PV} (h : ArgB Γ N ty p) (hs : ty.isSt Γ = false) : Of Γ ty [p] ∧ CapL N [p] := by
 obtain ⟨c, hc, hb, hp⟩ := h
 rw [hs] at hp
 have hp : c = [p] := hp
 subst hp
 exact ⟨hc, hb⟩
theorem ArgB.agg {Γ : Nat → Option Ty} {N : Nat} {ty : Ty} {p : PV} (h : ArgB Γ N ty p) (hs : ty.isSt Γ = true) : ∃ c, p = .agg c ∧ Of Γ ty c ∧ CapL N c := by
 obtain ⟨c, hc, hb, hp⟩ := h
 rw [hs] at hp
 exact ⟨c, hp, hc, hb⟩
end Go.Pv
end

section
/- Comparisons that answer -1, 0 or 1; the order of strings. -/
namespace Go.Pv
def lx (a b : Int) : Int := if a = 0 then b else a
def icmp (a b : Int) : Int := if a < b then -1 else if b < a then 1 else 0
theorem Q1zx (a b : Int) : lx (-a) (-b) = -lx a b := by
 unfold lx
 split <;> split <;> omega
theorem Q1mc (a b : Int) : icmp b a = -icmp a b := by
 unfold icmp
 split <;> split <;> first | omega | (split <;> omega) | skip
 all_goals omega
theorem Q1hs {a b : Int} : icmp a b = 0 ↔ a = b := by
  unfold icmp
  constructor
  · intro h
    split at h
    · omega
    · split at h <;> omega
  · intro h
    rw [if_neg (by omega), if_neg (by omega)]
theorem Qo9 (x y : UInt8) (a b : List UInt8) : cmpL (x :: a) (y :: b) = lx (icmp (x.toNat : Int) (y.toNat : Int)) (cmpL a b) := by
  rw [cmpL]
  unfold lx icmp
  simp only [UInt8.lt_iff_toNat_lt]
  by_cases h1 : x.toNat < y.toNat
  · rw [if_pos h1, if_pos (show (x.toNat : Int) < (y.toNat : Int) by omega)]
    rfl
  · by_cases h2 : y.toNat < x.toNat
    · rw [if_neg h1, if_pos h2, if_neg (show ¬ (x.toNat : Int) < (y.toNat : Int) by omega), if_pos (show (y.toNat : Int) < (x.toNat : Int) by omega)]
      rfl
    · rw [if_neg h1, if_neg h2, if_neg (show ¬ (x.toNat : Int) < (y.toNat : Int) by omega), if_neg (show ¬ (y.toNat : Int) < (x.toNat : Int) by omega)]
      rfl
theorem Q16x : ∀ a b : List UInt8, cmpL b a = -cmpL a b
 | [], [] => rfl
 | [], _ :: _ => rfl
 | _ :: _, [] => rfl
 | x :: a, y :: b => by rw [Qo9, Qo9, Q16x a b, Q1mc (x.toNat : Int) (y.toNat : Int), Q1zx]
theorem Q11n : ∀ a b : List UInt8, cmpL a b = 0 → a = b
  | [], [], _ => rfl
  | [], _ :: _, h => by simp [cmpL] at h
  | _ :: _, [], h => by simp [cmpL] at h
  | x :: a, y :: b, h => by
    rw [Qo9] at h
    unfold lx at h
    split at h
    · rename_i e
      have := Q1hs.1 e
      rw [UInt8.toNat_inj.1 (show x.toNat = y.toNat by omega), Q11n a b h]
    · omega
theorem Q1ha (a : List UInt8) : cmpL a a = 0 := by
 have := Q16x a a
 omega
theorem Q18m : ∀ a b : List UInt8, Op.bytesLess a b = decide (cmpL a b < 0)
  | [], [] => rfl
  | [], _ :: _ => rfl
  | _ :: _, [] => rfl
  | x :: a, y :: b => by
    have ih := Q18m a b
    rw [Op.bytesLess, cmpL, ih]
    by_cases h : x < y
    · simp [h]
    · by_cases h2 : y < x
      · have h3 : ¬ x = y := fun e => h (e ▸ h2)
        simp [h, h2, h3]
      · have h3 : x = y := by
          rw [UInt8.lt_iff_toNat_lt] at h h2
          exact UInt8.toNat_inj.1 (by omega)
        simp [h3]
theorem Q1is {a b : ByteArray} : sCmp a b = 0 ↔ a = b := ⟨fun h => toList_inj (Q11n _ _ h), fun h => by rw [h]; exact Q1ha _⟩
theorem Q1r5 (a b : ByteArray) : sLt a b = decide (sCmp a b < 0) := Q18m _ _
end Go.Pv
end

section
/- The library's stable sort as plain functions on lists, and what it answers: the stably sorted list. Program-free. -/
namespace Go.Pv.Srt
section
variable {α : Type} (z : α) (c : α → α → Int)
def gt (d : List α) (i : Int) : α := d.getD i.toNat z
end
end Go.Pv.Srt
end

section
/- The library's stable sort: its merging, and that it answers the stably sorted list. Program-free. -/
namespace Go.Pv.Srt
section
variable {α : Type} (z : α) (c : α → α → Int)
structure Tot : Prop where
  asym : ∀ x y, c x y < 0 → ¬ c y x < 0
  tr : ∀ x y w, ¬ c y x < 0 → ¬ c w y < 0 → ¬ c w x < 0
def le (x y : α) : Prop := ¬ c y x < 0
def Up (l : List α) : Prop := l.Pairwise (le c)
def eqv (x y : α) : Bool := decide (¬ c x y < 0) && decide (¬ c y x < 0)
def F (l r : List α) : Prop := l.length = r.length ∧ ∀ x, l.filter (eqv c x) = r.filter (eqv c x)
variable {c}
theorem F.rfl {l : List α} : F c l l := ⟨Eq.refl _, fun _ => Eq.refl _⟩
theorem F.trans {l r s : List α} (h : F c l r) (g : F c r s) : F c l s := ⟨h.1.trans g.1, fun x => (h.2 x).trans (g.2 x)⟩
theorem F.symm {l r : List α} (h : F c l r) : F c r l := ⟨h.1.symm, fun x => (h.2 x).symm⟩
theorem F.app {l r l' r' : List α} (h : F c l r) (g : F c l' r') : F c (l ++ l') (r ++ r') :=
 ⟨by rw [List.length_append, List.length_append, h.1, g.1], fun x => by rw [List.filter_append, List.filter_append, h.2 x, g.2 x]⟩
theorem Tot.refl (T : Tot c) (x : α) : ¬ c x x < 0 := fun h => T.asym x x h h
def bs (g : Int → Bool) : Nat → Int → Int → Int
 | 0, i, _ => i
 | k + 1, i, j => bif decide (i < j) then (bif g ((i + j) / 2) then bs g k ((i + j) / 2 + 1) j else bs g k i ((i + j) / 2)) else i
end
end Go.Pv.Srt
end

section
/- The library's stable sort: symmetric merging and the sort as a whole answer the stably sorted list. Program-free. -/
namespace Go.Pv.Srt
section
variable {α : Type} (z : α) (c : α → α → Int)
def st1 (d : List α) (a m b : Int) : Int := bs (fun h => decide (c (gt z d h) (gt z d a) < 0)) ((b - m).toNat + 1) m b
variable {c}
end
end Go.Pv.Srt
end

section
/- The library's stable sort: merging in general, blocks, the whole. Program-free. -/
namespace Go.Pv.Srt
section
variable {α : Type} (z : α) {c : α → α → Int}
end
end Go.Pv.Srt
end

section
/- The library's stable sort: blocks, and the whole: it answers what insertion answers. Program-free. -/
namespace Go.Pv.Srt
section
variable {α : Type} (z : α) (c : α → α → Int)
inductive Bl (s : Nat) : List α → Prop
  | last {l : List α} : l.length ≤ s → Up c l → Bl s l
  | cons {l r : List α} : l.length = s → Up c l → Bl s r → Bl s (l ++ r)
inductive Fu (s : Nat) : List α → Prop
  | nil : Fu s []
  | snoc {p l : List α} : Fu s p → l.length = s → Up c l → Fu s (p ++ l)
variable {c}
theorem Bl.one {s : Nat} {Q : List α} (h : Bl c s Q) (hl : Q.length ≤ s) : Up c Q := by
 cases h with
 | last _ h => exact h
 | cons h1 h2 h3 =>
  rename_i l r
  rw [List.length_append] at hl
  rw [List.length_eq_zero_iff.1 (show r.length = 0 by omega), List.append_nil]
  exact h2
theorem Bl.split {s : Nat} {Q : List α} (h : Bl c s Q) (hl : s < Q.length) : ∃ l r, Q = l ++ r ∧ l.length = s ∧ Up c l ∧ Bl c s r := by
 cases h with
 | last h _ => omega
 | cons h1 h2 h3 => exact ⟨_, _, rfl, h1, h2, h3⟩
end
end Go.Pv.Srt
end

section
/- Lists of fields: strictly sorted lists are known by their members; keeping the last field of each name of a sorted list; putting a field into a sorted list. -/
namespace Go.Pv
open Srt
theorem Qpb (a : ByteArray) : sCmp a a = 0 := Q1is.2 rfl
abbrev nlt (x y : Fld) : Prop := sCmp x.name y.name < 0
def SS (l : List Fld) : Prop := l.Pairwise nlt
theorem SS.cons {x : Fld} {l : List Fld} : SS (x :: l) ↔ (∀ y ∈ l, nlt x y) ∧ SS l := List.pairwise_cons
theorem SS.nil : SS [] := List.Pairwise.nil
theorem SS.filter {l : List Fld} (h : SS l) (p : Fld → Bool) : SS (l.filter p) := h.sublist List.filter_sublist
theorem SS.inj {l : List Fld} (h : SS l) {x y : Fld} (hx : x ∈ l) (hy : y ∈ l) (e : x.name = y.name) : x = y := by
  induction l with
  | nil => cases hx
  | cons z l ih =>
    obtain ⟨hz, hl⟩ := SS.cons.1 h
    rcases List.mem_cons.1 hx with e1 | hx' <;> rcases List.mem_cons.1 hy with e2 | hy'
    · rw [e1, e2]
    · subst e1; have := hz y hy'; unfold nlt at this; rw [e, Qpb] at this; omega
    · subst e2; have := hz x hx'; unfold nlt at this; rw [e, Qpb] at this; omega
    · exact ih hl hx' hy'
end Go.Pv
end

section
/- How many dV a value holds; what that bounds. -/
namespace Go.Pv
open Srt
end Go.Pv
end

section
/- Structures as dV: the parts of a map, their kinds; what decodes what was encoded. No program is in sight here. -/
namespace Go.Pv
abbrev vZ : Val := .mk 0 0 (⟨#[]⟩ : ByteArray) [] []
abbrev vN (n : Int) : Val := .mk 2 n (⟨#[]⟩ : ByteArray) [] []
abbrev vS (s : ByteArray) : Val := .mk 3 0 s [] []
abbrev vB (b : Bool) : Val := .mk 1 (bif b then 1 else 0) (⟨#[]⟩ : ByteArray) [] []
abbrev vL (l : List Val) : Val := .mk 4 0 (⟨#[]⟩ : ByteArray) l []
abbrev vM (l : List Fld) : Val := .mk 5 0 (⟨#[]⟩ : ByteArray) [] l
def Q120 (n : ByteArray) : List Fld → Val
 | [] => vZ
 | x :: r => bif sEq x.name n then x.v else Q120 n r
def prt (v : Val) (n : ByteArray) : Val := bif v.kind == 5 then Q120 n v.fields else vZ
def isM (v : Val) : Bool := v.kind == 5 || v.kind == 0
def xN (x : Val) : Int × Bool := bif x.kind == 2 then (x.n, true) else (0, x.kind == 0)
def xS (x : Val) : ByteArray × Bool := bif x.kind == 3 then (x.s, true) else ((⟨#[]⟩ : ByteArray), x.kind == 0)
def xB (x : Val) : Bool × Bool := bif x.kind == 1 then (!(x.n == 0), true) else (false, x.kind == 0)
def xL (x : Val) : List Val × Bool := bif x.kind == 4 then (x.list, true) else ([], x.kind == 0)
def xE {α : Type} (f : Val → α × Bool) (x : Val) : List α × Bool := ((xL x).1.map fun y => (f y).1, (xL x).2 && (xL x).1.all fun y => (f y).2)
abbrev dN (v : Val) (n : ByteArray) : Int × Bool := xN (prt v n)
abbrev dS (v : Val) (n : ByteArray) : ByteArray × Bool := xS (prt v n)
abbrev dB (v : Val) (n : ByteArray) : Bool × Bool := xB (prt v n)
abbrev dL (v : Val) (n : ByteArray) : List Val × Bool := xL (prt v n)
abbrev dE {α : Type} (f : Val → α × Bool) (v : Val) (n : ByteArray) : List α × Bool := xE f (prt v n)
abbrev dT {α : Type} (f : Val → α × Bool) (v : Val) (n : ByteArray) : α × Bool := f (prt v n)
theorem Qg1 {v : Val} (h : (v.kind == 5) = false) (n : ByteArray) : prt v n = vZ := by unfold prt; rw [h]; rfl
theorem Q14q {v : Val} (h : (v.kind == 5) = true) : isM v = true := by unfold isM; rw [h]; rfl
theorem Qoj {v : Val} (h : (v.kind == 5) = false) : isM v = (v.kind == 0) := by unfold isM; rw [h]; rfl
abbrev sB : Nat := 1000000000
theorem Q13u : Val.Sm sB vZ := Val.Sm.leaf 0 0 _
theorem Q2f1 {l : List Val} (h : l.length ≤ sB) (g : ∀ x ∈ l, Val.Sm sB x) : Val.Sm sB (vL l) := .mk _ h (Nat.zero_le _) g (fun _ h => by cases h)
theorem Q7u {l : List Fld} (h : l.length ≤ sB) (g : ∀ x ∈ l, Val.Sm sB x.v) : Val.Sm sB (vM l) := .mk _ (Nat.zero_le _) h (fun _ h => by cases h) g
theorem Q1j9 {B : Nat} (n : ByteArray) : ∀ {l : List Fld}, (∀ x ∈ l, Val.Sm B x.v) → Val.Sm B (Q120 n l)
 | [], _ => Val.Sm.leaf 0 0 _
 | x :: l, h => by
  unfold Q120
  cases sEq x.name n with
  | true => exact h x List.mem_cons_self
  | false => exact Q1j9 n fun y hy => h y (List.mem_cons_of_mem _ hy)
theorem Qg {B : Nat} {v : Val} (h : Val.Sm B v) (n : ByteArray) : Val.Sm B (prt v n) := by
 unfold prt
 cases v.kind == 5 with
 | true => exact Q1j9 n h.all.2.2.2
 | false => exact Val.Sm.leaf 0 0 _
def LSm {α : Type} (p : α → Prop) (l : List α) : Prop := l.length ≤ sB ∧ ∀ x ∈ l, p x
theorem LSm.leaf {α : Type} {l : List α} (h : l.length ≤ sB) : LSm (fun _ => True) l := ⟨h, fun _ _ => trivial⟩
theorem LSm.nil {α : Type} {p : α → Prop} : LSm p [] := ⟨Nat.zero_le _, fun _ h => by cases h⟩
theorem Q71 {x : Val} (h : Val.Sm sB x) : (xL x).1.length ≤ sB ∧ ∀ y ∈ (xL x).1, Val.Sm sB y := by
 unfold xL
 cases x.kind == 4 with
 | true => exact ⟨h.all.1, h.all.2.2.1⟩
 | false => exact ⟨Nat.zero_le _, fun _ h => by cases h⟩
theorem Q92 {α : Type} {f : Val → α × Bool} {p : α → Prop} (hf : ∀ y, Val.Sm sB y → p (f y).1) {x : Val} (h : Val.Sm sB x) : LSm p (xE f x).1 := by
 have hx := Q71 h
 refine ⟨by show ((xL x).1.map _).length ≤ _; rw [List.length_map]; exact hx.1, fun z hz => ?_⟩
 obtain ⟨y, hy, rfl⟩ := List.mem_map.1 hz
 exact hf y (hx.2 y hy)
theorem Q4v {α : Type} {e : α → Val} {p : α → Prop} (he : ∀ x, p x → Val.Sm sB (e x)) {l : List α} (h : LSm p l) : Val.Sm sB (vL (l.map e)) :=
 Q2f1 (by rw [List.length_map]; exact h.1) fun z hz => by
  obtain ⟨x, hx, rfl⟩ := List.mem_map.1 hz
  exact he x (h.2 x hx)
theorem Q1hc {α : Type} (a b : Bool) (c : α) : (bif a then (c, b) else (c, false)) = (c, a && b) := by cases a <;> rfl
def s5 (x : Val) : Val := bif x.kind == 5 then x else vZ
theorem Qpf {x : Val} (h : Val.Sm sB x) : Val.Sm sB (s5 x) := by
 unfold s5
 cases x.kind == 5 with
 | true => exact h
 | false => exact Q13u
theorem Q171 {α : Type} {f : Val → α × Bool} (hn : ∀ v, (v.kind == 5) = false → f v = ((f vZ).1, v.kind == 0)) (hz : (f vZ).2 = true) (x : Val) : (f (s5 x)).1 = (f x).1 ∧ (f x).2 = (isM x && (f (s5 x)).2) := by
 unfold s5
 cases h : x.kind == 5 with
 | true => exact ⟨rfl, by rw [Q14q h, cond_true, Bool.true_and]⟩
 | false => rw [hn x h, cond_false, Qoj h, hz]; exact ⟨rfl, by rw [Bool.and_true]⟩
def rS (x : Val) : ByteArray × Bool := (bif x.kind == 0 then (⟨#[]⟩ : ByteArray) else x.s, x.kind == 3 || x.kind == 0)
def Agr {α : Type} (f g : Val → α × Bool) : Prop := ∀ v, (f v).2 = (g v).2 ∧ ((g v).2 = true → (f v).1 = (g v).1)
theorem Q26r : Agr rS xS := fun v => by
 unfold rS xS
 cases h3 : (v.kind == 3) with
 | true =>
  have : (v.kind == 0) = false := by rw [eq_of_beq h3]; rfl
  rw [this]
  exact ⟨rfl, fun _ => rfl⟩
 | false =>
  cases h0 : (v.kind == 0) with
  | true => exact ⟨rfl, fun _ => rfl⟩
  | false => exact ⟨rfl, fun h => by cases h⟩
theorem Qo2 {α : Type} {f g : Val → α × Bool} (h : Agr f g) : Agr (xE f) (xE g) := fun v => by
 have h1 : ∀ l : List Val, (l.all fun y => (f y).2) = l.all fun y => (g y).2 := by
  intro l
  induction l with
  | nil => rfl
  | cons x l ih => rw [List.all_cons, List.all_cons, ih, (h x).1]
 have h2 : ∀ l : List Val, (l.all fun y => (g y).2) = true → (l.map fun y => (f y).1) = l.map fun y => (g y).1 := by
  intro l
  induction l with
  | nil => intro _; rfl
  | cons x l ih =>
   intro hl
   rw [List.all_cons, Bool.and_eq_true] at hl
   rw [List.map_cons, List.map_cons, ih hl.2, (h x).2 hl.1]
 unfold xE
 refine ⟨by rw [h1], fun hl => ?_⟩
 rw [Bool.and_eq_true] at hl
 exact h2 _ hl.2
theorem Q1zu {v : Val} (h : isM v = false) : (v.kind == 5) = false := by
 cases c : (v.kind == 5) with
 | true => rw [Q14q c] at h; cases h
 | false => rfl
end Go.Pv
end

section
/- Decoders that count what is of a bN kind: counters, and when they stay. No program is in sight here. -/
namespace Go.Pv
def bw (w : Int) (n : Nat) : Int := bif n == 0 then w else w64 (w + (n : Int))
theorem Q1v6 (x y : Int) : w64 (w64 x + y) = w64 (x + y) := by
 unfold w64 IntKind.wrap
 simp [IntKind.signed, IntKind.bits]
 omega
theorem Qd2 (w : Int) (a b : Nat) : bw (bw w a) b = bw w (a + b) := by
 unfold bw
 cases ha : (a == 0) with
 | true =>
  have := eq_of_beq ha
  subst this
  rw [Nat.zero_add]
  rfl
 | false =>
  have ha' := beq_eq_false_iff_ne.1 ha
  cases hb : (b == 0) with
  | true =>
   have := eq_of_beq hb
   subst this
   rw [Nat.add_zero, ha]
   rfl
  | false =>
   rw [show (a + b == 0) = false from beq_eq_false_iff_ne.2 (by omega), cond_false, cond_false, cond_false, Q1v6]
   congr 1
   omega
theorem Q1zj {n : Nat} (h : n ≤ 4611686018427387904) : decide (0 < bw 0 n) = !(n == 0) := by
 unfold bw
 cases hn : (n == 0) with
 | true => rfl
 | false =>
  have := beq_eq_false_iff_ne.1 hn
  rw [cond_false, Q13x (by omega)]
  simp
  omega
def nb (b : Bool) : Nat := bif b then 0 else 1
theorem nb0 (b : Bool) : (nb b == 0) = b := by cases b <;> rfl
theorem Q14y (b : Bool) : nb b ≤ 1 := by cases b <;> exact Nat.le_of_ble_eq_true rfl
theorem add0 (a b : Nat) : (a + b == 0) = (a == 0 && b == 0) := by
 cases a with
 | zero => rw [Nat.zero_add]; rfl
 | succ a => rw [show (a + 1 + b == 0) = false from beq_eq_false_iff_ne.2 (by omega)]; rfl
def cK (k : Int) (x : Val) : Nat := nb (x.kind == k || x.kind == 0)
def cM (v : Val) : Nat := cK 5 v
theorem cM0 (v : Val) : (cM v == 0) = isM v := nb0 _
def pK (k : Int) (v : Val) (n : ByteArray) : Nat := cM v + cK k (prt v n)
theorem kN (x : Val) : (cK 2 x == 0) = (xN x).2 := by unfold cK xN; rw [nb0]; cases (x.kind == 2) <;> rfl
theorem kS (x : Val) : (cK 3 x == 0) = (xS x).2 := by unfold cK xS; rw [nb0]; cases (x.kind == 3) <;> rfl
theorem kB (x : Val) : (cK 1 x == 0) = (xB x).2 := by unfold cK xB; rw [nb0]; cases (x.kind == 1) <;> rfl
theorem kL (x : Val) : (cK 4 x == 0) = (xL x).2 := by unfold cK xL; rw [nb0]; cases (x.kind == 4) <;> rfl
theorem pN0 (v : Val) (n : ByteArray) : (pK 2 v n == 0) = (isM v && (dN v n).2) := by unfold pK; rw [add0, cM0, kN]
theorem pS0 (v : Val) (n : ByteArray) : (pK 3 v n == 0) = (isM v && (dS v n).2) := by unfold pK; rw [add0, cM0, kS]
theorem pB0 (v : Val) (n : ByteArray) : (pK 1 v n == 0) = (isM v && (dB v n).2) := by unfold pK; rw [add0, cM0, kB]
theorem Qaw (k : Int) (x : Val) : cK k x ≤ 1 := Q14y _
theorem Q3x (k : Int) (v : Val) (n : ByteArray) : pK k v n ≤ 2 := by have := Qaw 5 v; have := Qaw k (prt v n); unfold pK cM; omega
def sumC (c : Val → Nat) : List Val → Nat
 | [] => 0
 | x :: r => c x + sumC c r
theorem Q20a {c : Val → Nat} {p : Val → Bool} (h : ∀ x, (c x == 0) = p x) : ∀ l : List Val, (sumC c l == 0) = l.all p
 | [] => rfl
 | x :: l => by rw [sumC, add0, h, Q20a h l, List.all_cons]
theorem Q1ja {c : Val → Nat} {K B : Nat} {P : Val → Prop} (hc : ∀ x, P x → c x ≤ K) : ∀ {l : List Val}, (∀ x ∈ l, P x) → l.length ≤ B → sumC c l ≤ B * K
 | [], _, _ => Nat.zero_le _
 | x :: l, h, hl => by
  cases B with
  | zero => simp at hl
  | succ B =>
   have h1 := hc x (h x List.mem_cons_self)
   have h2 := Q1ja (B := B) hc (fun y hy => h y (List.mem_cons_of_mem _ hy)) (by simp at hl; omega)
   rw [sumC, Nat.succ_mul]
   omega
def pE (c : Val → Nat) (v : Val) (n : ByteArray) : Nat := pK 4 v n + sumC c (dL v n).1
theorem pE0 {α : Type} {f : Val → α × Bool} {c : Val → Nat} (h : ∀ x, (c x == 0) = (f x).2) (v : Val) (n : ByteArray) : (pE c v n == 0) = (isM v && (dE f v n).2) := by
 unfold pE pK
 rw [add0, add0, cM0, kL, Q20a h, Bool.and_assoc]
 rfl
theorem Q22l {B : Nat} {x : Val} (h : Val.Sm B x) : (xL x).1.length ≤ B ∧ ∀ y ∈ (xL x).1, Val.Sm B y := by
 unfold xL
 cases x.kind == 4 with
 | true => exact ⟨h.all.1, h.all.2.2.1⟩
 | false => exact ⟨Nat.zero_le _, fun _ h => by cases h⟩
theorem Qyo {c : Val → Nat} {B K : Nat} (hc : ∀ x, Val.Sm B x → c x ≤ K) {v : Val} (h : Val.Sm B v) (n : ByteArray) : pE c v n ≤ 2 + B * K := by
 have hx := Q22l (Qg h n)
 have h1 := Q1ja hc hx.2 hx.1
 have h2 := Q3x 4 v n
 change pK 4 v n + sumC c (xL (prt v n)).1 ≤ _
 omega
theorem Q1it (s : ByteArray) : sLt s s = false := by rw [Q1r5, Qpb]; rfl
theorem and_tt {a b : Bool} (h : a = true) (k : b = true) : (a && b) = true := by rw [h, k]; rfl
theorem Q1zz {a b : Bool} (h : b = true) : (a || b) = true := by rw [h, Bool.or_true]
theorem Q8p {α : Type} {G : Nat → Option Fun} {c : α → En} {r : Rs} {x y : α} (h : x = y) (t : Q0 G (c x) r) : Q0 G (c y) r := h ▸ t
def resC {α : Type} (n : Nat) (x z : α) : α × Int := bif decide (0 < bw 0 n) then (z, 6) else (x, 0)
theorem Qp7 {α : Type} {n : Nat} (h : n ≤ 4611686018427387904) (x z : α) : resC n x z = bif n == 0 then (x, 0) else (z, 6) := by
 unfold resC
 rw [Q1zj h]
 cases (n == 0) <;> rfl
end Go.Pv
end

section
/- Small dV; equality of what is the same (printed by a program). -/
namespace Go.Proofs.YtimjjohlpnkacaaGreat
open Go.Pv
abbrev G : Nat → Option Fun := tabG Ir.table
abbrev Γ : Nat → Option Ty := gam 51
inductive Qxy where
  | k0 (q0 : Int)
  | k1
mutual
def Qgt (p0 : Val) (p1 : Int) (p2 : Int) : Int :=
 bif (decide (p1 ≤ 0)) then
  (-1)
 else
  bif (decide (p2 ≤ 0)) then
   (-1)
  else
   bif (decide (1000 < (ByteArray.size p0.s : Int))) then
    (-1)
   else
    (match (Q5g p0 p2 p0.fields 0 (Q4y p0 p2 p0.list 0 (w64 (p1 - 1)))) with
    | .k0 jk => jk
    | .k1 => (-1))
termination_by SizeOf.sizeOf p0
decreasing_by all_goals first | exact Val.Q14w _ | exact Val.Qox _
def Q4y (p0 : Val) (p2 : Int) : List Val → Nat → Int → Int
 | [], _i0, ah =>
  ah
 | x0 :: r0, i0, ah =>
  bif (decide (0 ≤ ah)) then
   Q4y p0 p2 r0 (i0 + 1) (Qgt x0 ah (w64 (p2 - 1)))
  else
   ah
termination_by l => SizeOf.sizeOf l
decreasing_by all_goals first | exact Q14v _ _ | exact Q1i2 _ _ | exact Q18y _ _
def Q5g (p0 : Val) (p2 : Int) : List Fld → Nat → Int → Qxy
 | [], _i1, bL =>
  (.k0 bL)
 | x1 :: r1, i1, bL =>
  bif (decide (0 ≤ bL)) then
   bif (decide (1000 < (ByteArray.size x1.name : Int))) then
    (.k1)
   else
    Q5g p0 p2 r1 (i1 + 1) (Qgt x1.v bL (w64 (p2 - 1)))
  else
   (.k0 bL)
termination_by l => SizeOf.sizeOf l
decreasing_by all_goals first | exact Q14v _ _ | exact Q1i2 _ _ | exact Q18y _ _
end
def Q1ey (_p0 : Val) (p2 : Int) (i0 : Nat) (ah : Int) : List PV :=
  [.un, iN ah, iN p2, .bx 0 0, .un, .un, .un, iN (i0 : Int)] ++ nuns 65
def Q1gf (p0 : Val) (_p2 : Int) (_i0 : Nat) (_ah : Int) : List Ob :=
  [⟨5, 0, true, (Val.cells p0)⟩]
def Qdo (p0 : Val) (p2 : Int) (i0 : Nat) (ah : Int) : En := .loop 0 Ir.Qks Ir.Q1nd (Q1ey p0 p2 i0 ah) (Q1gf p0 p2 i0 ah)
def Qfs (p0 : Val) (p2 : Int) (q0 : Int) (z : Nat → PV) (_zo : Nat → List PV) : St :=
  ⟨[z 0, iN q0, iN p2, .bx 0 0] ++ zr z 4 69, [(0, ⟨5, 0, true, (Val.cells p0)⟩)], 577⟩
def Qea (p0 : Val) (p2 : Int) (e : En) (q : Int) : Prop := ∃ z zo, Q0 G e (.st (.exit 0) (Qfs p0 p2 q z zo))
theorem Qwn (p0 : Val) (p2 : Int) {e e' : En} (h : ∀ r, Q0 G e r → Q0 G e' r) : ∀ q, Qea p0 p2 e q → Qea p0 p2 e' q
  | _, ⟨z, zo, hz⟩ => ⟨z, zo, h _ hz⟩
def Q1ez (_p0 : Val) (p2 : Int) (i1 : Nat) (bL : Int) : List PV :=
  [.un, iN bL, iN p2, .bx 0 0, .un, .un, .un, .un, iN (i1 : Int)] ++ nuns 64
def Q1gg (p0 : Val) (_p2 : Int) (_i1 : Nat) (_bL : Int) : List Ob :=
  [⟨5, 0, true, (Val.cells p0)⟩]
def Qbe (p0 : Val) (p2 : Int) (i1 : Nat) (bL : Int) : En := .loop 0 Ir.Qkt Ir.Q1ne (Q1ez p0 p2 i1 bL) (Q1gg p0 p2 i1 bL)
def Qft (p0 : Val) (_p2 : Int) (q0 : Int) (z : Nat → PV) (_zo : Nat → List PV) : St :=
  ⟨[z 0, iN q0] ++ zr z 2 71, [(0, ⟨5, 0, true, (Val.cells p0)⟩)], 577⟩
def Qrx (_p0 : Val) (_p2 : Int) (z : Nat → PV) (zo : Nat → List PV) : St :=
  ⟨zr z 0 6 ++ [iN (-1)] ++ zr z 7 66, [(0, ⟨5, 0, true, zo 0⟩)], 1153⟩
def Qby (p0 : Val) (p2 : Int) (e : En) : Qxy → Prop
  | .k0 q0 => ∃ z zo, Q0 G e (.st (.exit 2) (Qft p0 p2 q0 z zo))
  | .k1 => ∃ z zo, Q0 G e (.st .ret (Qrx p0 p2 z zo))
theorem Qwo (p0 : Val) (p2 : Int) {e e' : En} (h : ∀ r, Q0 G e r → Q0 G e' r) : ∀ q, Qby p0 p2 e q → Qby p0 p2 e' q
  | .k0 _, ⟨z, zo, hz⟩ => ⟨z, zo, h _ hz⟩
  | .k1, ⟨z, zo, hz⟩ => ⟨z, zo, h _ hz⟩
def Q1l6 (p0 : Val) (p1 : Int) (p2 : Int) : En := .call 170 [.agg (Val.cells p0), iN p1, iN p2] []
def Q1h4 (p0 : Val) (p1 : Int) (p2 : Int) : Rs := .ret (iN (Qgt p0 p1 p2)) []
abbrev Q10j (p0 : Val) : Prop := Val.Sm 4611686018427387904 p0
def Q9e (p0 : Val) : Prop := ∀ (q : Val), SizeOf.sizeOf q < SizeOf.sizeOf p0 → ∀ (p1 : Int), ∀ (p2 : Int), Q10j q → Q0 G (Q1l6 q p1 p2) (Q1h4 q p1 p2)
def Qbn (p0 : Val) (_p2 : Int) : Prop := (List.length p0.list ≤ 4611686018427387904) ∧ (∀ x0 ∈ p0.list, Q10j x0) ∧ True
def Qa2 (p0 : Val) (_p2 : Int) : Prop := (List.length p0.fields ≤ 4611686018427387904) ∧ (∀ x1 ∈ p0.fields, Q10j x1.v) ∧ True
theorem Q17b (p0 : Val) (_p1 : Int) (p2 : Int) (H : Q10j p0) : (Qbn p0 p2) ∧ (Qa2 p0 p2) ∧ True := by
  obtain ⟨h1, h2, h3, h4⟩ := H.all
  simp only [Qbn, Qa2]
  exact ⟨⟨h1, h3, trivial⟩, ⟨h2, h4, trivial⟩, trivial⟩
def Qts (p0 : Val) (_p2 : Int) (i0 : Nat) (_ah : Int) : List PV :=
  nuns 7 ++ [iN (i0 : Int)] ++ nuns 15 ++ [iN (i0 : Int), .bx 0 3, .sl (Val.rows p0.list), iN ((List.length p0.list) : Int), .bool false, .bool false, .tup [], .tup [], .bool false]
def Qmh (_p0 : Val) (_p2 : Int) (_i0 : Nat) (_ah : Int) : List (Nat × List PV) :=
  []
theorem Q1d7 (p0 : Val) (p2 : Int) (_H : Qbn p0 p2) (_rec : Q9e p0) (i0 : Nat) (ah : Int) (bC : (decide ((i0 : Int) < ((List.length p0.list) : Int))) = false) : Qea p0 p2 (Qdo p0 p2 i0 ah) ah := by
 exact ⟨(envF (Qts p0 p2 i0 ah)), (zoF (Qmh p0 p2 i0 ah)), Qh VOK.nil (x := ((.exit 0), Qfs p0 p2 ah (envF (Qts p0 p2 i0 ah)) (zoF (Qmh p0 p2 i0 ah)))) [hP 3 (Qs _ _ (Val.Q5 p0.list)), hB 0 bC] [] (by kernel_rfl)⟩
theorem Q1al (p0 : Val) (p2 : Int) (H : Qbn p0 p2) (rec : Q9e p0) (x0 : Val) (i0 : Nat) (ah : Int) (bF : p0.list[i0]? = some x0) (bR : i0 < List.length p0.list) (bC : (decide ((i0 : Int) < ((List.length p0.list) : Int))) = true) (h0 : (decide (0 ≤ ah)) = true) {r : Rs} (hr : Q0 G (Qdo p0 p2 (i0 + 1) (Qgt x0 ah (w64 (p2 - 1)))) r) : Q0 G (Qdo p0 p2 i0 ah) r := by
 have hB0 := H.1; have e0 := of_decide_eq_true h0
 exact Qc VOK.nil [hP 3 (Qs _ _ (Val.Q5 p0.list)), hB 0 bC, hB 2 h0, hP 4 (Q1l 5 _ i0 _ (Val.Qb bF) rfl), hP 7 (Q26 i0 (by omega))] [aN (rec x0 (szL bF) ah (w64 (p2 - 1)) (H.2.1 x0 (Q1i bF)))] hr (by kernel_rfl)
def Qtt (p0 : Val) (_p2 : Int) (i0 : Nat) (ah : Int) (_x0 : Val) : List PV :=
  nuns 7 ++ [iN (i0 : Int)] ++ nuns 15 ++ [iN (i0 : Int), .bx 0 3, .sl (Val.rows p0.list), iN ((List.length p0.list) : Int), .bool true, .bool true, iN ah, .bool false, .bool false]
def Qmi (_p0 : Val) (_p2 : Int) (_i0 : Nat) (_ah : Int) (_x0 : Val) : List (Nat × List PV) :=
  []
theorem Q1d8 (p0 : Val) (p2 : Int) (_H : Qbn p0 p2) (_rec : Q9e p0) (x0 : Val) (i0 : Nat) (ah : Int) (_bF : p0.list[i0]? = some x0) (_bR : i0 < List.length p0.list) (bC : (decide ((i0 : Int) < ((List.length p0.list) : Int))) = true) (h0 : (decide (0 ≤ ah)) = false) : Qea p0 p2 (Qdo p0 p2 i0 ah) ah := by
 exact ⟨(envF (Qtt p0 p2 i0 ah x0)), (zoF (Qmi p0 p2 i0 ah x0)), Qh VOK.nil (x := ((.exit 0), Qfs p0 p2 ah (envF (Qtt p0 p2 i0 ah x0)) (zoF (Qmi p0 p2 i0 ah x0)))) [hP 3 (Qs _ _ (Val.Q5 p0.list)), hB 0 bC, hB 2 h0] [] (by kernel_rfl)⟩
theorem Q127 (p0 : Val) (p2 : Int) (H : Qbn p0 p2) (rec : Q9e p0) : ∀ (r0 : List Val) (i0 : Nat) (ah : Int), List.drop i0 p0.list = r0 → Qea p0 p2 (Qdo p0 p2 i0 ah) (Q4y p0 p2 r0 i0 ah)
 | [], i0, ah, hd => by
  have bC : (decide ((i0 : Int) < ((List.length p0.list) : Int))) = false := by have := Q1o hd; simp; omega
  rw [Q4y]
  exact Q1d7 p0 p2 H rec i0 ah bC
 | x0 :: r0, i0, ah, hd => by
  obtain ⟨bF, bR, hd'⟩ := Q1p hd
  have bC : (decide ((i0 : Int) < ((List.length p0.list) : Int))) = true := by simp; omega
  rw [Q4y]
  cases h0 : (decide (0 ≤ ah)) with
  | true =>
   exact Qwn p0 p2 (fun r hr => Q1al p0 p2 H rec x0 i0 ah bF bR bC h0 hr) _ (Q127 p0 p2 H rec r0 _ _ hd')
  | false =>
   exact Q1d8 p0 p2 H rec x0 i0 ah bF bR bC h0
def Qtu (p0 : Val) (p2 : Int) (i1 : Nat) (_bL : Int) : List PV :=
  [.un, .un, iN p2, .bx 0 0, .un, .un, .un, .un, iN (i1 : Int)] ++ nuns 34 ++ [iN (i1 : Int), .bx 0 4, .sl (Fld.rows p0.fields), iN ((List.length p0.fields) : Int), .bool false, .bool false, .tup [], .tup [], .bool false]
def Qmj (_p0 : Val) (_p2 : Int) (_i1 : Nat) (_bL : Int) : List (Nat × List PV) :=
  []
theorem Q1d9 (p0 : Val) (p2 : Int) (_H : Qa2 p0 p2) (_rec : Q9e p0) (i1 : Nat) (bL : Int) (hc1 : (decide ((i1 : Int) < ((List.length p0.fields) : Int))) = false) : Qby p0 p2 (Qbe p0 p2 i1 bL) (.k0 bL) := by
 exact ⟨(envF (Qtu p0 p2 i1 bL)), (zoF (Qmj p0 p2 i1 bL)), Qh VOK.nil (x := ((.exit 2), Qft p0 p2 bL (envF (Qtu p0 p2 i1 bL)) (zoF (Qmj p0 p2 i1 bL)))) [hP 3 (Qs _ _ (Fld.Q5 p0.fields)), hB 0 hc1] [] (by kernel_rfl)⟩
def Qtv (p0 : Val) (p2 : Int) (i1 : Nat) (bL : Int) (x1 : Fld) : List PV :=
  [.un, iN bL, iN p2, .bx 0 0, .un, .un, .un, .un, iN (i1 : Int)] ++ nuns 34 ++ [iN (i1 : Int), .bx 0 4, .sl (Fld.rows p0.fields), iN ((List.length p0.fields) : Int), .bool true, .bool true, iN bL, .bool true, .bool true, .un, .un, .bx 0 4, .sl (Fld.rows p0.fields), iN (i1 : Int), .rf [.str x1.name, iN x1.v.kind, iN x1.v.n, .str x1.v.s, .sl (Val.rows x1.v.list), .sl (Fld.rows x1.v.fields)], .rf [.str x1.name, iN x1.v.kind, iN x1.v.n, .str x1.v.s, .sl (Val.rows x1.v.list), .sl (Fld.rows x1.v.fields)], .str x1.name, iN (ByteArray.size x1.name : Int), .bool true]
def Qmk (p0 : Val) (_p2 : Int) (_i1 : Nat) (_bL : Int) (_x1 : Fld) : List (Nat × List PV) :=
  [(0, (Val.cells p0))]
theorem Q1da (p0 : Val) (p2 : Int) (_H : Qa2 p0 p2) (_rec : Q9e p0) (x1 : Fld) (i1 : Nat) (bL : Int) (fQ : p0.fields[i1]? = some x1) (_iJ : i1 < List.length p0.fields) (hc1 : (decide ((i1 : Int) < ((List.length p0.fields) : Int))) = true) (h0 : (decide (0 ≤ bL)) = true) (h1 : (decide (1000 < (ByteArray.size x1.name : Int))) = true) : Qby p0 p2 (Qbe p0 p2 i1 bL) (.k1) := by
 exact ⟨(envF (Qtv p0 p2 i1 bL x1)), (zoF (Qmk p0 p2 i1 bL x1)), Qh VOK.nil (x := (.ret, Qrx p0 p2 (envF (Qtv p0 p2 i1 bL x1)) (zoF (Qmk p0 p2 i1 bL x1)))) [hP 3 (Qs _ _ (Fld.Q5 p0.fields)), hB 0 hc1, hB 2 h0, hP 4 (Q1l 6 _ i1 _ (Fld.Qb fQ) rfl), hB 3 h1] [] (by kernel_rfl)⟩
theorem Q1am (p0 : Val) (p2 : Int) (H : Qa2 p0 p2) (rec : Q9e p0) (x1 : Fld) (i1 : Nat) (bL : Int) (fQ : p0.fields[i1]? = some x1) (iJ : i1 < List.length p0.fields) (hc1 : (decide ((i1 : Int) < ((List.length p0.fields) : Int))) = true) (h0 : (decide (0 ≤ bL)) = true) (h1 : (decide (1000 < (ByteArray.size x1.name : Int))) = false) {r : Rs} (hr : Q0 G (Qbe p0 p2 (i1 + 1) (Qgt x1.v bL (w64 (p2 - 1)))) r) : Q0 G (Qbe p0 p2 i1 bL) r := by
 have hB0 := H.1; have e0 := of_decide_eq_true h0; have e1 := of_decide_eq_false h1
 exact Qc VOK.nil [hP 3 (Qs _ _ (Fld.Q5 p0.fields)), hB 0 hc1, hB 2 h0, hP 4 (Q1l 6 _ i1 _ (Fld.Qb fQ) rfl), hB 3 h1, hP 3 (Q1l 6 _ i1 _ (Fld.Qb fQ) rfl), hP 8 (Q26 i1 (by omega))] [aN (rec x1.v (szF fQ) bL (w64 (p2 - 1)) (H.2.1 x1 (Q1i fQ)))] hr (by kernel_rfl)
def Qtw (p0 : Val) (p2 : Int) (i1 : Nat) (bL : Int) (_x1 : Fld) : List PV :=
  [.un, .un, iN p2, .bx 0 0, .un, .un, .un, .un, iN (i1 : Int)] ++ nuns 34 ++ [iN (i1 : Int), .bx 0 4, .sl (Fld.rows p0.fields), iN ((List.length p0.fields) : Int), .bool true, .bool true, iN bL, .bool false, .bool false]
def Qml (_p0 : Val) (_p2 : Int) (_i1 : Nat) (_bL : Int) (_x1 : Fld) : List (Nat × List PV) :=
  []
theorem Q1db (p0 : Val) (p2 : Int) (_H : Qa2 p0 p2) (_rec : Q9e p0) (x1 : Fld) (i1 : Nat) (bL : Int) (_fQ : p0.fields[i1]? = some x1) (_iJ : i1 < List.length p0.fields) (hc1 : (decide ((i1 : Int) < ((List.length p0.fields) : Int))) = true) (h0 : (decide (0 ≤ bL)) = false) : Qby p0 p2 (Qbe p0 p2 i1 bL) (.k0 bL) := by
 exact ⟨(envF (Qtw p0 p2 i1 bL x1)), (zoF (Qml p0 p2 i1 bL x1)), Qh VOK.nil (x := ((.exit 2), Qft p0 p2 bL (envF (Qtw p0 p2 i1 bL x1)) (zoF (Qml p0 p2 i1 bL x1)))) [hP 3 (Qs _ _ (Fld.Q5 p0.fields)), hB 0 hc1, hB 2 h0] [] (by kernel_rfl)⟩
theorem Q128 (p0 : Val) (p2 : Int) (H : Qa2 p0 p2) (rec : Q9e p0) : ∀ (r1 : List Fld) (i1 : Nat) (bL : Int), List.drop i1 p0.fields = r1 → Qby p0 p2 (Qbe p0 p2 i1 bL) (Q5g p0 p2 r1 i1 bL)
 | [], i1, bL, hd => by
  have hc1 : (decide ((i1 : Int) < ((List.length p0.fields) : Int))) = false := by have := Q1o hd; simp; omega
  rw [Q5g]
  exact Q1d9 p0 p2 H rec i1 bL hc1
 | x1 :: r1, i1, bL, hd => by
  obtain ⟨fQ, iJ, hd'⟩ := Q1p hd
  have hc1 : (decide ((i1 : Int) < ((List.length p0.fields) : Int))) = true := by simp; omega
  rw [Q5g]
  cases h0 : (decide (0 ≤ bL)) with
  | true =>
   cases h1 : (decide (1000 < (ByteArray.size x1.name : Int))) with
   | true =>
    exact Q1da p0 p2 H rec x1 i1 bL fQ iJ hc1 h0 h1
   | false =>
    exact Qwo p0 p2 (fun r hr => Q1am p0 p2 H rec x1 i1 bL fQ iJ hc1 h0 h1 hr) _ (Q128 p0 p2 H rec r1 _ _ hd')
  | false =>
   exact Q1db p0 p2 H rec x1 i1 bL fQ iJ hc1 h0
theorem Q2d9 (p0 : Val) (p1 : Int) (p2 : Int) (H : Q10j p0) (rec : Q9e p0) : Q0 G (Q1l6 p0 p1 p2) (Q1h4 p0 p1 p2) := by
  unfold Q1h4
  rw [Qgt]
  cases h0 : (decide (p1 ≤ 0)) with
  | true =>
   exact Q7 (fn := Ir.K1s) (by kernel_rfl) VOK.nil [hB 3 h0] [] (by kernel_rfl)
  | false =>
   cases h1 : (decide (p2 ≤ 0)) with
   | true =>
    exact Q7 (fn := Ir.K1s) (by kernel_rfl) VOK.nil [hB 3 h0, hB 2 h1] [] (by kernel_rfl)
   | false =>
    cases h2 : (decide (1000 < (ByteArray.size p0.s : Int))) with
    | true =>
     exact Q7 (fn := Ir.K1s) (by kernel_rfl) VOK.nil [hB 3 h0, hB 2 h1, hB 5 h2] [] (by kernel_rfl)
    | false =>
     have hl3 := Q127 p0 p2 ((Q17b p0 p1 p2 H).1) rec p0.list 0 (w64 (p1 - 1)) (by simp)
     obtain ⟨z3, zo3, hl3⟩ := hl3
     have hl4 := Q128 p0 p2 ((Q17b p0 p1 p2 H).2.1) rec p0.fields 0 (Q4y p0 p2 p0.list 0 (w64 (p1 - 1))) (by simp)
     cases hr4 : (Q5g p0 p2 p0.fields 0 (Q4y p0 p2 p0.list 0 (w64 (p1 - 1)))) with
     | k0 jk =>
       rw [hr4] at hl4
       obtain ⟨z4, iW, hl4⟩ := hl4
       exact Q7 (fn := Ir.K1s) (by kernel_rfl) VOK.nil [hB 3 h0, hB 2 h1, hB 5 h2] [aN hl3, aN hl4] (by kernel_rfl)
     | k1 =>
       rw [hr4] at hl4
       obtain ⟨z4, iW, hl4⟩ := hl4
       exact Q7 (fn := Ir.K1s) (by kernel_rfl) VOK.nil [hB 3 h0, hB 2 h1, hB 5 h2] [aN hl3, aN hl4] (by kernel_rfl)
theorem Q1zp : ∀ (k : Nat) (p0 : Val), SizeOf.sizeOf p0 < k → ∀ (p1 : Int), ∀ (p2 : Int), Q10j p0 → Q0 G (Q1l6 p0 p1 p2) (Q1h4 p0 p1 p2)
  | 0, _, h, _, _, _ => absurd h (Nat.not_lt_zero _)
  | k + 1, p0, h, p1, p2, H => Q2d9 p0 p1 p2 H (fun q hq p1 p2 hH => Q1zp k q (by omega) p1 p2 hH)
theorem Q2f7 (p0 : Val) (p1 : Int) (p2 : Int) (H : Q10j p0) : Q0 G (Q1l6 p0 p1 p2) (Q1h4 p0 p1 p2) := Q1zp _ p0 (Nat.lt_succ_self _) p1 p2 H
def Qz0 (p0 : Val) (p1 : Int) : Bool :=
 (decide (0 ≤ (Qgt p0 p1 p1)))
def Q26x (p0 : Val) (p1 : Int) : En := .call 63 [.agg (Val.cells p0), iN p1] []
def Q1w3 (p0 : Val) (p1 : Int) : Rs := .ret (.bool (Qz0 p0 p1)) []
def Q1p9 (p0 : Val) (_p1 : Int) : Prop := (Q10j p0) ∧ True
theorem Q1ra (p0 : Val) (p1 : Int) (H : Q1p9 p0 p1) : Q0 G (Q26x p0 p1) (Q1w3 p0 p1) := by
 unfold Q1w3 Qz0
 exact Q7 (fn := Ir.K1r) (by kernel_rfl) VOK.nil [] [aN (Q2f7 p0 p1 p1 H.1)] (by kernel_rfl)
def Q204 (p0 : Bool) (p1 : Bool) : Int :=
 bif p0 then
  bif p1 then
   (-1)
  else
   (-1)
 else
  bif p1 then
   1
  else
   0
def Q26y (p0 : Bool) (p1 : Bool) : En := .call 230 [.bool p0, .bool p1] []
def Q1w4 (p0 : Bool) (p1 : Bool) : Rs := .ret (iN (Q204 p0 p1)) []
theorem Q1ct (p0 : Bool) (p1 : Bool) : Q0 G (Q26y p0 p1) (Q1w4 p0 p1) := by
 unfold Q1w4 Q204
 cases h0 : p0 with
 | true =>
  cases h1 : p1 with
  | true =>
   exact Q7 (fn := Ir.K1t) (by kernel_rfl) VOK.nil [] [] (by kernel_rfl)
  | false =>
   exact Q7 (fn := Ir.K1t) (by kernel_rfl) VOK.nil [] [] (by kernel_rfl)
 | false =>
  cases h1 : p1 with
  | true =>
   exact Q7 (fn := Ir.K1t) (by kernel_rfl) VOK.nil [] [] (by kernel_rfl)
  | false =>
   exact Q7 (fn := Ir.K1t) (by kernel_rfl) VOK.nil [] [] (by kernel_rfl)
def Q202 (_ : Val) : Int := 0
def Q18d (p0 : Val) : List Val → Nat → Unit
 | [], _i0 =>
  ()
 | _x0 :: r0, i0 =>
  Q18d p0 r0 (i0 + 1)
def Q1et (_p0 : Val) (i0 : Nat) : List PV :=
  [.un, .un, .bx 0 0, .bx 1 0, .un, iN 0, iN (i0 : Int)] ++ nuns 162
def Q1gc (p0 : Val) (_i0 : Nat) : List Ob :=
  [⟨5, 0, true, (Val.cells p0)⟩, ⟨5, 0, true, (Val.cells p0)⟩]
def Qgz (p0 : Val) (i0 : Nat) : En := .loop 0 Ir.Qkn Ir.Q1n8 (Q1et p0 i0) (Q1gc p0 i0)
def Qrs (p0 : Val) (z : Nat → PV) (_zo : Nat → List PV) : St :=
  ⟨[z 0, z 1, .bx 0 0, .bx 1 0, z 4, iN 0] ++ zr z 6 163, [(0, ⟨5, 0, true, (Val.cells p0)⟩), (1, ⟨5, 0, true, (Val.cells p0)⟩)], 1026⟩
def Qbw (p0 : Val) (e : En) (_q : Unit) : Prop := ∃ z zo, Q0 G e (.st (.exit 0) (Qrs p0 z zo))
theorem Qwi (p0 : Val) {e e' : En} (h : ∀ r, Q0 G e r → Q0 G e' r) : ∀ q, Qbw p0 e q → Qbw p0 e' q
  | _, ⟨z, zo, hz⟩ => ⟨z, zo, h _ hz⟩
def Q18e (p0 : Val) : List Fld → Nat → Unit
 | [], _i1 =>
  ()
 | _x1 :: r1, i1 =>
  Q18e p0 r1 (i1 + 1)
def Q1eu (_p0 : Val) (i1 : Nat) : List PV :=
  [.un, .un, .bx 0 0, .bx 1 0, .un, iN 0, .un, iN (i1 : Int)] ++ nuns 161
def Q1gd (p0 : Val) (_i1 : Nat) : List Ob :=
  [⟨5, 0, true, (Val.cells p0)⟩, ⟨5, 0, true, (Val.cells p0)⟩]
def Qh0 (p0 : Val) (i1 : Nat) : En := .loop 0 Ir.Qko Ir.Q1n9 (Q1eu p0 i1) (Q1gd p0 i1)
def Qrt (p0 : Val) (z : Nat → PV) (_zo : Nat → List PV) : St :=
  ⟨[z 0, z 1, .bx 0 0, .bx 1 0, z 4, iN 0] ++ zr z 6 163, [(0, ⟨5, 0, true, (Val.cells p0)⟩), (1, ⟨5, 0, true, (Val.cells p0)⟩)], 1026⟩
def Qbx (p0 : Val) (e : En) (_q : Unit) : Prop := ∃ z zo, Q0 G e (.st (.exit 2) (Qrt p0 z zo))
theorem Qwj (p0 : Val) {e e' : En} (h : ∀ r, Q0 G e r → Q0 G e' r) : ∀ q, Qbx p0 e q → Qbx p0 e' q
  | _, ⟨z, zo, hz⟩ => ⟨z, zo, h _ hz⟩
theorem Q2a8 (p0 : Val) : Q202 p0 = (0) := by
  rfl
def Q1l4 (p0 : Val) : En := .call 194 [.agg (Val.cells p0), .agg (Val.cells p0)] []
def Q1h2 (p0 : Val) : Rs := .ret (iN (Q202 p0)) []
abbrev Q10h (p0 : Val) : Prop := Val.Sm 4611686018427387904 p0
def Qcz (p0 : Val) : Prop := ∀ (q : Val), SizeOf.sizeOf q < SizeOf.sizeOf p0 → Q10h q → Q0 G (Q1l4 q) (Q1h2 q)
def Qds (p0 : Val) : Prop := (List.length p0.list ≤ 4611686018427387904) ∧ (∀ x0 ∈ p0.list, Q10h x0) ∧ True
def Qdt (p0 : Val) : Prop := (List.length p0.fields ≤ 4611686018427387904) ∧ (∀ x1 ∈ p0.fields, Q10h x1.v) ∧ True
theorem Q178 (p0 : Val) (H : Q10h p0) : (Qds p0) ∧ (Qdt p0) ∧ True := by
  obtain ⟨h1, h2, h3, h4⟩ := H.all
  simp only [Qds, Qdt]
  exact ⟨⟨h1, h3, trivial⟩, ⟨h2, h4, trivial⟩, trivial⟩
def Qtn (p0 : Val) (i0 : Nat) : List PV :=
  nuns 6 ++ [iN (i0 : Int)] ++ nuns 38 ++ [iN (i0 : Int), .bx 0 3, .sl (Val.rows p0.list), iN ((List.length p0.list) : Int), .bool false, .bool false, .tup [], .tup [], .tup [], .tup [], .tup [], .bool false, .bool false, .tup [], .tup [], .bool false]
def Qmc (_p0 : Val) (_i0 : Nat) : List (Nat × List PV) :=
  []
theorem Q1d2 (p0 : Val) (_H : Qds p0) (_rec : Qcz p0) (i0 : Nat) (bC : (decide ((i0 : Int) < ((List.length p0.list) : Int))) = false) : Qbw p0 (Qgz p0 i0) () := by
 exact ⟨(envF (Qtn p0 i0)), (zoF (Qmc p0 i0)), Qh VOK.nil (x := ((.exit 0), Qrs p0 (envF (Qtn p0 i0)) (zoF (Qmc p0 i0)))) [hP 3 (Qs _ _ (Val.Q5 p0.list)), hB 0 bC] [] (by kernel_rfl)⟩
theorem Q1ag (p0 : Val) (H : Qds p0) (rec : Qcz p0) (x0 : Val) (i0 : Nat) (bF : p0.list[i0]? = some x0) (bR : i0 < List.length p0.list) (bC : (decide ((i0 : Int) < ((List.length p0.list) : Int))) = true) {r : Rs} (hr : Q0 G (Qgz p0 (i0 + 1)) r) : Q0 G (Qgz p0 i0) r := by
 have hB0 := H.1
 exact Qc VOK.nil [hP 3 (Qs _ _ (Val.Q5 p0.list)), hB 0 bC, hP 4 (Qs _ _ (Val.Q5 p0.list)), hB 0 bC, hP 8 (Q1l 5 _ i0 _ (Val.Qb bF) rfl), hP 4 (Q1l 5 _ i0 _ (Val.Qb bF) rfl), hP 4 (Q26 i0 (by omega))] [aN (rec x0 (szL bF) (H.2.1 x0 (Q1i bF)))] hr (by kernel_rfl)
theorem Q122 (p0 : Val) (H : Qds p0) (rec : Qcz p0) : ∀ (r0 : List Val) (i0 : Nat), List.drop i0 p0.list = r0 → Qbw p0 (Qgz p0 i0) (Q18d p0 r0 i0)
 | [], i0, hd => by
  have bC : (decide ((i0 : Int) < ((List.length p0.list) : Int))) = false := by have := Q1o hd; simp; omega
  show Qbw p0 _ ()
  exact Q1d2 p0 H rec i0 bC
 | x0 :: r0, i0, hd => by
  obtain ⟨bF, bR, hd'⟩ := Q1p hd
  have bC : (decide ((i0 : Int) < ((List.length p0.list) : Int))) = true := by simp; omega
  show Qbw p0 _ ()
  exact Qwi p0 (fun r hr => Q1ag p0 H rec x0 i0 bF bR bC hr) _ (Q122 p0 H rec r0 _ hd')
def Qto (p0 : Val) (i1 : Nat) : List PV :=
  nuns 7 ++ [iN (i1 : Int)] ++ nuns 83 ++ [iN (i1 : Int), .bx 0 4, .sl (Fld.rows p0.fields), iN ((List.length p0.fields) : Int), .bool false, .bool false, .tup [], .tup [], .tup [], .tup [], .tup [], .bool false, .bool false, .tup [], .tup [], .bool false]
def Qmd (_p0 : Val) (_i1 : Nat) : List (Nat × List PV) :=
  []
theorem Q1d3 (p0 : Val) (_H : Qdt p0) (_rec : Qcz p0) (i1 : Nat) (hc1 : (decide ((i1 : Int) < ((List.length p0.fields) : Int))) = false) : Qbx p0 (Qh0 p0 i1) () := by
 exact ⟨(envF (Qto p0 i1)), (zoF (Qmd p0 i1)), Qh VOK.nil (x := ((.exit 2), Qrt p0 (envF (Qto p0 i1)) (zoF (Qmd p0 i1)))) [hP 3 (Qs _ _ (Fld.Q5 p0.fields)), hB 0 hc1] [] (by kernel_rfl)⟩
theorem Q1ah (p0 : Val) (H : Qdt p0) (rec : Qcz p0) (x1 : Fld) (i1 : Nat) (fQ : p0.fields[i1]? = some x1) (iJ : i1 < List.length p0.fields) (hc1 : (decide ((i1 : Int) < ((List.length p0.fields) : Int))) = true) {r : Rs} (hr : Q0 G (Qh0 p0 (i1 + 1)) r) : Q0 G (Qh0 p0 i1) r := by
 have hB0 := H.1
 exact Qc VOK.nil [hP 3 (Qs _ _ (Fld.Q5 p0.fields)), hB 0 hc1, hP 4 (Qs _ _ (Fld.Q5 p0.fields)), hB 0 hc1, hP 8 (Q1l 6 _ i1 _ (Fld.Qb fQ) rfl), hP 5 (Q1l 6 _ i1 _ (Fld.Qb fQ) rfl), hP 2 (dec (sLt x1.name x1.name) false (Q1it _)), hP 3 (Q1l 6 _ i1 _ (Fld.Qb fQ) rfl), hP 5 (Q1l 6 _ i1 _ (Fld.Qb fQ) rfl), hP 2 (dec (!((sLt x1.name x1.name) || (sEq x1.name x1.name))) false (by rw [(Q1zz (Q8w.2 rfl))]; rfl)), hP 7 (Q1l 6 _ i1 _ (Fld.Qb fQ) rfl), hP 5 (Q1l 6 _ i1 _ (Fld.Qb fQ) rfl), hP 5 (Q26 i1 (by omega))] [aN (Q1ct false false), aN (rec x1.v (szF fQ) (H.2.1 x1 (Q1i fQ)))] hr (by kernel_rfl)
theorem Q123 (p0 : Val) (H : Qdt p0) (rec : Qcz p0) : ∀ (r1 : List Fld) (i1 : Nat), List.drop i1 p0.fields = r1 → Qbx p0 (Qh0 p0 i1) (Q18e p0 r1 i1)
 | [], i1, hd => by
  have hc1 : (decide ((i1 : Int) < ((List.length p0.fields) : Int))) = false := by have := Q1o hd; simp; omega
  show Qbx p0 _ ()
  exact Q1d3 p0 H rec i1 hc1
 | x1 :: r1, i1, hd => by
  obtain ⟨fQ, iJ, hd'⟩ := Q1p hd
  have hc1 : (decide ((i1 : Int) < ((List.length p0.fields) : Int))) = true := by simp; omega
  show Qbx p0 _ ()
  exact Qwj p0 (fun r hr => Q1ah p0 H rec x1 i1 fQ iJ hc1 hr) _ (Q123 p0 H rec r1 _ hd')
theorem Q2d7 (p0 : Val) (H : Q10h p0) (rec : Qcz p0) : Q0 G (Q1l4 p0) (Q1h2 p0) := by
  unfold Q1h2
  rw [Q2a8]
  have hl0 := Q122 p0 ((Q178 p0 H).1) rec p0.list 0 (by simp)
  obtain ⟨z0, fA, hl0⟩ := hl0
  have hl1 := Q123 p0 ((Q178 p0 H).2.1) rec p0.fields 0 (by simp)
  obtain ⟨z1, jd, hl1⟩ := hl1
  exact Q7 (fn := Ir.K1l) (by kernel_rfl) VOK.nil [hP 7 (dec (decide (p0.kind < p0.kind)) false (decide_eq_false (Int.lt_irrefl _))), hP 4 (dec (decide (p0.kind < p0.kind)) false (decide_eq_false (Int.lt_irrefl _))), hP 8 (dec (decide (p0.n < p0.n)) false (decide_eq_false (Int.lt_irrefl _))), hP 4 (dec (decide (p0.n < p0.n)) false (decide_eq_false (Int.lt_irrefl _))), hP 8 (dec (sLt p0.s p0.s) false (Q1it _)), hP 4 (dec (!((sLt p0.s p0.s) || (sEq p0.s p0.s))) false (by rw [(Q1zz (Q8w.2 rfl))]; rfl)), hP 7 (Qs _ _ (Val.Q5 p0.list)), hP 2 (Qs _ _ (Val.Q5 p0.list)), hP 0 (dec (decide (((List.length p0.list) : Int) < ((List.length p0.list) : Int))) false (decide_eq_false (Int.lt_irrefl _))), hP 2 (Qs _ _ (Val.Q5 p0.list)), hP 2 (Qs _ _ (Val.Q5 p0.list)), hP 0 (dec (decide (((List.length p0.list) : Int) < ((List.length p0.list) : Int))) false (decide_eq_false (Int.lt_irrefl _))), hP 7 (Qs _ _ (Fld.Q5 p0.fields)), hP 2 (Qs _ _ (Fld.Q5 p0.fields)), hP 0 (dec (decide (((List.length p0.fields) : Int) < ((List.length p0.fields) : Int))) false (decide_eq_false (Int.lt_irrefl _))), hP 2 (Qs _ _ (Fld.Q5 p0.fields)), hP 2 (Qs _ _ (Fld.Q5 p0.fields)), hP 0 (dec (decide (((List.length p0.fields) : Int) < ((List.length p0.fields) : Int))) false (decide_eq_false (Int.lt_irrefl _)))] [aN (Q1ct false false), aN (Q1ct false false), aN (Q1ct false false), aN hl0, aN (Q1ct false false), aN hl1, aN (Q1ct false false)] (by kernel_rfl)
theorem Q1zn : ∀ (k : Nat) (p0 : Val), SizeOf.sizeOf p0 < k → Q10h p0 → Q0 G (Q1l4 p0) (Q1h2 p0)
  | 0, _, h, _ => absurd h (Nat.not_lt_zero _)
  | k + 1, p0, h, H => Q2d7 p0 H (fun q hq hH => Q1zn k q (by omega) hH)
theorem Q2f3 (p0 : Val) (H : Q10h p0) : Q0 G (Q1l4 p0) (Q1h2 p0) := Q1zn _ p0 (Nat.lt_succ_self _) H
def Q203 (_p0 : Val) : Bool :=
 true
def Q26v (p0 : Val) : En := .call 98 [.agg (Val.cells p0), .agg (Val.cells p0)] []
def Q1w0 (p0 : Val) : Rs := .ret (.bool (Q203 p0)) []
def Q1p7 (p0 : Val) : Prop := (Q10h p0) ∧ True
theorem Q20b (p0 : Val) (H : Q1p7 p0) : Q0 G (Q26v p0) (Q1w0 p0) := by
 unfold Q1w0 Q203
 exact Q7 (fn := Ir.K1n) (by kernel_rfl) VOK.nil [] [aN (Q8p (c := fun y => .call 194 [.agg (Val.cells p0), .agg (Val.cells y)] []) rfl (Q2f3 p0 H.1))] (by kernel_rfl)
def Q18i (p0 : List ByteArray) : List ByteArray → Nat → Unit
 | [], _i0 =>
  ()
 | _x0 :: r0, i0 =>
  Q18i p0 r0 (i0 + 1)
def Q1f4 (p0 : List ByteArray) (i0 : Nat) : List PV :=
  [.sl (Q15 p0), .sl (Q15 p0), .un, .un, .un, iN (i0 : Int)] ++ nuns 20
def Q1gk (_p0 : List ByteArray) (_i0 : Nat) : List Ob :=
  []
def Qh7 (p0 : List ByteArray) (i0 : Nat) : En := .loop 0 Ir.Qky Ir.Q1nj (Q1f4 p0 i0) (Q1gk p0 i0)
def Qs2 (_p0 : List ByteArray) (z : Nat → PV) (_zo : Nat → List PV) : St :=
  ⟨zr z 0 26, [], 256⟩
def Qc2 (p0 : List ByteArray) (e : En) (_q : Unit) : Prop := ∃ z zo, Q0 G e (.st (.exit 0) (Qs2 p0 z zo))
theorem Qws (p0 : List ByteArray) {e e' : En} (h : ∀ r, Q0 G e r → Q0 G e' r) : ∀ q, Qc2 p0 e q → Qc2 p0 e' q
  | _, ⟨z, zo, hz⟩ => ⟨z, zo, h _ hz⟩
def Qi8 (p0 : List ByteArray) : Prop := (List.length p0 ≤ 4611686018427387904) ∧ True
def Qu1 (p0 : List ByteArray) (i0 : Nat) : List PV :=
  [.sl (Q15 p0), .sl (Q15 p0), .un, .un, .un, iN (i0 : Int)] ++ nuns 5 ++ [iN (i0 : Int), .sl (Q15 p0), iN ((List.length p0) : Int), .bool false]
def Qmq (_p0 : List ByteArray) (_i0 : Nat) : List (Nat × List PV) :=
  []
theorem Q1dg (p0 : List ByteArray) (_H : Qi8 p0) (i0 : Nat) (bC : (decide ((i0 : Int) < ((List.length p0) : Int))) = false) : Qc2 p0 (Qh7 p0 i0) () := by
 exact ⟨(envF (Qu1 p0 i0)), (zoF (Qmq p0 i0)), Qh VOK.nil (x := ((.exit 0), Qs2 p0 (envF (Qu1 p0 i0)) (zoF (Qmq p0 i0)))) [hP 2 (Qs _ _ (Q2d p0)), hB 0 bC] [] (by kernel_rfl)⟩
abbrev BA : Type := ByteArray
theorem Q1aw (p0 : List ByteArray) (H : Qi8 p0) (x0 : BA) (i0 : Nat) (bF : p0[i0]? = some x0) (bR : i0 < List.length p0) (bC : (decide ((i0 : Int) < ((List.length p0) : Int))) = true) {r : Rs} (hr : Q0 G (Qh7 p0 (i0 + 1)) r) : Q0 G (Qh7 p0 i0) r := by
 have hB0 := H.1
 exact Qc VOK.nil [hP 2 (Qs _ _ (Q2d p0)), hB 0 bC, hP 2 (Q1l 1 _ i0 _ (Q8m bF) rfl), hP 3 (Q1l 1 _ i0 _ (Q8m bF) rfl), hP 1 (dec (!(sEq x0 x0)) false (by rw [(Q8w.2 rfl)]; rfl)), hP 1 (Q26 i0 (by omega))] [] hr (by kernel_rfl)
theorem Q12c (p0 : List ByteArray) (H : Qi8 p0) : ∀ (r0 : List ByteArray) (i0 : Nat), List.drop i0 p0 = r0 → Qc2 p0 (Qh7 p0 i0) (Q18i p0 r0 i0)
 | [], i0, hd => by
  have bC : (decide ((i0 : Int) < ((List.length p0) : Int))) = false := by have := Q1o hd; simp; omega
  show Qc2 p0 _ ()
  exact Q1dg p0 H i0 bC
 | x0 :: r0, i0, hd => by
  obtain ⟨bF, bR, hd'⟩ := Q1p hd
  have bC : (decide ((i0 : Int) < ((List.length p0) : Int))) = true := by simp; omega
  show Qc2 p0 _ ()
  exact Qws p0 (fun r hr => Q1aw p0 H x0 i0 bF bR bC hr) _ (Q12c p0 H r0 _ hd')
def Q207 (_p0 : List ByteArray) : Bool :=
 true
def Q274 (p0 : List ByteArray) : En := .call 120 [.sl (Q15 p0), .sl (Q15 p0)] []
def Q1wa (p0 : List ByteArray) : Rs := .ret (.bool (Q207 p0)) []
def Q1pb (p0 : List ByteArray) : Prop := (Qi8 p0) ∧ True
theorem Q20d (p0 : List ByteArray) (H : Q1pb p0) : Q0 G (Q274 p0) (Q1wa p0) := by
 unfold Q1wa Q207
 have hl0 := Q12c p0 (H.1) p0 0 (by simp)
 obtain ⟨z0, fA, hl0⟩ := hl0
 exact Q7 (fn := Ir.K1z) (by kernel_rfl) VOK.nil [hP 2 (Qs _ _ (Q2d p0)), hP 1 (Qs _ _ (Q2d p0)), hP 0 (dec (!(((List.length p0) : Int) == ((List.length p0) : Int))) false (by rw [(beq_self_eq_true _)]; rfl))] [aN hl0] (by kernel_rfl)
end Go.Proofs.YtimjjohlpnkacaaGreat
end

section
/- Parts of a slice of one's own, and appends of them. -/
namespace Go.Pv
def slmE (id sz n : Nat) (lo hi : Option Int) : Option Eff := (opP (fun _ => .un) (.slice sz (.c (.ms id sz 0 n)) (optI lo) (optI hi) none)).bind fun v => some ⟨v, [], []⟩
theorem Q19v (id sz n : Nat) (k : Int) (h0 : 0 ≤ k) (h1 : k ≤ (n : Int)) : slmE id sz n none (some k) = some (vE (.ms id sz 0 k.toNat)) := by
 unfold slmE
 simp only [opP, optI, Opd.ev, Q7h, asNat, Option.bind_some]
 have e0 : decide (0 ≤ k) = true := by simpa using h0
 rw [e0]
 simp only [cond_true, Option.bind_some]
 have e1 : (Nat.beq sz sz && Nat.ble 0 k.toNat && Nat.ble k.toNat n) = true := by
  rw [Nat.ble_eq_true_of_le (Nat.zero_le _), Nat.ble_eq_true_of_le (show k.toNat ≤ n by omega), Nat.beq_refl]
  rfl
 rw [e1]
 simp [vE]
theorem Q172 (id sz n : Nat) (k : Int) (h0 : 0 ≤ k) (h1 : k ≤ (n : Int)) : slmE id sz n (some k) none = some (vE (.ms id sz k.toNat (n - k.toNat))) := by
 unfold slmE
 simp only [opP, optI, Opd.ev, Q7h, asNat, Option.bind_some]
 have e0 : decide (0 ≤ k) = true := by simpa using h0
 rw [e0]
 simp only [cond_true, Option.bind_some]
 have e1 : (Nat.beq sz sz && Nat.ble k.toNat n && Nat.ble n n) = true := by
  rw [Nat.ble_eq_true_of_le (show k.toNat ≤ n by omega), Nat.ble_eq_true_of_le (Nat.le_refl n), Nat.beq_refl]
  rfl
 rw [e1]
 simp [vE]
theorem Qp0 {sz : Nat} {rows : List (List PV)} (hs : ∀ r ∈ rows, r.length = sz) (off len : Nat) (h : off + len ≤ rows.length) :
  (rows.flatten.drop (off * sz)).take (len * sz) = ((rows.drop off).take len).flatten ∧ Nat.ble ((off + len) * sz) rows.flatten.length = true := by
 have hs' : ∀ r ∈ rows.drop off, r.length = sz := fun r hr => hs r (List.mem_of_mem_drop hr)
 have e : ∀ (l : List (List PV)) (k : Nat), (∀ r ∈ l, r.length = sz) → l.flatten.take (k * sz) = (l.take k).flatten := by
  intro l
  induction l with
  | nil => simp
  | cons q l ih =>
   intro k hl
   cases k with
   | zero => simp
   | succ k =>
    have hq := hl q List.mem_cons_self
    rw [List.flatten_cons, List.take_succ_cons, List.flatten_cons, ← ih k (fun r hr => hl r (List.mem_cons_of_mem _ hr)), show (k + 1) * sz = q.length + k * sz by rw [hq, Nat.add_mul]; omega, List.take_length_add_append]
 refine ⟨by rw [Qb2 sz rows off hs, e _ _ hs'], Nat.ble_eq_true_of_le ?_⟩
 rw [Q6u sz rows hs]
 exact Nat.mul_le_mul_right _ h
def appE (id fr sz bytes ro : Nat) (gr : Bool) (rows : List (List PV)) (off len : Nat) : Option Eff := Q5h (look [(id, ⟨sz, ro, gr, rows.flatten⟩)]) fr sz bytes (.ns sz) (.ms id sz off len)
theorem Q1l1 (id fr sz bytes ro : Nat) (gr : Bool) (rows : List (List PV)) (off len : Nat) (hs : ∀ r ∈ rows, r.length = sz) (h : off + len ≤ rows.length) (h0 : len = 0) : appE id fr sz bytes ro gr rows off len = some ⟨.ns sz, [], [id]⟩ := by
 subst h0
 obtain ⟨_, h2⟩ := Qp0 hs off 0 h
 unfold appE Q5h
 simp only [source, look, Nat.beq_refl, cond_true, Option.bind_some, Bool.true_and]
 rw [h2]
 simp
 rfl
theorem Q1zh (id fr sz bytes ro : Nat) (gr : Bool) (rows rows' : List (List PV)) (off len n' : Nat) (hs : ∀ r ∈ rows, r.length = sz) (h : off + len ≤ rows.length) (h0 : len ≠ 0) (hr : rows' = (rows.drop off).take len) (hn : n' = len) (hb : len * bytes ≤ 140737488355328) :
  appE id fr sz bytes ro gr rows off len = some ⟨.ms fr sz 0 n', [(fr, some ⟨sz, 0, true, rows'.flatten⟩)], [id]⟩ := by
 subst hr hn
 obtain ⟨h1, h2⟩ := Qp0 hs off n' h
 unfold appE Q5h
 simp only [source, look, Nat.beq_refl, cond_true, Option.bind_some, Bool.true_and]
 rw [h2]
 simp only [cond_true, Option.bind_some]
 rw [Nat.ble_eq_true_of_le hb, h1]
 cases n' with
 | zero => exact absurd rfl h0
 | succ n => rfl
def Q1zf (id yid fr sz bytes ro : Nat) (cells : List PV) (yro : Nat) (ygr : Bool) (yrows : List (List PV)) (n off len : Nat) : Option Eff := Q5h (look [(id, ⟨sz, ro, true, cells⟩), (yid, ⟨sz, yro, ygr, yrows.flatten⟩)]) fr sz bytes (.ms id sz 0 n) (.ms yid sz off len)
theorem Q1h6 (id yid fr sz bytes ro : Nat) (cells : List PV) (rows0 : List (List PV)) (yro : Nat) (ygr : Bool) (yrows rows' : List (List PV)) (n off len n' : Nat) (hne : Nat.beq id yid = false) (hc : cells = rows0.flatten) (hn : n = rows0.length) (hn' : n' = rows'.length) (hr' : rows' = rows0 ++ (yrows.drop off).take len)
  (hs0 : ∀ r ∈ rows0, r.length = sz) (hs : ∀ r ∈ yrows, r.length = sz) (h : off + len ≤ yrows.length) (hb : (n + len) * bytes ≤ 140737488355328) :
  Q1zf id yid fr sz bytes ro cells yro ygr yrows n off len = some ⟨.ms fr sz 0 n', [(id, none), (fr, some ⟨sz, ro, true, rows'.flatten⟩)], [id, yid]⟩ := by
 subst hc hn hn' hr'
 obtain ⟨h1, h2⟩ := Qp0 hs off len h
 unfold Q1zf Q5h
 simp only [source, look, hne, Nat.beq_refl, cond_true, cond_false, Option.bind_some, Bool.true_and]
 rw [h2]
 simp only [cond_true, Option.bind_some]
 rw [Nat.ble_eq_true_of_le hb, h1, cond_true, Q1ot (ob := ⟨sz, ro, true, rows0.flatten⟩) (Q6u sz rows0 hs0)]
 have hl : ((yrows.drop off).take len).length = len := by simp; omega
 simp [hl]
end Go.Pv
end

section
/- Slices that are made with a length: their rows. -/
namespace Go.Pv
end Go.Pv
end

section
/- Rows of one's own: cleared behind a place, appended to from a place on. -/
namespace Go.Pv
theorem Q11s {sz : Nat} : ∀ (rows : List (List PV)) (k : Nat), (∀ r ∈ rows, r.length = sz) → rows.flatten.take (k * sz) = (rows.take k).flatten
 | [], k, _ => by simp
 | r :: rs, 0, _ => by simp
 | r :: rs, k + 1, h => by
  have hr := h r List.mem_cons_self
  rw [List.flatten_cons, List.take_succ_cons, List.flatten_cons, ← Q11s rs k (fun q hq => h q (List.mem_cons_of_mem _ hq)), show (k + 1) * sz = r.length + k * sz by rw [hr, Nat.add_mul]; omega, List.take_length_add_append]
theorem Q1l0 {sz : Nat} {gr : Bool} {rows : List (List PV)} {n : Nat} (hs : ∀ r ∈ rows, r.length = sz) (h : n ≤ rows.length) : apC ⟨sz, 0, gr, rows.flatten⟩ (n * sz) = some (rows.take n).flatten := by
 have h2 : rows.flatten.length = rows.length * sz := Q6u sz rows hs
 have h3 := Q11s rows n hs
 unfold apC
 cases e : Nat.beq rows.flatten.length (n * sz) with
 | true =>
  have e := Nat.eq_of_beq_eq_true e
  rw [cond_true, ← h3, ← e, List.take_length]
 | false =>
  have : n * sz ≤ rows.length * sz := Nat.mul_le_mul_right _ h
  rw [cond_false, Nat.ble_eq_true_of_le (by show n * sz ≤ rows.flatten.length; omega), Nat.ble_eq_true_of_le (Nat.zero_le _), h3]
  rfl
def aptE (id lid fr sz bytes lro : Nat) (lgr : Bool) (rows : List (List PV)) (r : List PV) (n : Nat) : Option Eff :=
 Q5h (look [(id, ⟨sz, 0, true, rows.flatten⟩), (lid, ⟨sz, lro, lgr, r⟩)]) fr sz bytes (.ms id sz 0 n) (.ms lid sz 0 1)
theorem Qve (id lid fr sz bytes lro : Nat) (lgr : Bool) (rows rows' : List (List PV)) (r : List PV) (n n' : Nat) (hne : Nat.beq id lid = false) (hle : n ≤ rows.length) (hn' : n' = rows'.length) (hr' : rows' = rows.take n ++ [r])
  (hs : ∀ r ∈ rows, r.length = sz) (hr : r.length = sz) (hb : (n + 1) * bytes ≤ 140737488355328) :
  aptE id lid fr sz bytes lro lgr rows r n = some ⟨.ms fr sz 0 n', [(id, none), (fr, some ⟨sz, 0, true, rows'.flatten⟩)], [id, lid]⟩ := by
 subst hn' hr'
 unfold aptE Q5h
 have h1 : look [(id, (⟨sz, 0, true, rows.flatten⟩ : Ob)), (lid, ⟨sz, lro, lgr, r⟩)] lid = some ⟨sz, lro, lgr, r⟩ := by simp [look, hne]
 have h2 : look [(id, (⟨sz, 0, true, rows.flatten⟩ : Ob)), (lid, ⟨sz, lro, lgr, r⟩)] id = some ⟨sz, 0, true, rows.flatten⟩ := by simp [look]
 have hsrc : source (look [(id, (⟨sz, 0, true, rows.flatten⟩ : Ob)), (lid, ⟨sz, lro, lgr, r⟩)]) sz (.ms lid sz 0 1) = some (1, r, [lid]) := by
  simp only [source, h1, Option.bind_some]
  subst hr
  have : Nat.ble r.length r.length = true := Nat.ble_eq_true_of_le (Nat.le_refl _)
  simp [this]
 rw [hsrc, Option.bind_some]
 simp only [h2, Option.bind_some]
 have hc : (true && Nat.beq sz sz && Nat.beq sz sz && Nat.beq 0 0 && Nat.ble ((n + 1) * bytes) 140737488355328) = true := by
  simp only [Nat.beq_refl, Bool.and_true, Bool.true_and]
  exact Nat.ble_eq_true_of_le hb
 rw [hc, Q1l0 hs hle]
 have hl : (rows.take n ++ [r]).length = n + 1 := by
  rw [List.length_append, List.length_take]
  simp
  omega
 rw [hl]
 simp
theorem Q15a {l : List (List PV)} {k : Nat} {r : List PV} (h : l[k]? = some r) : l = l.set k r := by
  apply List.ext_getElem?
  intro i
  rw [List.getElem?_set]
  by_cases e : k = i
  · subst e
    rw [if_pos rfl, h, if_pos (List.getElem?_eq_some_iff.1 h).1]
  · rw [if_neg e]
end Go.Pv
end

section
/- What copying dV computes (printed by a program). -/
namespace Go.Proofs.YtimjjohlpnkacaaGreat
open Go.Pv
def Q208 (p0 : Val) : Val := p0
def Q18j (p0 : Val) : List Val → Nat → Unit
 | [], _i0 =>
  ()
 | _x0 :: r0, i0 =>
  Q18j p0 r0 (i0 + 1)
def Q1g2 (p0 : Val) (i0 : Nat) : List PV :=
  [.un, .bx 0 0, .bx 1 0] ++ nuns 9 ++ [.ms 2 5 0 (List.length p0.list), iN ((List.length p0.list) : Int), iN (i0 : Int)] ++ nuns 33
abbrev eB : ByteArray := ⟨#[]⟩
def Q107 (p0 : Val) (_i0 : Nat) : List Ob :=
  [⟨5, 0, true, [iN p0.kind, iN p0.n, .str p0.s, .ms 2 5 0 (List.length p0.list), .sl (Fld.rows p0.fields)]⟩, ⟨5, 0, true, [iN 0, iN 0, .str eB, .ms 3 5 0 0, .ms 4 6 0 0]⟩, ⟨5, 0, true, (Val.rows p0.list).flatten⟩, ⟨5, 0, true, []⟩, ⟨6, 0, true, []⟩]
def Qhs (p0 : Val) (i0 : Nat) : En := .loop 0 Ir.Qlw Ir.Q1oh (Q1g2 p0 i0) (Q107 p0 i0)
def Qt2 (p0 : Val) (z : Nat → PV) (_zo : Nat → List PV) : St :=
  ⟨[z 0, .bx 0 0, .bx 1 0] ++ zr z 3 45, [(0, ⟨5, 0, true, [iN p0.kind, iN p0.n, .str p0.s, .ms 2 5 0 (List.length p0.list), .sl (Fld.rows p0.fields)]⟩), (1, ⟨5, 0, true, [iN 0, iN 0, .str eB, .ms 3 5 0 0, .ms 4 6 0 0]⟩), (2, ⟨5, 0, true, (Val.rows p0.list).flatten⟩), (3, ⟨5, 0, true, []⟩), (4, ⟨6, 0, true, []⟩)], 69⟩
theorem Q16l (p0 : Val) (i0 : Nat) : VOK (Go.Pv.look (number 0 (Q107 p0 i0))) [(2, Val.rows p0.list)] := (VOK.cons (show Seen _ _ from Q4a (ob := ⟨5, 0, true, (Val.rows p0.list).flatten⟩) (Val.Q8 p0.list 5 rfl)) VOK.nil)
def Qc3 (p0 : Val) (e : En) (_q : Unit) : Prop := ∃ z zo, Q0 G e (.st (.exit 0) (Qt2 p0 z zo))
theorem Qxg (p0 : Val) {e e' : En} (h : ∀ r, Q0 G e r → Q0 G e' r) : ∀ q, Qc3 p0 e q → Qc3 p0 e' q
  | _, ⟨z, zo, hz⟩ => ⟨z, zo, h _ hz⟩
def Q18k (p0 : Val) : List Fld → Nat → Unit
 | [], _i1 =>
  ()
 | _x1 :: r1, i1 =>
  Q18k p0 r1 (i1 + 1)
def Q1g3 (p0 : Val) (i1 : Nat) : List PV :=
  [.un, .bx 0 0, .bx 1 0] ++ nuns 28 ++ [.ms 2 6 0 (List.length p0.fields), iN ((List.length p0.fields) : Int), iN (i1 : Int)] ++ nuns 14
def Q108 (p0 : Val) (_i1 : Nat) : List Ob :=
  [⟨5, 0, true, [iN p0.kind, iN p0.n, .str p0.s, .ms 3 5 0 (List.length p0.list), .ms 2 6 0 (List.length p0.fields)]⟩, ⟨5, 0, true, [iN 0, iN 0, .str eB, .ms 4 5 0 0, .ms 5 6 0 0]⟩, ⟨6, 0, true, (Fld.rows p0.fields).flatten⟩, ⟨5, 0, true, (Val.rows p0.list).flatten⟩, ⟨5, 0, true, []⟩, ⟨6, 0, true, []⟩]
def Qht (p0 : Val) (i1 : Nat) : En := .loop 0 Ir.Qlx Ir.Q1oi (Q1g3 p0 i1) (Q108 p0 i1)
def Qt3 (p0 : Val) (z : Nat → PV) (_zo : Nat → List PV) : St :=
  ⟨[z 0, .bx 0 0, .bx 1 0] ++ zr z 3 45, [(0, ⟨5, 0, true, [iN p0.kind, iN p0.n, .str p0.s, .ms 3 5 0 (List.length p0.list), .ms 2 6 0 (List.length p0.fields)]⟩), (1, ⟨5, 0, true, [iN 0, iN 0, .str eB, .ms 4 5 0 0, .ms 5 6 0 0]⟩), (2, ⟨6, 0, true, (Fld.rows p0.fields).flatten⟩), (3, ⟨5, 0, true, (Val.rows p0.list).flatten⟩), (4, ⟨5, 0, true, []⟩), (5, ⟨6, 0, true, []⟩)], 70⟩
theorem Q16m (p0 : Val) (i1 : Nat) : VOK (Go.Pv.look (number 0 (Q108 p0 i1))) [(2, Fld.rows p0.fields), (3, Val.rows p0.list)] := (VOK.cons (show Seen _ _ from Q4a (ob := ⟨6, 0, true, (Fld.rows p0.fields).flatten⟩) (Fld.Q8 p0.fields 6 rfl)) (VOK.cons (show Seen _ _ from Q4a (ob := ⟨5, 0, true, (Val.rows p0.list).flatten⟩) (Val.Q8 p0.list 5 rfl)) VOK.nil))
def Qc4 (p0 : Val) (e : En) (_q : Unit) : Prop := ∃ z zo, Q0 G e (.st (.exit 2) (Qt3 p0 z zo))
theorem Qxh (p0 : Val) {e e' : En} (h : ∀ r, Q0 G e r → Q0 G e' r) : ∀ q, Qc4 p0 e q → Qc4 p0 e' q
  | _, ⟨z, zo, hz⟩ => ⟨z, zo, h _ hz⟩
theorem Q2c8 (p0 : Val) : Q208 p0 = (p0) := by
  rfl
def Q1l8 (p0 : Val) : En := .call 189 [.agg (Val.cells p0)] []
def Q1h5 (p0 : Val) : Rs := .ret (.agg (Val.cells (Q208 p0))) []
abbrev Q10l (p0 : Val) : Prop := Val.Sm 1000000000 p0
def Qd1 (p0 : Val) : Prop := ∀ (q : Val), SizeOf.sizeOf q < SizeOf.sizeOf p0 → Q10l q → Q0 G (Q1l8 q) (Q1h5 q)
def Qin (p0 : Val) : Prop := (List.length p0.list ≤ 4611686018427387904) ∧ (∀ x0 ∈ p0.list, Q10l x0) ∧ True
def Qio (p0 : Val) : Prop := (List.length p0.fields ≤ 4611686018427387904) ∧ (∀ x1 ∈ p0.fields, Q10l x1.v) ∧ True
theorem Qk0 (p0 : Val) (H : Q10l p0) : (List.length p0.list * 80 ≤ 140737488355328) ∧ (Qin p0) ∧ (List.length p0.fields * 96 ≤ 140737488355328) ∧ (Qio p0) ∧ True := by
  obtain ⟨h1, h2, h3, h4⟩ := H.all
  exact ⟨by omega, ⟨by omega, h3, trivial⟩, by omega, ⟨by omega, h4, trivial⟩, trivial⟩
def Qv4 (p0 : Val) (i0 : Nat) : List PV :=
  nuns 12 ++ [.ms 2 5 0 (List.length p0.list), iN ((List.length p0.list) : Int), iN (i0 : Int), .bool false]
def Qns (_p0 : Val) (_i0 : Nat) : List (Nat × List PV) :=
  []
theorem Q1ei (p0 : Val) (_H : Qin p0) (_rec : Qd1 p0) (i0 : Nat) (bC : (decide ((i0 : Int) < ((List.length p0.list) : Int))) = false) : Qc3 p0 (Qhs p0 i0) () := by
 exact ⟨(envF (Qv4 p0 i0)), (zoF (Qns p0 i0)), Qh (Q16l p0 i0) (x := ((.exit 0), Qt2 p0 (envF (Qv4 p0 i0)) (zoF (Qns p0 i0)))) [hB 0 bC] [] (by kernel_rfl)⟩
theorem Q1c8 (p0 : Val) (H : Qin p0) (rec : Qd1 p0) (x0 : Val) (i0 : Nat) (bF : p0.list[i0]? = some x0) (bR : i0 < List.length p0.list) (bC : (decide ((i0 : Int) < ((List.length p0.list) : Int))) = true) {r : Rs} (hr : Q0 G (Qhs p0 (i0 + 1)) r) : Q0 G (Qhs p0 i0) r := by
 have hB0 := H.1
 exact Qc (Q16l p0 i0) [hB 0 bC, hP 1 (Qb4 2 5 (List.length p0.list) (i0 : Int) i0 (by omega) (by omega) (by omega)), hP 0 (Q1hw 2 5 0 true ((Val.rows p0.list).flatten) (Val.rows p0.list) 5 true i0 0 (i0 * 5) (Val.cells x0) (.agg [iN x0.kind, iN x0.n, .str x0.s, .sl (Val.rows x0.list), .sl (Fld.rows x0.fields)]) rfl rfl (Val.Qb bF) (Val.Qw p0.list) (by decide) rfl), hP 8 (Qb4 2 5 (List.length p0.list) (i0 : Int) i0 (by omega) (by omega) (by omega)), hV 0 [(2, Val.rows p0.list)] (Q1cs 2 5 true ((Val.rows p0.list).flatten) (Val.rows p0.list) (Val.rows p0.list) 5 i0 0 (i0 * 5) _ (.agg [iN x0.kind, iN x0.n, .str x0.s, .sl (Val.rows x0.list), .sl (Fld.rows x0.fields)]) rfl rfl (Val.Qb bF) (Val.Qw p0.list) (by decide) rfl rfl (Q15a (Val.Qb bF))), hS 0 true (Val.Q8 p0.list 5 rfl), hP 0 (Q26 i0 (by omega))] [aN (rec x0 (szL bF) (H.2.1 x0 (Q1i bF)))] hr (by kernel_rfl)
theorem Q130 (p0 : Val) (H : Qin p0) (rec : Qd1 p0) : ∀ (r0 : List Val) (i0 : Nat), List.drop i0 p0.list = r0 → Qc3 p0 (Qhs p0 i0) (Q18j p0 r0 i0)
 | [], i0, hd => by
  have bC : (decide ((i0 : Int) < ((List.length p0.list) : Int))) = false := by have := Q1o hd; simp; omega
  show Qc3 p0 _ ()
  exact Q1ei p0 H rec i0 bC
 | x0 :: r0, i0, hd => by
  obtain ⟨bF, bR, hd'⟩ := Q1p hd
  have bC : (decide ((i0 : Int) < ((List.length p0.list) : Int))) = true := by simp; omega
  show Qc3 p0 _ ()
  exact Qxg p0 (fun r hr => Q1c8 p0 H rec x0 i0 bF bR bC hr) _ (Q130 p0 H rec r0 _ hd')
def Qv5 (p0 : Val) (i1 : Nat) : List PV :=
  nuns 31 ++ [.ms 2 6 0 (List.length p0.fields), iN ((List.length p0.fields) : Int), iN (i1 : Int), .bool false]
def Qnt (_p0 : Val) (_i1 : Nat) : List (Nat × List PV) :=
  []
theorem Q1ej (p0 : Val) (_H : Qio p0) (_rec : Qd1 p0) (i1 : Nat) (hc1 : (decide ((i1 : Int) < ((List.length p0.fields) : Int))) = false) : Qc4 p0 (Qht p0 i1) () := by
 exact ⟨(envF (Qv5 p0 i1)), (zoF (Qnt p0 i1)), Qh (Q16m p0 i1) (x := ((.exit 2), Qt3 p0 (envF (Qv5 p0 i1)) (zoF (Qnt p0 i1)))) [hB 0 hc1] [] (by kernel_rfl)⟩
theorem Q1c9 (p0 : Val) (H : Qio p0) (rec : Qd1 p0) (x1 : Fld) (i1 : Nat) (fQ : p0.fields[i1]? = some x1) (iJ : i1 < List.length p0.fields) (hc1 : (decide ((i1 : Int) < ((List.length p0.fields) : Int))) = true) {r : Rs} (hr : Q0 G (Qht p0 (i1 + 1)) r) : Q0 G (Qht p0 i1) r := by
 have hB0 := H.1
 exact Qc (Q16m p0 i1) [hB 0 hc1, hP 1 (Qb4 2 6 (List.length p0.fields) (i1 : Int) i1 (by omega) (by omega) (by omega)), hP 0 (Q1hw 2 6 0 true ((Fld.rows p0.fields).flatten) (Fld.rows p0.fields) 6 true i1 0 (i1 * 6) (Fld.cells x1) (.agg [.str x1.name, iN x1.v.kind, iN x1.v.n, .str x1.v.s, .sl (Val.rows x1.v.list), .sl (Fld.rows x1.v.fields)]) rfl rfl (Fld.Qb fQ) (Fld.Qw p0.fields) (by decide) rfl), hP 9 (Qb4 2 6 (List.length p0.fields) (i1 : Int) i1 (by omega) (by omega) (by omega)), hV 1 [(2, Fld.rows p0.fields)] (Q1cs 2 6 true ((Fld.rows p0.fields).flatten) (Fld.rows p0.fields) (Fld.rows p0.fields) 5 i1 1 (i1 * 6 + 1) _ (.agg [iN x1.v.kind, iN x1.v.n, .str x1.v.s, .sl (Val.rows x1.v.list), .sl (Fld.rows x1.v.fields)]) rfl rfl (Fld.Qb fQ) (Fld.Qw p0.fields) (by decide) rfl rfl (Q15a (Fld.Qb fQ))), hS 0 true (Fld.Q8 p0.fields 6 rfl), hP 0 (Q26 i1 (by omega))] [aN (rec x1.v (szF fQ) (H.2.1 x1 (Q1i fQ)))] hr (by kernel_rfl)
theorem Q131 (p0 : Val) (H : Qio p0) (rec : Qd1 p0) : ∀ (r1 : List Fld) (i1 : Nat), List.drop i1 p0.fields = r1 → Qc4 p0 (Qht p0 i1) (Q18k p0 r1 i1)
 | [], i1, hd => by
  have hc1 : (decide ((i1 : Int) < ((List.length p0.fields) : Int))) = false := by have := Q1o hd; simp; omega
  show Qc4 p0 _ ()
  exact Q1ej p0 H rec i1 hc1
 | x1 :: r1, i1, hd => by
  obtain ⟨fQ, iJ, hd'⟩ := Q1p hd
  have hc1 : (decide ((i1 : Int) < ((List.length p0.fields) : Int))) = true := by simp; omega
  show Qc4 p0 _ ()
  exact Qxh p0 (fun r hr => Q1c9 p0 H rec x1 i1 fQ iJ hc1 hr) _ (Q131 p0 H rec r1 _ hd')
theorem Q2dp (p0 : Val) (H : Q10l p0) (rec : Qd1 p0) : Q0 G (Q1l8 p0) (Q1h5 p0) := by
  unfold Q1h5
  rw [Q2c8]
  have hl0 := Q130 p0 ((Qk0 p0 H).2.1) rec p0.list 0 (by simp)
  obtain ⟨z0, fA, hl0⟩ := hl0
  have hl1 := Q131 p0 ((Qk0 p0 H).2.2.2.1) rec p0.fields 0 (by simp)
  obtain ⟨z1, jd, hl1⟩ := hl1
  exact Q7 (fn := Ir.K53) (by kernel_rfl) VOK.nil [hQ (Val.Q8 p0.list 5 rfl), hS 0 true (Val.Q8 p0.list 5 rfl), hQ (Fld.Q8 p0.fields 6 rfl), hS 0 true (Fld.Q8 p0.fields 6 rfl), hS 0 true (Val.Q8 p0.list 5 rfl), hQ (Val.Q5 p0.list).symm, hQ (Fld.Q5 p0.fields).symm] [aV [(0, Val.rows p0.list)] (Qde (G := G) (f := 222) (sz := 5) (bytes := 80) rfl (Val.Q5 p0.list) (Val.Q8 p0.list 5 rfl) (Qk0 p0 H).1), aV [(2, Val.rows p0.list)] hl0, aV [(0, Fld.rows p0.fields)] (Qde (G := G) (f := 185) (sz := 6) (bytes := 96) rfl (Fld.Q5 p0.fields) (Fld.Q8 p0.fields 6 rfl) (Qk0 p0 H).2.2.1), aV [(2, Fld.rows p0.fields), (3, Val.rows p0.list)] hl1] (by kernel_rfl)
theorem Q1zq : ∀ (k : Nat) (p0 : Val), SizeOf.sizeOf p0 < k → Q10l p0 → Q0 G (Q1l8 p0) (Q1h5 p0)
  | 0, _, h, _ => absurd h (Nat.not_lt_zero _)
  | k + 1, p0, h, H => Q2dp p0 H (fun q hq hH => Q1zq k q (by omega) hH)
theorem Q2g0 (p0 : Val) (H : Q10l p0) : Q0 G (Q1l8 p0) (Q1h5 p0) := Q1zq _ p0 (Nat.lt_succ_self _) H
inductive Q15x where
  | k0
  | k1 (q0 : Val)
def Q97 (p0 : Val) (p1 : BA) : List Fld → Nat → Q15x
 | [], _i0 =>
  (.k0)
 | x0 :: r0, i0 =>
  bif (sEq x0.name p1) then
   (.k1 x0.v)
  else
   Q97 p0 p1 r0 (i0 + 1)
def Q1g1 (p0 : Val) (p1 : BA) (i0 : Nat) : List PV :=
  [.un, .str p1, .un, .un, .bx 0 0] ++ nuns 7 ++ [.sl (Fld.rows p0.fields), iN ((List.length p0.fields) : Int), iN (i0 : Int)] ++ nuns 12
def Q1gn (_p0 : Val) (_p1 : BA) (_i0 : Nat) : List Ob :=
  [⟨5, 0, true, [iN 0, iN 0, .str eB, .ms 1 5 0 0, .ms 2 6 0 0]⟩, ⟨5, 0, true, []⟩, ⟨6, 0, true, []⟩]
def Qdq (p0 : Val) (p1 : BA) (i0 : Nat) : En := .loop 0 Ir.Qlv Ir.Q1og (Q1g1 p0 p1 i0) (Q1gn p0 p1 i0)
def Qt0 (_p0 : Val) (_p1 : BA) (z : Nat → PV) (_zo : Nat → List PV) : St :=
  ⟨[z 0, z 1, z 2, z 3, .bx 0 0] ++ zr z 5 22, [(0, ⟨5, 0, true, [iN 0, iN 0, .str eB, .ms 1 5 0 0, .ms 2 6 0 0]⟩), (1, ⟨5, 0, true, []⟩), (2, ⟨6, 0, true, []⟩)], 67⟩
def Qt1 (_p0 : Val) (_p1 : BA) (q0 : Val) (z : Nat → PV) (zo : Nat → List PV) : St :=
  ⟨[z 0, z 1, z 2, z 3, .bx 0 0, .bool true] ++ zr z 6 21, [(0, ⟨5, 0, true, (Val.cells q0)⟩), (1, ⟨5, 0, true, zo 1⟩), (2, ⟨6, 0, true, zo 2⟩), (195, ⟨6, 0, true, zo 195⟩)], 899⟩
def Qen (p0 : Val) (p1 : BA) (e : En) : Q15x → Prop
  | .k0 => ∃ z zo, Q0 G e (.st (.exit 0) (Qt0 p0 p1 z zo))
  | .k1 q0 => ∃ z zo, Q0 G e (.st .ret (Qt1 p0 p1 q0 z zo))
theorem Qxf (p0 : Val) (p1 : BA) {e e' : En} (h : ∀ r, Q0 G e r → Q0 G e' r) : ∀ q, Qen p0 p1 e q → Qen p0 p1 e' q
  | .k0, ⟨z, zo, hz⟩ => ⟨z, zo, h _ hz⟩
  | .k1 _, ⟨z, zo, hz⟩ => ⟨z, zo, h _ hz⟩
def Qe2 (p0 : Val) (_p1 : BA) : Prop := (List.length p0.fields ≤ 4611686018427387904) ∧ (∀ x0 ∈ p0.fields, Q10l x0.v) ∧ True
def Qv2 (p0 : Val) (p1 : BA) (i0 : Nat) : List PV :=
  [.un, .str p1] ++ nuns 10 ++ [.sl (Fld.rows p0.fields), iN ((List.length p0.fields) : Int), iN (i0 : Int), .bool false]
def Qnq (_p0 : Val) (_p1 : BA) (_i0 : Nat) : List (Nat × List PV) :=
  []
theorem Q1eg (p0 : Val) (p1 : BA) (_H : Qe2 p0 p1) (i0 : Nat) (bC : (decide ((i0 : Int) < ((List.length p0.fields) : Int))) = false) : Qen p0 p1 (Qdq p0 p1 i0) (.k0) := by
 exact ⟨(envF (Qv2 p0 p1 i0)), (zoF (Qnq p0 p1 i0)), Qh VOK.nil (x := ((.exit 0), Qt0 p0 p1 (envF (Qv2 p0 p1 i0)) (zoF (Qnq p0 p1 i0)))) [hB 0 bC] [] (by kernel_rfl)⟩
def Qv3 (p0 : Val) (p1 : BA) (i0 : Nat) (x0 : Fld) : List PV :=
  [.un, .str p1] ++ nuns 5 ++ [.bx 195 0, .un, .un, .un, .un, .sl (Fld.rows p0.fields), iN ((List.length p0.fields) : Int), iN (i0 : Int), .bool true, .rf [.str x0.name, iN x0.v.kind, iN x0.v.n, .str x0.v.s, .sl (Val.rows x0.v.list), .sl (Fld.rows x0.v.fields)], .agg [.str x0.name, iN x0.v.kind, iN x0.v.n, .str x0.v.s, .sl (Val.rows x0.v.list), .sl (Fld.rows x0.v.fields)], .bx 195 0, .str x0.name, .str p1, .bool true, .bx 195 1, .agg [iN x0.v.kind, iN x0.v.n, .str x0.v.s, .sl (Val.rows x0.v.list), .sl (Fld.rows x0.v.fields)], .agg [iN x0.v.kind, iN x0.v.n, .str x0.v.s, .sl (Val.rows x0.v.list), .sl (Fld.rows x0.v.fields)]]
def Qnr (_p0 : Val) (_p1 : BA) (_i0 : Nat) (x0 : Fld) : List (Nat × List PV) :=
  [(1, []), (2, []), (195, (Fld.cells x0))]
theorem Q1eh (p0 : Val) (p1 : BA) (H : Qe2 p0 p1) (x0 : Fld) (i0 : Nat) (bF : p0.fields[i0]? = some x0) (_bR : i0 < List.length p0.fields) (bC : (decide ((i0 : Int) < ((List.length p0.fields) : Int))) = true) (h0 : (sEq x0.name p1) = true) : Qen p0 p1 (Qdq p0 p1 i0) (.k1 x0.v) := by
 exact ⟨(envF (Qv3 p0 p1 i0 x0)), (zoF (Qnr p0 p1 i0 x0)), Qh VOK.nil (x := (.ret, Qt1 p0 p1 x0.v (envF (Qv3 p0 p1 i0 x0)) (zoF (Qnr p0 p1 i0 x0)))) [hB 0 bC, hP 0 (Q1l 6 _ i0 _ (Fld.Qb bF) rfl), hB 6 h0] [aN (Q2g0 x0.v (H.2.1 x0 (Q1i bF)))] (by kernel_rfl)⟩
theorem Q1c7 (p0 : Val) (p1 : BA) (H : Qe2 p0 p1) (x0 : Fld) (i0 : Nat) (bF : p0.fields[i0]? = some x0) (bR : i0 < List.length p0.fields) (bC : (decide ((i0 : Int) < ((List.length p0.fields) : Int))) = true) (h0 : (sEq x0.name p1) = false) {r : Rs} (hr : Q0 G (Qdq p0 p1 (i0 + 1)) r) : Q0 G (Qdq p0 p1 i0) r := by
 have hB0 := H.1
 exact Qc VOK.nil [hB 0 bC, hP 0 (Q1l 6 _ i0 _ (Fld.Qb bF) rfl), hB 6 h0, hP 0 (Q26 i0 (by omega))] [] hr (by kernel_rfl)
theorem Q12z (p0 : Val) (p1 : BA) (H : Qe2 p0 p1) : ∀ (r0 : List Fld) (i0 : Nat), List.drop i0 p0.fields = r0 → Qen p0 p1 (Qdq p0 p1 i0) (Q97 p0 p1 r0 i0)
 | [], i0, hd => by
  have bC : (decide ((i0 : Int) < ((List.length p0.fields) : Int))) = false := by have := Q1o hd; simp; omega
  rw [Q97]
  exact Q1eg p0 p1 H i0 bC
 | x0 :: r0, i0, hd => by
  obtain ⟨bF, bR, hd'⟩ := Q1p hd
  have bC : (decide ((i0 : Int) < ((List.length p0.fields) : Int))) = true := by simp; omega
  rw [Q97]
  cases h0 : (sEq x0.name p1) with
  | true =>
   exact Q1eh p0 p1 H x0 i0 bF bR bC h0
  | false =>
   exact Qxf p0 p1 (fun r hr => Q1c7 p0 p1 H x0 i0 bF bR bC h0 hr) _ (Q12z p0 p1 H r0 _ hd')
def Qpw (p0 : Val) (p1 : BA) : Val × Bool :=
 bif (p0.kind == 5) then
  (match (Q97 p0 p1 p0.fields 0) with
  | .k0 => ((Val.mk 0 0 eB [] []), false)
  | .k1 ji => (ji, true))
 else
  ((Val.mk 0 0 eB [] []), false)
def Q295 (p0 : Val) (p1 : BA) : En := .call 184 [.agg (Val.cells p0), .str p1] []
def Q1yd (p0 : Val) (p1 : BA) : Rs := .ret (.tup [.agg (Val.cells (Qpw p0 p1).1), .bool (Qpw p0 p1).2]) []
def Q1kq (p0 : Val) (p1 : BA) : Prop := (Qe2 p0 p1) ∧ True
theorem Q1n5 (p0 : Val) (p1 : BA) (H : Q1kq p0 p1) : Q0 G (Q295 p0 p1) (Q1yd p0 p1) := by
 unfold Q1yd Qpw
 cases h0 : (p0.kind == 5) with
 | true =>
  have hl1 := Q12z p0 p1 (H.1) p0.fields 0 (by simp)
  cases hr1 : (Q97 p0 p1 p0.fields 0) with
  | k0 =>
   rw [hr1] at hl1
   obtain ⟨z1, jd, hl1⟩ := hl1
   exact Q7 (fn := Ir.K4x) (by kernel_rfl) VOK.nil [hB 5 h0, hP 2 (Qs _ _ (Fld.Q5 p0.fields))] [aN hl1] (by kernel_rfl)
  | k1 ji =>
   rw [hr1] at hl1
   obtain ⟨z1, jd, hl1⟩ := hl1
   exact Q7 (fn := Ir.K4x) (by kernel_rfl) VOK.nil [hB 5 h0, hP 2 (Qs _ _ (Fld.Q5 p0.fields))] [aN hl1] (by kernel_rfl)
 | false =>
  exact Q7 (fn := Ir.K4x) (by kernel_rfl) VOK.nil [hB 5 h0] [] (by kernel_rfl)
end Go.Proofs.YtimjjohlpnkacaaGreat
end

section
/- What building a map computes (printed by a program). -/
namespace Go.Proofs.YtimjjohlpnkacaaGreat
open Go.Pv
end Go.Proofs.YtimjjohlpnkacaaGreat
end

section
/- Maps of at most 20 fields, fields of a name and equality in plain words. -/
namespace Go.Proofs.YtimjjohlpnkacaaGreat
open Go.Pv Go.Pv.Srt
theorem vind {P : Val → Prop} (h : ∀ v : Val, (∀ x ∈ v.list, P x) → (∀ f ∈ v.fields, P f.v) → P v) : ∀ v, P v := by
  have key : ∀ (k : Nat) (v : Val), SizeOf.sizeOf v < k → P v := by
    intro k
    induction k with
    | zero => intro v hv; exact absurd hv (Nat.not_lt_zero _)
    | succ k ih => intro v hv; exact h v (fun x hx => ih x (by have := szM hx; omega)) (fun f hf => ih f.v (by have := szN hf; omega))
  exact fun v => key _ v (Nat.lt_succ_self _)
theorem vprt (v : Val) (n : BA) : (Qpw v n).1 = prt v n := by
  unfold Qpw prt
  cases v.kind == 5 with
  | false => rfl
  | true =>
    simp only [cond_true]
    have : ∀ (l : List Fld) (i : Nat), (match Q97 v n l i with | .k0 => (Val.mk 0 0 ⟨#[]⟩ [] [], false) | .k1 y => (y, true)).1 = Q120 n l := by
      intro l
      induction l with
      | nil => intro i; rfl
      | cons x l ih =>
        intro i
        rw [Q97, Q120]
        cases sEq x.name n with
        | true => rfl
        | false => exact ih (i + 1)
    exact this _ _
theorem Q1ve {v : Val} (h : Val.Sm sB v) (n : BA) : Q1kq v n := ⟨⟨Nat.le_trans h.all.2.1 (Nat.le_of_ble_eq_true rfl), h.all.2.2.2, trivial⟩, trivial⟩
end Go.Proofs.YtimjjohlpnkacaaGreat
end

section
/- Structures and kinds of objects as dV, in plain words (printed by a program). -/
namespace Go.Proofs.YtimjjohlpnkacaaGreat
open Go.Pv
structure au where
  key : ByteArray
  op : Int
  dV : List ByteArray
def au.cells (x : au) : List PV :=
  [.str x.key, iN x.op, .sl (Q15 x.dV)]
def au.rows (l : List au) : List (List PV) := l.map au.cells
theorem au.Q5 (l : List au) : (au.rows l).length = l.length := by simp [au.rows]
theorem au.Qb {l : List au} {i : Nat} {x : au} (h : l[i]? = some x) : (au.rows l)[i]? = some (au.cells x) := Go.Pv.Qb h
theorem au.Q1n (l : List au) (x : au) : au.rows (l ++ [x]) = au.rows l ++ [au.cells x] := by simp [au.rows]
theorem au.Qw (l : List au) : ∀ r ∈ au.rows l, r.length = 3 := Q5j (f := au.cells) (fun _ => rfl) l
theorem au.Q8 (l : List au) (sz : Nat) (h : sz = 3) : ViewOK sz (au.rows l).flatten (au.rows l) := by subst h; exact ⟨rfl, au.Qw l, Q4u (f := au.cells) (fun _ => rfl) l⟩
structure aU where
  key : ByteArray
  value : ByteArray
def aU.cells (x : aU) : List PV :=
  [.str x.key, .str x.value]
def aU.rows (l : List aU) : List (List PV) := l.map aU.cells
theorem aU.Q5 (l : List aU) : (aU.rows l).length = l.length := by simp [aU.rows]
theorem aU.Qb {l : List aU} {i : Nat} {x : aU} (h : l[i]? = some x) : (aU.rows l)[i]? = some (aU.cells x) := Go.Pv.Qb h
theorem aU.Q1n (l : List aU) (x : aU) : aU.rows (l ++ [x]) = aU.rows l ++ [aU.cells x] := by simp [aU.rows]
theorem aU.Qw (l : List aU) : ∀ r ∈ aU.rows l, r.length = 2 := Q5j (f := aU.cells) (fun _ => rfl) l
theorem aU.Q8 (l : List aU) (sz : Nat) (h : sz = 2) : ViewOK sz (aU.rows l).flatten (aU.rows l) := by subst h; exact ⟨rfl, aU.Qw l, Q4u (f := aU.cells) (fun _ => rfl) l⟩
structure bq where
  iU : Int
  fE : Int
  iI : Int
def bq.cells (x : bq) : List PV :=
  [iN x.iU, iN x.fE, iN x.iI]
def bq.rows (l : List bq) : List (List PV) := l.map bq.cells
structure bg where
  gW : Int
  eH : Int
  fM : Int
  fI : Int
def bg.cells (x : bg) : List PV :=
  [iN x.gW, iN x.eH, iN x.fM, iN x.fI]
def bg.rows (l : List bg) : List (List PV) := l.map bg.cells
theorem bg.Q5 (l : List bg) : (bg.rows l).length = l.length := by simp [bg.rows]
theorem bg.Qb {l : List bg} {i : Nat} {x : bg} (h : l[i]? = some x) : (bg.rows l)[i]? = some (bg.cells x) := Go.Pv.Qb h
theorem bg.Q1n (l : List bg) (x : bg) : bg.rows (l ++ [x]) = bg.rows l ++ [bg.cells x] := by simp [bg.rows]
theorem bg.Qw (l : List bg) : ∀ r ∈ bg.rows l, r.length = 4 := Q5j (f := bg.cells) (fun _ => rfl) l
theorem bg.Q8 (l : List bg) (sz : Nat) (h : sz = 4) : ViewOK sz (bg.rows l).flatten (bg.rows l) := by subst h; exact ⟨rfl, bg.Qw l, Q4u (f := bg.cells) (fun _ => rfl) l⟩
structure aH where
  name : ByteArray
  gX : ByteArray
  eO : bq
  gG : bq
  live : List bg
  ready : List bg
  eY : List bg
def aH.cells (x : aH) : List PV :=
  [.str x.name, .str x.gX, iN x.eO.iU, iN x.eO.fE, iN x.eO.iI, iN x.gG.iU, iN x.gG.fE, iN x.gG.iI, .sl (bg.rows x.live), .sl (bg.rows x.ready), .sl (bg.rows x.eY)]
def aH.rows (l : List aH) : List (List PV) := l.map aH.cells
theorem aH.Q5 (l : List aH) : (aH.rows l).length = l.length := by simp [aH.rows]
theorem aH.Qb {l : List aH} {i : Nat} {x : aH} (h : l[i]? = some x) : (aH.rows l)[i]? = some (aH.cells x) := Go.Pv.Qb h
theorem aH.Q1n (l : List aH) (x : aH) : aH.rows (l ++ [x]) = aH.rows l ++ [aH.cells x] := by simp [aH.rows]
theorem aH.Qw (l : List aH) : ∀ r ∈ aH.rows l, r.length = 11 := Q5j (f := aH.cells) (fun _ => rfl) l
theorem aH.Q8 (l : List aH) (sz : Nat) (h : sz = 11) : ViewOK sz (aH.rows l).flatten (aH.rows l) := by subst h; exact ⟨rfl, aH.Qw l, Q4u (f := aH.cells) (fun _ => rfl) l⟩
structure aK where
  bV : Bool
  bG : List au
  dW : Int
def aK.cells (x : aK) : List PV :=
  [.bool x.bV, .sl (au.rows x.bG), iN x.dW]
def aK.rows (l : List aK) : List (List PV) := l.map aK.cells
theorem aK.Q5 (l : List aK) : (aK.rows l).length = l.length := by simp [aK.rows]
theorem aK.Qb {l : List aK} {i : Nat} {x : aK} (h : l[i]? = some x) : (aK.rows l)[i]? = some (aK.cells x) := Go.Pv.Qb h
theorem aK.Q1n (l : List aK) (x : aK) : aK.rows (l ++ [x]) = aK.rows l ++ [aK.cells x] := by simp [aK.rows]
theorem aK.Qw (l : List aK) : ∀ r ∈ aK.rows l, r.length = 3 := Q5j (f := aK.cells) (fun _ => rfl) l
theorem aK.Q8 (l : List aK) (sz : Nat) (h : sz = 3) : ViewOK sz (aK.rows l).flatten (aK.rows l) := by subst h; exact ⟨rfl, aK.Qw l, Q4u (f := aK.cells) (fun _ => rfl) l⟩
structure aQ where
  bV : Bool
  iH : Bool
  bG : List au
  dw : ByteArray
  dW : Int
def aQ.cells (x : aQ) : List PV :=
  [.bool x.bV, .bool x.iH, .sl (au.rows x.bG), .str x.dw, iN x.dW]
def aQ.rows (l : List aQ) : List (List PV) := l.map aQ.cells
theorem aQ.Q5 (l : List aQ) : (aQ.rows l).length = l.length := by simp [aQ.rows]
theorem aQ.Qb {l : List aQ} {i : Nat} {x : aQ} (h : l[i]? = some x) : (aQ.rows l)[i]? = some (aQ.cells x) := Go.Pv.Qb h
theorem aQ.Q1n (l : List aQ) (x : aQ) : aQ.rows (l ++ [x]) = aQ.rows l ++ [aQ.cells x] := by simp [aQ.rows]
theorem aQ.Qw (l : List aQ) : ∀ r ∈ aQ.rows l, r.length = 5 := Q5j (f := aQ.cells) (fun _ => rfl) l
theorem aQ.Q8 (l : List aQ) (sz : Nat) (h : sz = 5) : ViewOK sz (aQ.rows l).flatten (aQ.rows l) := by subst h; exact ⟨rfl, aQ.Qw l, Q4u (f := aQ.cells) (fun _ => rfl) l⟩
structure aD where
  fJ : Int
  dw : ByteArray
  bG : List au
  bV : Bool
def aD.cells (x : aD) : List PV :=
  [iN x.fJ, .str x.dw, .sl (au.rows x.bG), .bool x.bV]
def aD.rows (l : List aD) : List (List PV) := l.map aD.cells
theorem aD.Q5 (l : List aD) : (aD.rows l).length = l.length := by simp [aD.rows]
theorem aD.Qb {l : List aD} {i : Nat} {x : aD} (h : l[i]? = some x) : (aD.rows l)[i]? = some (aD.cells x) := Go.Pv.Qb h
theorem aD.Q1n (l : List aD) (x : aD) : aD.rows (l ++ [x]) = aD.rows l ++ [aD.cells x] := by simp [aD.rows]
theorem aD.Qw (l : List aD) : ∀ r ∈ aD.rows l, r.length = 4 := Q5j (f := aD.cells) (fun _ => rfl) l
theorem aD.Q8 (l : List aD) (sz : Nat) (h : sz = 4) : ViewOK sz (aD.rows l).flatten (aD.rows l) := by subst h; exact ⟨rfl, aD.Qw l, Q4u (f := aD.cells) (fun _ => rfl) l⟩
structure aG where
  key : ByteArray
  value : ByteArray
  fH : Bool
  gq : Int
  fK : Int
def aG.cells (x : aG) : List PV :=
  [.str x.key, .str x.value, .bool x.fH, iN x.gq, iN x.fK]
def aG.rows (l : List aG) : List (List PV) := l.map aG.cells
theorem aG.Q5 (l : List aG) : (aG.rows l).length = l.length := by simp [aG.rows]
theorem aG.Qb {l : List aG} {i : Nat} {x : aG} (h : l[i]? = some x) : (aG.rows l)[i]? = some (aG.cells x) := Go.Pv.Qb h
theorem aG.Q1n (l : List aG) (x : aG) : aG.rows (l ++ [x]) = aG.rows l ++ [aG.cells x] := by simp [aG.rows]
theorem aG.Qw (l : List aG) : ∀ r ∈ aG.rows l, r.length = 5 := Q5j (f := aG.cells) (fun _ => rfl) l
theorem aG.Q8 (l : List aG) (sz : Nat) (h : sz = 5) : ViewOK sz (aG.rows l).flatten (aG.rows l) := by subst h; exact ⟨rfl, aG.Qw l, Q4u (f := aG.cells) (fun _ => rfl) l⟩
structure bn where
  ig : ByteArray
  dY : Int
  eP : Int
  gB : Int
  dx : List aH
  cu : List au
  dG : List aK
  dP : List aQ
  eZ : List aD
  cO : List aG
def bn.cells (x : bn) : List PV :=
  [.str x.ig, iN x.dY, iN x.eP, iN x.gB, .sl (aH.rows x.dx), .sl (au.rows x.cu), .sl (aK.rows x.dG), .sl (aQ.rows x.dP), .sl (aD.rows x.eZ), .sl (aG.rows x.cO)]
def bn.rows (l : List bn) : List (List PV) := l.map bn.cells
structure aY where
  bK : List aU
  aO : bn
def aY.cells (x : aY) : List PV :=
  [.sl (aU.rows x.bK), .str x.aO.ig, iN x.aO.dY, iN x.aO.eP, iN x.aO.gB, .sl (aH.rows x.aO.dx), .sl (au.rows x.aO.cu), .sl (aK.rows x.aO.dG), .sl (aQ.rows x.aO.dP), .sl (aD.rows x.aO.eZ), .sl (aG.rows x.aO.cO)]
def aY.rows (l : List aY) : List (List PV) := l.map aY.cells
structure aL where
  dM : Bool
  n : Int
def aL.cells (x : aL) : List PV :=
  [.bool x.dM, iN x.n]
def aL.rows (l : List aL) : List (List PV) := l.map aL.cells
theorem aL.Q5 (l : List aL) : (aL.rows l).length = l.length := by simp [aL.rows]
theorem aL.Qb {l : List aL} {i : Nat} {x : aL} (h : l[i]? = some x) : (aL.rows l)[i]? = some (aL.cells x) := Go.Pv.Qb h
theorem aL.Q1n (l : List aL) (x : aL) : aL.rows (l ++ [x]) = aL.rows l ++ [aL.cells x] := by simp [aL.rows]
theorem aL.Qw (l : List aL) : ∀ r ∈ aL.rows l, r.length = 2 := Q5j (f := aL.cells) (fun _ => rfl) l
theorem aL.Q8 (l : List aL) (sz : Nat) (h : sz = 2) : ViewOK sz (aL.rows l).flatten (aL.rows l) := by subst h; exact ⟨rfl, aL.Qw l, Q4u (f := aL.cells) (fun _ => rfl) l⟩
structure bf where
  dJ : Int
  bU : Int
  fO : Int
  ready : Int
  eF : Int
  eT : Int
  bD : Bool
def bf.cells (x : bf) : List PV :=
  [iN x.dJ, iN x.bU, iN x.fO, iN x.ready, iN x.eF, iN x.eT, .bool x.bD]
def bf.rows (l : List bf) : List (List PV) := l.map bf.cells
structure aX where
  name : ByteArray
  target : Int
def aX.cells (x : aX) : List PV :=
  [.str x.name, iN x.target]
def aX.rows (l : List aX) : List (List PV) := l.map aX.cells
theorem aX.Q5 (l : List aX) : (aX.rows l).length = l.length := by simp [aX.rows]
theorem aX.Qb {l : List aX} {i : Nat} {x : aX} (h : l[i]? = some x) : (aX.rows l)[i]? = some (aX.cells x) := Go.Pv.Qb h
theorem aX.Q1n (l : List aX) (x : aX) : aX.rows (l ++ [x]) = aX.rows l ++ [aX.cells x] := by simp [aX.rows]
theorem aX.Qw (l : List aX) : ∀ r ∈ aX.rows l, r.length = 2 := Q5j (f := aX.cells) (fun _ => rfl) l
theorem aX.Q8 (l : List aX) (sz : Nat) (h : sz = 2) : ViewOK sz (aX.rows l).flatten (aX.rows l) := by subst h; exact ⟨rfl, aX.Qw l, Q4u (f := aX.cells) (fun _ => rfl) l⟩
structure aZ where
  at_ : Int
  bU : Int
def aZ.cells (x : aZ) : List PV :=
  [iN x.at_, iN x.bU]
def aZ.rows (l : List aZ) : List (List PV) := l.map aZ.cells
theorem aZ.Q5 (l : List aZ) : (aZ.rows l).length = l.length := by simp [aZ.rows]
theorem aZ.Qb {l : List aZ} {i : Nat} {x : aZ} (h : l[i]? = some x) : (aZ.rows l)[i]? = some (aZ.cells x) := Go.Pv.Qb h
theorem aZ.Q1n (l : List aZ) (x : aZ) : aZ.rows (l ++ [x]) = aZ.rows l ++ [aZ.cells x] := by simp [aZ.rows]
theorem aZ.Qw (l : List aZ) : ∀ r ∈ aZ.rows l, r.length = 2 := Q5j (f := aZ.cells) (fun _ => rfl) l
theorem aZ.Q8 (l : List aZ) (sz : Nat) (h : sz = 2) : ViewOK sz (aZ.rows l).flatten (aZ.rows l) := by subst h; exact ⟨rfl, aZ.Qw l, Q4u (f := aZ.cells) (fun _ => rfl) l⟩
structure aR where
  key : ByteArray
  at_ : Int
def aR.cells (x : aR) : List PV :=
  [.str x.key, iN x.at_]
def aR.rows (l : List aR) : List (List PV) := l.map aR.cells
theorem aR.Q5 (l : List aR) : (aR.rows l).length = l.length := by simp [aR.rows]
theorem aR.Qb {l : List aR} {i : Nat} {x : aR} (h : l[i]? = some x) : (aR.rows l)[i]? = some (aR.cells x) := Go.Pv.Qb h
theorem aR.Q1n (l : List aR) (x : aR) : aR.rows (l ++ [x]) = aR.rows l ++ [aR.cells x] := by simp [aR.rows]
theorem aR.Qw (l : List aR) : ∀ r ∈ aR.rows l, r.length = 2 := Q5j (f := aR.cells) (fun _ => rfl) l
theorem aR.Q8 (l : List aR) (sz : Nat) (h : sz = 2) : ViewOK sz (aR.rows l).flatten (aR.rows l) := by subst h; exact ⟨rfl, aR.Qw l, Q4u (f := aR.cells) (fun _ => rfl) l⟩
structure bP where
  name : ByteArray
  jm : Int
  target : Int
def bP.cells (x : bP) : List PV :=
  [.str x.name, iN x.jm, iN x.target]
def bP.rows (l : List bP) : List (List PV) := l.map bP.cells
structure dH where
  jq : ByteArray
  ig : ByteArray
  iK : Int
  ready : Bool
  iM : Bool
def dH.cells (x : dH) : List PV :=
  [.str x.jq, .str x.ig, iN x.iK, .bool x.ready, .bool x.iM]
def dH.rows (l : List dH) : List (List PV) := l.map dH.cells
structure gu where
  bM : ByteArray
  bG : List au
def gu.cells (x : gu) : List PV :=
  [.str x.bM, .sl (au.rows x.bG)]
def gu.rows (l : List gu) : List (List PV) := l.map gu.cells
structure cB where
  iO : Bool
  jf : List gu
  iL : List Int
def cB.cells (x : cB) : List PV :=
  [.bool x.iO, .sl (gu.rows x.jf), .sl (Q43 x.iL)]
def cB.rows (l : List cB) : List (List PV) := l.map cB.cells
structure bS where
  kind : ByteArray
  name : ByteArray
  gY : Int
  gK : Bool
  block : Bool
def bS.cells (x : bS) : List PV :=
  [.str x.kind, .str x.name, iN x.gY, .bool x.gK, .bool x.block]
def bS.rows (l : List bS) : List (List PV) := l.map bS.cells
theorem bS.Q5 (l : List bS) : (bS.rows l).length = l.length := by simp [bS.rows]
theorem bS.Qb {l : List bS} {i : Nat} {x : bS} (h : l[i]? = some x) : (bS.rows l)[i]? = some (bS.cells x) := Go.Pv.Qb h
theorem bS.Qw (l : List bS) : ∀ r ∈ bS.rows l, r.length = 5 := Q5j (f := bS.cells) (fun _ => rfl) l
theorem bS.Q8 (l : List bS) (sz : Nat) (h : sz = 5) : ViewOK sz (bS.rows l).flatten (bS.rows l) := by subst h; exact ⟨rfl, bS.Qw l, Q4u (f := bS.cells) (fun _ => rfl) l⟩
structure bB where
  name : ByteArray
  fields : List ByteArray
def bB.cells (x : bB) : List PV :=
  [.str x.name, .sl (Q15 x.fields)]
def bB.rows (l : List bB) : List (List PV) := l.map bB.cells
theorem bB.Q5 (l : List bB) : (bB.rows l).length = l.length := by simp [bB.rows]
theorem bB.Qb {l : List bB} {i : Nat} {x : bB} (h : l[i]? = some x) : (bB.rows l)[i]? = some (bB.cells x) := Go.Pv.Qb h
theorem bB.Qw (l : List bB) : ∀ r ∈ bB.rows l, r.length = 2 := Q5j (f := bB.cells) (fun _ => rfl) l
theorem bB.Q8 (l : List bB) (sz : Nat) (h : sz = 2) : ViewOK sz (bB.rows l).flatten (bB.rows l) := by subst h; exact ⟨rfl, bB.Qw l, Q4u (f := bB.cells) (fun _ => rfl) l⟩
structure bJ where
  kind : ByteArray
  bM : ByteArray
  name : ByteArray
  gY : Int
  dn : Int
  bQ : Int
  cZ : Int
  bY : Bool
  bX : Int
  bK : List aU
  bO : List bS
  bI : List ByteArray
  aW : List bB
def bJ.cells (x : bJ) : List PV :=
  [.str x.kind, .str x.bM, .str x.name, iN x.gY, iN x.dn, iN x.bQ, iN x.cZ, .bool x.bY, iN x.bX, .sl (aU.rows x.bK), .sl (bS.rows x.bO), .sl (Q15 x.bI), .sl (bB.rows x.aW)]
def bJ.rows (l : List bJ) : List (List PV) := l.map bJ.cells
structure aA where
  aI : bJ
  aO : Val
  aM : Val
def aA.cells (x : aA) : List PV :=
  [.str x.aI.kind, .str x.aI.bM, .str x.aI.name, iN x.aI.gY, iN x.aI.dn, iN x.aI.bQ, iN x.aI.cZ, .bool x.aI.bY, iN x.aI.bX, .sl (aU.rows x.aI.bK), .sl (bS.rows x.aI.bO), .sl (Q15 x.aI.bI), .sl (bB.rows x.aI.aW), iN x.aO.kind, iN x.aO.n, .str x.aO.s, .sl (Val.rows x.aO.list), .sl (Fld.rows x.aO.fields), iN x.aM.kind, iN x.aM.n, .str x.aM.s, .sl (Val.rows x.aM.list), .sl (Fld.rows x.aM.fields)]
def aA.rows (l : List aA) : List (List PV) := l.map aA.cells
structure bW where
  aI : bJ
  d9 : Int
  dD : Int
  eX : Int
  dz : Int
  eU : Bool
  dh : Bool
  bA : aY
  gZ : Int
  fF : Int
  bD : Int
  started : Int
  fU : Int
  done : List Int
  iq : Int
def bW.cells (x : bW) : List PV :=
  [.str x.aI.kind, .str x.aI.bM, .str x.aI.name, iN x.aI.gY, iN x.aI.dn, iN x.aI.bQ, iN x.aI.cZ, .bool x.aI.bY, iN x.aI.bX, .sl (aU.rows x.aI.bK), .sl (bS.rows x.aI.bO), .sl (Q15 x.aI.bI), .sl (bB.rows x.aI.aW), iN x.d9, iN x.dD, iN x.eX, iN x.dz, .bool x.eU, .bool x.dh, .sl (aU.rows x.bA.bK), .str x.bA.aO.ig, iN x.bA.aO.dY, iN x.bA.aO.eP, iN x.bA.aO.gB, .sl (aH.rows x.bA.aO.dx), .sl (au.rows x.bA.aO.cu), .sl (aK.rows x.bA.aO.dG), .sl (aQ.rows x.bA.aO.dP), .sl (aD.rows x.bA.aO.eZ), .sl (aG.rows x.bA.aO.cO), iN x.gZ, iN x.fF, iN x.bD, iN x.started, iN x.fU, .sl (Q43 x.done), iN x.iq]
def bW.rows (l : List bW) : List (List PV) := l.map bW.cells
structure aJ where
  aI : bJ
  bU : Int
  eD : Int
  gV : Int
  dz : Int
  bG : List au
  bA : aY
  gH : Bool
  iy : Bool
  iD : aL
  dK : aL
  iQ : Int
  aM : bf
def aJ.cells (x : aJ) : List PV :=
  [.str x.aI.kind, .str x.aI.bM, .str x.aI.name, iN x.aI.gY, iN x.aI.dn, iN x.aI.bQ, iN x.aI.cZ, .bool x.aI.bY, iN x.aI.bX, .sl (aU.rows x.aI.bK), .sl (bS.rows x.aI.bO), .sl (Q15 x.aI.bI), .sl (bB.rows x.aI.aW), iN x.bU, iN x.eD, iN x.gV, iN x.dz, .sl (au.rows x.bG), .sl (aU.rows x.bA.bK), .str x.bA.aO.ig, iN x.bA.aO.dY, iN x.bA.aO.eP, iN x.bA.aO.gB, .sl (aH.rows x.bA.aO.dx), .sl (au.rows x.bA.aO.cu), .sl (aK.rows x.bA.aO.dG), .sl (aQ.rows x.bA.aO.dP), .sl (aD.rows x.bA.aO.eZ), .sl (aG.rows x.bA.aO.cO), .bool x.gH, .bool x.iy, .bool x.iD.dM, iN x.iD.n, .bool x.dK.dM, iN x.dK.n, iN x.iQ, iN x.aM.dJ, iN x.aM.bU, iN x.aM.fO, iN x.aM.ready, iN x.aM.eF, iN x.aM.eT, .bool x.aM.bD]
def aJ.rows (l : List aJ) : List (List PV) := l.map aJ.cells
structure aF where
  aI : bJ
  fG : ByteArray
  target : ByteArray
  min_ : Int
  max_ : Int
  dF : List aX
  fT : Int
  gJ : Int
  fD : Int
  gL : aL
  fP : aL
  eH : Int
  dQ : List aZ
  iB : Int
def aF.cells (x : aF) : List PV :=
  [.str x.aI.kind, .str x.aI.bM, .str x.aI.name, iN x.aI.gY, iN x.aI.dn, iN x.aI.bQ, iN x.aI.cZ, .bool x.aI.bY, iN x.aI.bX, .sl (aU.rows x.aI.bK), .sl (bS.rows x.aI.bO), .sl (Q15 x.aI.bI), .sl (bB.rows x.aI.aW), .str x.fG, .str x.target, iN x.min_, iN x.max_, .sl (aX.rows x.dF), iN x.fT, iN x.gJ, iN x.fD, .bool x.gL.dM, iN x.gL.n, .bool x.fP.dM, iN x.fP.n, iN x.eH, .sl (aZ.rows x.dQ), iN x.iB]
def aF.rows (l : List aF) : List (List PV) := l.map aF.cells
structure eG where
  aI : bJ
  bU : Int
  eD : Int
  iT : Int
  bG : List au
  bA : aY
  aM : bf
def eG.cells (x : eG) : List PV :=
  [.str x.aI.kind, .str x.aI.bM, .str x.aI.name, iN x.aI.gY, iN x.aI.dn, iN x.aI.bQ, iN x.aI.cZ, .bool x.aI.bY, iN x.aI.bX, .sl (aU.rows x.aI.bK), .sl (bS.rows x.aI.bO), .sl (Q15 x.aI.bI), .sl (bB.rows x.aI.aW), iN x.bU, iN x.eD, iN x.iT, .sl (au.rows x.bG), .sl (aU.rows x.bA.bK), .str x.bA.aO.ig, iN x.bA.aO.dY, iN x.bA.aO.eP, iN x.bA.aO.gB, .sl (aH.rows x.bA.aO.dx), .sl (au.rows x.bA.aO.cu), .sl (aK.rows x.bA.aO.dG), .sl (aQ.rows x.bA.aO.dP), .sl (aD.rows x.bA.aO.eZ), .sl (aG.rows x.bA.aO.cO), iN x.aM.dJ, iN x.aM.bU, iN x.aM.fO, iN x.aM.ready, iN x.aM.eF, iN x.aM.eT, .bool x.aM.bD]
def eG.rows (l : List eG) : List (List PV) := l.map eG.cells
structure aT where
  aI : bJ
  bG : List au
  dR : List aL
  dI : List aL
  dJ : Int
  gU : Int
  gQ : Int
  gy : Int
  gN : Int
  bZ : List aR
def aT.cells (x : aT) : List PV :=
  [.str x.aI.kind, .str x.aI.bM, .str x.aI.name, iN x.aI.gY, iN x.aI.dn, iN x.aI.bQ, iN x.aI.cZ, .bool x.aI.bY, iN x.aI.bX, .sl (aU.rows x.aI.bK), .sl (bS.rows x.aI.bO), .sl (Q15 x.aI.bI), .sl (bB.rows x.aI.aW), .sl (au.rows x.bG), .sl (aL.rows x.dR), .sl (aL.rows x.dI), iN x.dJ, iN x.gU, iN x.gQ, iN x.gy, iN x.gN, .sl (aR.rows x.bZ)]
def aT.rows (l : List aT) : List (List PV) := l.map aT.cells
structure eu where
  aI : bJ
  bU : Int
  iP : Int
  eD : Int
  iR : Bool
  bG : List au
  bA : aY
  aM : bf
def eu.cells (x : eu) : List PV :=
  [.str x.aI.kind, .str x.aI.bM, .str x.aI.name, iN x.aI.gY, iN x.aI.dn, iN x.aI.bQ, iN x.aI.cZ, .bool x.aI.bY, iN x.aI.bX, .sl (aU.rows x.aI.bK), .sl (bS.rows x.aI.bO), .sl (Q15 x.aI.bI), .sl (bB.rows x.aI.aW), iN x.bU, iN x.iP, iN x.eD, .bool x.iR, .sl (au.rows x.bG), .sl (aU.rows x.bA.bK), .str x.bA.aO.ig, iN x.bA.aO.dY, iN x.bA.aO.eP, iN x.bA.aO.gB, .sl (aH.rows x.bA.aO.dx), .sl (au.rows x.bA.aO.cu), .sl (aK.rows x.bA.aO.dG), .sl (aQ.rows x.bA.aO.dP), .sl (aD.rows x.bA.aO.eZ), .sl (aG.rows x.bA.aO.cO), iN x.aM.dJ, iN x.aM.bU, iN x.aM.fO, iN x.aM.ready, iN x.aM.eF, iN x.aM.eT, .bool x.aM.bD]
def eu.rows (l : List eu) : List (List PV) := l.map eu.cells
structure fq where
  aI : bJ
  eD : Int
  dK : aL
  bG : List au
  bA : aY
  aM : bf
def fq.cells (x : fq) : List PV :=
  [.str x.aI.kind, .str x.aI.bM, .str x.aI.name, iN x.aI.gY, iN x.aI.dn, iN x.aI.bQ, iN x.aI.cZ, .bool x.aI.bY, iN x.aI.bX, .sl (aU.rows x.aI.bK), .sl (bS.rows x.aI.bO), .sl (Q15 x.aI.bI), .sl (bB.rows x.aI.aW), iN x.eD, .bool x.dK.dM, iN x.dK.n, .sl (au.rows x.bG), .sl (aU.rows x.bA.bK), .str x.bA.aO.ig, iN x.bA.aO.dY, iN x.bA.aO.eP, iN x.bA.aO.gB, .sl (aH.rows x.bA.aO.dx), .sl (au.rows x.bA.aO.cu), .sl (aK.rows x.bA.aO.dG), .sl (aQ.rows x.bA.aO.dP), .sl (aD.rows x.bA.aO.eZ), .sl (aG.rows x.bA.aO.cO), iN x.aM.dJ, iN x.aM.bU, iN x.aM.fO, iN x.aM.ready, iN x.aM.eF, iN x.aM.eT, .bool x.aM.bD]
def fq.rows (l : List fq) : List (List PV) := l.map fq.cells
structure fV where
  aI : bJ
  bG : List au
  iL : List bP
  iZ : Bool
  iK : Int
def fV.cells (x : fV) : List PV :=
  [.str x.aI.kind, .str x.aI.bM, .str x.aI.name, iN x.aI.gY, iN x.aI.dn, iN x.aI.bQ, iN x.aI.cZ, .bool x.aI.bY, iN x.aI.bX, .sl (aU.rows x.aI.bK), .sl (bS.rows x.aI.bO), .sl (Q15 x.aI.bI), .sl (bB.rows x.aI.aW), .sl (au.rows x.bG), .sl (bP.rows x.iL), .bool x.iZ, iN x.iK]
def fV.rows (l : List fV) : List (List PV) := l.map fV.cells
structure dZ where
  aI : bJ
  iL : List bP
  je : List dH
def dZ.cells (x : dZ) : List PV :=
  [.str x.aI.kind, .str x.aI.bM, .str x.aI.name, iN x.aI.gY, iN x.aI.dn, iN x.aI.bQ, iN x.aI.cZ, .bool x.aI.bY, iN x.aI.bX, .sl (aU.rows x.aI.bK), .sl (bS.rows x.aI.bO), .sl (Q15 x.aI.bI), .sl (bB.rows x.aI.aW), .sl (bP.rows x.iL), .sl (dH.rows x.je)]
def dZ.rows (l : List dZ) : List (List PV) := l.map dZ.cells
structure dO where
  aI : bJ
  bG : List au
  iV : Bool
  iO : Bool
  jg : List cB
def dO.cells (x : dO) : List PV :=
  [.str x.aI.kind, .str x.aI.bM, .str x.aI.name, iN x.aI.gY, iN x.aI.dn, iN x.aI.bQ, iN x.aI.cZ, .bool x.aI.bY, iN x.aI.bX, .sl (aU.rows x.aI.bK), .sl (bS.rows x.aI.bO), .sl (Q15 x.aI.bI), .sl (bB.rows x.aI.aW), .sl (au.rows x.bG), .bool x.iV, .bool x.iO, .sl (cB.rows x.jg)]
def dO.rows (l : List dO) : List (List PV) := l.map dO.cells
structure iC where
  aI : bJ
  iX : bq
  jc : bq
  jl : Int
  has : Int
def iC.cells (x : iC) : List PV :=
  [.str x.aI.kind, .str x.aI.bM, .str x.aI.name, iN x.aI.gY, iN x.aI.dn, iN x.aI.bQ, iN x.aI.cZ, .bool x.aI.bY, iN x.aI.bX, .sl (aU.rows x.aI.bK), .sl (bS.rows x.aI.bO), .sl (Q15 x.aI.bI), .sl (bB.rows x.aI.aW), iN x.iX.iU, iN x.iX.fE, iN x.iX.iI, iN x.jc.iU, iN x.jc.fE, iN x.jc.iI, iN x.jl, iN x.has]
def iC.rows (l : List iC) : List (List PV) := l.map iC.cells
structure aS where
  aI : bJ
  gI : ByteArray
  iA : Int
  fu : Int
  gD : Int
  dh : Bool
  fZ : bW
  last : Int
def aS.cells (x : aS) : List PV :=
  [.str x.aI.kind, .str x.aI.bM, .str x.aI.name, iN x.aI.gY, iN x.aI.dn, iN x.aI.bQ, iN x.aI.cZ, .bool x.aI.bY, iN x.aI.bX, .sl (aU.rows x.aI.bK), .sl (bS.rows x.aI.bO), .sl (Q15 x.aI.bI), .sl (bB.rows x.aI.aW), .str x.gI, iN x.iA, iN x.fu, iN x.gD, .bool x.dh, .str x.fZ.aI.kind, .str x.fZ.aI.bM, .str x.fZ.aI.name, iN x.fZ.aI.gY, iN x.fZ.aI.dn, iN x.fZ.aI.bQ, iN x.fZ.aI.cZ, .bool x.fZ.aI.bY, iN x.fZ.aI.bX, .sl (aU.rows x.fZ.aI.bK), .sl (bS.rows x.fZ.aI.bO), .sl (Q15 x.fZ.aI.bI), .sl (bB.rows x.fZ.aI.aW), iN x.fZ.d9, iN x.fZ.dD, iN x.fZ.eX, iN x.fZ.dz, .bool x.fZ.eU, .bool x.fZ.dh, .sl (aU.rows x.fZ.bA.bK), .str x.fZ.bA.aO.ig, iN x.fZ.bA.aO.dY, iN x.fZ.bA.aO.eP, iN x.fZ.bA.aO.gB, .sl (aH.rows x.fZ.bA.aO.dx), .sl (au.rows x.fZ.bA.aO.cu), .sl (aK.rows x.fZ.bA.aO.dG), .sl (aQ.rows x.fZ.bA.aO.dP), .sl (aD.rows x.fZ.bA.aO.eZ), .sl (aG.rows x.fZ.bA.aO.cO), iN x.fZ.gZ, iN x.fZ.fF, iN x.fZ.bD, iN x.fZ.started, iN x.fZ.fU, .sl (Q43 x.fZ.done), iN x.fZ.iq, iN x.last]
def aS.rows (l : List aS) : List (List PV) := l.map aS.cells
def Q1h : ByteArray := ⟨#[65, 117, 116, 111, 115, 99, 97, 108, 101, 114]⟩
def Q2u : ByteArray := ⟨#[66, 117, 100, 103, 101, 116]⟩
def Q2a : ByteArray := ⟨#[67, 114, 111, 110, 74, 111, 98]⟩
def Q22 : ByteArray := ⟨#[68, 101, 112, 108, 111, 121, 109, 101, 110, 116]⟩
def Q33 : ByteArray := ⟨#[74, 111, 98]⟩
def Q4e : ByteArray := ⟨#[97, 99, 116, 105, 118, 101]⟩
def Qfx : ByteArray := ⟨#[97, 100, 100, 114, 101, 115, 115]⟩
def Q1u : ByteArray := ⟨#[97, 100, 118, 105, 99, 101]⟩
def Q3p : ByteArray := ⟨#[97, 108, 108, 111, 119, 101, 100]⟩
def Q2x : ByteArray := ⟨#[97, 110, 116, 105]⟩
def Q48 : ByteArray := ⟨#[97, 116]⟩
def Q2c : ByteArray := ⟨#[97, 118, 97, 105, 108, 97, 98, 108, 101]⟩
def Qj : ByteArray := ⟨#[99, 111, 109, 112, 108, 101, 116, 105, 111, 110, 115]⟩
def Qq : ByteArray := ⟨#[99, 111, 110, 116, 97, 105, 110, 101, 114, 115]⟩
def Q5o : ByteArray := ⟨#[99, 112, 117]⟩
def Q16 : ByteArray := ⟨#[100, 101, 97, 100, 108, 105, 110, 101]⟩
def Q3a : ByteArray := ⟨#[100, 101, 108, 97, 121]⟩
def Q3q : ByteArray := ⟨#[100, 101, 115, 105, 114, 101, 100]⟩
def Q5p : ByteArray := ⟨#[100, 105, 115, 107]⟩
def Q11 : ByteArray := ⟨#[100, 105, 115, 114, 117, 112, 116, 101, 100]⟩
def Q5q : ByteArray := ⟨#[100, 111, 110, 101]⟩
def Q36 : ByteArray := ⟨#[100, 111, 119, 110, 83, 116, 101, 112]⟩
def Q2g : ByteArray := ⟨#[100, 111, 119, 110, 87, 105, 110, 100, 111, 119]⟩
def Q2e : ByteArray := ⟨#[101, 102, 102, 101, 99, 116]⟩
def Qok : ByteArray := ⟨#[101, 103, 114, 101, 115, 115]⟩
def Q2f : ByteArray := ⟨#[101, 120, 105, 115, 116, 115]⟩
def Q37 : ByteArray := ⟨#[101, 120, 112, 101, 99, 116, 101, 100]⟩
def Q2o : ByteArray := ⟨#[102, 97, 105, 108, 101, 100]⟩
def Q35 : ByteArray := ⟨#[102, 97, 105, 108, 117, 114, 101]⟩
def Q3k : ByteArray := ⟨#[102, 105, 110, 105, 115, 104, 101, 100]⟩
def Q2v : ByteArray := ⟨#[103, 114, 97, 99, 101]⟩
def Q3r : ByteArray := ⟨#[104, 101, 97, 108, 116, 104, 121]⟩
def Q3y : ByteArray := ⟨#[104, 105, 115, 116, 111, 114, 121]⟩
def Qt : ByteArray := ⟨#[105, 109, 97, 103, 101]⟩
def Q2j : ByteArray := ⟨#[105, 110, 100, 101, 120, 101, 100]⟩
def Q72 : ByteArray := ⟨#[106, 111, 98]⟩
def Q3c : ByteArray := ⟨#[107, 101, 101, 112, 68, 111, 110, 101]⟩
def Q12 : ByteArray := ⟨#[107, 101, 121]⟩
def Qk : ByteArray := ⟨#[108, 97, 98, 101, 108, 115]⟩
def Q5d : ByteArray := ⟨#[108, 97, 115, 116]⟩
def Q1f : ByteArray := ⟨#[108, 105, 109, 105, 116]⟩
def Q2b : ByteArray := ⟨#[108, 105, 118, 101]⟩
def Q6d : ByteArray := ⟨#[109, 97, 120]⟩
def Q1v : ByteArray := ⟨#[109, 97, 120, 83, 107, 101, 119]⟩
def Q1s : ByteArray := ⟨#[109, 97, 120, 85, 110, 97, 118, 97, 105, 108, 97, 98, 108, 101]⟩
def Q4f : ByteArray := ⟨#[109, 101, 109, 111, 114, 121]⟩
def Qp : ByteArray := ⟨#[109, 101, 116, 114, 105, 99, 115]⟩
def Q6e : ByteArray := ⟨#[109, 105, 110]⟩
def Q29 : ByteArray := ⟨#[109, 105, 110, 65, 118, 97, 105, 108, 97, 98, 108, 101]⟩
def Q3l : ByteArray := ⟨#[109, 105, 110, 82, 101, 97, 100, 121]⟩
def kw_n : ByteArray := ⟨#[110]⟩
def Ql : ByteArray := ⟨#[110, 97, 109, 101]⟩
def Qb5 : ByteArray := ⟨#[110, 97, 109, 101, 115, 112, 97, 99, 101]⟩
def Q2w : ByteArray := ⟨#[110, 111, 100, 101]⟩
def Q18 : ByteArray := ⟨#[110, 111, 100, 101, 83, 101, 108, 101, 99, 116, 111, 114]⟩
def Qv : ByteArray := ⟨#[110, 111, 100, 101, 84, 101, 114, 109, 115]⟩
def Qr : ByteArray := ⟨#[111, 98, 115, 101, 114, 118, 101, 100]⟩
def Q5i : ByteArray := ⟨#[111, 112]⟩
def Qu : ByteArray := ⟨#[112, 97, 114, 97, 108, 108, 101, 108, 105, 115, 109]⟩
def Q4g : ByteArray := ⟨#[112, 97, 117, 115, 101, 100]⟩
def Qyi : ByteArray := ⟨#[112, 101, 101, 114, 115]⟩
def Q30 : ByteArray := ⟨#[112, 101, 114, 99, 101, 110, 116]⟩
def Q1z : ByteArray := ⟨#[112, 101, 114, 105, 111, 100]⟩
def Q1hv : ByteArray := ⟨#[112, 111, 100]⟩
def Q13 : ByteArray := ⟨#[112, 111, 100, 84, 101, 114, 109, 115]⟩
def Q49 : ByteArray := ⟨#[112, 111, 108, 105, 99, 121]⟩
def Q14s : ByteArray := ⟨#[112, 111, 114, 116]⟩
def Qaf : ByteArray := ⟨#[112, 111, 114, 116, 115]⟩
def Q1q : ByteArray := ⟨#[112, 114, 105, 111, 114, 105, 116, 121]⟩
def Q31 : ByteArray := ⟨#[112, 114, 111, 103, 114, 101, 115, 115]⟩
def Q14 : ByteArray := ⟨#[114, 101, 97, 100, 121]⟩
def Q3m : ByteArray := ⟨#[114, 101, 99, 114, 101, 97, 116, 101]⟩
def Qf : ByteArray := ⟨#[114, 101, 112, 108, 105, 99, 97, 115]⟩
def Qe : ByteArray := ⟨#[114, 101, 113, 117, 101, 115, 116]⟩
def Qa : ByteArray := ⟨#[114, 101, 113, 117, 105, 114, 101, 100]⟩
def Q21 : ByteArray := ⟨#[114, 101, 115, 116, 97, 114, 116]⟩
def Q4h : ByteArray := ⟨#[114, 101, 115, 117, 108, 116]⟩
def Q1x : ByteArray := ⟨#[114, 101, 116, 114, 105, 101, 115]⟩
def Q3n : ByteArray := ⟨#[115, 99, 97, 108, 101, 100]⟩
def Q3d : ByteArray := ⟨#[115, 99, 104, 101, 100, 117, 108, 101]⟩
def Q2l : ByteArray := ⟨#[115, 101, 99, 111, 110, 100, 115]⟩
def Q6 : ByteArray := ⟨#[115, 101, 108, 101, 99, 116, 111, 114]⟩
def Q38 : ByteArray := ⟨#[115, 112, 101, 99]⟩
def Q1r : ByteArray := ⟨#[115, 112, 114, 101, 97, 100]⟩
def Q2m : ByteArray := ⟨#[115, 116, 97, 114, 116, 87, 105, 116, 104, 105, 110]⟩
def Q3z : ByteArray := ⟨#[115, 116, 97, 114, 116, 101, 100]⟩
def Q1m : ByteArray := ⟨#[115, 116, 97, 114, 116, 117, 112]⟩
def Q34 : ByteArray := ⟨#[115, 117, 99, 99, 101, 101, 100, 101, 100]⟩
def Q3g : ByteArray := ⟨#[115, 117, 99, 99, 101, 115, 115]⟩
def Q4q : ByteArray := ⟨#[115, 117, 114, 103, 101]⟩
def Q19 : ByteArray := ⟨#[115, 117, 115, 112, 101, 110, 100, 101, 100]⟩
def Q1w : ByteArray := ⟨#[116, 97, 114, 103, 101, 116]⟩
def Q2h : ByteArray := ⟨#[116, 97, 114, 103, 101, 116, 75, 105, 110, 100]⟩
def Q17 : ByteArray := ⟨#[116, 101, 109, 112, 108, 97, 116, 101]⟩
def Q9j : ByteArray := ⟨#[116, 101, 114, 109, 105, 110, 97, 116, 105, 110, 103]⟩
def Q2p : ByteArray := ⟨#[116, 111, 108, 101, 114, 97, 110, 99, 101]⟩
def Qm : ByteArray := ⟨#[116, 111, 108, 101, 114, 97, 116, 105, 111, 110, 115]⟩
def Qo : ByteArray := ⟨#[116, 111, 112, 111, 108, 111, 103, 121]⟩
def Q2i : ByteArray := ⟨#[117, 110, 97, 118, 97, 105, 108, 97, 98, 108, 101]⟩
def Q5r : ByteArray := ⟨#[117, 110, 100, 111]⟩
def Q44 : ByteArray := ⟨#[117, 112, 83, 116, 101, 112]⟩
def Q2y : ByteArray := ⟨#[117, 112, 87, 105, 110, 100, 111, 119]⟩
def Q27 : ByteArray := ⟨#[117, 112, 100, 97, 116, 101, 100]⟩
def Q1t : ByteArray := ⟨#[118, 97, 108, 117, 101]⟩
def Q28 : ByteArray := ⟨#[118, 97, 108, 117, 101, 115]⟩
def Q1j : ByteArray := ⟨#[119, 101, 105, 103, 104, 116]⟩
def au.enc (x : au) : Val := vM [.mk Q12 (vS x.key), .mk Q5i (vN x.op), .mk Q28 (vL (x.dV.map vS))]
def au.dec (v : Val) : au × Bool := (au.mk (dS v Q12).1 (dN v Q5i).1 (dE xS v Q28).1, isM v && (dS v Q12).2 && (dN v Q5i).2 && (dE xS v Q28).2)
def au.sm (x : au) : Prop := LSm (fun _ : ByteArray => True) x.dV ∧ True
theorem au.Q3f {x : au} (h : au.sm x) : Val.Sm sB (au.enc x) := Q7u (Nat.le_of_ble_eq_true rfl) (List.forall_mem_cons.2 ⟨Val.Sm.leaf 3 _ _, List.forall_mem_cons.2 ⟨Val.Sm.leaf 2 _ _, List.forall_mem_cons.2 ⟨Q4v (fun _ h => Val.Sm.leaf _ _ _) h.1, fun _ h => by cases h⟩⟩⟩)
theorem au.Q3i {v : Val} (h : Val.Sm sB v) : au.sm (au.dec v).1 := ⟨Q92 (fun _ _h => trivial) (Qg h _), trivial⟩
def au.rdec (v : Val) : au × Bool := (au.mk (dS v Q12).1 (dN v Q5i).1 (dE rS v Q28).1, isM v && (dS v Q12).2 && (dN v Q5i).2 && (dE rS v Q28).2)
theorem au.agr : Agr au.rdec au.dec := fun v => by
  obtain ⟨a0, b0⟩ := Qo2 Q26r (prt v Q28)
  unfold au.rdec au.dec
  simp only [dE, a0]
  refine ⟨trivial, fun h => ?_⟩
  simp only [Bool.and_eq_true] at h
  rw [b0 h.2]
def aU.enc (x : aU) : Val := vM [.mk Q12 (vS x.key), .mk Q1t (vS x.value)]
def aU.dec (v : Val) : aU × Bool := (aU.mk (dS v Q12).1 (dS v Q1t).1, isM v && (dS v Q12).2 && (dS v Q1t).2)
def aU.sm (_ : aU) : Prop := True
theorem aU.Q3f {x : aU} (_ : aU.sm x) : Val.Sm sB (aU.enc x) := Q7u (Nat.le_of_ble_eq_true rfl) (List.forall_mem_cons.2 ⟨Val.Sm.leaf 3 _ _, List.forall_mem_cons.2 ⟨Val.Sm.leaf 3 _ _, fun _ h => by cases h⟩⟩)
theorem aU.Q3i {v : Val} (_ : Val.Sm sB v) : aU.sm (aU.dec v).1 := trivial
def bq.enc (x : bq) : Val := vM [.mk Q5o (vN x.iU), .mk Q5p (vN x.iI), .mk Q4f (vN x.fE)]
def bq.dec (v : Val) : bq × Bool := (bq.mk (dN v Q5o).1 (dN v Q4f).1 (dN v Q5p).1, isM v && (dN v Q5o).2 && (dN v Q5p).2 && (dN v Q4f).2)
def bq.sm (_ : bq) : Prop := True
theorem bq.Q3f {x : bq} (_ : bq.sm x) : Val.Sm sB (bq.enc x) := Q7u (Nat.le_of_ble_eq_true rfl) (List.forall_mem_cons.2 ⟨Val.Sm.leaf 2 _ _, List.forall_mem_cons.2 ⟨Val.Sm.leaf 2 _ _, List.forall_mem_cons.2 ⟨Val.Sm.leaf 2 _ _, fun _ h => by cases h⟩⟩⟩)
theorem bq.Q3i {v : Val} (_ : Val.Sm sB v) : bq.sm (bq.dec v).1 := trivial
theorem bq.Qay {v : Val} (h : (v.kind == 5) = false) : bq.dec v = ((bq.dec vZ).1, v.kind == 0) := by
  unfold bq.dec
  simp only [dN, Qg1 h, Qoj h]
  generalize (v.kind == 0) = b
  cases b <;> rfl
theorem bq.sub1 (x : Val) : (bq.dec (s5 x)).1 = (bq.dec x).1 := (Q171 (f := bq.dec) (fun _ h => bq.Qay h) rfl x).1
theorem bq.sub2 (v : Val) (k : BA) : (bq.dec (prt v k)).2 = (isM (prt v k) && (bq.dec (s5 (prt v k))).2) := (Q171 (f := bq.dec) (fun _ h => bq.Qay h) rfl _).2
def bg.enc (x : bg) : Val := vM [.mk Q3a (vN x.gW), .mk Q35 (vN x.fI), .mk Q1z (vN x.eH), .mk Q3g (vN x.fM)]
def bg.dec (v : Val) : bg × Bool := (bg.mk (dN v Q3a).1 (dN v Q1z).1 (dN v Q3g).1 (dN v Q35).1, isM v && (dN v Q3a).2 && (dN v Q35).2 && (dN v Q1z).2 && (dN v Q3g).2)
def bg.sm (_ : bg) : Prop := True
theorem bg.Q3f {x : bg} (_ : bg.sm x) : Val.Sm sB (bg.enc x) := Q7u (Nat.le_of_ble_eq_true rfl) (List.forall_mem_cons.2 ⟨Val.Sm.leaf 2 _ _, List.forall_mem_cons.2 ⟨Val.Sm.leaf 2 _ _, List.forall_mem_cons.2 ⟨Val.Sm.leaf 2 _ _, List.forall_mem_cons.2 ⟨Val.Sm.leaf 2 _ _, fun _ h => by cases h⟩⟩⟩⟩)
theorem bg.Q3i {v : Val} (_ : Val.Sm sB v) : bg.sm (bg.dec v).1 := trivial
def aH.enc (x : aH) : Val := vM [.mk Qt (vS x.gX), .mk Q1f (bq.enc x.gG), .mk Q2b (vL (x.live.map bg.enc)), .mk Ql (vS x.name), .mk Q14 (vL (x.ready.map bg.enc)), .mk Qe (bq.enc x.eO), .mk Q1m (vL (x.eY.map bg.enc))]
def aH.dec (v : Val) : aH × Bool := (aH.mk (dS v Ql).1 (dS v Qt).1 (dT bq.dec v Qe).1 (dT bq.dec v Q1f).1 (dE bg.dec v Q2b).1 (dE bg.dec v Q14).1 (dE bg.dec v Q1m).1, isM v && (dS v Qt).2 && (dT bq.dec v Q1f).2 && (dE bg.dec v Q2b).2 && (dS v Ql).2 && (dE bg.dec v Q14).2 && (dT bq.dec v Qe).2 && (dE bg.dec v Q1m).2)
def aH.sm (x : aH) : Prop := bq.sm x.eO ∧ bq.sm x.gG ∧ LSm bg.sm x.live ∧ LSm bg.sm x.ready ∧ LSm bg.sm x.eY ∧ True
theorem aH.Q3f {x : aH} (h : aH.sm x) : Val.Sm sB (aH.enc x) := Q7u (Nat.le_of_ble_eq_true rfl) (List.forall_mem_cons.2 ⟨Val.Sm.leaf 3 _ _, List.forall_mem_cons.2 ⟨bq.Q3f h.2.1, List.forall_mem_cons.2 ⟨Q4v (fun _ h => bg.Q3f h) h.2.2.1, List.forall_mem_cons.2 ⟨Val.Sm.leaf 3 _ _, List.forall_mem_cons.2 ⟨Q4v (fun _ h => bg.Q3f h) h.2.2.2.1, List.forall_mem_cons.2 ⟨bq.Q3f h.1, List.forall_mem_cons.2 ⟨Q4v (fun _ h => bg.Q3f h) h.2.2.2.2.1, fun _ h => by cases h⟩⟩⟩⟩⟩⟩⟩)
theorem aH.Q3i {v : Val} (h : Val.Sm sB v) : aH.sm (aH.dec v).1 := ⟨bq.Q3i (Qg h _), bq.Q3i (Qg h _), Q92 (fun _ h => bg.Q3i h) (Qg h _), Q92 (fun _ h => bg.Q3i h) (Qg h _), Q92 (fun _ h => bg.Q3i h) (Qg h _), trivial⟩
def aK.enc (x : aK) : Val := vM [.mk Qa (vB x.bV), .mk Q6 (vL (x.bG.map au.enc)), .mk Q1j (vN x.dW)]
def aK.dec (v : Val) : aK × Bool := (aK.mk (dB v Qa).1 (dE au.dec v Q6).1 (dN v Q1j).1, isM v && (dB v Qa).2 && (dE au.dec v Q6).2 && (dN v Q1j).2)
def aK.sm (x : aK) : Prop := LSm au.sm x.bG ∧ True
theorem aK.Q3f {x : aK} (h : aK.sm x) : Val.Sm sB (aK.enc x) := Q7u (Nat.le_of_ble_eq_true rfl) (List.forall_mem_cons.2 ⟨Val.Sm.leaf 1 _ _, List.forall_mem_cons.2 ⟨Q4v (fun _ h => au.Q3f h) h.1, List.forall_mem_cons.2 ⟨Val.Sm.leaf 2 _ _, fun _ h => by cases h⟩⟩⟩)
theorem aK.Q3i {v : Val} (h : Val.Sm sB v) : aK.sm (aK.dec v).1 := ⟨Q92 (fun _ h => au.Q3i h) (Qg h _), trivial⟩
def aK.rdec (v : Val) : aK × Bool := (aK.mk (dB v Qa).1 (dE au.rdec v Q6).1 (dN v Q1j).1, isM v && (dB v Qa).2 && (dE au.rdec v Q6).2 && (dN v Q1j).2)
theorem aK.agr : Agr aK.rdec aK.dec := fun v => by
  obtain ⟨a0, b0⟩ := Qo2 au.agr (prt v Q6)
  unfold aK.rdec aK.dec
  simp only [dE, a0]
  refine ⟨trivial, fun h => ?_⟩
  simp only [Bool.and_eq_true] at h
  rw [b0 h.1.2]
def aQ.enc (x : aQ) : Val := vM [.mk Q2x (vB x.iH), .mk Qa (vB x.bV), .mk Q6 (vL (x.bG.map au.enc)), .mk Qo (vS x.dw), .mk Q1j (vN x.dW)]
def aQ.dec (v : Val) : aQ × Bool := (aQ.mk (dB v Qa).1 (dB v Q2x).1 (dE au.dec v Q6).1 (dS v Qo).1 (dN v Q1j).1, isM v && (dB v Q2x).2 && (dB v Qa).2 && (dE au.dec v Q6).2 && (dS v Qo).2 && (dN v Q1j).2)
def aQ.sm (x : aQ) : Prop := LSm au.sm x.bG ∧ True
theorem aQ.Q3f {x : aQ} (h : aQ.sm x) : Val.Sm sB (aQ.enc x) := Q7u (Nat.le_of_ble_eq_true rfl) (List.forall_mem_cons.2 ⟨Val.Sm.leaf 1 _ _, List.forall_mem_cons.2 ⟨Val.Sm.leaf 1 _ _, List.forall_mem_cons.2 ⟨Q4v (fun _ h => au.Q3f h) h.1, List.forall_mem_cons.2 ⟨Val.Sm.leaf 3 _ _, List.forall_mem_cons.2 ⟨Val.Sm.leaf 2 _ _, fun _ h => by cases h⟩⟩⟩⟩⟩)
theorem aQ.Q3i {v : Val} (h : Val.Sm sB v) : aQ.sm (aQ.dec v).1 := ⟨Q92 (fun _ h => au.Q3i h) (Qg h _), trivial⟩
def aQ.rdec (v : Val) : aQ × Bool := (aQ.mk (dB v Qa).1 (dB v Q2x).1 (dE au.rdec v Q6).1 (dS v Qo).1 (dN v Q1j).1, isM v && (dB v Q2x).2 && (dB v Qa).2 && (dE au.rdec v Q6).2 && (dS v Qo).2 && (dN v Q1j).2)
theorem aQ.agr : Agr aQ.rdec aQ.dec := fun v => by
  obtain ⟨a0, b0⟩ := Qo2 au.agr (prt v Q6)
  unfold aQ.rdec aQ.dec
  simp only [dE, a0]
  refine ⟨trivial, fun h => ?_⟩
  simp only [Bool.and_eq_true] at h
  rw [b0 h.1.1.2]
def aD.enc (x : aD) : Val := vM [.mk Q1v (vN x.fJ), .mk Qa (vB x.bV), .mk Q6 (vL (x.bG.map au.enc)), .mk Qo (vS x.dw)]
def aD.dec (v : Val) : aD × Bool := (aD.mk (dN v Q1v).1 (dS v Qo).1 (dE au.dec v Q6).1 (dB v Qa).1, isM v && (dN v Q1v).2 && (dB v Qa).2 && (dE au.dec v Q6).2 && (dS v Qo).2)
def aD.sm (x : aD) : Prop := LSm au.sm x.bG ∧ True
theorem aD.Q3f {x : aD} (h : aD.sm x) : Val.Sm sB (aD.enc x) := Q7u (Nat.le_of_ble_eq_true rfl) (List.forall_mem_cons.2 ⟨Val.Sm.leaf 2 _ _, List.forall_mem_cons.2 ⟨Val.Sm.leaf 1 _ _, List.forall_mem_cons.2 ⟨Q4v (fun _ h => au.Q3f h) h.1, List.forall_mem_cons.2 ⟨Val.Sm.leaf 3 _ _, fun _ h => by cases h⟩⟩⟩⟩)
theorem aD.Q3i {v : Val} (h : Val.Sm sB v) : aD.sm (aD.dec v).1 := ⟨Q92 (fun _ h => au.Q3i h) (Qg h _), trivial⟩
def aD.rdec (v : Val) : aD × Bool := (aD.mk (dN v Q1v).1 (dS v Qo).1 (dE au.rdec v Q6).1 (dB v Qa).1, isM v && (dN v Q1v).2 && (dB v Qa).2 && (dE au.rdec v Q6).2 && (dS v Qo).2)
theorem aD.agr : Agr aD.rdec aD.dec := fun v => by
  obtain ⟨a0, b0⟩ := Qo2 au.agr (prt v Q6)
  unfold aD.rdec aD.dec
  simp only [dE, a0]
  refine ⟨trivial, fun h => ?_⟩
  simp only [Bool.and_eq_true] at h
  rw [b0 h.1.2]
def aG.enc (x : aG) : Val := vM [.mk Q2e (vN x.gq), .mk Q2f (vB x.fH), .mk Q12 (vS x.key), .mk Q2l (vN x.fK), .mk Q1t (vS x.value)]
def aG.dec (v : Val) : aG × Bool := (aG.mk (dS v Q12).1 (dS v Q1t).1 (dB v Q2f).1 (dN v Q2e).1 (dN v Q2l).1, isM v && (dN v Q2e).2 && (dB v Q2f).2 && (dS v Q12).2 && (dN v Q2l).2 && (dS v Q1t).2)
def aG.sm (_ : aG) : Prop := True
theorem aG.Q3f {x : aG} (_ : aG.sm x) : Val.Sm sB (aG.enc x) := Q7u (Nat.le_of_ble_eq_true rfl) (List.forall_mem_cons.2 ⟨Val.Sm.leaf 2 _ _, List.forall_mem_cons.2 ⟨Val.Sm.leaf 1 _ _, List.forall_mem_cons.2 ⟨Val.Sm.leaf 3 _ _, List.forall_mem_cons.2 ⟨Val.Sm.leaf 2 _ _, List.forall_mem_cons.2 ⟨Val.Sm.leaf 3 _ _, fun _ h => by cases h⟩⟩⟩⟩⟩)
theorem aG.Q3i {v : Val} (_ : Val.Sm sB v) : aG.sm (aG.dec v).1 := trivial
def bn.enc (x : bn) : Val := vM [.mk Qq (vL (x.dx.map aH.enc)), .mk Q2v (vN x.gB), .mk Q2w (vS x.ig), .mk Q18 (vL (x.cu.map au.enc)), .mk Qv (vL (x.dG.map aK.enc)), .mk Q13 (vL (x.dP.map aQ.enc)), .mk Q1q (vN x.dY), .mk Q21 (vN x.eP), .mk Q1r (vL (x.eZ.map aD.enc)), .mk Qm (vL (x.cO.map aG.enc))]
def bn.dec (v : Val) : bn × Bool := (bn.mk (dS v Q2w).1 (dN v Q1q).1 (dN v Q21).1 (dN v Q2v).1 (dE aH.dec v Qq).1 (dE au.dec v Q18).1 (dE aK.dec v Qv).1 (dE aQ.dec v Q13).1 (dE aD.dec v Q1r).1 (dE aG.dec v Qm).1, isM v && (dE aH.dec v Qq).2 && (dN v Q2v).2 && (dS v Q2w).2 && (dE au.dec v Q18).2 && (dE aK.dec v Qv).2 && (dE aQ.dec v Q13).2 && (dN v Q1q).2 && (dN v Q21).2 && (dE aD.dec v Q1r).2 && (dE aG.dec v Qm).2)
def bn.sm (x : bn) : Prop := LSm aH.sm x.dx ∧ LSm au.sm x.cu ∧ LSm aK.sm x.dG ∧ LSm aQ.sm x.dP ∧ LSm aD.sm x.eZ ∧ LSm aG.sm x.cO ∧ True
theorem bn.Q3f {x : bn} (h : bn.sm x) : Val.Sm sB (bn.enc x) := Q7u (Nat.le_of_ble_eq_true rfl) (List.forall_mem_cons.2 ⟨Q4v (fun _ h => aH.Q3f h) h.1, List.forall_mem_cons.2 ⟨Val.Sm.leaf 2 _ _, List.forall_mem_cons.2 ⟨Val.Sm.leaf 3 _ _, List.forall_mem_cons.2 ⟨Q4v (fun _ h => au.Q3f h) h.2.1, List.forall_mem_cons.2 ⟨Q4v (fun _ h => aK.Q3f h) h.2.2.1, List.forall_mem_cons.2 ⟨Q4v (fun _ h => aQ.Q3f h) h.2.2.2.1, List.forall_mem_cons.2 ⟨Val.Sm.leaf 2 _ _, List.forall_mem_cons.2 ⟨Val.Sm.leaf 2 _ _, List.forall_mem_cons.2 ⟨Q4v (fun _ h => aD.Q3f h) h.2.2.2.2.1, List.forall_mem_cons.2 ⟨Q4v (fun _ h => aG.Q3f h) h.2.2.2.2.2.1, fun _ h => by cases h⟩⟩⟩⟩⟩⟩⟩⟩⟩⟩)
theorem bn.Q3i {v : Val} (h : Val.Sm sB v) : bn.sm (bn.dec v).1 := ⟨Q92 (fun _ h => aH.Q3i h) (Qg h _), Q92 (fun _ h => au.Q3i h) (Qg h _), Q92 (fun _ h => aK.Q3i h) (Qg h _), Q92 (fun _ h => aQ.Q3i h) (Qg h _), Q92 (fun _ h => aD.Q3i h) (Qg h _), Q92 (fun _ h => aG.Q3i h) (Qg h _), trivial⟩
theorem bn.Qay {v : Val} (h : (v.kind == 5) = false) : bn.dec v = ((bn.dec vZ).1, v.kind == 0) := by
  unfold bn.dec
  simp only [dN, dS, dE, Qg1 h, Qoj h]
  generalize (v.kind == 0) = b
  cases b <;> rfl
def bn.rdec (v : Val) : bn × Bool := (bn.mk (dS v Q2w).1 (dN v Q1q).1 (dN v Q21).1 (dN v Q2v).1 (dE aH.dec v Qq).1 (dE au.rdec v Q18).1 (dE aK.rdec v Qv).1 (dE aQ.rdec v Q13).1 (dE aD.rdec v Q1r).1 (dE aG.dec v Qm).1, isM v && (dE aH.dec v Qq).2 && (dN v Q2v).2 && (dS v Q2w).2 && (dE au.rdec v Q18).2 && (dE aK.rdec v Qv).2 && (dE aQ.rdec v Q13).2 && (dN v Q1q).2 && (dN v Q21).2 && (dE aD.rdec v Q1r).2 && (dE aG.dec v Qm).2)
theorem bn.agr : Agr bn.rdec bn.dec := fun v => by
  obtain ⟨a0, b0⟩ := Qo2 au.agr (prt v Q18)
  obtain ⟨a1, b1⟩ := Qo2 aK.agr (prt v Qv)
  obtain ⟨a2, b2⟩ := Qo2 aQ.agr (prt v Q13)
  obtain ⟨a3, b3⟩ := Qo2 aD.agr (prt v Q1r)
  unfold bn.rdec bn.dec
  simp only [dE, a0, a1, a2, a3]
  refine ⟨trivial, fun h => ?_⟩
  simp only [Bool.and_eq_true] at h
  rw [b0 h.1.1.1.1.1.1.2, b1 h.1.1.1.1.1.2, b2 h.1.1.1.1.2, b3 h.1.2]
theorem bn.sub1 (x : Val) : (bn.dec (s5 x)).1 = (bn.dec x).1 := (Q171 (f := bn.dec) (fun _ h => bn.Qay h) rfl x).1
theorem bn.sub2 (v : Val) (k : BA) : (bn.dec (prt v k)).2 = (isM (prt v k) && (bn.dec (s5 (prt v k))).2) := (Q171 (f := bn.dec) (fun _ h => bn.Qay h) rfl _).2
def aY.enc (x : aY) : Val := vM [.mk Qk (vL (x.bK.map aU.enc)), .mk Q38 (bn.enc x.aO)]
def aY.dec (v : Val) : aY × Bool := (aY.mk (dE aU.dec v Qk).1 (dT bn.dec v Q38).1, isM v && (dE aU.dec v Qk).2 && (dT bn.dec v Q38).2)
def aY.sm (x : aY) : Prop := LSm aU.sm x.bK ∧ bn.sm x.aO ∧ True
theorem aY.Q3f {x : aY} (h : aY.sm x) : Val.Sm sB (aY.enc x) := Q7u (Nat.le_of_ble_eq_true rfl) (List.forall_mem_cons.2 ⟨Q4v (fun _ h => aU.Q3f h) h.1, List.forall_mem_cons.2 ⟨bn.Q3f h.2.1, fun _ h => by cases h⟩⟩)
theorem aY.Q3i {v : Val} (h : Val.Sm sB v) : aY.sm (aY.dec v).1 := ⟨Q92 (fun _ h => aU.Q3i h) (Qg h _), bn.Q3i (Qg h _), trivial⟩
theorem aY.Qay {v : Val} (h : (v.kind == 5) = false) : aY.dec v = ((aY.dec vZ).1, v.kind == 0) := by
  unfold aY.dec
  simp only [dE, dT, Qg1 h, Qoj h]
  generalize (v.kind == 0) = b
  cases b <;> rfl
def aL.enc (x : aL) : Val := vM [.mk kw_n (vN x.n), .mk Q30 (vB x.dM)]
def aL.dec (v : Val) : aL × Bool := (aL.mk (dB v Q30).1 (dN v kw_n).1, isM v && (dN v kw_n).2 && (dB v Q30).2)
def aL.sm (_ : aL) : Prop := True
theorem aL.Q3f {x : aL} (_ : aL.sm x) : Val.Sm sB (aL.enc x) := Q7u (Nat.le_of_ble_eq_true rfl) (List.forall_mem_cons.2 ⟨Val.Sm.leaf 2 _ _, List.forall_mem_cons.2 ⟨Val.Sm.leaf 1 _ _, fun _ h => by cases h⟩⟩)
theorem aL.Q3i {v : Val} (_ : Val.Sm sB v) : aL.sm (aL.dec v).1 := trivial
def bf.enc (x : bf) : Val := vM [.mk Q2c (vN x.eF), .mk Q2o (vB x.bD), .mk Qr (vN x.dJ), .mk Q31 (vN x.eT), .mk Q14 (vN x.ready), .mk Qf (vN x.bU), .mk Q27 (vN x.fO)]
def bf.dec (v : Val) : bf × Bool := (bf.mk (dN v Qr).1 (dN v Qf).1 (dN v Q27).1 (dN v Q14).1 (dN v Q2c).1 (dN v Q31).1 (dB v Q2o).1, isM v && (dN v Q2c).2 && (dB v Q2o).2 && (dN v Qr).2 && (dN v Q31).2 && (dN v Q14).2 && (dN v Qf).2 && (dN v Q27).2)
def bf.sm (_ : bf) : Prop := True
theorem bf.Q3f {x : bf} (_ : bf.sm x) : Val.Sm sB (bf.enc x) := Q7u (Nat.le_of_ble_eq_true rfl) (List.forall_mem_cons.2 ⟨Val.Sm.leaf 2 _ _, List.forall_mem_cons.2 ⟨Val.Sm.leaf 1 _ _, List.forall_mem_cons.2 ⟨Val.Sm.leaf 2 _ _, List.forall_mem_cons.2 ⟨Val.Sm.leaf 2 _ _, List.forall_mem_cons.2 ⟨Val.Sm.leaf 2 _ _, List.forall_mem_cons.2 ⟨Val.Sm.leaf 2 _ _, List.forall_mem_cons.2 ⟨Val.Sm.leaf 2 _ _, fun _ h => by cases h⟩⟩⟩⟩⟩⟩⟩)
theorem bf.Q3i {v : Val} (_ : Val.Sm sB v) : bf.sm (bf.dec v).1 := trivial
def aX.enc (x : aX) : Val := vM [.mk Ql (vS x.name), .mk Q1w (vN x.target)]
def aX.dec (v : Val) : aX × Bool := (aX.mk (dS v Ql).1 (dN v Q1w).1, isM v && (dS v Ql).2 && (dN v Q1w).2)
def aX.sm (_ : aX) : Prop := True
theorem aX.Q3f {x : aX} (_ : aX.sm x) : Val.Sm sB (aX.enc x) := Q7u (Nat.le_of_ble_eq_true rfl) (List.forall_mem_cons.2 ⟨Val.Sm.leaf 3 _ _, List.forall_mem_cons.2 ⟨Val.Sm.leaf 2 _ _, fun _ h => by cases h⟩⟩)
theorem aX.Q3i {v : Val} (_ : Val.Sm sB v) : aX.sm (aX.dec v).1 := trivial
def aZ.enc (x : aZ) : Val := vM [.mk Q48 (vN x.at_), .mk Qf (vN x.bU)]
def aZ.dec (v : Val) : aZ × Bool := (aZ.mk (dN v Q48).1 (dN v Qf).1, isM v && (dN v Q48).2 && (dN v Qf).2)
def aZ.sm (_ : aZ) : Prop := True
theorem aZ.Q3f {x : aZ} (_ : aZ.sm x) : Val.Sm sB (aZ.enc x) := Q7u (Nat.le_of_ble_eq_true rfl) (List.forall_mem_cons.2 ⟨Val.Sm.leaf 2 _ _, List.forall_mem_cons.2 ⟨Val.Sm.leaf 2 _ _, fun _ h => by cases h⟩⟩)
theorem aZ.Q3i {v : Val} (_ : Val.Sm sB v) : aZ.sm (aZ.dec v).1 := trivial
def aR.enc (x : aR) : Val := vM [.mk Q48 (vN x.at_), .mk Q12 (vS x.key)]
def aR.dec (v : Val) : aR × Bool := (aR.mk (dS v Q12).1 (dN v Q48).1, isM v && (dN v Q48).2 && (dS v Q12).2)
def aR.sm (_ : aR) : Prop := True
theorem aR.Q3f {x : aR} (_ : aR.sm x) : Val.Sm sB (aR.enc x) := Q7u (Nat.le_of_ble_eq_true rfl) (List.forall_mem_cons.2 ⟨Val.Sm.leaf 2 _ _, List.forall_mem_cons.2 ⟨Val.Sm.leaf 3 _ _, fun _ h => by cases h⟩⟩)
theorem aR.Q3i {v : Val} (_ : Val.Sm sB v) : aR.sm (aR.dec v).1 := trivial
def bP.dec (v : Val) : bP × Bool := (bP.mk (dS v Ql).1 (dN v Q14s).1 (dN v Q1w).1, isM v && (dS v Ql).2 && (dN v Q14s).2 && (dN v Q1w).2)
def dH.dec (v : Val) : dH × Bool := (dH.mk (dS v Q1hv).1 (dS v Q2w).1 (dN v Qfx).1 (dB v Q14).1 (dB v Q9j).1, isM v && (dN v Qfx).2 && (dS v Q2w).2 && (dS v Q1hv).2 && (dB v Q14).2 && (dB v Q9j).2)
def gu.dec (v : Val) : gu × Bool := (gu.mk (dS v Qb5).1 (dE au.dec v Q6).1, isM v && (dS v Qb5).2 && (dE au.dec v Q6).2)
def cB.dec (v : Val) : cB × Bool := (cB.mk (dB v Qok).1 (dE gu.dec v Qyi).1 (dE xN v Qaf).1, isM v && (dB v Qok).2 && (dE gu.dec v Qyi).2 && (dE xN v Qaf).2)
def Q13y : aY := (aY.mk [] (bn.mk eB 0 0 0 [] [] [] [] [] []))
def Qq0 (v : Val) : aY × Int := bif !(aY.dec v).2 then (Q13y, 6) else ((aY.dec v).1, 0)
def tD (v : Val) (n : BA) : aY × Bool := ((Qq0 (prt v n)).1, (aY.dec (prt v n)).2)
def tC (v : Val) (n : BA) : Nat := cM v + (bif (prt v n).kind == 0 then 0 else nb (aY.dec (prt v n)).2)
theorem tC0 (v : Val) (n : BA) : (tC v n == 0) = (isM v && (tD v n).2) := by
  have z : ∀ x : Val, (x.kind == 0) = true → (aY.dec x).2 = true := fun x h => by
    have h5 : (x.kind == 5) = false := by rw [eq_of_beq h]; rfl
    rw [aY.Qay h5]
    exact h
  unfold tC tD
  rw [add0, cM0]
  cases h : ((prt v n).kind == 0) with
  | true => rw [z _ h]; rfl
  | false => rw [cond_false, nb0]
theorem Q1r9 {v : Val} (h : Val.Sm sB v) (n : BA) : aY.sm (tD v n).1 := by
  have z : aY.sm Q13y := aY.Q3i (v := vZ) Q13u
  unfold tD Qq0
  cases (aY.dec (prt v n)).2 with
  | true => exact aY.Q3i (Qg h n)
  | false => exact z
theorem Q1r8 (v : Val) (n : BA) : tC v n ≤ 2 := by
  have a := Qaw 5 v
  have b := Q14y (aY.dec (prt v n)).2
  unfold tC cM
  cases ((prt v n).kind == 0) with
  | true => rw [cond_true]; omega
  | false => rw [cond_false]; omega
def au.cnt (v : Val) : Nat := cM v + pK 3 v Q12 + pK 2 v Q5i + pE (cK 3) v Q28
theorem au.cnt0 (v : Val) : (au.cnt v == 0) = (au.dec v).2 := by
  unfold au.cnt au.dec
  simp only [add0, cM0, pS0, pN0, pE0 kS, dN, dS, dE, Bool.and_assoc, Bool.and_left_comm, Bool.and_comm, Bool.and_self_left]
theorem au.Q4x {v : Val} (h : Val.Sm 1000 v) : au.cnt v ≤ 1007 := by
  have g0 := Qaw 5 v
  have g1 := Q3x 3 v Q12
  have g2 := Q3x 2 v Q5i
  have g3 := Qyo (c := (cK 3)) (K := 1) (fun x hx => Qaw _ _) h Q28
  unfold au.cnt cM
  omega
def bq.cnt (v : Val) : Nat := pK 2 v Q5o + pK 2 v Q4f + pK 2 v Q5p
def aL.cnt (v : Val) : Nat := pK 1 v Q30 + pK 2 v kw_n
theorem aL.cnt0 (v : Val) : (aL.cnt v == 0) = (aL.dec v).2 := by
  unfold aL.cnt aL.dec
  simp only [add0, pB0, pN0, dN, dB, Bool.and_assoc, Bool.and_left_comm, Bool.and_comm, Bool.and_self_left]
theorem aL.Q4x {v : Val} (_ : Val.Sm 1000 v) : aL.cnt v ≤ 4 := by
  have g0 := Q3x 1 v Q30
  have g1 := Q3x 2 v kw_n
  unfold aL.cnt
  omega
def bf.cnt (v : Val) : Nat := pK 2 v Qr + pK 2 v Qf + pK 2 v Q27 + pK 2 v Q14 + pK 2 v Q2c + pK 2 v Q31 + pK 1 v Q2o
theorem bf.cnt0 (v : Val) : (bf.cnt v == 0) = (bf.dec v).2 := by
  unfold bf.cnt bf.dec
  simp only [add0, pN0, pB0, dN, dB, Bool.and_assoc, Bool.and_left_comm, Bool.and_comm, Bool.and_self_left]
theorem bf.Q4x {v : Val} (_ : Val.Sm 1000 v) : bf.cnt v ≤ 14 := by
  have g0 := Q3x 2 v Qr
  have g1 := Q3x 2 v Qf
  have g2 := Q3x 2 v Q27
  have g3 := Q3x 2 v Q14
  have g4 := Q3x 2 v Q2c
  have g5 := Q3x 2 v Q31
  have g6 := Q3x 1 v Q2o
  unfold bf.cnt
  omega
def aX.cnt (v : Val) : Nat := pK 3 v Ql + pK 2 v Q1w
theorem aX.cnt0 (v : Val) : (aX.cnt v == 0) = (aX.dec v).2 := by
  unfold aX.cnt aX.dec
  simp only [add0, pS0, pN0, dN, dS, Bool.and_assoc, Bool.and_left_comm, Bool.and_comm, Bool.and_self_left]
theorem aX.Q4x {v : Val} (_ : Val.Sm 1000 v) : aX.cnt v ≤ 4 := by
  have g0 := Q3x 3 v Ql
  have g1 := Q3x 2 v Q1w
  unfold aX.cnt
  omega
def aZ.cnt (v : Val) : Nat := pK 2 v Q48 + pK 2 v Qf
theorem aZ.cnt0 (v : Val) : (aZ.cnt v == 0) = (aZ.dec v).2 := by
  unfold aZ.cnt aZ.dec
  simp only [add0, pN0, dN, Bool.and_assoc, Bool.and_left_comm, Bool.and_self_left]
theorem aZ.Q4x {v : Val} (_ : Val.Sm 1000 v) : aZ.cnt v ≤ 4 := by
  have g0 := Q3x 2 v Q48
  have g1 := Q3x 2 v Qf
  unfold aZ.cnt
  omega
def aR.cnt (v : Val) : Nat := pK 3 v Q12 + pK 2 v Q48
theorem aR.cnt0 (v : Val) : (aR.cnt v == 0) = (aR.dec v).2 := by
  unfold aR.cnt aR.dec
  simp only [add0, pS0, pN0, dN, dS, Bool.and_assoc, Bool.and_left_comm, Bool.and_comm, Bool.and_self_left]
theorem aR.Q4x {v : Val} (_ : Val.Sm 1000 v) : aR.cnt v ≤ 4 := by
  have g0 := Q3x 3 v Q12
  have g1 := Q3x 2 v Q48
  unfold aR.cnt
  omega
def bP.cnt (v : Val) : Nat := pK 3 v Ql + pK 2 v Q14s + pK 2 v Q1w
def dH.cnt (v : Val) : Nat := pK 3 v Q1hv + pK 3 v Q2w + pK 2 v Qfx + pK 1 v Q14 + pK 1 v Q9j
def gu.cnt (v : Val) : Nat := pK 3 v Qb5 + pE au.cnt v Q6
def cB.cnt (v : Val) : Nat := pK 1 v Qok + pE gu.cnt v Qyi + pE (cK 2) v Qaf
def JobS.enc (x : bW) : Val := vM [.mk Qj (vN x.d9), .mk Q16 (vN x.dz), .mk Q2j (vB x.eU), .mk Qu (vN x.dD), .mk Q1x (vN x.eX), .mk Q19 (vB x.dh), .mk Q17 (aY.enc x.bA)]
def JobS.dec (v : Val) : bW × Bool := (bW.mk ((bJ.mk eB eB eB 0 0 0 0 false 0 [] [] [] [])) (dN v Qj).1 (dN v Qu).1 (dN v Q1x).1 (dN v Q16).1 (dB v Q2j).1 (dB v Q19).1 (tD v Q17).1 (0) (0) (0) (0) (0) ([]) (0), isM v && (dN v Qj).2 && (dN v Q16).2 && (dB v Q2j).2 && (dN v Qu).2 && (dN v Q1x).2 && (dB v Q19).2 && (tD v Q17).2)
def JobS.cnt (v : Val) : Nat := pK 2 v Qj + pK 2 v Qu + pK 2 v Q1x + pK 2 v Q16 + pK 1 v Q2j + pK 1 v Q19 + tC v Q17
theorem JobS.cnt0 (v : Val) : (JobS.cnt v == 0) = (JobS.dec v).2 := by
  unfold JobS.cnt JobS.dec
  simp only [add0, pN0, pB0, tC0, dN, dB, Bool.and_assoc, Bool.and_left_comm, Bool.and_comm, Bool.and_self_left]
theorem JobS.Q4x {v : Val} (_ : Val.Sm 1000 v) : JobS.cnt v ≤ 14 := by
  have g0 := Q3x 2 v Qj
  have g1 := Q3x 2 v Qu
  have g2 := Q3x 2 v Q1x
  have g3 := Q3x 2 v Q16
  have g4 := Q3x 1 v Q2j
  have g5 := Q3x 1 v Q19
  have g6 := Q1r8 v Q17
  unfold JobS.cnt
  omega
def JobS.fC (v : Val) (n : BA) : Nat := cM v + JobS.cnt (prt v n)
theorem JobS.fC0 (v : Val) (n : BA) : (JobS.fC v n == 0) = (isM v && (dT JobS.dec v n).2) := by unfold JobS.fC; rw [add0, cM0, JobS.cnt0]
theorem JobS.Q2d5 {v : Val} (h : Val.Sm 1000 v) (n : BA) : JobS.fC v n ≤ 15 := by
  have a := Qaw 5 v
  have b := JobS.Q4x (Qg h n)
  unfold JobS.fC cM
  omega
def JobS.sm (x : bW) : Prop := aY.sm x.bA ∧ True
theorem JobS.Q3f {x : bW} (h : JobS.sm x) : Val.Sm sB (JobS.enc x) := Q7u (Nat.le_of_ble_eq_true rfl) (List.forall_mem_cons.2 ⟨Val.Sm.leaf 2 _ _, List.forall_mem_cons.2 ⟨Val.Sm.leaf 2 _ _, List.forall_mem_cons.2 ⟨Val.Sm.leaf 1 _ _, List.forall_mem_cons.2 ⟨Val.Sm.leaf 2 _ _, List.forall_mem_cons.2 ⟨Val.Sm.leaf 2 _ _, List.forall_mem_cons.2 ⟨Val.Sm.leaf 1 _ _, List.forall_mem_cons.2 ⟨aY.Q3f h.1, fun _ h => by cases h⟩⟩⟩⟩⟩⟩⟩)
theorem JobS.Q3i {v : Val} (h : Val.Sm sB v) : JobS.sm (JobS.dec v).1 := ⟨Q1r9 h _, trivial⟩
def aJ.encS (x : aJ) : Val := vM [.mk Q16 (vN x.dz), .mk Q3y (vN x.gV), .mk Q3l (vN x.eD), .mk Q4g (vB x.iy), .mk Q3m (vB x.gH), .mk Qf (vN x.bU), .mk Q6 (vL (x.bG.map au.enc)), .mk Q4q (aL.enc x.iD), .mk Q17 (aY.enc x.bA), .mk Q2i (aL.enc x.dK), .mk Q5r (vN x.iQ)]
def aJ.encT (x : aJ) : Val := bf.enc x.aM
def aJ.obj (x : aJ) : aA := ⟨{ x.aI with kind := Q22 }, aJ.encS x, aJ.encT x⟩
def aJ.of (o : aA) : aJ := aJ.mk o.aI (dN o.aO Qf).1 (dN o.aO Q3l).1 (dN o.aO Q3y).1 (dN o.aO Q16).1 (dE au.dec o.aO Q6).1 (tD o.aO Q17).1 (dB o.aO Q3m).1 (dB o.aO Q4g).1 (dT aL.dec o.aO Q4q).1 (dT aL.dec o.aO Q2i).1 (dN o.aO Q5r).1 (bf.dec o.aM).1
def aJ.ok (o : aA) : Bool := sEq o.aI.kind Q22 && (isM o.aO && (isM o.aM && ((dN o.aO Q16).2 && ((dN o.aO Q3y).2 && ((dN o.aO Q3l).2 && ((dB o.aO Q4g).2 && ((dB o.aO Q3m).2 && ((dN o.aO Qf).2 && ((dE au.dec o.aO Q6).2 && ((dT aL.dec o.aO Q4q).2 && ((tD o.aO Q17).2 && ((dT aL.dec o.aO Q2i).2 && ((dN o.aO Q5r).2 && (bf.dec o.aM).2)))))))))))))
def aJ.cnt (o : aA) : Nat := nb (sEq o.aI.kind Q22) + cM o.aO + cM o.aM + pK 2 o.aO Qf + pK 2 o.aO Q3l + pK 2 o.aO Q3y + pK 2 o.aO Q16 + pE au.cnt o.aO Q6 + tC o.aO Q17 + pK 1 o.aO Q3m + pK 1 o.aO Q4g + (cM o.aO + aL.cnt (prt o.aO Q4q)) + (cM o.aO + aL.cnt (prt o.aO Q2i)) + pK 2 o.aO Q5r + bf.cnt o.aM
theorem aJ.cnt0 (o : aA) : (aJ.cnt o == 0) = aJ.ok o := by
  unfold aJ.cnt aJ.ok
  simp only [add0, nb0, cM0, pN0, pE0 au.cnt0, tC0, pB0, aL.cnt0, bf.cnt0, dN, dB, dE, dT, Bool.and_assoc, Bool.and_left_comm, Bool.and_comm, Bool.and_self_left]
theorem aJ.Q4x {o : aA} (h : Val.Sm 1000 o.aO ∧ Val.Sm 1000 o.aM) : aJ.cnt o ≤ 1007045 := by
  have g0 := Q14y (sEq o.aI.kind Q22)
  have g1 := Qaw 5 o.aO
  have g2 := Qaw 5 o.aM
  have g3 := Q3x 2 o.aO Qf
  have g4 := Q3x 2 o.aO Q3l
  have g5 := Q3x 2 o.aO Q3y
  have g6 := Q3x 2 o.aO Q16
  have g7 := Qyo (c := au.cnt) (K := 1007) (fun x hx => au.Q4x hx) h.1 Q6
  have g8 := Q1r8 o.aO Q17
  have g9 := Q3x 1 o.aO Q3m
  have g10 := Q3x 1 o.aO Q4g
  have g11 := aL.Q4x (Qg h.1 Q4q)
  have g12 := aL.Q4x (Qg h.1 Q2i)
  have g13 := Q3x 2 o.aO Q5r
  have g14 := bf.Q4x h.2
  unfold aJ.cnt cM
  omega
def aJ.sm (x : aJ) : Prop := LSm au.sm x.bG ∧ aY.sm x.bA ∧ aL.sm x.iD ∧ aL.sm x.dK ∧ bf.sm x.aM ∧ True
theorem aJ.Qf1 {x : aJ} (h : aJ.sm x) : Val.Sm sB (aJ.encS x) ∧ Val.Sm sB (aJ.encT x) := ⟨Q7u (Nat.le_of_ble_eq_true rfl) (List.forall_mem_cons.2 ⟨Val.Sm.leaf 2 _ _, List.forall_mem_cons.2 ⟨Val.Sm.leaf 2 _ _, List.forall_mem_cons.2 ⟨Val.Sm.leaf 2 _ _, List.forall_mem_cons.2 ⟨Val.Sm.leaf 1 _ _, List.forall_mem_cons.2 ⟨Val.Sm.leaf 1 _ _, List.forall_mem_cons.2 ⟨Val.Sm.leaf 2 _ _, List.forall_mem_cons.2 ⟨Q4v (fun _ h => au.Q3f h) h.1, List.forall_mem_cons.2 ⟨aL.Q3f h.2.2.1, List.forall_mem_cons.2 ⟨aY.Q3f h.2.1, List.forall_mem_cons.2 ⟨aL.Q3f h.2.2.2.1, List.forall_mem_cons.2 ⟨Val.Sm.leaf 2 _ _, fun _ h => by cases h⟩⟩⟩⟩⟩⟩⟩⟩⟩⟩⟩), bf.Q3f h.2.2.2.2.1⟩
theorem aJ.Qf2 {o : aA} (h : Val.Sm sB o.aO ∧ Val.Sm sB o.aM) : aJ.sm (aJ.of o) := ⟨Q92 (fun _ h => au.Q3i h) (Qg h.1 _), Q1r9 h.1 _, aL.Q3i (Qg h.1 _), aL.Q3i (Qg h.1 _), bf.Q3i h.2, trivial⟩
def aJ.R (o : aA) : aJ × Int := bif aJ.ok o then (aJ.of o, 0) else ((aJ.mk (bJ.mk eB eB eB 0 0 0 0 false 0 [] [] [] []) 0 0 0 0 [] (aY.mk [] (bn.mk eB 0 0 0 [] [] [] [] [] [])) false false (aL.mk false 0) (aL.mk false 0) 0 (bf.mk 0 0 0 0 0 0 false)), 6)
abbrev aJ.z : aJ := (aJ.mk (bJ.mk eB eB eB 0 0 0 0 false 0 [] [] [] []) 0 0 0 0 [] (aY.mk [] (bn.mk eB 0 0 0 [] [] [] [] [] [])) false false (aL.mk false 0) (aL.mk false 0) 0 (bf.mk 0 0 0 0 0 0 false))
theorem aJ.rc {o : aA} (h : Val.Sm 1000 o.aO ∧ Val.Sm 1000 o.aM) : resC (aJ.cnt o) (aJ.of o) aJ.z = aJ.R o := by
  rw [Qp7 (Nat.le_trans (aJ.Q4x h) (Nat.le_of_ble_eq_true rfl)), aJ.cnt0]
  rfl
theorem aJ.z_sm : aJ.sm aJ.z := by
  have h0 := Q13u
  exact aJ.Qf2 (o := ⟨(bJ.mk eB eB eB 0 0 0 0 false 0 [] [] [] []), vZ, vZ⟩) ⟨h0, h0⟩
theorem aJ.R_sm {o : aA} (h : Val.Sm sB o.aO ∧ Val.Sm sB o.aM) : aJ.sm (aJ.R o).1 := by
  unfold aJ.R
  cases aJ.ok o with
  | true => exact aJ.Qf2 h
  | false => exact aJ.z_sm
def aF.encS (x : aF) : Val := vM [.mk Q36 (aL.enc x.fP), .mk Q2g (vN x.fD), .mk Q6d (vN x.max_), .mk Qp (vL (x.dF.map aX.enc)), .mk Q6e (vN x.min_), .mk Q1z (vN x.eH), .mk Q1w (vS x.target), .mk Q2h (vS x.fG), .mk Q2p (vN x.fT), .mk Q44 (aL.enc x.gL), .mk Q2y (vN x.gJ)]
def aF.encT (x : aF) : Val := vM [.mk Q1u (vL (x.dQ.map aZ.enc)), .mk Q3n (vN x.iB)]
def aF.obj (x : aF) : aA := ⟨{ x.aI with kind := Q1h }, aF.encS x, aF.encT x⟩
def aF.of (o : aA) : aF := aF.mk o.aI (dS o.aO Q2h).1 (dS o.aO Q1w).1 (dN o.aO Q6e).1 (dN o.aO Q6d).1 (dE aX.dec o.aO Qp).1 (dN o.aO Q2p).1 (dN o.aO Q2y).1 (dN o.aO Q2g).1 (dT aL.dec o.aO Q44).1 (dT aL.dec o.aO Q36).1 (dN o.aO Q1z).1 (dE aZ.dec o.aM Q1u).1 (dN o.aM Q3n).1
def aF.ok (o : aA) : Bool := sEq o.aI.kind Q1h && (isM o.aO && (isM o.aM && ((dT aL.dec o.aO Q36).2 && ((dN o.aO Q2g).2 && ((dN o.aO Q6d).2 && ((dE aX.dec o.aO Qp).2 && ((dN o.aO Q6e).2 && ((dN o.aO Q1z).2 && ((dS o.aO Q1w).2 && ((dS o.aO Q2h).2 && ((dN o.aO Q2p).2 && ((dT aL.dec o.aO Q44).2 && ((dN o.aO Q2y).2 && ((dE aZ.dec o.aM Q1u).2 && (dN o.aM Q3n).2))))))))))))))
def aF.cnt (o : aA) : Nat := nb (sEq o.aI.kind Q1h) + cM o.aO + cM o.aM + pK 3 o.aO Q2h + pK 3 o.aO Q1w + pK 2 o.aO Q6e + pK 2 o.aO Q6d + pE aX.cnt o.aO Qp + pK 2 o.aO Q2p + pK 2 o.aO Q2y + pK 2 o.aO Q2g + (cM o.aO + aL.cnt (prt o.aO Q44)) + (cM o.aO + aL.cnt (prt o.aO Q36)) + pK 2 o.aO Q1z + pE aZ.cnt o.aM Q1u + pK 2 o.aM Q3n
theorem aF.cnt0 (o : aA) : (aF.cnt o == 0) = aF.ok o := by
  unfold aF.cnt aF.ok
  simp only [add0, nb0, cM0, pS0, pN0, pE0 aX.cnt0, aL.cnt0, pE0 aZ.cnt0, dN, dS, dE, dT, Bool.and_assoc, Bool.and_left_comm, Bool.and_comm, Bool.and_self_left]
theorem aF.Q4x {o : aA} (h : Val.Sm 1000 o.aO ∧ Val.Sm 1000 o.aM) : aF.cnt o ≤ 8035 := by
  have g0 := Q14y (sEq o.aI.kind Q1h)
  have g1 := Qaw 5 o.aO
  have g2 := Qaw 5 o.aM
  have g3 := Q3x 3 o.aO Q2h
  have g4 := Q3x 3 o.aO Q1w
  have g5 := Q3x 2 o.aO Q6e
  have g6 := Q3x 2 o.aO Q6d
  have g7 := Qyo (c := aX.cnt) (K := 4) (fun x hx => aX.Q4x hx) h.1 Qp
  have g8 := Q3x 2 o.aO Q2p
  have g9 := Q3x 2 o.aO Q2y
  have g10 := Q3x 2 o.aO Q2g
  have g11 := aL.Q4x (Qg h.1 Q44)
  have g12 := aL.Q4x (Qg h.1 Q36)
  have g13 := Q3x 2 o.aO Q1z
  have g14 := Qyo (c := aZ.cnt) (K := 4) (fun x hx => aZ.Q4x hx) h.2 Q1u
  have g15 := Q3x 2 o.aM Q3n
  unfold aF.cnt cM
  omega
def aF.sm (x : aF) : Prop := LSm aX.sm x.dF ∧ aL.sm x.gL ∧ aL.sm x.fP ∧ LSm aZ.sm x.dQ ∧ True
theorem aF.Qf1 {x : aF} (h : aF.sm x) : Val.Sm sB (aF.encS x) ∧ Val.Sm sB (aF.encT x) := ⟨Q7u (Nat.le_of_ble_eq_true rfl) (List.forall_mem_cons.2 ⟨aL.Q3f h.2.2.1, List.forall_mem_cons.2 ⟨Val.Sm.leaf 2 _ _, List.forall_mem_cons.2 ⟨Val.Sm.leaf 2 _ _, List.forall_mem_cons.2 ⟨Q4v (fun _ h => aX.Q3f h) h.1, List.forall_mem_cons.2 ⟨Val.Sm.leaf 2 _ _, List.forall_mem_cons.2 ⟨Val.Sm.leaf 2 _ _, List.forall_mem_cons.2 ⟨Val.Sm.leaf 3 _ _, List.forall_mem_cons.2 ⟨Val.Sm.leaf 3 _ _, List.forall_mem_cons.2 ⟨Val.Sm.leaf 2 _ _, List.forall_mem_cons.2 ⟨aL.Q3f h.2.1, List.forall_mem_cons.2 ⟨Val.Sm.leaf 2 _ _, fun _ h => by cases h⟩⟩⟩⟩⟩⟩⟩⟩⟩⟩⟩), Q7u (Nat.le_of_ble_eq_true rfl) (List.forall_mem_cons.2 ⟨Q4v (fun _ h => aZ.Q3f h) h.2.2.2.1, List.forall_mem_cons.2 ⟨Val.Sm.leaf 2 _ _, fun _ h => by cases h⟩⟩)⟩
theorem aF.Qf2 {o : aA} (h : Val.Sm sB o.aO ∧ Val.Sm sB o.aM) : aF.sm (aF.of o) := ⟨Q92 (fun _ h => aX.Q3i h) (Qg h.1 _), aL.Q3i (Qg h.1 _), aL.Q3i (Qg h.1 _), Q92 (fun _ h => aZ.Q3i h) (Qg h.2 _), trivial⟩
def aF.R (o : aA) : aF × Int := bif aF.ok o then (aF.of o, 0) else ((aF.mk (bJ.mk eB eB eB 0 0 0 0 false 0 [] [] [] []) eB eB 0 0 [] 0 0 0 (aL.mk false 0) (aL.mk false 0) 0 [] 0), 6)
abbrev aF.z : aF := (aF.mk (bJ.mk eB eB eB 0 0 0 0 false 0 [] [] [] []) eB eB 0 0 [] 0 0 0 (aL.mk false 0) (aL.mk false 0) 0 [] 0)
theorem aF.rc {o : aA} (h : Val.Sm 1000 o.aO ∧ Val.Sm 1000 o.aM) : resC (aF.cnt o) (aF.of o) aF.z = aF.R o := by
  rw [Qp7 (Nat.le_trans (aF.Q4x h) (Nat.le_of_ble_eq_true rfl)), aF.cnt0]
  rfl
theorem aF.z_sm : aF.sm aF.z := by
  have h0 := Q13u
  exact aF.Qf2 (o := ⟨(bJ.mk eB eB eB 0 0 0 0 false 0 [] [] [] []), vZ, vZ⟩) ⟨h0, h0⟩
theorem aF.R_sm {o : aA} (h : Val.Sm sB o.aO ∧ Val.Sm sB o.aM) : aF.sm (aF.R o).1 := by
  unfold aF.R
  cases aF.ok o with
  | true => exact aF.Qf2 h
  | false => exact aF.z_sm
def bW.encS (x : bW) : Val := vM [.mk Qj (vN x.d9), .mk Q16 (vN x.dz), .mk Q2j (vB x.eU), .mk Qu (vN x.dD), .mk Q1x (vN x.eX), .mk Q19 (vB x.dh), .mk Q17 (aY.enc x.bA)]
def bW.encT (x : bW) : Val := vM [.mk Q4e (vN x.gZ), .mk Q5q (vL (x.done.map vN)), .mk Q2o (vN x.bD), .mk Q3k (vN x.fU), .mk Q4h (vN x.iq), .mk Q3z (vN x.started), .mk Q34 (vN x.fF)]
def bW.obj (x : bW) : aA := ⟨{ x.aI with kind := Q33 }, bW.encS x, bW.encT x⟩
def bW.of (o : aA) : bW := bW.mk o.aI (dN o.aO Qj).1 (dN o.aO Qu).1 (dN o.aO Q1x).1 (dN o.aO Q16).1 (dB o.aO Q2j).1 (dB o.aO Q19).1 (tD o.aO Q17).1 (dN o.aM Q4e).1 (dN o.aM Q34).1 (dN o.aM Q2o).1 (dN o.aM Q3z).1 (dN o.aM Q3k).1 (dE xN o.aM Q5q).1 (dN o.aM Q4h).1
def bW.ok (o : aA) : Bool := sEq o.aI.kind Q33 && (isM o.aO && (isM o.aM && ((dN o.aO Qj).2 && ((dN o.aO Q16).2 && ((dB o.aO Q2j).2 && ((dN o.aO Qu).2 && ((dN o.aO Q1x).2 && ((dB o.aO Q19).2 && ((tD o.aO Q17).2 && ((dN o.aM Q4e).2 && ((dE xN o.aM Q5q).2 && ((dN o.aM Q2o).2 && ((dN o.aM Q3k).2 && ((dN o.aM Q4h).2 && ((dN o.aM Q3z).2 && (dN o.aM Q34).2)))))))))))))))
def bW.cnt (o : aA) : Nat := nb (sEq o.aI.kind Q33) + cM o.aO + cM o.aM + pK 2 o.aO Qj + pK 2 o.aO Qu + pK 2 o.aO Q1x + pK 2 o.aO Q16 + pK 1 o.aO Q2j + pK 1 o.aO Q19 + tC o.aO Q17 + pK 2 o.aM Q4e + pK 2 o.aM Q34 + pK 2 o.aM Q2o + pK 2 o.aM Q3z + pK 2 o.aM Q3k + pE (cK 2) o.aM Q5q + pK 2 o.aM Q4h
theorem bW.cnt0 (o : aA) : (bW.cnt o == 0) = bW.ok o := by
  unfold bW.cnt bW.ok
  simp only [add0, nb0, cM0, pN0, pB0, tC0, pE0 kN, dN, dB, dE, Bool.and_assoc, Bool.and_left_comm, Bool.and_comm, Bool.and_self_left]
theorem bW.Q4x {o : aA} (h : Val.Sm 1000 o.aO ∧ Val.Sm 1000 o.aM) : bW.cnt o ≤ 1031 := by
  have g0 := Q14y (sEq o.aI.kind Q33)
  have g1 := Qaw 5 o.aO
  have g2 := Qaw 5 o.aM
  have g3 := Q3x 2 o.aO Qj
  have g4 := Q3x 2 o.aO Qu
  have g5 := Q3x 2 o.aO Q1x
  have g6 := Q3x 2 o.aO Q16
  have g7 := Q3x 1 o.aO Q2j
  have g8 := Q3x 1 o.aO Q19
  have g9 := Q1r8 o.aO Q17
  have g10 := Q3x 2 o.aM Q4e
  have g11 := Q3x 2 o.aM Q34
  have g12 := Q3x 2 o.aM Q2o
  have g13 := Q3x 2 o.aM Q3z
  have g14 := Q3x 2 o.aM Q3k
  have g15 := Qyo (c := (cK 2)) (K := 1) (fun x hx => Qaw _ _) h.2 Q5q
  have g16 := Q3x 2 o.aM Q4h
  unfold bW.cnt cM
  omega
def bW.sm (x : bW) : Prop := aY.sm x.bA ∧ LSm (fun _ : Int => True) x.done ∧ True
theorem bW.Qf1 {x : bW} (h : bW.sm x) : Val.Sm sB (bW.encS x) ∧ Val.Sm sB (bW.encT x) := ⟨Q7u (Nat.le_of_ble_eq_true rfl) (List.forall_mem_cons.2 ⟨Val.Sm.leaf 2 _ _, List.forall_mem_cons.2 ⟨Val.Sm.leaf 2 _ _, List.forall_mem_cons.2 ⟨Val.Sm.leaf 1 _ _, List.forall_mem_cons.2 ⟨Val.Sm.leaf 2 _ _, List.forall_mem_cons.2 ⟨Val.Sm.leaf 2 _ _, List.forall_mem_cons.2 ⟨Val.Sm.leaf 1 _ _, List.forall_mem_cons.2 ⟨aY.Q3f h.1, fun _ h => by cases h⟩⟩⟩⟩⟩⟩⟩), Q7u (Nat.le_of_ble_eq_true rfl) (List.forall_mem_cons.2 ⟨Val.Sm.leaf 2 _ _, List.forall_mem_cons.2 ⟨Q4v (fun _ h => Val.Sm.leaf _ _ _) h.2.1, List.forall_mem_cons.2 ⟨Val.Sm.leaf 2 _ _, List.forall_mem_cons.2 ⟨Val.Sm.leaf 2 _ _, List.forall_mem_cons.2 ⟨Val.Sm.leaf 2 _ _, List.forall_mem_cons.2 ⟨Val.Sm.leaf 2 _ _, List.forall_mem_cons.2 ⟨Val.Sm.leaf 2 _ _, fun _ h => by cases h⟩⟩⟩⟩⟩⟩⟩)⟩
theorem bW.Qf2 {o : aA} (h : Val.Sm sB o.aO ∧ Val.Sm sB o.aM) : bW.sm (bW.of o) := ⟨Q1r9 h.1 _, Q92 (fun _ _h => trivial) (Qg h.2 _), trivial⟩
def bW.R (o : aA) : bW × Int := bif bW.ok o then (bW.of o, 0) else ((bW.mk (bJ.mk eB eB eB 0 0 0 0 false 0 [] [] [] []) 0 0 0 0 false false (aY.mk [] (bn.mk eB 0 0 0 [] [] [] [] [] [])) 0 0 0 0 0 [] 0), 6)
abbrev bW.z : bW := (bW.mk (bJ.mk eB eB eB 0 0 0 0 false 0 [] [] [] []) 0 0 0 0 false false (aY.mk [] (bn.mk eB 0 0 0 [] [] [] [] [] [])) 0 0 0 0 0 [] 0)
theorem bW.rc {o : aA} (h : Val.Sm 1000 o.aO ∧ Val.Sm 1000 o.aM) : resC (bW.cnt o) (bW.of o) bW.z = bW.R o := by
  rw [Qp7 (Nat.le_trans (bW.Q4x h) (Nat.le_of_ble_eq_true rfl)), bW.cnt0]
  rfl
theorem bW.z_sm : bW.sm bW.z := by
  have h0 := Q13u
  exact bW.Qf2 (o := ⟨(bJ.mk eB eB eB 0 0 0 0 false 0 [] [] [] []), vZ, vZ⟩) ⟨h0, h0⟩
theorem bW.R_sm {o : aA} (h : Val.Sm sB o.aO ∧ Val.Sm sB o.aM) : bW.sm (bW.R o).1 := by
  unfold bW.R
  cases bW.ok o with
  | true => exact bW.Qf2 h
  | false => exact bW.z_sm
def aT.encS (x : aT) : Val := vM [.mk Q1s (vL (x.dI.map aL.enc)), .mk Q29 (vL (x.dR.map aL.enc)), .mk Q6 (vL (x.bG.map au.enc))]
def aT.encT (x : aT) : Val := vM [.mk Q3p (vN x.gN), .mk Q3q (vN x.gQ), .mk Q11 (vL (x.bZ.map aR.enc)), .mk Q37 (vN x.gy), .mk Q3r (vN x.gU), .mk Qr (vN x.dJ)]
def aT.obj (x : aT) : aA := ⟨{ x.aI with kind := Q2u }, aT.encS x, aT.encT x⟩
def aT.of (o : aA) : aT := aT.mk o.aI (dE au.dec o.aO Q6).1 (dE aL.dec o.aO Q29).1 (dE aL.dec o.aO Q1s).1 (dN o.aM Qr).1 (dN o.aM Q3r).1 (dN o.aM Q3q).1 (dN o.aM Q37).1 (dN o.aM Q3p).1 (dE aR.dec o.aM Q11).1
def aT.ok (o : aA) : Bool := sEq o.aI.kind Q2u && (isM o.aO && (isM o.aM && ((dE aL.dec o.aO Q1s).2 && ((dE aL.dec o.aO Q29).2 && ((dE au.dec o.aO Q6).2 && ((dN o.aM Q3p).2 && ((dN o.aM Q3q).2 && ((dE aR.dec o.aM Q11).2 && ((dN o.aM Q37).2 && ((dN o.aM Q3r).2 && (dN o.aM Qr).2))))))))))
def aT.cnt (o : aA) : Nat := nb (sEq o.aI.kind Q2u) + cM o.aO + cM o.aM + pE au.cnt o.aO Q6 + pE aL.cnt o.aO Q29 + pE aL.cnt o.aO Q1s + pK 2 o.aM Qr + pK 2 o.aM Q3r + pK 2 o.aM Q3q + pK 2 o.aM Q37 + pK 2 o.aM Q3p + pE aR.cnt o.aM Q11
theorem aT.cnt0 (o : aA) : (aT.cnt o == 0) = aT.ok o := by
  unfold aT.cnt aT.ok
  simp only [add0, nb0, cM0, pE0 au.cnt0, pE0 aL.cnt0, pN0, pE0 aR.cnt0, dN, dE, Bool.and_assoc, Bool.and_left_comm, Bool.and_comm, Bool.and_self_left]
theorem aT.Q4x {o : aA} (h : Val.Sm 1000 o.aO ∧ Val.Sm 1000 o.aM) : aT.cnt o ≤ 1019021 := by
  have g0 := Q14y (sEq o.aI.kind Q2u)
  have g1 := Qaw 5 o.aO
  have g2 := Qaw 5 o.aM
  have g3 := Qyo (c := au.cnt) (K := 1007) (fun x hx => au.Q4x hx) h.1 Q6
  have g4 := Qyo (c := aL.cnt) (K := 4) (fun x hx => aL.Q4x hx) h.1 Q29
  have g5 := Qyo (c := aL.cnt) (K := 4) (fun x hx => aL.Q4x hx) h.1 Q1s
  have g6 := Q3x 2 o.aM Qr
  have g7 := Q3x 2 o.aM Q3r
  have g8 := Q3x 2 o.aM Q3q
  have g9 := Q3x 2 o.aM Q37
  have g10 := Q3x 2 o.aM Q3p
  have g11 := Qyo (c := aR.cnt) (K := 4) (fun x hx => aR.Q4x hx) h.2 Q11
  unfold aT.cnt cM
  omega
def aT.sm (x : aT) : Prop := LSm au.sm x.bG ∧ LSm aL.sm x.dR ∧ LSm aL.sm x.dI ∧ LSm aR.sm x.bZ ∧ True
theorem aT.Qf1 {x : aT} (h : aT.sm x) : Val.Sm sB (aT.encS x) ∧ Val.Sm sB (aT.encT x) := ⟨Q7u (Nat.le_of_ble_eq_true rfl) (List.forall_mem_cons.2 ⟨Q4v (fun _ h => aL.Q3f h) h.2.2.1, List.forall_mem_cons.2 ⟨Q4v (fun _ h => aL.Q3f h) h.2.1, List.forall_mem_cons.2 ⟨Q4v (fun _ h => au.Q3f h) h.1, fun _ h => by cases h⟩⟩⟩), Q7u (Nat.le_of_ble_eq_true rfl) (List.forall_mem_cons.2 ⟨Val.Sm.leaf 2 _ _, List.forall_mem_cons.2 ⟨Val.Sm.leaf 2 _ _, List.forall_mem_cons.2 ⟨Q4v (fun _ h => aR.Q3f h) h.2.2.2.1, List.forall_mem_cons.2 ⟨Val.Sm.leaf 2 _ _, List.forall_mem_cons.2 ⟨Val.Sm.leaf 2 _ _, List.forall_mem_cons.2 ⟨Val.Sm.leaf 2 _ _, fun _ h => by cases h⟩⟩⟩⟩⟩⟩)⟩
theorem aT.Qf2 {o : aA} (h : Val.Sm sB o.aO ∧ Val.Sm sB o.aM) : aT.sm (aT.of o) := ⟨Q92 (fun _ h => au.Q3i h) (Qg h.1 _), Q92 (fun _ h => aL.Q3i h) (Qg h.1 _), Q92 (fun _ h => aL.Q3i h) (Qg h.1 _), Q92 (fun _ h => aR.Q3i h) (Qg h.2 _), trivial⟩
def aT.R (o : aA) : aT × Int := bif aT.ok o then (aT.of o, 0) else ((aT.mk (bJ.mk eB eB eB 0 0 0 0 false 0 [] [] [] []) [] [] [] 0 0 0 0 0 []), 6)
abbrev aT.z : aT := (aT.mk (bJ.mk eB eB eB 0 0 0 0 false 0 [] [] [] []) [] [] [] 0 0 0 0 0 [])
theorem aT.rc {o : aA} (h : Val.Sm 1000 o.aO ∧ Val.Sm 1000 o.aM) : resC (aT.cnt o) (aT.of o) aT.z = aT.R o := by
  rw [Qp7 (Nat.le_trans (aT.Q4x h) (Nat.le_of_ble_eq_true rfl)), aT.cnt0]
  rfl
theorem aT.z_sm : aT.sm aT.z := by
  have h0 := Q13u
  exact aT.Qf2 (o := ⟨(bJ.mk eB eB eB 0 0 0 0 false 0 [] [] [] []), vZ, vZ⟩) ⟨h0, h0⟩
theorem aT.R_sm {o : aA} (h : Val.Sm sB o.aO ∧ Val.Sm sB o.aM) : aT.sm (aT.R o).1 := by
  unfold aT.R
  cases aT.ok o with
  | true => exact aT.Qf2 h
  | false => exact aT.z_sm
def aS.encS (x : aS) : Val := vM [.mk Q72 (JobS.enc x.fZ), .mk Q3c (vN x.gD), .mk Q49 (vN x.iA), .mk Q3d (vS x.gI), .mk Q2m (vN x.fu), .mk Q19 (vB x.dh)]
def aS.encT (x : aS) : Val := vM [.mk Q5d (vN x.last)]
def aS.obj (x : aS) : aA := ⟨{ x.aI with kind := Q2a }, aS.encS x, aS.encT x⟩
def aS.of (o : aA) : aS := aS.mk o.aI (dS o.aO Q3d).1 (dN o.aO Q49).1 (dN o.aO Q2m).1 (dN o.aO Q3c).1 (dB o.aO Q19).1 (dT JobS.dec o.aO Q72).1 (dN o.aM Q5d).1
def aS.ok (o : aA) : Bool := sEq o.aI.kind Q2a && (isM o.aO && (isM o.aM && ((dT JobS.dec o.aO Q72).2 && ((dN o.aO Q3c).2 && ((dN o.aO Q49).2 && ((dS o.aO Q3d).2 && ((dN o.aO Q2m).2 && ((dB o.aO Q19).2 && (dN o.aM Q5d).2))))))))
def aS.cnt (o : aA) : Nat := nb (sEq o.aI.kind Q2a) + cM o.aO + cM o.aM + pK 3 o.aO Q3d + pK 2 o.aO Q49 + pK 2 o.aO Q2m + pK 2 o.aO Q3c + pK 1 o.aO Q19 + JobS.fC o.aO Q72 + pK 2 o.aM Q5d
theorem aS.cnt0 (o : aA) : (aS.cnt o == 0) = aS.ok o := by
  unfold aS.cnt aS.ok
  simp only [add0, nb0, cM0, pS0, pN0, pB0, JobS.fC0, dN, dS, dB, dT, Bool.and_assoc, Bool.and_left_comm, Bool.and_comm, Bool.and_self_left]
theorem aS.Q4x {o : aA} (h : Val.Sm 1000 o.aO ∧ Val.Sm 1000 o.aM) : aS.cnt o ≤ 30 := by
  have g0 := Q14y (sEq o.aI.kind Q2a)
  have g1 := Qaw 5 o.aO
  have g2 := Qaw 5 o.aM
  have g3 := Q3x 3 o.aO Q3d
  have g4 := Q3x 2 o.aO Q49
  have g5 := Q3x 2 o.aO Q2m
  have g6 := Q3x 2 o.aO Q3c
  have g7 := Q3x 1 o.aO Q19
  have g8 := JobS.Q2d5 h.1 Q72
  have g9 := Q3x 2 o.aM Q5d
  unfold aS.cnt cM
  omega
def aS.sm (x : aS) : Prop := JobS.sm x.fZ ∧ True
theorem aS.Qf1 {x : aS} (h : aS.sm x) : Val.Sm sB (aS.encS x) ∧ Val.Sm sB (aS.encT x) := ⟨Q7u (Nat.le_of_ble_eq_true rfl) (List.forall_mem_cons.2 ⟨JobS.Q3f h.1, List.forall_mem_cons.2 ⟨Val.Sm.leaf 2 _ _, List.forall_mem_cons.2 ⟨Val.Sm.leaf 2 _ _, List.forall_mem_cons.2 ⟨Val.Sm.leaf 3 _ _, List.forall_mem_cons.2 ⟨Val.Sm.leaf 2 _ _, List.forall_mem_cons.2 ⟨Val.Sm.leaf 1 _ _, fun _ h => by cases h⟩⟩⟩⟩⟩⟩), Q7u (Nat.le_of_ble_eq_true rfl) (List.forall_mem_cons.2 ⟨Val.Sm.leaf 2 _ _, fun _ h => by cases h⟩)⟩
theorem aS.Qf2 {o : aA} (h : Val.Sm sB o.aO ∧ Val.Sm sB o.aM) : aS.sm (aS.of o) := ⟨JobS.Q3i (Qg h.1 _), trivial⟩
def aS.R (o : aA) : aS × Int := bif aS.ok o then (aS.of o, 0) else ((aS.mk (bJ.mk eB eB eB 0 0 0 0 false 0 [] [] [] []) eB 0 0 0 false (bW.mk (bJ.mk eB eB eB 0 0 0 0 false 0 [] [] [] []) 0 0 0 0 false false (aY.mk [] (bn.mk eB 0 0 0 [] [] [] [] [] [])) 0 0 0 0 0 [] 0) 0), 6)
abbrev aS.z : aS := (aS.mk (bJ.mk eB eB eB 0 0 0 0 false 0 [] [] [] []) eB 0 0 0 false (bW.mk (bJ.mk eB eB eB 0 0 0 0 false 0 [] [] [] []) 0 0 0 0 false false (aY.mk [] (bn.mk eB 0 0 0 [] [] [] [] [] [])) 0 0 0 0 0 [] 0) 0)
theorem aS.rc {o : aA} (h : Val.Sm 1000 o.aO ∧ Val.Sm 1000 o.aM) : resC (aS.cnt o) (aS.of o) aS.z = aS.R o := by
  rw [Qp7 (Nat.le_trans (aS.Q4x h) (Nat.le_of_ble_eq_true rfl)), aS.cnt0]
  rfl
theorem aS.z_sm : aS.sm aS.z := by
  have h0 := Q13u
  exact aS.Qf2 (o := ⟨(bJ.mk eB eB eB 0 0 0 0 false 0 [] [] [] []), vZ, vZ⟩) ⟨h0, h0⟩
theorem aS.R_sm {o : aA} (h : Val.Sm sB o.aO ∧ Val.Sm sB o.aM) : aS.sm (aS.R o).1 := by
  unfold aS.R
  cases aS.ok o with
  | true => exact aS.Qf2 h
  | false => exact aS.z_sm
def aA.sm (x : aA) : Prop := Val.Sm sB x.aO ∧ Val.Sm sB x.aM
theorem Qp6 {α : Type} {n m : Nat} {x y z : α} (h : n = m) (g : x = y) : resC n x z = resC m y z := by rw [h, g]
theorem getL (x : Val) : (bif x.kind == 4 then x else vZ).list = (xL x).1 := by
  unfold xL
  cases (x.kind == 4) <;> rfl
theorem getN (x : Val) : (bif x.kind == 2 then x else vZ).n = (xN x).1 := by
  unfold xN
  cases (x.kind == 2) <;> rfl
theorem getS (x : Val) : (bif x.kind == 3 then x else vZ).s = (xS x).1 := by
  unfold xS
  cases (x.kind == 3) <;> rfl
theorem getB (x : Val) : (!((bif x.kind == 1 then x else vZ).n == 0)) = (xB x).1 := by
  unfold xB
  cases (x.kind == 1) <;> rfl
end Go.Proofs.YtimjjohlpnkacaaGreat
end

section
/- Metadata that are copied (printed by a program). -/
namespace Go.Proofs.YtimjjohlpnkacaaGreat
open Go.Pv
def Q18l (p0 : bJ) : List bB → Nat → Unit
 | [], _i0 =>
  ()
 | _x0 :: r0, i0 =>
  Q18l p0 r0 (i0 + 1)
def Q1g4 (p0 : bJ) (i0 : Nat) : List PV :=
  [.un, .bx 0 0, .bx 1 0] ++ nuns 19 ++ [.ms 2 2 0 (List.length p0.aW), iN ((List.length p0.aW) : Int), iN (i0 : Int)] ++ nuns 14
def Q109 (p0 : bJ) (_i0 : Nat) : List Ob :=
  [⟨13, 0, true, [.str p0.kind, .str p0.bM, .str p0.name, iN p0.gY, iN p0.dn, iN p0.bQ, iN p0.cZ, .bool p0.bY, iN p0.bX, .sl (aU.rows p0.bK), .sl (bS.rows p0.bO), .sl (Q15 p0.bI), .ms 2 2 0 (List.length p0.aW)]⟩, ⟨13, 0, true, [.str eB, .str eB, .str eB, iN 0, iN 0, iN 0, iN 0, .bool false, iN 0, .ms 3 2 0 0, .ms 4 5 0 0, .ms 5 1 0 0, .ms 6 2 0 0]⟩, ⟨2, 0, true, (bB.rows p0.aW).flatten⟩, ⟨2, 0, true, []⟩, ⟨5, 0, true, []⟩, ⟨1, 0, true, []⟩, ⟨2, 0, true, []⟩]
def Qhu (p0 : bJ) (i0 : Nat) : En := .loop 0 Ir.Qly Ir.Q1oj (Q1g4 p0 i0) (Q109 p0 i0)
def Qt4 (p0 : bJ) (z : Nat → PV) (_zo : Nat → List PV) : St :=
  ⟨[z 0, .bx 0 0, .bx 1 0] ++ zr z 3 36, [(0, ⟨13, 0, true, [.str p0.kind, .str p0.bM, .str p0.name, iN p0.gY, iN p0.dn, iN p0.bQ, iN p0.cZ, .bool p0.bY, iN p0.bX, .sl (aU.rows p0.bK), .sl (bS.rows p0.bO), .sl (Q15 p0.bI), .ms 2 2 0 (List.length p0.aW)]⟩), (1, ⟨13, 0, true, [.str eB, .str eB, .str eB, iN 0, iN 0, iN 0, iN 0, .bool false, iN 0, .ms 3 2 0 0, .ms 4 5 0 0, .ms 5 1 0 0, .ms 6 2 0 0]⟩), (2, ⟨2, 0, true, (bB.rows p0.aW).flatten⟩), (3, ⟨2, 0, true, []⟩), (4, ⟨5, 0, true, []⟩), (5, ⟨1, 0, true, []⟩), (6, ⟨2, 0, true, []⟩)], 71⟩
theorem Q16n (p0 : bJ) (i0 : Nat) : VOK (Go.Pv.look (number 0 (Q109 p0 i0))) [(2, bB.rows p0.aW)] := (VOK.cons (show Seen _ _ from Q4a (ob := ⟨2, 0, true, (bB.rows p0.aW).flatten⟩) (bB.Q8 p0.aW 2 rfl)) VOK.nil)
def Qc5 (p0 : bJ) (e : En) (_q : Unit) : Prop := ∃ z zo, Q0 G e (.st (.exit 0) (Qt4 p0 z zo))
theorem Qxi (p0 : bJ) {e e' : En} (h : ∀ r, Q0 G e r → Q0 G e' r) : ∀ q, Qc5 p0 e q → Qc5 p0 e' q
  | _, ⟨z, zo, hz⟩ => ⟨z, zo, h _ hz⟩
def Qip (p0 : bJ) : Prop := (List.length p0.aW ≤ 4611686018427387904) ∧ (∀ x0 ∈ p0.aW, List.length x0.fields * 16 ≤ 140737488355328) ∧ True
def Qv6 (p0 : bJ) (i0 : Nat) : List PV :=
  nuns 22 ++ [.ms 2 2 0 (List.length p0.aW), iN ((List.length p0.aW) : Int), iN (i0 : Int), .bool false]
def Qnu (_p0 : bJ) (_i0 : Nat) : List (Nat × List PV) :=
  []
theorem Q1ek (p0 : bJ) (_H : Qip p0) (i0 : Nat) (bC : (decide ((i0 : Int) < ((List.length p0.aW) : Int))) = false) : Qc5 p0 (Qhu p0 i0) () := by
 exact ⟨(envF (Qv6 p0 i0)), (zoF (Qnu p0 i0)), Qh (Q16n p0 i0) (x := ((.exit 0), Qt4 p0 (envF (Qv6 p0 i0)) (zoF (Qnu p0 i0)))) [hB 0 bC] [] (by kernel_rfl)⟩
theorem Q1ca (p0 : bJ) (H : Qip p0) (x0 : bB) (i0 : Nat) (bF : p0.aW[i0]? = some x0) (bR : i0 < List.length p0.aW) (bC : (decide ((i0 : Int) < ((List.length p0.aW) : Int))) = true) {r : Rs} (hr : Q0 G (Qhu p0 (i0 + 1)) r) : Q0 G (Qhu p0 i0) r := by
 have hB0 := H.1
 exact Qc (Q16n p0 i0) [hB 0 bC, hP 1 (Qb4 2 2 (List.length p0.aW) (i0 : Int) i0 (by omega) (by omega) (by omega)), hP 0 (Q1hw 2 2 0 true ((bB.rows p0.aW).flatten) (bB.rows p0.aW) 2 true i0 0 (i0 * 2) (bB.cells x0) (.agg [.str x0.name, .sl (Q15 x0.fields)]) rfl rfl (bB.Qb bF) (bB.Qw p0.aW) (by decide) rfl), hP 9 (Qb4 2 2 (List.length p0.aW) (i0 : Int) i0 (by omega) (by omega) (by omega)), hV 1 [(2, bB.rows p0.aW)] (Q1cs 2 2 true ((bB.rows p0.aW).flatten) (bB.rows p0.aW) (bB.rows p0.aW) 1 i0 1 (i0 * 2 + 1) _ (.sl (Q15 x0.fields)) rfl rfl (bB.Qb bF) (bB.Qw p0.aW) (by decide) rfl rfl (Q15a (bB.Qb bF))), hS 0 true (bB.Q8 p0.aW 2 rfl), hP 0 (Q26 i0 (by omega))] [aN (Q9b (G := G) (f := 177) (sz := 1) (bytes := 16) rfl (Q2d x0.fields) (Q39 x0.fields 1 rfl) (H.2.1 x0 (Q1i bF)))] hr (by kernel_rfl)
theorem Q132 (p0 : bJ) (H : Qip p0) : ∀ (r0 : List bB) (i0 : Nat), List.drop i0 p0.aW = r0 → Qc5 p0 (Qhu p0 i0) (Q18l p0 r0 i0)
 | [], i0, hd => by
  have bC : (decide ((i0 : Int) < ((List.length p0.aW) : Int))) = false := by have := Q1o hd; simp; omega
  show Qc5 p0 _ ()
  exact Q1ek p0 H i0 bC
 | x0 :: r0, i0, hd => by
  obtain ⟨bF, bR, hd'⟩ := Q1p hd
  have bC : (decide ((i0 : Int) < ((List.length p0.aW) : Int))) = true := by simp; omega
  show Qc5 p0 _ ()
  exact Qxi p0 (fun r hr => Q1ca p0 H x0 i0 bF bR bC hr) _ (Q132 p0 H r0 _ hd')
def Q209 (p0 : bJ) : bJ := p0
theorem Q2ci (p0 : bJ) : Q209 p0 = (p0) := by
  rfl
def Q29f (p0 : bJ) : En := .call 70 [.agg (bJ.cells p0)] []
def Q1yn (p0 : bJ) : Rs := .ret (.agg (bJ.cells (Q209 p0))) []
def Qgp (p0 : bJ) : Prop := (List.length p0.bK * 32 ≤ 140737488355328) ∧ (List.length p0.bO * 48 ≤ 140737488355328) ∧ (List.length p0.bI * 16 ≤ 140737488355328) ∧ (List.length p0.aW * 40 ≤ 140737488355328) ∧ (Qip p0) ∧ True
theorem Q1jg (p0 : bJ) (H : Qgp p0) : Q0 G (Q29f p0) (Q1yn p0) := by
 unfold Q1yn
 rw [Q2ci]
 have hl0 := Q132 p0 (H.2.2.2.2.1) p0.aW 0 (by simp)
 obtain ⟨z0, fA, hl0⟩ := hl0
 exact Q7 (fn := Ir.K5z) (by kernel_rfl) VOK.nil [hQ (bB.Q8 p0.aW 2 rfl), hS 0 true (bB.Q8 p0.aW 2 rfl), hQ (bB.Q5 p0.aW).symm] [aN (Q9b (G := G) (f := 175) (sz := 2) (bytes := 32) rfl (aU.Q5 p0.bK) (aU.Q8 p0.bK 2 rfl) H.1), aN (Q9b (G := G) (f := 176) (sz := 5) (bytes := 48) rfl (bS.Q5 p0.bO) (bS.Q8 p0.bO 5 rfl) H.2.1), aN (Q9b (G := G) (f := 177) (sz := 1) (bytes := 16) rfl (Q2d p0.bI) (Q39 p0.bI 1 rfl) H.2.2.1), aV [(0, bB.rows p0.aW)] (Qde (G := G) (f := 178) (sz := 2) (bytes := 40) rfl (bB.Q5 p0.aW) (bB.Q8 p0.aW 2 rfl) H.2.2.2.1), aV [(2, bB.rows p0.aW)] hl0] (by kernel_rfl)
end Go.Proofs.YtimjjohlpnkacaaGreat
end

section
/- What the encoders of templates compute (printed by a program). -/
namespace Go.Proofs.YtimjjohlpnkacaaGreat
open Go.Pv
end Go.Proofs.YtimjjohlpnkacaaGreat
end

section
/- What the program's encoders compute (printed by a program). -/
namespace Go.Proofs.YtimjjohlpnkacaaGreat
open Go.Pv
end Go.Proofs.YtimjjohlpnkacaaGreat
end

