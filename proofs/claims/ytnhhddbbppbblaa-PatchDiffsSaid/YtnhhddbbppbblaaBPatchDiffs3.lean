/- Texts of the claim, merged by a program; what the statement does not reach is left out. -/
import Derived.Test.YtnhhddbbppbblaaBPatchDiffs2
import Derived.OpenShut
import Derived.ChangeArms
import Derived.ChangeSlices
import Derived.ChangeOld
import Derived.Carry
import GoSem.ClaimJoined

section
/- More of single operations: sums that don't run over; shifts of indexes; stores into a slice of one's own that is known by its rows. -/
namespace Go.Pv
def wE (n : Int) : Option Eff := some ⟨.int .i64 (IntKind.i64.wrap n), [], []⟩
theorem w_ok (n : Int) (h : -9223372036854775808 ≤ n ∧ n ≤ 9223372036854775807) : wE n = some (vE (.int .i64 n)) := by
 unfold wE
 have := Qbx h
 unfold w64 at this
 rw [this]
 rfl
theorem beqT {x v : Bool} (h : (x == true) = v) : x = v := by cases x <;> cases v <;> simp_all
def sCmp (a b : ByteArray) : Int := cmpL a.toList b.toList
theorem Qft {sz : Nat} : ∀ (rows : List (List PV)) (k : Nat) (r vals : List PV) (off n : Nat), rows[k]? = some r → (∀ q ∈ rows, q.length = sz) → off + n ≤ sz → vals.length = n →
  rows.flatten.take (k * sz + off) ++ (vals ++ rows.flatten.drop (k * sz + off + n)) = (rows.set k (r.take off ++ (vals ++ r.drop (off + n)))).flatten ∧ k * sz + off + n ≤ rows.flatten.length
 | [], _, _, _, _, _, h, _, _, _ => by simp at h
 | q :: rs, 0, r, vals, off, n, h, hs, hn, hv => by
  have hq := hs q List.mem_cons_self
  simp only [List.getElem?_cons_zero, Option.some.injEq] at h
  subst h
  simp only [Nat.zero_mul, Nat.zero_add, List.flatten_cons, List.set_cons_zero, List.length_append]
  refine ⟨?_, by omega⟩
  rw [List.take_append_of_le_length (by omega), List.drop_append_of_le_length (by omega)]
  simp only [List.append_assoc]
 | q :: rs, k + 1, r, vals, off, n, h, hs, hn, hv => by
  have hq := hs q List.mem_cons_self
  simp only [List.getElem?_cons_succ] at h
  obtain ⟨h1, h2⟩ := Qft rs k r vals off n h (fun q hq => hs q (List.mem_cons_of_mem _ hq)) hn hv
  have e1 : (k + 1) * sz + off = q.length + (k * sz + off) := by rw [hq, Nat.add_mul]; omega
  have e2 : (k + 1) * sz + off + n = q.length + (k * sz + off + n) := by rw [hq, Nat.add_mul]; omega
  simp only [List.flatten_cons, List.set_cons_succ, List.length_append]
  refine ⟨?_, by omega⟩
  rw [e2, e1, List.take_length_add_append, List.drop_length_add_append, ← h1]
  simp only [List.append_assoc]
def stE (id sz ro : Nat) (gr : Bool) (cells : List PV) (n : Nat) (at_ : Nat) (x : PV) : Option Eff := Q8u (look [(id, ⟨sz, ro, gr, cells⟩)]) n (.bx id at_) x
theorem Qfd (id sz : Nat) (gr : Bool) (cells : List PV) (rows rows' : List (List PV)) (n k off at_ : Nat) (r : List PV) (x : PV) (hc : cells = rows.flatten) (ha : at_ = k * sz + off) (hr : rows[k]? = some r) (hs : ∀ r ∈ rows, r.length = sz) (hn : off + n ≤ sz) (hx : x.cs.length = n) (hf : x.fits = true) (hrows : rows' = rows.set k (r.take off ++ (x.cs ++ r.drop (off + n)))) :
  stE id sz 0 gr cells n at_ x = some ⟨.un, [(id, some ⟨sz, 0, gr, rows'.flatten⟩)], [id]⟩ := by
 subst hc ha hrows
 obtain ⟨h1, h2⟩ := Qft rows k r x.cs off n hr hs hn hx
 unfold stE Q8u
 simp only [look, Nat.beq_refl, cond_true, Option.bind_some]
 rw [hx, hf, Nat.beq_refl, Nat.ble_eq_true_of_le h2, Nat.ble_eq_true_of_le (Nat.zero_le _), h1]
 rfl
theorem Q4y {α : Type} (f : α → List PV) (l : List α) (k : Nat) (x : α) : (l.set k x).map f = (l.map f).set k (f x) := List.map_set
theorem Qp {α : Type} {l : List α} {n : Nat} (h : l.length = n) (k : Nat) (x : α) : (l.set k x).length = n := by rw [List.length_set, h]
def cvE (k : IntKind) (n : Int) : Option Eff := (some (PV.int k (k.wrap n))).bind fun v => some ⟨v, [], []⟩
theorem Q1dq {n : Int} (h : 0 ≤ n ∧ n ≤ 9223372036854775807) : IntKind.u64.wrap n = n := by
 unfold IntKind.wrap
 simp [IntKind.signed, IntKind.bits]
 omega
theorem Q12 (n : Int) (h : 0 ≤ n ∧ n ≤ 9223372036854775807) : cvE .u64 n = some (vE (.int .u64 n)) := by
 unfold cvE
 rw [Q1dq h]
 rfl
theorem Q13 (n : Int) (h : 0 ≤ n ∧ n ≤ 9223372036854775807) : cvE .i64 n = some (vE (.int .i64 n)) := by
 unfold cvE
 have := Qbx (n := n) (by omega)
 unfold w64 at this
 rw [this]
 rfl
def shE (k : IntKind) (a b : Int) : Option Eff := (bif decide (0 ≤ b) then some (PV.int k (a.fdiv (2 ^ (min b.toNat k.bits)))) else none).bind fun v => some ⟨v, [], []⟩
theorem Q1q (n : Int) : shE .u64 n 1 = some (vE (.int .u64 (n / 2))) := by
 unfold shE
 have h : n.fdiv (2 ^ (min (1 : Int).toNat IntKind.u64.bits)) = n / 2 := by
  have e : ((2 : Int) ^ (min (1 : Int).toNat IntKind.u64.bits)) = 2 := by decide
  rw [e, Int.fdiv_eq_ediv_of_nonneg _ (by omega)]
 rw [h]
 rfl
end Go.Pv
end

section
/- A walk's hints and answers, each with its proof. -/
namespace Go.Pv
structure It where
  hint : Option (Nat × (Eff × Views))
  p : Prop
  pf : p
def hsOf : List It → Q59
 | [] => []
 | x :: r => (match x.hint with | some h => h :: hsOf r | none => hsOf r)
def owOf : List It → List Prop
 | [] => []
 | x :: r => x.p :: owOf r
theorem Q160 : ∀ l : List It, Met (owOf l)
 | [] => Met.nil
 | x :: r => Met.cons x.pf (Q160 r)
structure An (G : Nat → Option Fun) where
  e : En
  r : Rs
  vw : Views
  pf : Q7 G e r
def asOf {G : Nat → Option Fun} : List (An G) → List Ans
 | [] => []
 | x :: r => ⟨x.r, x.vw⟩ :: asOf r
def akOf {G : Nat → Option Fun} : List (An G) → Q8z
 | [] => []
 | x :: r => (x.e, x.r) :: akOf r
theorem Qwl {G : Nat → Option Fun} : ∀ l : List (An G), Told G (akOf l)
 | [] => Told.nil
 | x :: r => Told.cons x.pf (Qwl r)
def hB {c v : Bool} (n : Nat) (h : c = v) : It := ⟨some (n, (bE v, [])), some (bE c) = some (bE v), dec c v h⟩
def hP {x : Option Eff} {y : Eff} (n : Nat) (h : x = some y) : It := ⟨some (n, (y, [])), x = some y, h⟩
def hV {x : Option Eff} {y : Eff} (n : Nat) (vw : Views) (h : x = some y) : It := ⟨some (n, (y, vw)), x = some y, h⟩
def hQ {p : Prop} (h : p) : It := ⟨none, p, h⟩
def aN {G : Nat → Option Fun} {e : En} {r : Rs} (h : Q7 G e r) : An G := ⟨e, r, [], h⟩
def aV {G : Nat → Option Fun} {e : En} {r : Rs} (vw : Views) (h : Q7 G e r) : An G := ⟨e, r, vw, h⟩
def aB {G : Nat → Option Fun} {e : En} {c v : Bool} (h : Q7 G e (.ret (.bool c) [])) (hc : c = v) : An G := ⟨e, .ret (.bool v) [], [], hc ▸ h⟩
theorem vk1 {sz ro : Nat} {gr : Bool} {cells : List PV} {rows : List (List PV)} (h : ViewOK sz cells rows) : VOK (look (number 0 [⟨sz, ro, gr, cells⟩])) [(0, rows)] := VOK.cons (show Seen _ _ from Q3v (ob := ⟨sz, ro, gr, cells⟩) h) VOK.nil
theorem Q9 {G : Nat → Option Fun} {f : Nat} {fn : IFn} (hG : G f = some (.ir fn)) {args : List PV} {h : List Ob} {vw : Views} (hv : VOK (look (number 0 h)) vw) {r : Rs} (l : List It) (q : List (An G)) (ht : Q182 fn args h vw (hsOf l) (asOf q) = some (r, owOf l, akOf q)) : Q7 G (.call f args h) r := Q18f hG hv (Q160 l) (Qwl q) ht
theorem Qa {G : Nat → Option Fun} {m : Nat} {live : List Nat} {b : IR} {env : List PV} {h : List Ob} {vw : Views} (hv : VOK (look (number 0 h)) vw) {y : List PV × List Ob} {r : Rs} (l : List It) (q : List (An G)) (ht : Q18j m live b env h vw (hsOf l) (asOf q) = some (y, owOf l, akOf q)) (hr : Q7 G (.loop m live b y.1 y.2) r) : Q7 G (.loop m live b env h) r := Qtk hv (Q160 l) (Qwl q) ht hr
theorem Qf {G : Nat → Option Fun} {m : Nat} {live : List Nat} {b : IR} {env : List PV} {h : List Ob} {vw : Views} (hv : VOK (look (number 0 h)) vw) {x : Ex × St} (l : List It) (q : List (An G)) (ht : Q125 m b env h vw (hsOf l) (asOf q) = some (x, owOf l, akOf q)) : Q7 G (.loop m live b env h) (.st x.1 x.2) := Qxd hv (Q160 l) (Qwl q) ht
end Go.Pv
namespace Go.Pv
def hS {sz : Nat} {cells : List PV} {rows : List (List PV)} (ro : Nat) (gr : Bool) (h : ViewOK sz cells rows) : It := hQ (Q3v (ob := ⟨sz, ro, gr, cells⟩) h)
end Go.Pv
end

section
/-
  What a law is handed, as plain Lean values.
-/
namespace Go.Pv
def okI (k : IntKind) (n : Int) : Prop := (Lit.int k n).wf = true
def Qz1 (n : Int) : Prop := -9223372036854775808 ≤ n ∧ n ≤ 9223372036854775807
def okU8 (n : Int) : Prop := 0 ≤ n ∧ n ≤ 255
theorem okI.i64 {n : Int} (h : okI .i64 n) : Qz1 n := by
 unfold okI at h
 simp [Lit.wf, IntKind.min, IntKind.max, IntKind.signed, IntKind.bits] at h
 exact h
theorem okI.u8 {n : Int} (h : okI .u8 n) : okU8 n := by
 unfold okI at h
 simp [Lit.wf, IntKind.min, IntKind.max, IntKind.signed, IntKind.bits] at h
 unfold okU8
 omega
def okS (s : ByteArray) : Prop := s.size ≤ 140737488351232
section
variable {Γ : Nat → Option Ty}
theorem OfL.Q8c {f : Ty} {fs : List Ty} {c : List PV} (h : OfL Γ (f :: fs) c) : ∃ a b, c = a ++ b ∧ Of Γ f a ∧ OfL Γ fs b := by
 cases h with
 | cons _ _ a b h1 h2 => exact ⟨a, b, rfl, h1, h2⟩
theorem OfL.empty {c : List PV} (h : OfL Γ [] c) : c = [] := by cases h; rfl
theorem Of.str1 {c : List PV} (h : Of Γ .str c) : ∃ s, c = [.str s] ∧ okS s := by
 cases h with
 | str s h => exact ⟨s, rfl, h⟩
theorem Of.int1 {k : IntKind} {c : List PV} (h : Of Γ (.int k) c) : ∃ n, c = [.int k n] ∧ okI k n := by
 cases h with
 | int _ n h => exact ⟨n, rfl, h⟩
theorem Of.i64 {c : List PV} (h : Of Γ (.int .i64) c) : ∃ n, c = [.int .i64 n] ∧ Qz1 n := by
 obtain ⟨n, h1, h2⟩ := h.int1
 exact ⟨n, h1, h2.i64⟩
theorem Of.u8 {c : List PV} (h : Of Γ (.int .u8) c) : ∃ n, c = [.int .u8 n] ∧ okU8 n := by
 obtain ⟨n, h1, h2⟩ := h.int1
 exact ⟨n, h1, h2.u8⟩
theorem Of.st1 {fs : List Ty} {c : List PV} (h : Of Γ (.st fs) c) : OfL Γ fs c := by
 cases h with
 | st _ _ h => exact h
theorem Q8s {α : Type} {f : α → List PV} {ok : α → Prop} : ∀ (l : List (List PV)), (∀ r ∈ l, ∃ x, r = f x ∧ ok x) → ∃ xs : List α, l = xs.map f ∧ ∀ x ∈ xs, ok x
  | [], _ => ⟨[], rfl, fun _ h => absurd h List.not_mem_nil⟩
  | r :: rs, h => by
    obtain ⟨x, hx, hok⟩ := h r List.mem_cons_self
    obtain ⟨xs, hxs, hoks⟩ := Q8s rs (fun q hq => h q (List.mem_cons_of_mem _ hq))
    refine ⟨x :: xs, by rw [hx, hxs]; rfl, fun y hy => ?_⟩
    rcases List.mem_cons.1 hy with rfl | hy
    · exact hok
    · exact hoks y hy
theorem Arg.one {ty : Ty} {p : PV} (h : Arg Γ ty p) (hs : ty.isSt Γ = false) : Of Γ ty [p] := by
 obtain ⟨c, hc, hp⟩ := h
 rw [hs] at hp
 have hp : c = [p] := hp
 subst hp
 exact hc
theorem Arg.agg {ty : Ty} {p : PV} (h : Arg Γ ty p) (hs : ty.isSt Γ = true) : ∃ c, p = .agg c ∧ Of Γ ty c := by
 obtain ⟨c, hc, hp⟩ := h
 rw [hs] at hp
 exact ⟨c, hp, hc⟩
end
end Go.Pv
end

section
/-
  Strings: equality and order.
-/
namespace Go.Pv
theorem Qts (b : ByteArray) : ∀ (n i : Nat) (acc : List UInt8), b.size - i = n → ByteArray.toList.loop b i acc = acc.reverse ++ b.data.toList.drop i := by
 intro n
 induction n with
 | zero =>
  intro i acc h
  unfold ByteArray.toList.loop
  have h1 : ¬ i < b.size := by omega
  rw [if_neg h1]
  have : b.data.toList.drop i = [] := by
   rw [List.drop_eq_nil_iff]
   have : b.data.toList.length = b.size := Array.length_toList
   omega
  rw [this, List.append_nil]
 | succ n ih =>
  intro i acc h
  unfold ByteArray.toList.loop
  have h1 : i < b.size := by omega
  rw [if_pos h1, ih (i + 1) _ (by omega)]
  have hl : i < b.data.toList.length := by rw [show b.data.toList.length = b.size from Array.length_toList]; exact h1
  rw [List.drop_eq_getElem_cons hl, List.reverse_cons, List.append_assoc]
  congr 1
  simp only [List.singleton_append, List.cons.injEq, and_true]
  have : b.data.size = b.size := rfl
  simp [ByteArray.get!, h1, this]
theorem toList_data (b : ByteArray) : b.toList = b.data.toList := by
 unfold ByteArray.toList
 rw [Qts b _ 0 [] rfl]
 simp
theorem toList_inj {a b : ByteArray} (h : a.toList = b.toList) : a = b := by
 rw [toList_data, toList_data] at h
 cases a
 cases b
 simp at h
 rw [h]
theorem Q3y {a b : ByteArray} : sEq a b = true ↔ a = b := by
 unfold sEq
 rw [beq_iff_eq]
 exact ⟨toList_inj, fun h => by rw [h]⟩
theorem Q18y (a b : ByteArray) : sEq a b = decide (a = b) := by
 rw [Bool.eq_iff_iff, Q3y]
 simp
mutual
inductive Val where
 | mk (kind n : Int) (s : ByteArray) (list : List Val) (fields : List Fld)
inductive Fld where
 | mk (name : ByteArray) (v : Val)
end
def Val.kind : Val → Int
 | .mk k _ _ _ _ => k
def Val.n : Val → Int
 | .mk _ n _ _ _ => n
def Val.s : Val → ByteArray
 | .mk _ _ s _ _ => s
def Val.list : Val → List Val
 | .mk _ _ _ l _ => l
def Val.fields : Val → List Fld
 | .mk _ _ _ _ f => f
def Fld.name : Fld → ByteArray
 | .mk n _ => n
def Fld.v : Fld → Val
 | .mk _ v => v
theorem Val.eta (v : Val) : Val.mk v.kind v.n v.s v.list v.fields = v := by cases v; rfl
theorem Fld.eta (f : Fld) : Fld.mk f.name f.v = f := by cases f; rfl
mutual
def Val.cs : Val → List PV
 | .mk k n s l f => [.int .i64 k, .int .i64 n, .str s, .sl (Val.css l), .sl (Fld.css f)]
def Val.css : List Val → List (List PV)
 | [] => []
 | v :: r => v.cs :: Val.css r
def Fld.css : List Fld → List (List PV)
 | [] => []
 | f :: r => f.cs :: Fld.css r
def Fld.cs : Fld → List PV
 | .mk n v => .str n :: v.cs
end
def Val.rows (l : List Val) : List (List PV) := Val.css l
def Fld.rows (l : List Fld) : List (List PV) := Fld.css l
def Val.cells (v : Val) : List PV := [.int .i64 v.kind, .int .i64 v.n, .str v.s, .sl (Val.rows v.list), .sl (Fld.rows v.fields)]
def Fld.cells (f : Fld) : List PV := [.str f.name, .int .i64 f.v.kind, .int .i64 f.v.n, .str f.v.s, .sl (Val.rows f.v.list), .sl (Fld.rows f.v.fields)]
theorem Val.Q17y (v : Val) : v.cs = v.cells := by cases v; rfl
theorem Fld.Q17y (f : Fld) : f.cs = f.cells := by
 cases f with
 | mk n v => cases v; rfl
theorem Val.Q68 : Val.rows [] = [] := rfl
theorem Fld.Q68 : Fld.rows [] = [] := rfl
theorem Val.Q3m (v : Val) (l : List Val) : Val.rows (v :: l) = v.cells :: Val.rows l := by
 rw [← Val.Q17y]
 rfl
theorem Fld.Q3m (v : Fld) (l : List Fld) : Fld.rows (v :: l) = v.cells :: Fld.rows l := by
 rw [← Fld.Q17y]
 rfl
theorem Val.Q2i : ∀ l : List Val, Val.rows l = l.map Val.cells
 | [] => rfl
 | v :: r => by rw [Val.Q3m, Val.Q2i r]; rfl
theorem Fld.Q2i : ∀ l : List Fld, Fld.rows l = l.map Fld.cells
 | [] => rfl
 | v :: r => by rw [Fld.Q3m, Fld.Q2i r]; rfl
theorem Val.Q8 (l : List Val) : (Val.rows l).length = l.length := by simp [Val.Q2i]
theorem Fld.Q8 (l : List Fld) : (Fld.rows l).length = l.length := by simp [Fld.Q2i]
theorem Val.Qg {l : List Val} {i : Nat} {x : Val} (h : l[i]? = some x) : (Val.rows l)[i]? = some (Val.cells x) := by rw [Val.Q2i]; exact Go.Pv.Qg h
theorem Fld.Qg {l : List Fld} {i : Nat} {x : Fld} (h : l[i]? = some x) : (Fld.rows l)[i]? = some (Fld.cells x) := by rw [Fld.Q2i]; exact Go.Pv.Qg h
theorem Val.Q2p (l : List Val) (x : Val) : Val.rows (l ++ [x]) = Val.rows l ++ [Val.cells x] := by simp [Val.Q2i]
theorem Fld.Q2p (l : List Fld) (x : Fld) : Fld.rows (l ++ [x]) = Fld.rows l ++ [Fld.cells x] := by simp [Fld.Q2i]
theorem Val.Qch (l : List Val) (n : Nat) : Val.rows (l.take n) = (Val.rows l).take n := by simp [Val.Q2i, List.map_take]
theorem Fld.Qch (l : List Fld) (n : Nat) : Fld.rows (l.take n) = (Fld.rows l).take n := by simp [Fld.Q2i, List.map_take]
theorem Val.Ql (l : List Val) : ∀ r ∈ Val.rows l, r.length = 5 := by rw [Val.Q2i]; exact Q15d (f := Val.cells) (fun _ => rfl) l
theorem Fld.Ql (l : List Fld) : ∀ r ∈ Fld.rows l, r.length = 6 := by rw [Fld.Q2i]; exact Q15d (f := Fld.cells) (fun _ => rfl) l
theorem Val.Q5 (l : List Val) (sz : Nat) (h : sz = 5) : ViewOK sz (Val.rows l).flatten (Val.rows l) := by subst h; exact ⟨rfl, Val.Ql l, by rw [Val.Q2i]; exact Qun (f := Val.cells) (fun _ => rfl) l⟩
theorem Fld.Q5 (l : List Fld) (sz : Nat) (h : sz = 6) : ViewOK sz (Fld.rows l).flatten (Fld.rows l) := by subst h; exact ⟨rfl, Fld.Ql l, by rw [Fld.Q2i]; exact Qun (f := Fld.cells) (fun _ => rfl) l⟩
theorem Val.Q4f (v : Val) : SizeOf.sizeOf v.list < SizeOf.sizeOf v := by
 cases v with
 | mk k n s l f => simp only [Val.list, Val.mk.sizeOf_spec]; omega
theorem Val.Q2e (v : Val) : SizeOf.sizeOf v.fields < SizeOf.sizeOf v := by
 cases v with
 | mk k n s l f => simp only [Val.fields, Val.mk.sizeOf_spec]; omega
theorem Fld.lt_v (f : Fld) : SizeOf.sizeOf f.v < SizeOf.sizeOf f := by
 cases f with
 | mk n v => simp only [Fld.v, Fld.mk.sizeOf_spec]; omega
theorem szL {v x : Val} {i : Nat} (h : v.list[i]? = some x) : SizeOf.sizeOf x < SizeOf.sizeOf v :=
 Nat.lt_trans (List.sizeOf_lt_of_mem (Qt h)) v.Q4f
theorem szF {v : Val} {x : Fld} {i : Nat} (h : v.fields[i]? = some x) : SizeOf.sizeOf x.v < SizeOf.sizeOf v :=
 Nat.lt_trans x.lt_v (Nat.lt_trans (List.sizeOf_lt_of_mem (Qt h)) v.Q2e)
inductive Val.Sm (B : Nat) : Val → Prop
  | mk (v : Val) (hl : v.list.length ≤ B) (hf : v.fields.length ≤ B) (sl : ∀ x ∈ v.list, Val.Sm B x) (sf : ∀ x ∈ v.fields, Val.Sm B x.v) : Val.Sm B v
theorem Val.Sm.all {B : Nat} {v : Val} (h : Val.Sm B v) : v.list.length ≤ B ∧ v.fields.length ≤ B ∧ (∀ x ∈ v.list, Val.Sm B x) ∧ (∀ x ∈ v.fields, Val.Sm B x.v) := by
 cases h with
 | mk _ h1 h2 h3 h4 => exact ⟨h1, h2, h3, h4⟩
theorem Val.Sm.mono {B C : Nat} (hb : B ≤ C) {v : Val} (h : Val.Sm B v) : Val.Sm C v := by
 induction h with
 | mk v h1 h2 _ _ i1 i2 => exact .mk v (by omega) (by omega) i1 i2
theorem Val.Sm.leaf {B : Nat} (k n : Int) (s : ByteArray) : Val.Sm B (.mk k n s [] []) := .mk _ (Nat.zero_le _) (Nat.zero_le _) (fun _ h => by cases h) (fun _ h => by cases h)
theorem Val.Sm.getD {B : Nat} {l : List Val} (h : ∀ x ∈ l, Val.Sm B x) (i : Nat) (k n : Int) (s : ByteArray) : Val.Sm B (l.getD i (.mk k n s [] [])) := by
  by_cases c : i < l.length
  · have := Qu l i (.mk k n s [] []) c
    exact h _ (Qt this)
  · rw [List.getD_eq_getElem?_getD, List.getElem?_eq_none (by omega)]
    exact .leaf k n s
theorem Val.Sm.getF {B : Nat} {l : List Fld} (h : ∀ x ∈ l, Val.Sm B x.v) (i : Nat) (m : ByteArray) (k n : Int) (s : ByteArray) : Val.Sm B (l.getD i (.mk m (.mk k n s [] []))).v := by
  by_cases c : i < l.length
  · have := Qu l i (.mk m (.mk k n s [] [])) c
    exact h _ (Qt this)
  · rw [List.getD_eq_getElem?_getD, List.getElem?_eq_none (by omega)]
    exact .leaf k n s
inductive Q30 : Val → Prop
  | mk (v : Val) (h1 : Qz1 v.kind) (h2 : Qz1 v.n) (h3 : okS v.s) (hl : v.list.length * 80 ≤ 140737488351232) (hf : v.fields.length * 96 ≤ 140737488351232) (sl : ∀ x ∈ v.list, Q30 x) (sn : ∀ x ∈ v.fields, okS x.name) (sf : ∀ x ∈ v.fields, Q30 x.v) : Q30 v
def Q19m (f : Fld) : Prop := okS f.name ∧ Q30 f.v
theorem Q30.all {v : Val} (h : Q30 v) : Qz1 v.kind ∧ Qz1 v.n ∧ okS v.s ∧ v.list.length * 80 ≤ 140737488351232 ∧ v.fields.length * 96 ≤ 140737488351232 ∧ (∀ x ∈ v.list, Q30 x) ∧ (∀ x ∈ v.fields, okS x.name ∧ Q30 x.v) := by
 cases h with
 | mk _ a b c d e f n g => exact ⟨a, b, c, d, e, f, fun x hx => ⟨n x hx, g x hx⟩⟩
theorem Q30.sm {v : Val} (h : Q30 v) : Val.Sm 4611686018427387904 v := by
 induction h with
 | mk v _ _ _ hl hf _ _ _ i1 i2 => exact .mk v (by omega) (by omega) i1 i2
def Q84 (t : Nat) : Ty := .st [.int .i64, .int .i64, .str, .sl 80 (.nm t), .sl 96 (.st [.str, .nm t])]
theorem Qet {Γ : Nat → Option Ty} {t : Nat} (hΓ : Γ t = some (Q84 t)) : ∀ (k : Nat) (c : List PV), SizeOf.sizeOf c < k → Of Γ (.nm t) c → ∃ v : Val, c = v.cells ∧ Q30 v
 | 0, _, h, _ => absurd h (Nat.not_lt_zero _)
 | k + 1, c, hk, h => by
  have hb : Of Γ (Q84 t) c := by
   cases h with
   | nm _ ty _ hg h =>
    rw [hΓ] at hg
    injection hg with hg
    subst hg
    exact h
  have g0 := hb.st1
  obtain ⟨a0, b0, rfl, h0, g1⟩ := g0.Q8c
  obtain ⟨x0, rfl, k0⟩ := h0.i64
  obtain ⟨a1, b1, rfl, h1, g2⟩ := g1.Q8c
  obtain ⟨x1, rfl, k1⟩ := h1.i64
  obtain ⟨a2, b2, rfl, h2, g3⟩ := g2.Q8c
  obtain ⟨x2, rfl, k2⟩ := h2.str1
  obtain ⟨a3, b3, rfl, h3, g4⟩ := g3.Q8c
  obtain ⟨a4, b4, rfl, h4, g5⟩ := g4.Q8c
  have e := g5.empty
  subst e
  cases h3 with
  | sl _ _ l3 hl3 hr3 =>
  cases h4 with
  | sl _ _ l4 hl4 hr4 =>
  have s3 : SizeOf.sizeOf l3 < k := by simp at hk; omega
  have s4 : SizeOf.sizeOf l4 < k := by simp at hk; omega
  obtain ⟨x3, rfl, k3⟩ := Q8s (f := Val.cells) (ok := Q30) l3 (fun r hr' => Qet hΓ k r (by have := List.sizeOf_lt_of_mem hr'; omega) (hr3 r hr'))
  obtain ⟨x4, rfl, k4⟩ := Q8s (f := Fld.cells) (ok := Q19m) l4 (fun r hr' => by
   have q0 := (hr4 r hr').st1
   obtain ⟨c0, d0, rfl, i0, q1⟩ := q0.Q8c
   obtain ⟨y0, rfl, m0⟩ := i0.str1
   obtain ⟨c1, d1, rfl, i1, q2⟩ := q1.Q8c
   have e := q2.empty
   subst e
   obtain ⟨y1, rfl, m1⟩ := Qet hΓ k c1 (by have := List.sizeOf_lt_of_mem hr'; simp at this; omega) i1
   exact ⟨.mk y0 y1, by simp [Fld.cells, Val.cells, Fld.name, Fld.v], m0, m1⟩)
  rw [List.length_map] at hl3 hl4
  refine ⟨.mk x0 x1 x2 x3 x4, ?_, .mk _ k0 k1 k2 hl3 hl4 k3 (fun x hx => (k4 x hx).1) (fun x hx => (k4 x hx).2)⟩
  simp [Val.cells, Val.kind, Val.n, Val.s, Val.list, Val.fields, Val.Q2i, Fld.Q2i]
theorem Qus {Γ : Nat → Option Ty} {t : Nat} (hΓ : Γ t = some (Q84 t)) {c : List PV} (h : Of Γ (.nm t) c) : ∃ v : Val, c = v.cells ∧ Q30 v := Qet hΓ _ c (Nat.lt_succ_self _) h
theorem Q2j {α : Type} [SizeOf α] (x : α) (r : List α) : SizeOf.sizeOf x < SizeOf.sizeOf (x :: r) := by
 simp only [List.cons.sizeOf_spec]
 omega
theorem Q2d {α : Type} [SizeOf α] (x : α) (r : List α) : SizeOf.sizeOf r < SizeOf.sizeOf (x :: r) := by
 simp only [List.cons.sizeOf_spec]
 omega
theorem Q1z (x : Fld) (r : List Fld) : SizeOf.sizeOf x.v < SizeOf.sizeOf (x :: r) := Nat.lt_trans x.lt_v (Q2j x r)
def gam (t : Nat) : Nat → Option Ty := fun k => bif Nat.beq k t then some (Q84 t) else none
theorem Q17h (t : Nat) : gam t t = some (Q84 t) := by simp [gam]
theorem gam_tab {P : Program} {t : Nat} (h : Q8o P (gam t) (Q84 t) t = true) : TabOK P (gam t) := by
 intro k ty hk
 unfold gam at hk
 cases c : Nat.beq k t with
 | false => rw [c] at hk; cases hk
 | true =>
  rw [c] at hk
  simp only [cond_true, Option.some.injEq] at hk
  subst hk
  rw [Nat.eq_of_beq_eq_true c]
  exact ⟨rfl, h⟩
end Go.Pv
namespace Go.Pv
theorem Q164 {G : Nat → Option Fun} {e e' : En} {r : Rs} (h : Q7 G e r) (he : e = e') : Q7 G e' r := he ▸ h
end Go.Pv
end

section
/- Strings byte by byte; rows that are cloned. -/
namespace Go.Pv
def letters (s : ByteArray) : List Int := s.data.toList.map fun b => (b.toNat : Int)
theorem Q4n (s : ByteArray) : (letters s).length = s.size := by
 unfold letters
 rw [List.length_map, Array.length_toList]
 rfl
def sixE (s : ByteArray) (i : Int) : Option Eff := (opP (fun _ => .un) (.index (.c (.str s)) (.c (.int .i64 i)))).bind fun v => some ⟨v, [], []⟩
theorem Q1i (s : ByteArray) (i : Nat) (x : Int) (h : (letters s)[i]? = some x) : sixE s (i : Int) = some (vE (.int .u8 x)) := by
 unfold sixE
 simp only [opP, Opd.ev, asNat]
 rw [show decide (0 ≤ (i : Int)) = true by simp]
 simp only [cond_true, Option.bind_some, Int.toNat_natCast]
 unfold letters at h
 rw [List.getElem?_map, Array.getElem?_toList] at h
 cases e : s.data[i]? with
 | none => rw [e] at h; cases h
 | some b =>
  rw [e] at h
  injection h with h
  subst h
  rfl
theorem Qxb : ∀ p, plain p = true → bare p = true := fun p h => by cases p <;> first | rfl | (cases h)
theorem Q5y {G : Nat → Option Fun} {f sz bytes : Nat} (hG : G f = some (.ax (Qjw sz bytes))) {rows : List (List PV)} {n : Nat} (hn : rows.length = n) (hv : ViewOK sz rows.flatten rows) (hb : n * bytes ≤ 140737488355328) :
  Q7 G (.call f [.sl rows] []) (.ret (.ms 0 sz 0 n) [⟨sz, 0, true, rows.flatten⟩]) := by
 refine ⟨1, ?_⟩
 subst hn
 simp only [runs, phi, hG, Qjw]
 have h1 : Q6n rows sz = true := Q124 hv.size
 have h2 : rows.flatten.all bare = true := List.all_eq_true.2 fun p hp => Qxb p (hv.all p hp)
 rw [h1, h2, Nat.ble_eq_true_of_le hb]
 rfl
end Go.Pv
namespace Go.Pv
theorem szM {v x : Val} (h : x ∈ v.list) : SizeOf.sizeOf x < SizeOf.sizeOf v := Nat.lt_trans (List.sizeOf_lt_of_mem h) v.Q4f
theorem szN {v : Val} {x : Fld} (h : x ∈ v.fields) : SizeOf.sizeOf x.v < SizeOf.sizeOf v := Nat.lt_trans x.lt_v (Nat.lt_trans (List.sizeOf_lt_of_mem h) v.Q2e)
end Go.Pv
end

section
/-
  What a law is handed, where its bulk is bounded: nothing within is longer.
-/
namespace Go.Pv
open Go.RowKit
inductive Cap (N : Nat) : PV → Prop
  | bool (b : Bool) : Cap N (.bool b)
  | int (k : IntKind) (n : Int) : Cap N (.int k n)
  | str (s : ByteArray) (h : s.size ≤ N) : Cap N (.str s)
  | sl (l : List (List PV)) (h : l.length ≤ N) (hl : ∀ r ∈ l, ∀ p ∈ r, Cap N p) : Cap N (.sl l)
def CapL (N : Nat) (c : List PV) : Prop := ∀ p ∈ c, Cap N p
theorem CapL.one {N : Nat} {p : PV} (h : Cap N p) : CapL N [p] := fun q hq => by
 rw [List.mem_singleton] at hq
 subst hq
 exact h
inductive CapD {H : Type} (N : Nat) : DataW H → Prop
  | lit (l : Lit) (h : ∀ b, l = .string b → b.length ≤ N) : CapD N (.lit l)
  | agg (parts : List (DataW H)) (h : ∀ d ∈ parts, CapD N d) : CapD N (.agg parts)
  | slice (elems spare : List (DataW H)) (h : elems.length ≤ N) (hl : ∀ d ∈ elems, CapD N d) : CapD N (.slice elems spare)
  | nil : CapD N .nil
  | ptr (d : DataW H) : CapD N (.ptr d)
  | iface (t : String) (d : DataW H) : CapD N (.iface t d)
  | map (e : List (Lit × DataW H)) : CapD N (.map e)
  | held (h : H) : CapD N (.held h)
def ArgB (Γ : Nat → Option Ty) (N : Nat) (ty : Ty) (p : PV) : Prop := ∃ c, Of Γ ty c ∧ CapL N c ∧ (bif ty.isSt Γ then p = .agg c else c = [p])
section
variable {H : Type} {enc : TypeId × Value → H} {P : Program} {w : World} {base : Nat} {sp : Nat → Bool} {held : Bool} {Γ : Nat → Option Ty} {N : Nat}
end
theorem ArgB.one {Γ : Nat → Option Ty} {N : Nat} {ty : Ty} {p : PV} (h : ArgB Γ N ty p) (hs : ty.isSt Γ = false) : Of Γ ty [p] ∧ CapL N [p] := by
 obtain ⟨c, hc, hb, hp⟩ := h
 rw [hs] at hp
 have hp : c = [p] := hp
 subst hp
 exact ⟨hc, hb⟩
theorem ArgB.agg {Γ : Nat → Option Ty} {N : Nat} {ty : Ty} {p : PV} (h : ArgB Γ N ty p) (hs : ty.isSt Γ = true) : ∃ c, p = .agg c ∧ Of Γ ty c ∧ CapL N c := by
 obtain ⟨c, hc, hb, hp⟩ := h
 rw [hs] at hp
 exact ⟨c, hp, hc, hb⟩
end Go.Pv
end

section
/- What the functions on values compute (printed by a program). -/
namespace Go.Proofs.Ytnhhddbbppbblaa
open Go.Pv
abbrev G : Nat → Option Fun := tabG Ir.table
abbrev Γ : Nat → Option Ty := gam 25
abbrev BA : Type := ByteArray
theorem Q169 (a b : BA) : Q7 G (.call 54 [.str a, .str b] []) (.ret (.int .i64 (sCmp a b)) []) := ⟨1, by kernel_rfl⟩
mutual
def Q4s (p0 : Val) (p1 : Int) : Int :=
 (Q39 p0 p0.fields 0 (Q2o p0 p0.list 0 (w64 ((w64 (p1 - 1)) - (ByteArray.size p0.s : Int)))))
termination_by SizeOf.sizeOf p0
decreasing_by all_goals first | exact Val.Q4f _ | exact Val.Q2e _
def Q2o (p0 : Val) : List Val → Nat → Int → Int
 | [], _i0, v0_1 =>
  v0_1
 | x0 :: r0, i0, v0_1 =>
  bif (decide (0 ≤ v0_1)) then
   Q2o p0 r0 (i0 + 1) (Q4s x0 v0_1)
  else
   v0_1
termination_by l => SizeOf.sizeOf l
decreasing_by all_goals first | exact Q2j _ _ | exact Q2d _ _ | exact Q1z _ _
def Q39 (p0 : Val) : List Fld → Nat → Int → Int
 | [], _i1, v1_1 =>
  v1_1
 | x1 :: r1, i1, v1_1 =>
  bif (decide (0 ≤ v1_1)) then
   Q39 p0 r1 (i1 + 1) (Q4s x1.v (w64 (v1_1 - (ByteArray.size x1.name : Int))))
  else
   v1_1
termination_by l => SizeOf.sizeOf l
decreasing_by all_goals first | exact Q2j _ _ | exact Q2d _ _ | exact Q1z _ _
end
def Qqg (_p0 : Val) (i0 : Nat) (v0_1 : Int) : List PV :=
  [.un, .int .i64 v0_1, .bx 0 0, .un, .un, .int .i64 (i0 : Int), .un, .un, .un, .un, .un, .un, .un, .un, .un, .un, .un, .un, .un, .un, .un, .un, .un, .un, .un, .un, .un, .un, .un, .un, .un, .un, .un, .un, .un, .un, .un, .un, .un, .un, .un, .un, .un, .un, .un, .un, .un, .un, .un, .un, .un, .un, .un, .un, .un, .un, .un, .un, .un]
def Qoj (p0 : Val) (_i0 : Nat) (_v0_1 : Int) : List Ob :=
  [⟨5, 0, true, [.int .i64 p0.kind, .int .i64 p0.n, .str p0.s, .sl (Val.rows p0.list), .sl (Fld.rows p0.fields)]⟩]
def Q9a (p0 : Val) (i0 : Nat) (v0_1 : Int) : En := .loop 0 Ir.Qes Ir.Q173 (Qqg p0 i0 v0_1) (Qoj p0 i0 v0_1)
def Qb4 (p0 : Val) (q0 : Int) (z : Nat → PV) (_zo : Nat → List PV) : St :=
  ⟨[z 0, .int .i64 q0, .bx 0 0, z 3, z 4, z 5, z 6, z 7, z 8, z 9, z 10, z 11, z 12, z 13, z 14, z 15, z 16, z 17, z 18, z 19, z 20, z 21, z 22, z 23, z 24, z 25, z 26, z 27, z 28, z 29, z 30, z 31, z 32, z 33, z 34, z 35, z 36, z 37, z 38, z 39, z 40, z 41, z 42, z 43, z 44, z 45, z 46, z 47, z 48, z 49, z 50, z 51, z 52, z 53, z 54, z 55, z 56, z 57, z 58], [(0, ⟨5, 0, true, [.int .i64 p0.kind, .int .i64 p0.n, .str p0.s, .sl (Val.rows p0.list), .sl (Fld.rows p0.fields)]⟩)], 577⟩
def Q9b (p0 : Val) (e : En) (q : Int) : Prop := ∃ z zo, Q7 G e (.st (.exit 0) (Qb4 p0 q z zo))
theorem Qme (p0 : Val) {e e' : En} (h : ∀ r, Q7 G e r → Q7 G e' r) : ∀ q, Q9b p0 e q → Q9b p0 e' q
  | _, ⟨z, zo, hz⟩ => ⟨z, zo, h _ hz⟩
def Qon (_p0 : Val) (i1 : Nat) (v1_1 : Int) : List PV :=
  [.un, .int .i64 v1_1, .bx 0 0, .un, .un, .un, .int .i64 (i1 : Int), .un, .un, .un, .un, .un, .un, .un, .un, .un, .un, .un, .un, .un, .un, .un, .un, .un, .un, .un, .un, .un, .un, .un, .un, .un, .un, .un, .un, .un, .un, .un, .un, .un, .un, .un, .un, .un, .un, .un, .un, .un, .un, .un, .un, .un, .un, .un, .un, .un, .un, .un, .un]
def Qr0 (p0 : Val) (_i1 : Nat) (_v1_1 : Int) : List Ob :=
  [⟨5, 0, true, [.int .i64 p0.kind, .int .i64 p0.n, .str p0.s, .sl (Val.rows p0.list), .sl (Fld.rows p0.fields)]⟩]
def Qae (p0 : Val) (i1 : Nat) (v1_1 : Int) : En := .loop 0 Ir.Qex Ir.Q17i (Qon p0 i1 v1_1) (Qr0 p0 i1 v1_1)
def Qb9 (p0 : Val) (q0 : Int) (z : Nat → PV) (_zo : Nat → List PV) : St :=
  ⟨[z 0, .int .i64 q0, z 2, z 3, z 4, z 5, z 6, z 7, z 8, z 9, z 10, z 11, z 12, z 13, z 14, z 15, z 16, z 17, z 18, z 19, z 20, z 21, z 22, z 23, z 24, z 25, z 26, z 27, z 28, z 29, z 30, z 31, z 32, z 33, z 34, z 35, z 36, z 37, z 38, z 39, z 40, z 41, z 42, z 43, z 44, z 45, z 46, z 47, z 48, z 49, z 50, z 51, z 52, z 53, z 54, z 55, z 56, z 57, z 58], [(0, ⟨5, 0, true, [.int .i64 p0.kind, .int .i64 p0.n, .str p0.s, .sl (Val.rows p0.list), .sl (Fld.rows p0.fields)]⟩)], 577⟩
def Q9z (p0 : Val) (e : En) (q : Int) : Prop := ∃ z zo, Q7 G e (.st (.exit 2) (Qb9 p0 q z zo))
theorem Qnk (p0 : Val) {e e' : En} (h : ∀ r, Q7 G e r → Q7 G e' r) : ∀ q, Q9z p0 e q → Q9z p0 e' q
  | _, ⟨z, zo, hz⟩ => ⟨z, zo, h _ hz⟩
def Q16a (p0 : Val) (p1 : Int) : En := .call 37 [.agg (Val.cells p0), .int .i64 p1] []
def Q11p (p0 : Val) (p1 : Int) : Rs := .ret (.int .i64 (Q4s p0 p1)) []
abbrev Qsr (p0 : Val) : Prop := Val.Sm 4611686018427387904 p0
def Q66 (p0 : Val) : Prop := ∀ (q : Val), SizeOf.sizeOf q < SizeOf.sizeOf p0 → ∀ (p1 : Int), Qsr q → Q7 G (Q16a q p1) (Q11p q p1)
def Q7k (p0 : Val) : Prop := (List.length p0.list ≤ 4611686018427387904) ∧ (∀ x0 ∈ p0.list, Qsr x0) ∧ True
def Q7s (p0 : Val) : Prop := (List.length p0.fields ≤ 4611686018427387904) ∧ (∀ x1 ∈ p0.fields, Qsr x1.v) ∧ True
theorem Qwh (p0 : Val) (_p1 : Int) (H : Qsr p0) : (Q7k p0) ∧ (Q7s p0) ∧ True := by
  obtain ⟨h1, h2, h3, h4⟩ := H.all
  simp only [Q7k, Q7s]
  exact ⟨⟨h1, h3, trivial⟩, ⟨h2, h4, trivial⟩, trivial⟩
def Qil (p0 : Val) (i0 : Nat) (_v0_1 : Int) : List PV :=
  [.un, .un, .un, .un, .un, .int .i64 (i0 : Int), .un, .un, .un, .un, .un, .un, .un, .int .i64 (i0 : Int), .bx 0 3, .sl (Val.rows p0.list), .int .i64 ((List.length p0.list) : Int), .bool false, .bool false, .tup [], .tup [], .bool false]
def Qfz (_p0 : Val) (_i0 : Nat) (_v0_1 : Int) : List (Nat × List PV) :=
  []
theorem Qzf (p0 : Val) (_H : Q7k p0) (_rec : Q66 p0) (i0 : Nat) (v0_1 : Int) (hc0 : (decide ((i0 : Int) < ((List.length p0.list) : Int))) = false) : Q9b p0 (Q9a p0 i0 v0_1) v0_1 := by
 exact ⟨(envF (Qil p0 i0 v0_1)), (zoF (Qfz p0 i0 v0_1)), Qf VOK.nil (x := ((.exit 0), Qb4 p0 v0_1 (envF (Qil p0 i0 v0_1)) (zoF (Qfz p0 i0 v0_1)))) [hP 3 (Qe (Val.rows p0.list) (List.length p0.list) (Val.Q8 p0.list)), hB 0 hc0] [] (by kernel_rfl)⟩
theorem Qx5 (p0 : Val) (H : Q7k p0) (rec : Q66 p0) (x0 : Val) (i0 : Nat) (v0_1 : Int) (hx0 : p0.list[i0]? = some x0) (hi0 : i0 < List.length p0.list) (hc0 : (decide ((i0 : Int) < ((List.length p0.list) : Int))) = true) (h0 : (decide (0 ≤ v0_1)) = true) {r : Rs} (hr : Q7 G (Q9a p0 (i0 + 1) (Q4s x0 v0_1)) r) : Q7 G (Q9a p0 i0 v0_1) r := by
 have hB0 := H.1; have e0 := of_decide_eq_true h0
 exact Qa VOK.nil (y := (Qqg p0 (i0 + 1) (Q4s x0 v0_1), Qoj p0 (i0 + 1) (Q4s x0 v0_1))) [hP 3 (Qe (Val.rows p0.list) (List.length p0.list) (Val.Q8 p0.list)), hB 0 hc0, hB 2 h0, hP 4 (Q10 5 (Val.rows p0.list) i0 _ (Val.Qg hx0) rfl), hP 5 (Qr i0 (by omega))] [aN (rec x0 (szL hx0) v0_1 (H.2.1 x0 (Qt hx0)))] (by kernel_rfl) hr
def Ql0 (p0 : Val) (i0 : Nat) (v0_1 : Int) (_x0 : Val) : List PV :=
  [.un, .un, .un, .un, .un, .int .i64 (i0 : Int), .un, .un, .un, .un, .un, .un, .un, .int .i64 (i0 : Int), .bx 0 3, .sl (Val.rows p0.list), .int .i64 ((List.length p0.list) : Int), .bool true, .bool true, .int .i64 v0_1, .bool false, .bool false]
def Qeo (_p0 : Val) (_i0 : Nat) (_v0_1 : Int) (_x0 : Val) : List (Nat × List PV) :=
  []
theorem Qyi (p0 : Val) (_H : Q7k p0) (_rec : Q66 p0) (x0 : Val) (i0 : Nat) (v0_1 : Int) (_hx0 : p0.list[i0]? = some x0) (_hi0 : i0 < List.length p0.list) (hc0 : (decide ((i0 : Int) < ((List.length p0.list) : Int))) = true) (h0 : (decide (0 ≤ v0_1)) = false) : Q9b p0 (Q9a p0 i0 v0_1) v0_1 := by
 exact ⟨(envF (Ql0 p0 i0 v0_1 x0)), (zoF (Qeo p0 i0 v0_1 x0)), Qf VOK.nil (x := ((.exit 0), Qb4 p0 v0_1 (envF (Ql0 p0 i0 v0_1 x0)) (zoF (Qeo p0 i0 v0_1 x0)))) [hP 3 (Qe (Val.rows p0.list) (List.length p0.list) (Val.Q8 p0.list)), hB 0 hc0, hB 2 h0] [] (by kernel_rfl)⟩
theorem Qrf (p0 : Val) (H : Q7k p0) (rec : Q66 p0) : ∀ (r0 : List Val) (i0 : Nat) (v0_1 : Int), List.drop i0 p0.list = r0 → Q9b p0 (Q9a p0 i0 v0_1) (Q2o p0 r0 i0 v0_1)
 | [], i0, v0_1, hd => by
  have hc0 : (decide ((i0 : Int) < ((List.length p0.list) : Int))) = false := by have := Q1d hd; simp; omega
  rw [Q2o]
  exact Qzf p0 H rec i0 v0_1 hc0
 | x0 :: r0, i0, v0_1, hd => by
  obtain ⟨hx0, hi0, hd'⟩ := Qz hd
  have hc0 : (decide ((i0 : Int) < ((List.length p0.list) : Int))) = true := by simp; omega
  rw [Q2o]
  cases h0 : (decide (0 ≤ v0_1)) with
  | true =>
   exact Qme p0 (fun r hr => Qx5 p0 H rec x0 i0 v0_1 hx0 hi0 hc0 h0 hr) _ (Qrf p0 H rec r0 (i0 + 1) (Q4s x0 v0_1) hd')
  | false =>
   exact Qyi p0 H rec x0 i0 v0_1 hx0 hi0 hc0 h0
def Qk5 (p0 : Val) (i1 : Nat) (_v1_1 : Int) : List PV :=
  [.un, .un, .bx 0 0, .un, .un, .un, .int .i64 (i1 : Int), .un, .un, .un, .un, .un, .un, .un, .un, .un, .un, .un, .un, .un, .un, .un, .un, .un, .un, .un, .un, .un, .un, .un, .un, .int .i64 (i1 : Int), .bx 0 4, .sl (Fld.rows p0.fields), .int .i64 ((List.length p0.fields) : Int), .bool false, .bool false, .tup [], .tup [], .bool false]
def Qen (_p0 : Val) (_i1 : Nat) (_v1_1 : Int) : List (Nat × List PV) :=
  []
theorem Qy2 (p0 : Val) (_H : Q7s p0) (_rec : Q66 p0) (i1 : Nat) (v1_1 : Int) (hc1 : (decide ((i1 : Int) < ((List.length p0.fields) : Int))) = false) : Q9z p0 (Qae p0 i1 v1_1) v1_1 := by
 exact ⟨(envF (Qk5 p0 i1 v1_1)), (zoF (Qen p0 i1 v1_1)), Qf VOK.nil (x := ((.exit 2), Qb9 p0 v1_1 (envF (Qk5 p0 i1 v1_1)) (zoF (Qen p0 i1 v1_1)))) [hP 3 (Qe (Fld.rows p0.fields) (List.length p0.fields) (Fld.Q8 p0.fields)), hB 0 hc1] [] (by kernel_rfl)⟩
theorem Qzz (p0 : Val) (H : Q7s p0) (rec : Q66 p0) (x1 : Fld) (i1 : Nat) (v1_1 : Int) (hx1 : p0.fields[i1]? = some x1) (hi1 : i1 < List.length p0.fields) (hc1 : (decide ((i1 : Int) < ((List.length p0.fields) : Int))) = true) (h0 : (decide (0 ≤ v1_1)) = true) {r : Rs} (hr : Q7 G (Qae p0 (i1 + 1) (Q4s x1.v (w64 (v1_1 - (ByteArray.size x1.name : Int))))) r) : Q7 G (Qae p0 i1 v1_1) r := by
 have hB0 := H.1; have e0 := of_decide_eq_true h0
 exact Qa VOK.nil (y := (Qon p0 (i1 + 1) (Q4s x1.v (w64 (v1_1 - (ByteArray.size x1.name : Int)))), Qr0 p0 (i1 + 1) (Q4s x1.v (w64 (v1_1 - (ByteArray.size x1.name : Int)))))) [hP 3 (Qe (Fld.rows p0.fields) (List.length p0.fields) (Fld.Q8 p0.fields)), hB 0 hc1, hB 2 h0, hP 4 (Q10 6 (Fld.rows p0.fields) i1 _ (Fld.Qg hx1) rfl), hP 6 (Q10 6 (Fld.rows p0.fields) i1 _ (Fld.Qg hx1) rfl), hP 7 (Qr i1 (by omega))] [aN (rec x1.v (szF hx1) (w64 (v1_1 - (ByteArray.size x1.name : Int))) (H.2.1 x1 (Qt hx1)))] (by kernel_rfl) hr
def Ql9 (p0 : Val) (i1 : Nat) (v1_1 : Int) (_x1 : Fld) : List PV :=
  [.un, .un, .bx 0 0, .un, .un, .un, .int .i64 (i1 : Int), .un, .un, .un, .un, .un, .un, .un, .un, .un, .un, .un, .un, .un, .un, .un, .un, .un, .un, .un, .un, .un, .un, .un, .un, .int .i64 (i1 : Int), .bx 0 4, .sl (Fld.rows p0.fields), .int .i64 ((List.length p0.fields) : Int), .bool true, .bool true, .int .i64 v1_1, .bool false, .bool false]
def Qeb (_p0 : Val) (_i1 : Nat) (_v1_1 : Int) (_x1 : Fld) : List (Nat × List PV) :=
  []
theorem Qys (p0 : Val) (_H : Q7s p0) (_rec : Q66 p0) (x1 : Fld) (i1 : Nat) (v1_1 : Int) (_hx1 : p0.fields[i1]? = some x1) (_hi1 : i1 < List.length p0.fields) (hc1 : (decide ((i1 : Int) < ((List.length p0.fields) : Int))) = true) (h0 : (decide (0 ≤ v1_1)) = false) : Q9z p0 (Qae p0 i1 v1_1) v1_1 := by
 exact ⟨(envF (Ql9 p0 i1 v1_1 x1)), (zoF (Qeb p0 i1 v1_1 x1)), Qf VOK.nil (x := ((.exit 2), Qb9 p0 v1_1 (envF (Ql9 p0 i1 v1_1 x1)) (zoF (Qeb p0 i1 v1_1 x1)))) [hP 3 (Qe (Fld.rows p0.fields) (List.length p0.fields) (Fld.Q8 p0.fields)), hB 0 hc1, hB 2 h0] [] (by kernel_rfl)⟩
theorem Qqi (p0 : Val) (H : Q7s p0) (rec : Q66 p0) : ∀ (r1 : List Fld) (i1 : Nat) (v1_1 : Int), List.drop i1 p0.fields = r1 → Q9z p0 (Qae p0 i1 v1_1) (Q39 p0 r1 i1 v1_1)
 | [], i1, v1_1, hd => by
  have hc1 : (decide ((i1 : Int) < ((List.length p0.fields) : Int))) = false := by have := Q1d hd; simp; omega
  rw [Q39]
  exact Qy2 p0 H rec i1 v1_1 hc1
 | x1 :: r1, i1, v1_1, hd => by
  obtain ⟨hx1, hi1, hd'⟩ := Qz hd
  have hc1 : (decide ((i1 : Int) < ((List.length p0.fields) : Int))) = true := by simp; omega
  rw [Q39]
  cases h0 : (decide (0 ≤ v1_1)) with
  | true =>
   exact Qnk p0 (fun r hr => Qzz p0 H rec x1 i1 v1_1 hx1 hi1 hc1 h0 hr) _ (Qqi p0 H rec r1 (i1 + 1) (Q4s x1.v (w64 (v1_1 - (ByteArray.size x1.name : Int)))) hd')
  | false =>
   exact Qys p0 H rec x1 i1 v1_1 hx1 hi1 hc1 h0
theorem Q1dd (p0 : Val) (p1 : Int) (H : Qsr p0) (rec : Q66 p0) : Q7 G (Q16a p0 p1) (Q11p p0 p1) := by
  unfold Q11p
  rw [Q4s]
  have hl0 := Qrf p0 ((Qwh p0 p1 H).1) rec p0.list 0 (w64 ((w64 (p1 - 1)) - (ByteArray.size p0.s : Int))) (by simp)
  obtain ⟨z0, zo0, hl0⟩ := hl0
  have hl1 := Qqi p0 ((Qwh p0 p1 H).2.1) rec p0.fields 0 (Q2o p0 p0.list 0 (w64 ((w64 (p1 - 1)) - (ByteArray.size p0.s : Int)))) (by simp)
  obtain ⟨z1, zo1, hl1⟩ := hl1
  exact Q9 (fn := Ir.K10) rfl VOK.nil [] [aN hl0, aN hl1] (by kernel_rfl)
theorem Q1ar : ∀ (k : Nat) (p0 : Val), SizeOf.sizeOf p0 < k → ∀ (p1 : Int), Qsr p0 → Q7 G (Q16a p0 p1) (Q11p p0 p1)
  | 0, _, h, _, _ => absurd h (Nat.not_lt_zero _)
  | k + 1, p0, h, p1, H => Q1dd p0 p1 H (fun q hq p1 hH => Q1ar k q (by omega) p1 hH)
theorem Q1cz (p0 : Val) (p1 : Int) (H : Qsr p0) : Q7 G (Q16a p0 p1) (Q11p p0 p1) := Q1ar _ p0 (Nat.lt_succ_self _) p1 H
def s_Kz (p0 : Val) (p1 : Int) : Bool :=
 (decide (0 ≤ (Q4s p0 p1)))
def c_Kz (p0 : Val) (p1 : Int) : En := .call 22 [.agg (Val.cells p0), .int .i64 p1] []
def a_Kz (p0 : Val) (p1 : Int) : Rs := .ret (.bool (s_Kz p0 p1)) []
def H_Kz (p0 : Val) (_p1 : Int) : Prop := (Qsr p0) ∧ True
theorem t_Kz (p0 : Val) (p1 : Int) (H : H_Kz p0 p1) : Q7 G (c_Kz p0 p1) (a_Kz p0 p1) := by
 unfold a_Kz s_Kz
 exact Q9 (fn := Ir.Kz) rfl VOK.nil [] [aN (Q1cz p0 p1 H.1)] (by kernel_rfl)
mutual
def s_Kn (p0 : Val) : Int :=
 (Qfu p0 p0.fields 0 (Qbd p0 p0.list 0 1))
termination_by SizeOf.sizeOf p0
decreasing_by all_goals first | exact Val.Q4f _ | exact Val.Q2e _
def Qbd (p0 : Val) : List Val → Nat → Int → Int
 | [], _i0, v0_1 =>
  v0_1
 | x0 :: r0, i0, v0_1 =>
  Qbd p0 r0 (i0 + 1) (w64 (v0_1 + (s_Kn x0)))
termination_by l => SizeOf.sizeOf l
decreasing_by all_goals first | exact Q2j _ _ | exact Q2d _ _ | exact Q1z _ _
def Qfu (p0 : Val) : List Fld → Nat → Int → Int
 | [], _i1, v1_1 =>
  v1_1
 | x1 :: r1, i1, v1_1 =>
  Qfu p0 r1 (i1 + 1) (w64 (v1_1 + (s_Kn x1.v)))
termination_by l => SizeOf.sizeOf l
decreasing_by all_goals first | exact Q2j _ _ | exact Q2d _ _ | exact Q1z _ _
end
def Qug (_p0 : Val) (i0 : Nat) (v0_1 : Int) : List PV :=
  [.un, .bx 0 0, .un, .int .i64 v0_1, .int .i64 (i0 : Int), .un, .un, .un, .un, .un, .un, .un, .un, .un, .un, .un, .un, .un, .un, .un, .un, .un, .un, .un, .un, .un, .un, .un, .un, .un, .un, .un, .un, .un, .un, .un, .un, .un]
def Qwq (p0 : Val) (_i0 : Nat) (_v0_1 : Int) : List Ob :=
  [⟨5, 0, true, [.int .i64 p0.kind, .int .i64 p0.n, .str p0.s, .sl (Val.rows p0.list), .sl (Fld.rows p0.fields)]⟩]
def Qod (p0 : Val) (i0 : Nat) (v0_1 : Int) : En := .loop 0 Ir.Qlb Ir.Q1br (Qug p0 i0 v0_1) (Qwq p0 i0 v0_1)
def Qqe (p0 : Val) (q0 : Int) (z : Nat → PV) (_zo : Nat → List PV) : St :=
  ⟨[z 0, .bx 0 0, z 2, .int .i64 q0, z 4, z 5, z 6, z 7, z 8, z 9, z 10, z 11, z 12, z 13, z 14, z 15, z 16, z 17, z 18, z 19, z 20, z 21, z 22, z 23, z 24, z 25, z 26, z 27, z 28, z 29, z 30, z 31, z 32, z 33, z 34, z 35, z 36, z 37], [(0, ⟨5, 0, true, [.int .i64 p0.kind, .int .i64 p0.n, .str p0.s, .sl (Val.rows p0.list), .sl (Fld.rows p0.fields)]⟩)], 321⟩
def Qnv (p0 : Val) (e : En) (q : Int) : Prop := ∃ z zo, Q7 G e (.st (.exit 0) (Qqe p0 q z zo))
theorem Qr2 (p0 : Val) {e e' : En} (h : ∀ r, Q7 G e r → Q7 G e' r) : ∀ q, Qnv p0 e q → Qnv p0 e' q
  | _, ⟨z, zo, hz⟩ => ⟨z, zo, h _ hz⟩
def Qvz (_p0 : Val) (i1 : Nat) (v1_1 : Int) : List PV :=
  [.un, .bx 0 0, .un, .int .i64 v1_1, .un, .int .i64 (i1 : Int), .un, .un, .un, .un, .un, .un, .un, .un, .un, .un, .un, .un, .un, .un, .un, .un, .un, .un, .un, .un, .un, .un, .un, .un, .un, .un, .un, .un, .un, .un, .un, .un]
def Qw0 (p0 : Val) (_i1 : Nat) (_v1_1 : Int) : List Ob :=
  [⟨5, 0, true, [.int .i64 p0.kind, .int .i64 p0.n, .str p0.s, .sl (Val.rows p0.list), .sl (Fld.rows p0.fields)]⟩]
def Qm7 (p0 : Val) (i1 : Nat) (v1_1 : Int) : En := .loop 0 Ir.Qjv Ir.Q19u (Qvz p0 i1 v1_1) (Qw0 p0 i1 v1_1)
def Qs7 (p0 : Val) (q0 : Int) (z : Nat → PV) (_zo : Nat → List PV) : St :=
  ⟨[z 0, z 1, z 2, .int .i64 q0, z 4, z 5, z 6, z 7, z 8, z 9, z 10, z 11, z 12, z 13, z 14, z 15, z 16, z 17, z 18, z 19, z 20, z 21, z 22, z 23, z 24, z 25, z 26, z 27, z 28, z 29, z 30, z 31, z 32, z 33, z 34, z 35, z 36, z 37], [(0, ⟨5, 0, true, [.int .i64 p0.kind, .int .i64 p0.n, .str p0.s, .sl (Val.rows p0.list), .sl (Fld.rows p0.fields)]⟩)], 321⟩
def Qmz (p0 : Val) (e : En) (q : Int) : Prop := ∃ z zo, Q7 G e (.st (.exit 2) (Qs7 p0 q z zo))
theorem Qqs (p0 : Val) {e e' : En} (h : ∀ r, Q7 G e r → Q7 G e' r) : ∀ q, Qmz p0 e q → Qmz p0 e' q
  | _, ⟨z, zo, hz⟩ => ⟨z, zo, h _ hz⟩
def c_Kn (p0 : Val) : En := .call 39 [.agg (Val.cells p0)] []
def a_Kn (p0 : Val) : Rs := .ret (.int .i64 (s_Kn p0)) []
abbrev H_Kn (p0 : Val) : Prop := Val.Sm 4611686018427387904 p0
def Qg4 (p0 : Val) : Prop := ∀ (q : Val), SizeOf.sizeOf q < SizeOf.sizeOf p0 → H_Kn q → Q7 G (c_Kn q) (a_Kn q)
def Qhk (p0 : Val) : Prop := (List.length p0.list ≤ 4611686018427387904) ∧ (∀ x0 ∈ p0.list, H_Kn x0) ∧ True
def Qhh (p0 : Val) : Prop := (List.length p0.fields ≤ 4611686018427387904) ∧ (∀ x1 ∈ p0.fields, H_Kn x1.v) ∧ True
theorem Q12s (p0 : Val) (H : H_Kn p0) : (Qhk p0) ∧ (Qhh p0) ∧ True := by
  obtain ⟨h1, h2, h3, h4⟩ := H.all
  simp only [Qhk, Qhh]
  exact ⟨⟨h1, h3, trivial⟩, ⟨h2, h4, trivial⟩, trivial⟩
def Qpg (p0 : Val) (i0 : Nat) (_v0_1 : Int) : List PV :=
  [.un, .un, .un, .un, .int .i64 (i0 : Int), .un, .int .i64 (i0 : Int), .bx 0 3, .sl (Val.rows p0.list), .int .i64 ((List.length p0.list) : Int), .bool false]
def Qks (_p0 : Val) (_i0 : Nat) (_v0_1 : Int) : List (Nat × List PV) :=
  []
theorem Q10q (p0 : Val) (_H : Qhk p0) (_rec : Qg4 p0) (i0 : Nat) (v0_1 : Int) (hc0 : (decide ((i0 : Int) < ((List.length p0.list) : Int))) = false) : Qnv p0 (Qod p0 i0 v0_1) v0_1 := by
 exact ⟨(envF (Qpg p0 i0 v0_1)), (zoF (Qks p0 i0 v0_1)), Qf VOK.nil (x := ((.exit 0), Qqe p0 v0_1 (envF (Qpg p0 i0 v0_1)) (zoF (Qks p0 i0 v0_1)))) [hP 3 (Qe (Val.rows p0.list) (List.length p0.list) (Val.Q8 p0.list)), hB 0 hc0] [] (by kernel_rfl)⟩
theorem Q12n (p0 : Val) (H : Qhk p0) (rec : Qg4 p0) (x0 : Val) (i0 : Nat) (v0_1 : Int) (hx0 : p0.list[i0]? = some x0) (hi0 : i0 < List.length p0.list) (hc0 : (decide ((i0 : Int) < ((List.length p0.list) : Int))) = true) {r : Rs} (hr : Q7 G (Qod p0 (i0 + 1) (w64 (v0_1 + (s_Kn x0)))) r) : Q7 G (Qod p0 i0 v0_1) r := by
 have hB0 := H.1
 exact Qa VOK.nil (y := (Qug p0 (i0 + 1) (w64 (v0_1 + (s_Kn x0))), Qwq p0 (i0 + 1) (w64 (v0_1 + (s_Kn x0))))) [hP 3 (Qe (Val.rows p0.list) (List.length p0.list) (Val.Q8 p0.list)), hB 0 hc0, hP 4 (Q10 5 (Val.rows p0.list) i0 _ (Val.Qg hx0) rfl), hP 5 (Qr i0 (by omega))] [aN (rec x0 (szL hx0) (H.2.1 x0 (Qt hx0)))] (by kernel_rfl) hr
theorem Qwc (p0 : Val) (H : Qhk p0) (rec : Qg4 p0) : ∀ (r0 : List Val) (i0 : Nat) (v0_1 : Int), List.drop i0 p0.list = r0 → Qnv p0 (Qod p0 i0 v0_1) (Qbd p0 r0 i0 v0_1)
 | [], i0, v0_1, hd => by
  have hc0 : (decide ((i0 : Int) < ((List.length p0.list) : Int))) = false := by have := Q1d hd; simp; omega
  rw [Qbd]
  exact Q10q p0 H rec i0 v0_1 hc0
 | x0 :: r0, i0, v0_1, hd => by
  obtain ⟨hx0, hi0, hd'⟩ := Qz hd
  have hc0 : (decide ((i0 : Int) < ((List.length p0.list) : Int))) = true := by simp; omega
  rw [Qbd]
  exact Qr2 p0 (fun r hr => Q12n p0 H rec x0 i0 v0_1 hx0 hi0 hc0 hr) _ (Qwc p0 H rec r0 (i0 + 1) (w64 (v0_1 + (s_Kn x0))) hd')
def Qr7 (p0 : Val) (i1 : Nat) (_v1_1 : Int) : List PV :=
  [.un, .bx 0 0, .un, .un, .un, .int .i64 (i1 : Int), .un, .un, .un, .un, .un, .un, .un, .un, .un, .un, .un, .un, .un, .un, .un, .int .i64 (i1 : Int), .bx 0 4, .sl (Fld.rows p0.fields), .int .i64 ((List.length p0.fields) : Int), .bool false]
def Qkr (_p0 : Val) (_i1 : Nat) (_v1_1 : Int) : List (Nat × List PV) :=
  []
theorem Q11x (p0 : Val) (_H : Qhh p0) (_rec : Qg4 p0) (i1 : Nat) (v1_1 : Int) (hc1 : (decide ((i1 : Int) < ((List.length p0.fields) : Int))) = false) : Qmz p0 (Qm7 p0 i1 v1_1) v1_1 := by
 exact ⟨(envF (Qr7 p0 i1 v1_1)), (zoF (Qkr p0 i1 v1_1)), Qf VOK.nil (x := ((.exit 2), Qs7 p0 v1_1 (envF (Qr7 p0 i1 v1_1)) (zoF (Qkr p0 i1 v1_1)))) [hP 3 (Qe (Fld.rows p0.fields) (List.length p0.fields) (Fld.Q8 p0.fields)), hB 0 hc1] [] (by kernel_rfl)⟩
theorem Q15f (p0 : Val) (H : Qhh p0) (rec : Qg4 p0) (x1 : Fld) (i1 : Nat) (v1_1 : Int) (hx1 : p0.fields[i1]? = some x1) (hi1 : i1 < List.length p0.fields) (hc1 : (decide ((i1 : Int) < ((List.length p0.fields) : Int))) = true) {r : Rs} (hr : Q7 G (Qm7 p0 (i1 + 1) (w64 (v1_1 + (s_Kn x1.v)))) r) : Q7 G (Qm7 p0 i1 v1_1) r := by
 have hB0 := H.1
 exact Qa VOK.nil (y := (Qvz p0 (i1 + 1) (w64 (v1_1 + (s_Kn x1.v))), Qw0 p0 (i1 + 1) (w64 (v1_1 + (s_Kn x1.v))))) [hP 3 (Qe (Fld.rows p0.fields) (List.length p0.fields) (Fld.Q8 p0.fields)), hB 0 hc1, hP 4 (Q10 6 (Fld.rows p0.fields) i1 _ (Fld.Qg hx1) rfl), hP 6 (Qr i1 (by omega))] [aN (rec x1.v (szF hx1) (H.2.1 x1 (Qt hx1)))] (by kernel_rfl) hr
theorem Qur (p0 : Val) (H : Qhh p0) (rec : Qg4 p0) : ∀ (r1 : List Fld) (i1 : Nat) (v1_1 : Int), List.drop i1 p0.fields = r1 → Qmz p0 (Qm7 p0 i1 v1_1) (Qfu p0 r1 i1 v1_1)
 | [], i1, v1_1, hd => by
  have hc1 : (decide ((i1 : Int) < ((List.length p0.fields) : Int))) = false := by have := Q1d hd; simp; omega
  rw [Qfu]
  exact Q11x p0 H rec i1 v1_1 hc1
 | x1 :: r1, i1, v1_1, hd => by
  obtain ⟨hx1, hi1, hd'⟩ := Qz hd
  have hc1 : (decide ((i1 : Int) < ((List.length p0.fields) : Int))) = true := by simp; omega
  rw [Qfu]
  exact Qqs p0 (fun r hr => Q15f p0 H rec x1 i1 v1_1 hx1 hi1 hc1 hr) _ (Qur p0 H rec r1 (i1 + 1) (w64 (v1_1 + (s_Kn x1.v))) hd')
theorem r_Kn (p0 : Val) (H : H_Kn p0) (rec : Qg4 p0) : Q7 G (c_Kn p0) (a_Kn p0) := by
  unfold a_Kn
  rw [s_Kn]
  have hl0 := Qwc p0 ((Q12s p0 H).1) rec p0.list 0 1 (by simp)
  obtain ⟨z0, zo0, hl0⟩ := hl0
  have hl1 := Qur p0 ((Q12s p0 H).2.1) rec p0.fields 0 (Qbd p0 p0.list 0 1) (by simp)
  obtain ⟨z1, zo1, hl1⟩ := hl1
  exact Q9 (fn := Ir.Kn) rfl VOK.nil [] [aN hl0, aN hl1] (by kernel_rfl)
theorem i_Kn : ∀ (k : Nat) (p0 : Val), SizeOf.sizeOf p0 < k → H_Kn p0 → Q7 G (c_Kn p0) (a_Kn p0)
  | 0, _, h, _ => absurd h (Nat.not_lt_zero _)
  | k + 1, p0, h, H => r_Kn p0 H (fun q hq hH => i_Kn k q (by omega) hH)
theorem t_Kn (p0 : Val) (H : H_Kn p0) : Q7 G (c_Kn p0) (a_Kn p0) := i_Kn _ p0 (Nat.lt_succ_self _) H
inductive Q13s where
  | k0
  | k1
def Q8m (p0 : BA) : List Int → Nat → Q13s
 | [], _i0 =>
  (.k0)
 | x0 :: r0, i0 =>
  bif (x0 == 10) then
   Q8m p0 r0 (i0 + 1)
  else
   bif (decide (x0 < 32)) then
    (.k1)
   else
    bif (decide (126 < x0)) then
     (.k1)
    else
     Q8m p0 r0 (i0 + 1)
def Qnd (p0 : BA) (i0 : Nat) : List PV :=
  [.str p0, .un, .un, .int .i64 (i0 : Int), .un, .un, .un, .un, .un, .un, .un, .un, .un, .un, .un, .un, .un, .un, .un, .un, .un, .un, .un, .un, .un, .un, .un, .un, .un]
def Qmm (_p0 : BA) (_i0 : Nat) : List Ob :=
  []
def Q6u (p0 : BA) (i0 : Nat) : En := .loop 0 Ir.Qjx Ir.Q1as (Qnd p0 i0) (Qmm p0 i0)
def Qqm (p0 : BA) (z : Nat → PV) (_zo : Nat → List PV) : St :=
  ⟨[.str p0, z 1, z 2, z 3, z 4, z 5, z 6, z 7, z 8, z 9, z 10, z 11, z 12, z 13, z 14, z 15, z 16, z 17, z 18, z 19, z 20, z 21, z 22, z 23, z 24, z 25, z 26, z 27, z 28], [], 256⟩
def Qdg (_p0 : BA) (z : Nat → PV) (_zo : Nat → List PV) : St :=
  ⟨[z 0, z 1, .bool false, z 3, z 4, z 5, z 6, z 7, z 8, z 9, z 10, z 11, z 12, z 13, z 14, z 15, z 16, z 17, z 18, z 19, z 20, z 21, z 22, z 23, z 24, z 25, z 26, z 27, z 28], [], 1344⟩
def Qbe (p0 : BA) (e : En) : Q13s → Prop
  | .k0 => ∃ z zo, Q7 G e (.st (.exit 0) (Qqm p0 z zo))
  | .k1 => ∃ z zo, Q7 G e (.st .ret (Qdg p0 z zo))
theorem Qbp (p0 : BA) {e e' : En} (h : ∀ r, Q7 G e r → Q7 G e' r) : ∀ q, Qbe p0 e q → Qbe p0 e' q
  | .k0, ⟨z, zo, hz⟩ => ⟨z, zo, h _ hz⟩
  | .k1, ⟨z, zo, hz⟩ => ⟨z, zo, h _ hz⟩
def Q8e (p0 : BA) : Prop := (List.length (letters p0) ≤ 4611686018427387904) ∧ True
def Qpr (p0 : BA) (i0 : Nat) : List PV :=
  [.un, .un, .un, .int .i64 (i0 : Int), .int .i64 (i0 : Int), .str p0, .int .i64 (ByteArray.size p0 : Int), .bool false]
def Qjm (_p0 : BA) (_i0 : Nat) : List (Nat × List PV) :=
  []
theorem Q136 (p0 : BA) (_H : Q8e p0) (i0 : Nat) (hc0 : (decide ((i0 : Int) < (ByteArray.size p0 : Int))) = false) : Qbe p0 (Q6u p0 i0) (.k0) := by
 exact ⟨(envF (Qpr p0 i0)), (zoF (Qjm p0 i0)), Qf VOK.nil (x := ((.exit 0), Qqm p0 (envF (Qpr p0 i0)) (zoF (Qjm p0 i0)))) [hB 3 hc0] [] (by kernel_rfl)⟩
theorem Q130 (p0 : BA) (H : Q8e p0) (x0 : Int) (i0 : Nat) (hx0 : (letters p0)[i0]? = some x0) (hi0 : i0 < List.length (letters p0)) (hc0 : (decide ((i0 : Int) < (ByteArray.size p0 : Int))) = true) (h0 : (x0 == 10) = true) {r : Rs} (hr : Q7 G (Q6u p0 (i0 + 1)) r) : Q7 G (Q6u p0 i0) r := by
 have hB0 := H.1; have e0 := eq_of_beq h0
 exact Qa VOK.nil (y := (Qnd p0 (i0 + 1), Qmm p0 (i0 + 1))) [hB 3 hc0, hP 2 (Q1i p0 i0 x0 hx0), hP 0 (dec (!(x0 == 10)) false (by rw [h0]; rfl)), hP 13 (Qr i0 (by omega))] [] (by kernel_rfl) hr
def Qs6 (p0 : BA) (i0 : Nat) (x0 : Int) : List PV :=
  [.str p0, .un, .un, .int .i64 (i0 : Int), .int .i64 (i0 : Int), .str p0, .int .i64 (ByteArray.size p0 : Int), .bool true, .un, .un, .str p0, .int .i64 (i0 : Int), .int .u8 x0, .bool true, .bool true, .str p0, .int .i64 (i0 : Int), .int .u8 x0, .bool true, .bool true, .tup [], .tup [], .tup [], .tup [], .bool true, .bool true]
def Qkt (_p0 : BA) (_i0 : Nat) (_x0 : Int) : List (Nat × List PV) :=
  []
theorem Q14f (p0 : BA) (_H : Q8e p0) (x0 : Int) (i0 : Nat) (hx0 : (letters p0)[i0]? = some x0) (_hi0 : i0 < List.length (letters p0)) (hc0 : (decide ((i0 : Int) < (ByteArray.size p0 : Int))) = true) (h0 : (x0 == 10) = false) (h1 : (decide (x0 < 32)) = true) : Qbe p0 (Q6u p0 i0) (.k1) := by
 exact ⟨(envF (Qs6 p0 i0 x0)), (zoF (Qkt p0 i0 x0)), Qf VOK.nil (x := (.ret, Qdg p0 (envF (Qs6 p0 i0 x0)) (zoF (Qkt p0 i0 x0)))) [hB 3 hc0, hP 2 (Q1i p0 i0 x0 hx0), hP 0 (dec (!(x0 == 10)) true (by rw [h0]; rfl)), hP 3 (Q1i p0 i0 x0 hx0), hB 0 h1] [] (by kernel_rfl)⟩
def Qqj (p0 : BA) (i0 : Nat) (x0 : Int) : List PV :=
  [.str p0, .un, .un, .int .i64 (i0 : Int), .int .i64 (i0 : Int), .str p0, .int .i64 (ByteArray.size p0 : Int), .bool true, .un, .un, .str p0, .int .i64 (i0 : Int), .int .u8 x0, .bool true, .bool true, .str p0, .int .i64 (i0 : Int), .int .u8 x0, .bool false, .bool false, .str p0, .int .i64 (i0 : Int), .int .u8 x0, .bool true, .bool true, .bool true]
def Qm5 (_p0 : BA) (_i0 : Nat) (_x0 : Int) : List (Nat × List PV) :=
  []
theorem Q13y (p0 : BA) (_H : Q8e p0) (x0 : Int) (i0 : Nat) (hx0 : (letters p0)[i0]? = some x0) (_hi0 : i0 < List.length (letters p0)) (hc0 : (decide ((i0 : Int) < (ByteArray.size p0 : Int))) = true) (h0 : (x0 == 10) = false) (h1 : (decide (x0 < 32)) = false) (h2 : (decide (126 < x0)) = true) : Qbe p0 (Q6u p0 i0) (.k1) := by
 exact ⟨(envF (Qqj p0 i0 x0)), (zoF (Qm5 p0 i0 x0)), Qf VOK.nil (x := (.ret, Qdg p0 (envF (Qqj p0 i0 x0)) (zoF (Qm5 p0 i0 x0)))) [hB 3 hc0, hP 2 (Q1i p0 i0 x0 hx0), hP 0 (dec (!(x0 == 10)) true (by rw [h0]; rfl)), hP 3 (Q1i p0 i0 x0 hx0), hB 0 h1, hP 3 (Q1i p0 i0 x0 hx0), hB 0 h2] [] (by kernel_rfl)⟩
theorem Q12z (p0 : BA) (H : Q8e p0) (x0 : Int) (i0 : Nat) (hx0 : (letters p0)[i0]? = some x0) (hi0 : i0 < List.length (letters p0)) (hc0 : (decide ((i0 : Int) < (ByteArray.size p0 : Int))) = true) (h0 : (x0 == 10) = false) (h1 : (decide (x0 < 32)) = false) (h2 : (decide (126 < x0)) = false) {r : Rs} (hr : Q7 G (Q6u p0 (i0 + 1)) r) : Q7 G (Q6u p0 i0) r := by
 have hB0 := H.1; have e0 := beq_eq_false_iff_ne.1 h0; have e1 := of_decide_eq_false h1; have e2 := of_decide_eq_false h2
 exact Qa VOK.nil (y := (Qnd p0 (i0 + 1), Qmm p0 (i0 + 1))) [hB 3 hc0, hP 2 (Q1i p0 i0 x0 hx0), hP 0 (dec (!(x0 == 10)) true (by rw [h0]; rfl)), hP 3 (Q1i p0 i0 x0 hx0), hB 0 h1, hP 3 (Q1i p0 i0 x0 hx0), hB 0 h2, hP 3 (Qr i0 (by omega))] [] (by kernel_rfl) hr
theorem Qm6 (p0 : BA) (H : Q8e p0) : ∀ (r0 : List Int) (i0 : Nat), List.drop i0 (letters p0) = r0 → Qbe p0 (Q6u p0 i0) (Q8m p0 r0 i0)
 | [], i0, hd => by
  have hc0 : (decide ((i0 : Int) < (ByteArray.size p0 : Int))) = false := by have hL := Q4n p0; have := Q1d hd; simp; omega
  rw [Q8m]
  exact Q136 p0 H i0 hc0
 | x0 :: r0, i0, hd => by
  obtain ⟨hx0, hi0, hd'⟩ := Qz hd
  have hc0 : (decide ((i0 : Int) < (ByteArray.size p0 : Int))) = true := by have hL := Q4n p0; simp; omega
  rw [Q8m]
  cases h0 : (x0 == 10) with
  | true =>
   exact Qbp p0 (fun r hr => Q130 p0 H x0 i0 hx0 hi0 hc0 h0 hr) _ (Qm6 p0 H r0 (i0 + 1) hd')
  | false =>
   cases h1 : (decide (x0 < 32)) with
   | true =>
    exact Q14f p0 H x0 i0 hx0 hi0 hc0 h0 h1
   | false =>
    cases h2 : (decide (126 < x0)) with
    | true =>
     exact Q13y p0 H x0 i0 hx0 hi0 hc0 h0 h1 h2
    | false =>
     exact Qbp p0 (fun r hr => Q12z p0 H x0 i0 hx0 hi0 hc0 h0 h1 h2 hr) _ (Qm6 p0 H r0 (i0 + 1) hd')
def s_Kq (p0 : BA) : Bool :=
 (match (Q8m p0 (letters p0) 0) with
 | .k0 => (decide ((ByteArray.size p0 : Int) ≤ 200))
 | .k1 => false)
def c_Kq (p0 : BA) : En := .call 65 [.str p0] []
def a_Kq (p0 : BA) : Rs := .ret (.bool (s_Kq p0)) []
def H_Kq (p0 : BA) : Prop := (Q8e p0) ∧ True
theorem t_Kq (p0 : BA) (H : H_Kq p0) : Q7 G (c_Kq p0) (a_Kq p0) := by
 unfold a_Kq s_Kq
 have hl0 := Qm6 p0 (H.1) (letters p0) 0 (by simp)
 cases hr0 : (Q8m p0 (letters p0) 0) with
 | k0 =>
  rw [hr0] at hl0
  obtain ⟨z0, zo0, hl0⟩ := hl0
  exact Q9 (fn := Ir.Kq) rfl VOK.nil [] [aN hl0] (by kernel_rfl)
 | k1 =>
  rw [hr0] at hl0
  obtain ⟨z0, zo0, hl0⟩ := hl0
  exact Q9 (fn := Ir.Kq) rfl VOK.nil [] [aN hl0] (by kernel_rfl)
abbrev eB : ByteArray := ⟨#[]⟩
def s_Kw (p0 : Val) : Bool :=
 bif (p0.kind == 1) then
  bif (p0.n == 0) then
   (sEq p0.s eB)
  else
   bif (p0.n == 1) then
    (sEq p0.s eB)
   else
    false
 else
  bif (p0.kind == 2) then
   bif (decide ((-1000000000000000) ≤ p0.n)) then
    bif (decide (p0.n ≤ 1000000000000000)) then
     (sEq p0.s eB)
    else
     false
   else
    false
  else
   bif (p0.kind == 3) then
    bif (p0.n == 0) then
     (s_Kq p0.s)
    else
     false
   else
    bif (p0.kind == 0) then
     bif (p0.n == 0) then
      (sEq p0.s eB)
     else
      false
    else
     bif (p0.kind == 4) then
      bif (p0.n == 0) then
       (sEq p0.s eB)
      else
       false
     else
      bif (p0.kind == 5) then
       bif (p0.n == 0) then
        (sEq p0.s eB)
       else
        false
      else
       false
def c_Kw (p0 : Val) : En := .call 51 [.agg (Val.cells p0)] []
def a_Kw (p0 : Val) : Rs := .ret (.bool (s_Kw p0)) []
def H_Kw (p0 : Val) : Prop := (H_Kq p0.s) ∧ True
theorem Q1aa (p0 : Val) (_H : H_Kw p0) (h0 : (p0.kind == 1) = true) : Q7 G (c_Kw p0) (.ret (.bool (bif (p0.n == 0) then
   (sEq p0.s eB)
 else
   bif (p0.n == 1) then
    (sEq p0.s eB)
   else
    false)) []) := by
 cases h1 : (p0.n == 0) with
 | true =>
  exact Q9 (fn := Ir.Kw) rfl VOK.nil [hB 4 h0, hB 3 h1] [] (by kernel_rfl)
 | false =>
  cases h2 : (p0.n == 1) with
  | true =>
   exact Q9 (fn := Ir.Kw) rfl VOK.nil [hB 4 h0, hB 3 h1, hB 3 h2] [] (by kernel_rfl)
  | false =>
   exact Q9 (fn := Ir.Kw) rfl VOK.nil [hB 4 h0, hB 3 h1, hB 3 h2] [] (by kernel_rfl)
theorem Q1be (p0 : Val) (_H : H_Kw p0) (h0 : (p0.kind == 1) = false) (h1 : (p0.kind == 2) = true) : Q7 G (c_Kw p0) (.ret (.bool (bif (decide ((-1000000000000000) ≤ p0.n)) then
   bif (decide (p0.n ≤ 1000000000000000)) then
    (sEq p0.s eB)
   else
    false
 else
   false)) []) := by
 cases h2 : (decide ((-1000000000000000) ≤ p0.n)) with
 | true =>
  cases h3 : (decide (p0.n ≤ 1000000000000000)) with
  | true =>
   exact Q9 (fn := Ir.Kw) rfl VOK.nil [hB 4 h0, hB 1 h1, hB 3 h2, hB 3 h3] [] (by kernel_rfl)
  | false =>
   exact Q9 (fn := Ir.Kw) rfl VOK.nil [hB 4 h0, hB 1 h1, hB 3 h2, hB 3 h3] [] (by kernel_rfl)
 | false =>
  exact Q9 (fn := Ir.Kw) rfl VOK.nil [hB 4 h0, hB 1 h1, hB 3 h2] [] (by kernel_rfl)
theorem Q1bd (p0 : Val) (H : H_Kw p0) (h0 : (p0.kind == 1) = false) (h1 : (p0.kind == 2) = false) (h2 : (p0.kind == 3) = true) : Q7 G (c_Kw p0) (.ret (.bool (bif (p0.n == 0) then
   (s_Kq p0.s)
 else
   false)) []) := by
 cases h3 : (p0.n == 0) with
 | true =>
  exact Q9 (fn := Ir.Kw) rfl VOK.nil [hB 4 h0, hB 1 h1, hB 1 h2, hB 3 h3] [aN (t_Kq p0.s H.1)] (by kernel_rfl)
 | false =>
  exact Q9 (fn := Ir.Kw) rfl VOK.nil [hB 4 h0, hB 1 h1, hB 1 h2, hB 3 h3] [] (by kernel_rfl)
theorem Q1a7 (p0 : Val) (_H : H_Kw p0) (h0 : (p0.kind == 1) = false) (h1 : (p0.kind == 2) = false) (h2 : (p0.kind == 3) = false) (h3 : (p0.kind == 0) = true) : Q7 G (c_Kw p0) (.ret (.bool (bif (p0.n == 0) then
   (sEq p0.s eB)
 else
   false)) []) := by
 cases h4 : (p0.n == 0) with
 | true =>
  exact Q9 (fn := Ir.Kw) rfl VOK.nil [hB 4 h0, hB 1 h1, hB 1 h2, hB 1 h3, hB 3 h4] [] (by kernel_rfl)
 | false =>
  exact Q9 (fn := Ir.Kw) rfl VOK.nil [hB 4 h0, hB 1 h1, hB 1 h2, hB 1 h3, hB 3 h4] [] (by kernel_rfl)
theorem Q196 (p0 : Val) (_H : H_Kw p0) (h0 : (p0.kind == 1) = false) (h1 : (p0.kind == 2) = false) (h2 : (p0.kind == 3) = false) (h3 : (p0.kind == 0) = false) : Q7 G (c_Kw p0) (.ret (.bool (bif (p0.kind == 4) then
   bif (p0.n == 0) then
     (sEq p0.s eB)
   else
     false
 else
   bif (p0.kind == 5) then
     bif (p0.n == 0) then
      (sEq p0.s eB)
     else
      false
   else
     false)) []) := by
 cases h4 : (p0.kind == 4) with
 | true =>
  cases h5 : (p0.n == 0) with
  | true =>
   exact Q9 (fn := Ir.Kw) rfl VOK.nil [hB 4 h0, hB 1 h1, hB 1 h2, hB 1 h3, hB 1 h4, hB 3 h5] [] (by kernel_rfl)
  | false =>
   exact Q9 (fn := Ir.Kw) rfl VOK.nil [hB 4 h0, hB 1 h1, hB 1 h2, hB 1 h3, hB 1 h4, hB 3 h5] [] (by kernel_rfl)
 | false =>
  cases h5 : (p0.kind == 5) with
  | true =>
   cases h6 : (p0.n == 0) with
   | true =>
    exact Q9 (fn := Ir.Kw) rfl VOK.nil [hB 4 h0, hB 1 h1, hB 1 h2, hB 1 h3, hB 1 h4, hB 1 h5, hB 3 h6] [] (by kernel_rfl)
   | false =>
    exact Q9 (fn := Ir.Kw) rfl VOK.nil [hB 4 h0, hB 1 h1, hB 1 h2, hB 1 h3, hB 1 h4, hB 1 h5, hB 3 h6] [] (by kernel_rfl)
  | false =>
   exact Q9 (fn := Ir.Kw) rfl VOK.nil [hB 4 h0, hB 1 h1, hB 1 h2, hB 1 h3, hB 1 h4, hB 1 h5] [] (by kernel_rfl)
theorem t_Kw (p0 : Val) (H : H_Kw p0) : Q7 G (c_Kw p0) (a_Kw p0) := by
 unfold a_Kw s_Kw
 cases h0 : (p0.kind == 1) with
 | true =>
  exact Q1aa p0 H h0
 | false =>
  cases h1 : (p0.kind == 2) with
  | true =>
   exact Q1be p0 H h0 h1
  | false =>
   cases h2 : (p0.kind == 3) with
   | true =>
    exact Q1bd p0 H h0 h1 h2
   | false =>
    cases h3 : (p0.kind == 0) with
    | true =>
     exact Q1a7 p0 H h0 h1 h2 h3
    | false =>
     exact Q196 p0 H h0 h1 h2 h3
inductive Q11u where
  | k0
  | k1
def Q1h (p0 : BA) : List Int → Nat → Q11u
 | [], _i0 =>
  (.k0)
 | x0 :: r0, i0 =>
  bif (decide (97 ≤ x0)) then
   bif (decide (x0 ≤ 122)) then
    Q1h p0 r0 (i0 + 1)
   else
    bif (decide (65 ≤ x0)) then
     bif (decide (x0 ≤ 90)) then
      Q1h p0 r0 (i0 + 1)
     else
      bif (decide (48 ≤ x0)) then
       bif (decide (x0 ≤ 57)) then
        Q1h p0 r0 (i0 + 1)
       else
        bif (x0 == 45) then
         Q1h p0 r0 (i0 + 1)
        else
         bif (x0 == 95) then
          Q1h p0 r0 (i0 + 1)
         else
          bif (x0 == 47) then
           Q1h p0 r0 (i0 + 1)
          else
           (.k1)
      else
       bif (x0 == 45) then
        Q1h p0 r0 (i0 + 1)
       else
        bif (x0 == 95) then
         Q1h p0 r0 (i0 + 1)
        else
         bif (x0 == 47) then
          Q1h p0 r0 (i0 + 1)
         else
          (.k1)
    else
     bif (decide (48 ≤ x0)) then
      bif (decide (x0 ≤ 57)) then
       Q1h p0 r0 (i0 + 1)
      else
       bif (x0 == 45) then
        Q1h p0 r0 (i0 + 1)
       else
        bif (x0 == 95) then
         Q1h p0 r0 (i0 + 1)
        else
         bif (x0 == 47) then
          Q1h p0 r0 (i0 + 1)
         else
          (.k1)
     else
      bif (x0 == 45) then
       Q1h p0 r0 (i0 + 1)
      else
       bif (x0 == 95) then
        Q1h p0 r0 (i0 + 1)
       else
        bif (x0 == 47) then
         Q1h p0 r0 (i0 + 1)
        else
         (.k1)
  else
   bif (decide (65 ≤ x0)) then
    bif (decide (x0 ≤ 90)) then
     Q1h p0 r0 (i0 + 1)
    else
     bif (decide (48 ≤ x0)) then
      bif (decide (x0 ≤ 57)) then
       Q1h p0 r0 (i0 + 1)
      else
       bif (x0 == 45) then
        Q1h p0 r0 (i0 + 1)
       else
        bif (x0 == 95) then
         Q1h p0 r0 (i0 + 1)
        else
         bif (x0 == 47) then
          Q1h p0 r0 (i0 + 1)
         else
          (.k1)
     else
      bif (x0 == 45) then
       Q1h p0 r0 (i0 + 1)
      else
       bif (x0 == 95) then
        Q1h p0 r0 (i0 + 1)
       else
        bif (x0 == 47) then
         Q1h p0 r0 (i0 + 1)
        else
         (.k1)
   else
    bif (decide (48 ≤ x0)) then
     bif (decide (x0 ≤ 57)) then
      Q1h p0 r0 (i0 + 1)
     else
      bif (x0 == 45) then
       Q1h p0 r0 (i0 + 1)
      else
       bif (x0 == 95) then
        Q1h p0 r0 (i0 + 1)
       else
        bif (x0 == 47) then
         Q1h p0 r0 (i0 + 1)
        else
         (.k1)
    else
     bif (x0 == 45) then
      Q1h p0 r0 (i0 + 1)
     else
      bif (x0 == 95) then
       Q1h p0 r0 (i0 + 1)
      else
       bif (x0 == 47) then
        Q1h p0 r0 (i0 + 1)
       else
        (.k1)
def Q17 (p0 : BA) (i0 : Nat) : List PV :=
  [.str p0, .un, .un, .int .i64 (i0 : Int), .un, .un, .un, .un, .un, .un, .un, .un, .un, .un, .un, .un, .un, .un, .un, .un, .un, .un, .un, .un, .un, .un, .un, .un, .un, .un, .un, .un, .un, .un, .un, .un, .un, .un, .un, .un, .un, .un, .un, .un, .un, .un, .un, .un, .un, .un, .un, .un, .un, .un, .un, .un, .un, .un, .un, .un]
def Q18 (_p0 : BA) (_i0 : Nat) : List Ob :=
  []
def Qn (p0 : BA) (i0 : Nat) : En := .loop 0 Ir.Qj1 Ir.Q1b8 (Q17 p0 i0) (Q18 p0 i0)
def Qqp (p0 : BA) (z : Nat → PV) (_zo : Nat → List PV) : St :=
  ⟨[.str p0, z 1, z 2, z 3, z 4, z 5, z 6, z 7, z 8, z 9, z 10, z 11, z 12, z 13, z 14, z 15, z 16, z 17, z 18, z 19, z 20, z 21, z 22, z 23, z 24, z 25, z 26, z 27, z 28, z 29, z 30, z 31, z 32, z 33, z 34, z 35, z 36, z 37, z 38, z 39, z 40, z 41, z 42, z 43, z 44, z 45, z 46, z 47, z 48, z 49, z 50, z 51, z 52, z 53, z 54, z 55, z 56, z 57, z 58, z 59], [], 256⟩
def Q3k (_p0 : BA) (z : Nat → PV) (_zo : Nat → List PV) : St :=
  ⟨[z 0, z 1, .bool false, z 3, z 4, z 5, z 6, z 7, z 8, z 9, z 10, z 11, z 12, z 13, z 14, z 15, z 16, z 17, z 18, z 19, z 20, z 21, z 22, z 23, z 24, z 25, z 26, z 27, z 28, z 29, z 30, z 31, z 32, z 33, z 34, z 35, z 36, z 37, z 38, z 39, z 40, z 41, z 42, z 43, z 44, z 45, z 46, z 47, z 48, z 49, z 50, z 51, z 52, z 53, z 54, z 55, z 56, z 57, z 58, z 59], [], 3008⟩
def Q4b (p0 : BA) (e : En) : Q11u → Prop
  | .k0 => ∃ z zo, Q7 G e (.st (.exit 0) (Qqp p0 z zo))
  | .k1 => ∃ z zo, Q7 G e (.st .ret (Q3k p0 z zo))
theorem Qo (p0 : BA) {e e' : En} (h : ∀ r, Q7 G e r → Q7 G e' r) : ∀ q, Q4b p0 e q → Q4b p0 e' q
  | .k0, ⟨z, zo, hz⟩ => ⟨z, zo, h _ hz⟩
  | .k1, ⟨z, zo, hz⟩ => ⟨z, zo, h _ hz⟩
def Q15 (p0 : BA) : Prop := (List.length (letters p0) ≤ 4611686018427387904) ∧ True
def Qqx (p0 : BA) (i0 : Nat) : List PV :=
  [.un, .un, .un, .int .i64 (i0 : Int), .un, .un, .int .i64 (i0 : Int), .str p0, .int .i64 (ByteArray.size p0 : Int), .bool false]
def Qi0 (_p0 : BA) (_i0 : Nat) : List (Nat × List PV) :=
  []
theorem Q12o (p0 : BA) (_H : Q15 p0) (i0 : Nat) (hc0 : (decide ((i0 : Int) < (ByteArray.size p0 : Int))) = false) : Q4b p0 (Qn p0 i0) (.k0) := by
 exact ⟨(envF (Qqx p0 i0)), (zoF (Qi0 p0 i0)), Qf VOK.nil (x := ((.exit 0), Qqp p0 (envF (Qqx p0 i0)) (zoF (Qi0 p0 i0)))) [hB 3 hc0] [] (by kernel_rfl)⟩
theorem Q13r (p0 : BA) (H : Q15 p0) (x0 : Int) (i0 : Nat) (hx0 : (letters p0)[i0]? = some x0) (hi0 : i0 < List.length (letters p0)) (hc0 : (decide ((i0 : Int) < (ByteArray.size p0 : Int))) = true) (h0 : (decide (97 ≤ x0)) = true) (h1 : (decide (x0 ≤ 122)) = true) {r : Rs} (hr : Q7 G (Qn p0 (i0 + 1)) r) : Q7 G (Qn p0 i0) r := by
 have hB0 := H.1; have e0 := of_decide_eq_true h0; have e1 := of_decide_eq_true h1
 exact Qa VOK.nil (y := (Q17 p0 (i0 + 1), Q18 p0 (i0 + 1))) [hB 3 hc0, hP 2 (Q1i p0 i0 x0 hx0), hB 2 h0, hB 2 h1, hP 34 (Qr i0 (by omega))] [] (by kernel_rfl) hr
theorem Q13a (p0 : BA) (H : Q15 p0) (x0 : Int) (i0 : Nat) (hx0 : (letters p0)[i0]? = some x0) (_hi0 : i0 < List.length (letters p0)) (hc0 : (decide ((i0 : Int) < (ByteArray.size p0 : Int))) = true) (h0 : (decide (97 ≤ x0)) = true) (h1 : (decide (x0 ≤ 122)) = false) (h2 : (decide (65 ≤ x0)) = true) (h3 : (decide (x0 ≤ 90)) = true) {r : Rs} (hr : Q7 G (Qn p0 (i0 + 1)) r) : Q7 G (Qn p0 i0) r := by
 have hB0 := H.1; have e0 := of_decide_eq_true h0; have e1 := of_decide_eq_false h1; have e2 := of_decide_eq_true h2; have e3 := of_decide_eq_true h3
 exact Qa VOK.nil (y := (Q17 p0 (i0 + 1), Q18 p0 (i0 + 1))) [hB 3 hc0, hP 2 (Q1i p0 i0 x0 hx0), hB 2 h0, hB 2 h1, hB 3 h2, hB 2 h3, hP 27 (Qr i0 (by omega))] [] (by kernel_rfl) hr
theorem Q15j (p0 : BA) (H : Q15 p0) (x0 : Int) (i0 : Nat) (hx0 : (letters p0)[i0]? = some x0) (_hi0 : i0 < List.length (letters p0)) (hc0 : (decide ((i0 : Int) < (ByteArray.size p0 : Int))) = true) (h0 : (decide (97 ≤ x0)) = true) (h1 : (decide (x0 ≤ 122)) = false) (h2 : (decide (65 ≤ x0)) = true) (h3 : (decide (x0 ≤ 90)) = false) (h4 : (decide (48 ≤ x0)) = true) (h5 : (decide (x0 ≤ 57)) = true) {r : Rs} (hr : Q7 G (Qn p0 (i0 + 1)) r) : Q7 G (Qn p0 i0) r := by
 have hB0 := H.1; have e0 := of_decide_eq_true h0; have e1 := of_decide_eq_false h1; have e2 := of_decide_eq_true h2; have e3 := of_decide_eq_false h3; have e4 := of_decide_eq_true h4; have e5 := of_decide_eq_true h5
 exact Qa VOK.nil (y := (Q17 p0 (i0 + 1), Q18 p0 (i0 + 1))) [hB 3 hc0, hP 2 (Q1i p0 i0 x0 hx0), hB 2 h0, hB 2 h1, hB 3 h2, hB 2 h3, hB 7 h4, hB 2 h5, hP 16 (Qr i0 (by omega))] [] (by kernel_rfl) hr
theorem Q10s (p0 : BA) (H : Q15 p0) (x0 : Int) (i0 : Nat) (hx0 : (letters p0)[i0]? = some x0) (_hi0 : i0 < List.length (letters p0)) (hc0 : (decide ((i0 : Int) < (ByteArray.size p0 : Int))) = true) (h0 : (decide (97 ≤ x0)) = true) (h1 : (decide (x0 ≤ 122)) = false) (h2 : (decide (65 ≤ x0)) = true) (h3 : (decide (x0 ≤ 90)) = false) (h4 : (decide (48 ≤ x0)) = true) (h5 : (decide (x0 ≤ 57)) = false) (h6 : (x0 == 45) = true) {r : Rs} (hr : Q7 G (Qn p0 (i0 + 1)) r) : Q7 G (Qn p0 i0) r := by
 have hB0 := H.1; have e0 := of_decide_eq_true h0; have e1 := of_decide_eq_false h1; have e2 := of_decide_eq_true h2; have e3 := of_decide_eq_false h3; have e4 := of_decide_eq_true h4; have e5 := of_decide_eq_false h5; have e6 := eq_of_beq h6
 exact Qa VOK.nil (y := (Q17 p0 (i0 + 1), Q18 p0 (i0 + 1))) [hB 3 hc0, hP 2 (Q1i p0 i0 x0 hx0), hB 2 h0, hB 2 h1, hB 3 h2, hB 2 h3, hB 7 h4, hB 2 h5, hP 5 (dec (!(x0 == 45)) false (by rw [h6]; rfl)), hP 10 (Qr i0 (by omega))] [] (by kernel_rfl) hr
theorem Q11h (p0 : BA) (H : Q15 p0) (x0 : Int) (i0 : Nat) (hx0 : (letters p0)[i0]? = some x0) (_hi0 : i0 < List.length (letters p0)) (hc0 : (decide ((i0 : Int) < (ByteArray.size p0 : Int))) = true) (h0 : (decide (97 ≤ x0)) = true) (h1 : (decide (x0 ≤ 122)) = false) (h2 : (decide (65 ≤ x0)) = true) (h3 : (decide (x0 ≤ 90)) = false) (h4 : (decide (48 ≤ x0)) = true) (h5 : (decide (x0 ≤ 57)) = false) (h6 : (x0 == 45) = false) (h7 : (x0 == 95) = true) {r : Rs} (hr : Q7 G (Qn p0 (i0 + 1)) r) : Q7 G (Qn p0 i0) r := by
 have hB0 := H.1; have e0 := of_decide_eq_true h0; have e1 := of_decide_eq_false h1; have e2 := of_decide_eq_true h2; have e3 := of_decide_eq_false h3; have e4 := of_decide_eq_true h4; have e5 := of_decide_eq_false h5; have e6 := beq_eq_false_iff_ne.1 h6; have e7 := eq_of_beq h7
 exact Qa VOK.nil (y := (Q17 p0 (i0 + 1), Q18 p0 (i0 + 1))) [hB 3 hc0, hP 2 (Q1i p0 i0 x0 hx0), hB 2 h0, hB 2 h1, hB 3 h2, hB 2 h3, hB 7 h4, hB 2 h5, hP 5 (dec (!(x0 == 45)) true (by rw [h6]; rfl)), hP 3 (dec (!(x0 == 95)) false (by rw [h7]; rfl)), hP 6 (Qr i0 (by omega))] [] (by kernel_rfl) hr
theorem Q150 (p0 : BA) (H : Q15 p0) (x0 : Int) (i0 : Nat) (hx0 : (letters p0)[i0]? = some x0) (_hi0 : i0 < List.length (letters p0)) (hc0 : (decide ((i0 : Int) < (ByteArray.size p0 : Int))) = true) (h0 : (decide (97 ≤ x0)) = true) (h1 : (decide (x0 ≤ 122)) = false) (h2 : (decide (65 ≤ x0)) = true) (h3 : (decide (x0 ≤ 90)) = false) (h4 : (decide (48 ≤ x0)) = true) (h5 : (decide (x0 ≤ 57)) = false) (h6 : (x0 == 45) = false) (h7 : (x0 == 95) = false) (h8 : (x0 == 47) = true) {r : Rs} (hr : Q7 G (Qn p0 (i0 + 1)) r) : Q7 G (Qn p0 i0) r := by
 have hB0 := H.1; have e0 := of_decide_eq_true h0; have e1 := of_decide_eq_false h1; have e2 := of_decide_eq_true h2; have e3 := of_decide_eq_false h3; have e4 := of_decide_eq_true h4; have e5 := of_decide_eq_false h5; have e6 := beq_eq_false_iff_ne.1 h6; have e7 := beq_eq_false_iff_ne.1 h7; have e8 := eq_of_beq h8
 exact Qa VOK.nil (y := (Q17 p0 (i0 + 1), Q18 p0 (i0 + 1))) [hB 3 hc0, hP 2 (Q1i p0 i0 x0 hx0), hB 2 h0, hB 2 h1, hB 3 h2, hB 2 h3, hB 7 h4, hB 2 h5, hP 5 (dec (!(x0 == 45)) true (by rw [h6]; rfl)), hP 3 (dec (!(x0 == 95)) true (by rw [h7]; rfl)), hP 3 (dec (!(x0 == 47)) false (by rw [h8]; rfl)), hP 2 (Qr i0 (by omega))] [] (by kernel_rfl) hr
def Qq0 (p0 : BA) (i0 : Nat) (x0 : Int) : List PV :=
  [.str p0, .un, .un, .int .i64 (i0 : Int), .int .u8 x0, .bool false, .int .i64 (i0 : Int), .str p0, .int .i64 (ByteArray.size p0 : Int), .bool true, .un, .un, .str p0, .int .i64 (i0 : Int), .int .u8 x0, .int .u8 x0, .bool true, .bool true, .int .u8 x0, .bool false, .bool false, .bool false, .int .u8 x0, .bool true, .bool true, .int .u8 x0, .bool false, .bool false, .bool false, .bool false, .bool true, .bool true, .int .u8 x0, .bool true, .bool true, .int .u8 x0, .bool false, .bool false, .bool true, .bool true, .bool true, .int .u8 x0, .bool true, .bool true, .bool true, .int .u8 x0, .bool true, .bool true, .bool true, .int .u8 x0, .bool true, .bool true]
def Qib (_p0 : BA) (_i0 : Nat) (_x0 : Int) : List (Nat × List PV) :=
  []
theorem Q14q (p0 : BA) (_H : Q15 p0) (x0 : Int) (i0 : Nat) (hx0 : (letters p0)[i0]? = some x0) (_hi0 : i0 < List.length (letters p0)) (hc0 : (decide ((i0 : Int) < (ByteArray.size p0 : Int))) = true) (h0 : (decide (97 ≤ x0)) = true) (h1 : (decide (x0 ≤ 122)) = false) (h2 : (decide (65 ≤ x0)) = true) (h3 : (decide (x0 ≤ 90)) = false) (h4 : (decide (48 ≤ x0)) = true) (h5 : (decide (x0 ≤ 57)) = false) (h6 : (x0 == 45) = false) (h7 : (x0 == 95) = false) (h8 : (x0 == 47) = false) : Q4b p0 (Qn p0 i0) (.k1) := by
 exact ⟨(envF (Qq0 p0 i0 x0)), (zoF (Qib p0 i0 x0)), Qf VOK.nil (x := (.ret, Q3k p0 (envF (Qq0 p0 i0 x0)) (zoF (Qib p0 i0 x0)))) [hB 3 hc0, hP 2 (Q1i p0 i0 x0 hx0), hB 2 h0, hB 2 h1, hB 3 h2, hB 2 h3, hB 7 h4, hB 2 h5, hP 5 (dec (!(x0 == 45)) true (by rw [h6]; rfl)), hP 3 (dec (!(x0 == 95)) true (by rw [h7]; rfl)), hP 3 (dec (!(x0 == 47)) true (by rw [h8]; rfl))] [] (by kernel_rfl)⟩
theorem Q13z (p0 : BA) (H : Q15 p0) (x0 : Int) (i0 : Nat) (hx0 : (letters p0)[i0]? = some x0) (_hi0 : i0 < List.length (letters p0)) (hc0 : (decide ((i0 : Int) < (ByteArray.size p0 : Int))) = true) (h0 : (decide (97 ≤ x0)) = true) (h1 : (decide (x0 ≤ 122)) = false) (h2 : (decide (65 ≤ x0)) = true) (h3 : (decide (x0 ≤ 90)) = false) (h4 : (decide (48 ≤ x0)) = false) (h5 : (x0 == 45) = true) {r : Rs} (hr : Q7 G (Qn p0 (i0 + 1)) r) : Q7 G (Qn p0 i0) r := by
 have hB0 := H.1; have e0 := of_decide_eq_true h0; have e1 := of_decide_eq_false h1; have e2 := of_decide_eq_true h2; have e3 := of_decide_eq_false h3; have e4 := of_decide_eq_false h4; have e5 := eq_of_beq h5
 exact Qa VOK.nil (y := (Q17 p0 (i0 + 1), Q18 p0 (i0 + 1))) [hB 3 hc0, hP 2 (Q1i p0 i0 x0 hx0), hB 2 h0, hB 2 h1, hB 3 h2, hB 2 h3, hB 7 h4, hP 8 (dec (!(x0 == 45)) false (by rw [h5]; rfl)), hP 10 (Qr i0 (by omega))] [] (by kernel_rfl) hr
theorem Q114 (p0 : BA) (H : Q15 p0) (x0 : Int) (i0 : Nat) (hx0 : (letters p0)[i0]? = some x0) (_hi0 : i0 < List.length (letters p0)) (hc0 : (decide ((i0 : Int) < (ByteArray.size p0 : Int))) = true) (h0 : (decide (97 ≤ x0)) = true) (h1 : (decide (x0 ≤ 122)) = false) (h2 : (decide (65 ≤ x0)) = true) (h3 : (decide (x0 ≤ 90)) = false) (h4 : (decide (48 ≤ x0)) = false) (h5 : (x0 == 45) = false) (h6 : (x0 == 95) = true) {r : Rs} (hr : Q7 G (Qn p0 (i0 + 1)) r) : Q7 G (Qn p0 i0) r := by
 have hB0 := H.1; have e0 := of_decide_eq_true h0; have e1 := of_decide_eq_false h1; have e2 := of_decide_eq_true h2; have e3 := of_decide_eq_false h3; have e4 := of_decide_eq_false h4; have e5 := beq_eq_false_iff_ne.1 h5; have e6 := eq_of_beq h6
 exact Qa VOK.nil (y := (Q17 p0 (i0 + 1), Q18 p0 (i0 + 1))) [hB 3 hc0, hP 2 (Q1i p0 i0 x0 hx0), hB 2 h0, hB 2 h1, hB 3 h2, hB 2 h3, hB 7 h4, hP 8 (dec (!(x0 == 45)) true (by rw [h5]; rfl)), hP 3 (dec (!(x0 == 95)) false (by rw [h6]; rfl)), hP 6 (Qr i0 (by omega))] [] (by kernel_rfl) hr
theorem Qx0 (p0 : BA) (H : Q15 p0) (x0 : Int) (i0 : Nat) (hx0 : (letters p0)[i0]? = some x0) (_hi0 : i0 < List.length (letters p0)) (hc0 : (decide ((i0 : Int) < (ByteArray.size p0 : Int))) = true) (h0 : (decide (97 ≤ x0)) = true) (h1 : (decide (x0 ≤ 122)) = false) (h2 : (decide (65 ≤ x0)) = true) (h3 : (decide (x0 ≤ 90)) = false) (h4 : (decide (48 ≤ x0)) = false) (h5 : (x0 == 45) = false) (h6 : (x0 == 95) = false) (h7 : (x0 == 47) = true) {r : Rs} (hr : Q7 G (Qn p0 (i0 + 1)) r) : Q7 G (Qn p0 i0) r := by
 have hB0 := H.1; have e0 := of_decide_eq_true h0; have e1 := of_decide_eq_false h1; have e2 := of_decide_eq_true h2; have e3 := of_decide_eq_false h3; have e4 := of_decide_eq_false h4; have e5 := beq_eq_false_iff_ne.1 h5; have e6 := beq_eq_false_iff_ne.1 h6; have e7 := eq_of_beq h7
 exact Qa VOK.nil (y := (Q17 p0 (i0 + 1), Q18 p0 (i0 + 1))) [hB 3 hc0, hP 2 (Q1i p0 i0 x0 hx0), hB 2 h0, hB 2 h1, hB 3 h2, hB 2 h3, hB 7 h4, hP 8 (dec (!(x0 == 45)) true (by rw [h5]; rfl)), hP 3 (dec (!(x0 == 95)) true (by rw [h6]; rfl)), hP 3 (dec (!(x0 == 47)) false (by rw [h7]; rfl)), hP 2 (Qr i0 (by omega))] [] (by kernel_rfl) hr
def Qjj (p0 : BA) (i0 : Nat) (x0 : Int) : List PV :=
  [.str p0, .un, .un, .int .i64 (i0 : Int), .int .u8 x0, .bool false, .int .i64 (i0 : Int), .str p0, .int .i64 (ByteArray.size p0 : Int), .bool true, .un, .un, .str p0, .int .i64 (i0 : Int), .int .u8 x0, .int .u8 x0, .bool true, .bool true, .int .u8 x0, .bool false, .bool false, .bool false, .int .u8 x0, .bool true, .bool true, .int .u8 x0, .bool false, .bool false, .bool false, .bool false, .bool true, .bool true, .int .u8 x0, .bool false, .bool false, .tup [], .tup [], .bool false, .bool true, .bool true, .bool true, .int .u8 x0, .bool true, .bool true, .bool true, .int .u8 x0, .bool true, .bool true, .bool true, .int .u8 x0, .bool true, .bool true]
def Qee (_p0 : BA) (_i0 : Nat) (_x0 : Int) : List (Nat × List PV) :=
  []
theorem Qxm (p0 : BA) (_H : Q15 p0) (x0 : Int) (i0 : Nat) (hx0 : (letters p0)[i0]? = some x0) (_hi0 : i0 < List.length (letters p0)) (hc0 : (decide ((i0 : Int) < (ByteArray.size p0 : Int))) = true) (h0 : (decide (97 ≤ x0)) = true) (h1 : (decide (x0 ≤ 122)) = false) (h2 : (decide (65 ≤ x0)) = true) (h3 : (decide (x0 ≤ 90)) = false) (h4 : (decide (48 ≤ x0)) = false) (h5 : (x0 == 45) = false) (h6 : (x0 == 95) = false) (h7 : (x0 == 47) = false) : Q4b p0 (Qn p0 i0) (.k1) := by
 exact ⟨(envF (Qjj p0 i0 x0)), (zoF (Qee p0 i0 x0)), Qf VOK.nil (x := (.ret, Q3k p0 (envF (Qjj p0 i0 x0)) (zoF (Qee p0 i0 x0)))) [hB 3 hc0, hP 2 (Q1i p0 i0 x0 hx0), hB 2 h0, hB 2 h1, hB 3 h2, hB 2 h3, hB 7 h4, hP 8 (dec (!(x0 == 45)) true (by rw [h5]; rfl)), hP 3 (dec (!(x0 == 95)) true (by rw [h6]; rfl)), hP 3 (dec (!(x0 == 47)) true (by rw [h7]; rfl))] [] (by kernel_rfl)⟩
theorem Qxw (p0 : BA) (H : Q15 p0) (x0 : Int) (i0 : Nat) (hx0 : (letters p0)[i0]? = some x0) (_hi0 : i0 < List.length (letters p0)) (hc0 : (decide ((i0 : Int) < (ByteArray.size p0 : Int))) = true) (h0 : (decide (97 ≤ x0)) = true) (h1 : (decide (x0 ≤ 122)) = false) (h2 : (decide (65 ≤ x0)) = false) (h3 : (decide (48 ≤ x0)) = true) (h4 : (decide (x0 ≤ 57)) = true) {r : Rs} (hr : Q7 G (Qn p0 (i0 + 1)) r) : Q7 G (Qn p0 i0) r := by
 have hB0 := H.1; have e0 := of_decide_eq_true h0; have e1 := of_decide_eq_false h1; have e2 := of_decide_eq_false h2; have e3 := of_decide_eq_true h3; have e4 := of_decide_eq_true h4
 exact Qa VOK.nil (y := (Q17 p0 (i0 + 1), Q18 p0 (i0 + 1))) [hB 3 hc0, hP 2 (Q1i p0 i0 x0 hx0), hB 2 h0, hB 2 h1, hB 3 h2, hB 10 h3, hB 2 h4, hP 16 (Qr i0 (by omega))] [] (by kernel_rfl) hr
theorem Qyt (p0 : BA) (H : Q15 p0) (x0 : Int) (i0 : Nat) (hx0 : (letters p0)[i0]? = some x0) (_hi0 : i0 < List.length (letters p0)) (hc0 : (decide ((i0 : Int) < (ByteArray.size p0 : Int))) = true) (h0 : (decide (97 ≤ x0)) = true) (h1 : (decide (x0 ≤ 122)) = false) (h2 : (decide (65 ≤ x0)) = false) (h3 : (decide (48 ≤ x0)) = true) (h4 : (decide (x0 ≤ 57)) = false) (h5 : (x0 == 45) = true) {r : Rs} (hr : Q7 G (Qn p0 (i0 + 1)) r) : Q7 G (Qn p0 i0) r := by
 have hB0 := H.1; have e0 := of_decide_eq_true h0; have e1 := of_decide_eq_false h1; have e2 := of_decide_eq_false h2; have e3 := of_decide_eq_true h3; have e4 := of_decide_eq_false h4; have e5 := eq_of_beq h5
 exact Qa VOK.nil (y := (Q17 p0 (i0 + 1), Q18 p0 (i0 + 1))) [hB 3 hc0, hP 2 (Q1i p0 i0 x0 hx0), hB 2 h0, hB 2 h1, hB 3 h2, hB 10 h3, hB 2 h4, hP 5 (dec (!(x0 == 45)) false (by rw [h5]; rfl)), hP 10 (Qr i0 (by omega))] [] (by kernel_rfl) hr
theorem Qx2 (p0 : BA) (H : Q15 p0) (x0 : Int) (i0 : Nat) (hx0 : (letters p0)[i0]? = some x0) (_hi0 : i0 < List.length (letters p0)) (hc0 : (decide ((i0 : Int) < (ByteArray.size p0 : Int))) = true) (h0 : (decide (97 ≤ x0)) = true) (h1 : (decide (x0 ≤ 122)) = false) (h2 : (decide (65 ≤ x0)) = false) (h3 : (decide (48 ≤ x0)) = true) (h4 : (decide (x0 ≤ 57)) = false) (h5 : (x0 == 45) = false) (h6 : (x0 == 95) = true) {r : Rs} (hr : Q7 G (Qn p0 (i0 + 1)) r) : Q7 G (Qn p0 i0) r := by
 have hB0 := H.1; have e0 := of_decide_eq_true h0; have e1 := of_decide_eq_false h1; have e2 := of_decide_eq_false h2; have e3 := of_decide_eq_true h3; have e4 := of_decide_eq_false h4; have e5 := beq_eq_false_iff_ne.1 h5; have e6 := eq_of_beq h6
 exact Qa VOK.nil (y := (Q17 p0 (i0 + 1), Q18 p0 (i0 + 1))) [hB 3 hc0, hP 2 (Q1i p0 i0 x0 hx0), hB 2 h0, hB 2 h1, hB 3 h2, hB 10 h3, hB 2 h4, hP 5 (dec (!(x0 == 45)) true (by rw [h5]; rfl)), hP 3 (dec (!(x0 == 95)) false (by rw [h6]; rfl)), hP 6 (Qr i0 (by omega))] [] (by kernel_rfl) hr
theorem Qyr (p0 : BA) (H : Q15 p0) (x0 : Int) (i0 : Nat) (hx0 : (letters p0)[i0]? = some x0) (_hi0 : i0 < List.length (letters p0)) (hc0 : (decide ((i0 : Int) < (ByteArray.size p0 : Int))) = true) (h0 : (decide (97 ≤ x0)) = true) (h1 : (decide (x0 ≤ 122)) = false) (h2 : (decide (65 ≤ x0)) = false) (h3 : (decide (48 ≤ x0)) = true) (h4 : (decide (x0 ≤ 57)) = false) (h5 : (x0 == 45) = false) (h6 : (x0 == 95) = false) (h7 : (x0 == 47) = true) {r : Rs} (hr : Q7 G (Qn p0 (i0 + 1)) r) : Q7 G (Qn p0 i0) r := by
 have hB0 := H.1; have e0 := of_decide_eq_true h0; have e1 := of_decide_eq_false h1; have e2 := of_decide_eq_false h2; have e3 := of_decide_eq_true h3; have e4 := of_decide_eq_false h4; have e5 := beq_eq_false_iff_ne.1 h5; have e6 := beq_eq_false_iff_ne.1 h6; have e7 := eq_of_beq h7
 exact Qa VOK.nil (y := (Q17 p0 (i0 + 1), Q18 p0 (i0 + 1))) [hB 3 hc0, hP 2 (Q1i p0 i0 x0 hx0), hB 2 h0, hB 2 h1, hB 3 h2, hB 10 h3, hB 2 h4, hP 5 (dec (!(x0 == 45)) true (by rw [h5]; rfl)), hP 3 (dec (!(x0 == 95)) true (by rw [h6]; rfl)), hP 3 (dec (!(x0 == 47)) false (by rw [h7]; rfl)), hP 2 (Qr i0 (by omega))] [] (by kernel_rfl) hr
def Qis (p0 : BA) (i0 : Nat) (x0 : Int) : List PV :=
  [.str p0, .un, .un, .int .i64 (i0 : Int), .int .u8 x0, .bool false, .int .i64 (i0 : Int), .str p0, .int .i64 (ByteArray.size p0 : Int), .bool true, .un, .un, .str p0, .int .i64 (i0 : Int), .int .u8 x0, .int .u8 x0, .bool true, .bool true, .int .u8 x0, .bool false, .bool false, .bool false, .int .u8 x0, .bool false, .bool false, .tup [], .tup [], .bool false, .bool false, .bool false, .bool true, .bool true, .int .u8 x0, .bool true, .bool true, .int .u8 x0, .bool false, .bool false, .bool true, .bool true, .bool true, .int .u8 x0, .bool true, .bool true, .bool true, .int .u8 x0, .bool true, .bool true, .bool true, .int .u8 x0, .bool true, .bool true]
def Qeu (_p0 : BA) (_i0 : Nat) (_x0 : Int) : List (Nat × List PV) :=
  []
theorem Q101 (p0 : BA) (_H : Q15 p0) (x0 : Int) (i0 : Nat) (hx0 : (letters p0)[i0]? = some x0) (_hi0 : i0 < List.length (letters p0)) (hc0 : (decide ((i0 : Int) < (ByteArray.size p0 : Int))) = true) (h0 : (decide (97 ≤ x0)) = true) (h1 : (decide (x0 ≤ 122)) = false) (h2 : (decide (65 ≤ x0)) = false) (h3 : (decide (48 ≤ x0)) = true) (h4 : (decide (x0 ≤ 57)) = false) (h5 : (x0 == 45) = false) (h6 : (x0 == 95) = false) (h7 : (x0 == 47) = false) : Q4b p0 (Qn p0 i0) (.k1) := by
 exact ⟨(envF (Qis p0 i0 x0)), (zoF (Qeu p0 i0 x0)), Qf VOK.nil (x := (.ret, Q3k p0 (envF (Qis p0 i0 x0)) (zoF (Qeu p0 i0 x0)))) [hB 3 hc0, hP 2 (Q1i p0 i0 x0 hx0), hB 2 h0, hB 2 h1, hB 3 h2, hB 10 h3, hB 2 h4, hP 5 (dec (!(x0 == 45)) true (by rw [h5]; rfl)), hP 3 (dec (!(x0 == 95)) true (by rw [h6]; rfl)), hP 3 (dec (!(x0 == 47)) true (by rw [h7]; rfl))] [] (by kernel_rfl)⟩
theorem Qym (p0 : BA) (H : Q15 p0) (x0 : Int) (i0 : Nat) (hx0 : (letters p0)[i0]? = some x0) (_hi0 : i0 < List.length (letters p0)) (hc0 : (decide ((i0 : Int) < (ByteArray.size p0 : Int))) = true) (h0 : (decide (97 ≤ x0)) = true) (h1 : (decide (x0 ≤ 122)) = false) (h2 : (decide (65 ≤ x0)) = false) (h3 : (decide (48 ≤ x0)) = false) (h4 : (x0 == 45) = true) {r : Rs} (hr : Q7 G (Qn p0 (i0 + 1)) r) : Q7 G (Qn p0 i0) r := by
 have hB0 := H.1; have e0 := of_decide_eq_true h0; have e1 := of_decide_eq_false h1; have e2 := of_decide_eq_false h2; have e3 := of_decide_eq_false h3; have e4 := eq_of_beq h4
 exact Qa VOK.nil (y := (Q17 p0 (i0 + 1), Q18 p0 (i0 + 1))) [hB 3 hc0, hP 2 (Q1i p0 i0 x0 hx0), hB 2 h0, hB 2 h1, hB 3 h2, hB 10 h3, hP 8 (dec (!(x0 == 45)) false (by rw [h4]; rfl)), hP 10 (Qr i0 (by omega))] [] (by kernel_rfl) hr
theorem Qz6 (p0 : BA) (H : Q15 p0) (x0 : Int) (i0 : Nat) (hx0 : (letters p0)[i0]? = some x0) (_hi0 : i0 < List.length (letters p0)) (hc0 : (decide ((i0 : Int) < (ByteArray.size p0 : Int))) = true) (h0 : (decide (97 ≤ x0)) = true) (h1 : (decide (x0 ≤ 122)) = false) (h2 : (decide (65 ≤ x0)) = false) (h3 : (decide (48 ≤ x0)) = false) (h4 : (x0 == 45) = false) (h5 : (x0 == 95) = true) {r : Rs} (hr : Q7 G (Qn p0 (i0 + 1)) r) : Q7 G (Qn p0 i0) r := by
 have hB0 := H.1; have e0 := of_decide_eq_true h0; have e1 := of_decide_eq_false h1; have e2 := of_decide_eq_false h2; have e3 := of_decide_eq_false h3; have e4 := beq_eq_false_iff_ne.1 h4; have e5 := eq_of_beq h5
 exact Qa VOK.nil (y := (Q17 p0 (i0 + 1), Q18 p0 (i0 + 1))) [hB 3 hc0, hP 2 (Q1i p0 i0 x0 hx0), hB 2 h0, hB 2 h1, hB 3 h2, hB 10 h3, hP 8 (dec (!(x0 == 45)) true (by rw [h4]; rfl)), hP 3 (dec (!(x0 == 95)) false (by rw [h5]; rfl)), hP 6 (Qr i0 (by omega))] [] (by kernel_rfl) hr
theorem Qy4 (p0 : BA) (H : Q15 p0) (x0 : Int) (i0 : Nat) (hx0 : (letters p0)[i0]? = some x0) (_hi0 : i0 < List.length (letters p0)) (hc0 : (decide ((i0 : Int) < (ByteArray.size p0 : Int))) = true) (h0 : (decide (97 ≤ x0)) = true) (h1 : (decide (x0 ≤ 122)) = false) (h2 : (decide (65 ≤ x0)) = false) (h3 : (decide (48 ≤ x0)) = false) (h4 : (x0 == 45) = false) (h5 : (x0 == 95) = false) (h6 : (x0 == 47) = true) {r : Rs} (hr : Q7 G (Qn p0 (i0 + 1)) r) : Q7 G (Qn p0 i0) r := by
 have hB0 := H.1; have e0 := of_decide_eq_true h0; have e1 := of_decide_eq_false h1; have e2 := of_decide_eq_false h2; have e3 := of_decide_eq_false h3; have e4 := beq_eq_false_iff_ne.1 h4; have e5 := beq_eq_false_iff_ne.1 h5; have e6 := eq_of_beq h6
 exact Qa VOK.nil (y := (Q17 p0 (i0 + 1), Q18 p0 (i0 + 1))) [hB 3 hc0, hP 2 (Q1i p0 i0 x0 hx0), hB 2 h0, hB 2 h1, hB 3 h2, hB 10 h3, hP 8 (dec (!(x0 == 45)) true (by rw [h4]; rfl)), hP 3 (dec (!(x0 == 95)) true (by rw [h5]; rfl)), hP 3 (dec (!(x0 == 47)) false (by rw [h6]; rfl)), hP 2 (Qr i0 (by omega))] [] (by kernel_rfl) hr
def Ql6 (p0 : BA) (i0 : Nat) (x0 : Int) : List PV :=
  [.str p0, .un, .un, .int .i64 (i0 : Int), .int .u8 x0, .bool false, .int .i64 (i0 : Int), .str p0, .int .i64 (ByteArray.size p0 : Int), .bool true, .un, .un, .str p0, .int .i64 (i0 : Int), .int .u8 x0, .int .u8 x0, .bool true, .bool true, .int .u8 x0, .bool false, .bool false, .bool false, .int .u8 x0, .bool false, .bool false, .tup [], .tup [], .bool false, .bool false, .bool false, .bool true, .bool true, .int .u8 x0, .bool false, .bool false, .tup [], .tup [], .bool false, .bool true, .bool true, .bool true, .int .u8 x0, .bool true, .bool true, .bool true, .int .u8 x0, .bool true, .bool true, .bool true, .int .u8 x0, .bool true, .bool true]
def Qey (_p0 : BA) (_i0 : Nat) (_x0 : Int) : List (Nat × List PV) :=
  []
theorem Qxn (p0 : BA) (_H : Q15 p0) (x0 : Int) (i0 : Nat) (hx0 : (letters p0)[i0]? = some x0) (_hi0 : i0 < List.length (letters p0)) (hc0 : (decide ((i0 : Int) < (ByteArray.size p0 : Int))) = true) (h0 : (decide (97 ≤ x0)) = true) (h1 : (decide (x0 ≤ 122)) = false) (h2 : (decide (65 ≤ x0)) = false) (h3 : (decide (48 ≤ x0)) = false) (h4 : (x0 == 45) = false) (h5 : (x0 == 95) = false) (h6 : (x0 == 47) = false) : Q4b p0 (Qn p0 i0) (.k1) := by
 exact ⟨(envF (Ql6 p0 i0 x0)), (zoF (Qey p0 i0 x0)), Qf VOK.nil (x := (.ret, Q3k p0 (envF (Ql6 p0 i0 x0)) (zoF (Qey p0 i0 x0)))) [hB 3 hc0, hP 2 (Q1i p0 i0 x0 hx0), hB 2 h0, hB 2 h1, hB 3 h2, hB 10 h3, hP 8 (dec (!(x0 == 45)) true (by rw [h4]; rfl)), hP 3 (dec (!(x0 == 95)) true (by rw [h5]; rfl)), hP 3 (dec (!(x0 == 47)) true (by rw [h6]; rfl))] [] (by kernel_rfl)⟩
theorem Qye (p0 : BA) (H : Q15 p0) (x0 : Int) (i0 : Nat) (hx0 : (letters p0)[i0]? = some x0) (hi0 : i0 < List.length (letters p0)) (hc0 : (decide ((i0 : Int) < (ByteArray.size p0 : Int))) = true) (h0 : (decide (97 ≤ x0)) = false) (h1 : (decide (65 ≤ x0)) = true) (h2 : (decide (x0 ≤ 90)) = true) {r : Rs} (hr : Q7 G (Qn p0 (i0 + 1)) r) : Q7 G (Qn p0 i0) r := by
 have hB0 := H.1; have e0 := of_decide_eq_false h0; have e1 := of_decide_eq_true h1; have e2 := of_decide_eq_true h2
 exact Qa VOK.nil (y := (Q17 p0 (i0 + 1), Q18 p0 (i0 + 1))) [hB 3 hc0, hP 2 (Q1i p0 i0 x0 hx0), hB 2 h0, hB 6 h1, hB 2 h2, hP 27 (Qr i0 (by omega))] [] (by kernel_rfl) hr
theorem Qxj (p0 : BA) (H : Q15 p0) (x0 : Int) (i0 : Nat) (hx0 : (letters p0)[i0]? = some x0) (_hi0 : i0 < List.length (letters p0)) (hc0 : (decide ((i0 : Int) < (ByteArray.size p0 : Int))) = true) (h0 : (decide (97 ≤ x0)) = false) (h1 : (decide (65 ≤ x0)) = true) (h2 : (decide (x0 ≤ 90)) = false) (h3 : (decide (48 ≤ x0)) = true) (h4 : (decide (x0 ≤ 57)) = true) {r : Rs} (hr : Q7 G (Qn p0 (i0 + 1)) r) : Q7 G (Qn p0 i0) r := by
 have hB0 := H.1; have e0 := of_decide_eq_false h0; have e1 := of_decide_eq_true h1; have e2 := of_decide_eq_false h2; have e3 := of_decide_eq_true h3; have e4 := of_decide_eq_true h4
 exact Qa VOK.nil (y := (Q17 p0 (i0 + 1), Q18 p0 (i0 + 1))) [hB 3 hc0, hP 2 (Q1i p0 i0 x0 hx0), hB 2 h0, hB 6 h1, hB 2 h2, hB 7 h3, hB 2 h4, hP 16 (Qr i0 (by omega))] [] (by kernel_rfl) hr
theorem Qx9 (p0 : BA) (H : Q15 p0) (x0 : Int) (i0 : Nat) (hx0 : (letters p0)[i0]? = some x0) (_hi0 : i0 < List.length (letters p0)) (hc0 : (decide ((i0 : Int) < (ByteArray.size p0 : Int))) = true) (h0 : (decide (97 ≤ x0)) = false) (h1 : (decide (65 ≤ x0)) = true) (h2 : (decide (x0 ≤ 90)) = false) (h3 : (decide (48 ≤ x0)) = true) (h4 : (decide (x0 ≤ 57)) = false) (h5 : (x0 == 45) = true) {r : Rs} (hr : Q7 G (Qn p0 (i0 + 1)) r) : Q7 G (Qn p0 i0) r := by
 have hB0 := H.1; have e0 := of_decide_eq_false h0; have e1 := of_decide_eq_true h1; have e2 := of_decide_eq_false h2; have e3 := of_decide_eq_true h3; have e4 := of_decide_eq_false h4; have e5 := eq_of_beq h5
 exact Qa VOK.nil (y := (Q17 p0 (i0 + 1), Q18 p0 (i0 + 1))) [hB 3 hc0, hP 2 (Q1i p0 i0 x0 hx0), hB 2 h0, hB 6 h1, hB 2 h2, hB 7 h3, hB 2 h4, hP 5 (dec (!(x0 == 45)) false (by rw [h5]; rfl)), hP 10 (Qr i0 (by omega))] [] (by kernel_rfl) hr
theorem Qzn (p0 : BA) (H : Q15 p0) (x0 : Int) (i0 : Nat) (hx0 : (letters p0)[i0]? = some x0) (hi0 : i0 < List.length (letters p0)) (hc0 : (decide ((i0 : Int) < (ByteArray.size p0 : Int))) = true) (h0 : (decide (97 ≤ x0)) = false) (h1 : (decide (65 ≤ x0)) = true) (h2 : (decide (x0 ≤ 90)) = false) (h3 : (decide (48 ≤ x0)) = true) (h4 : (decide (x0 ≤ 57)) = false) (h5 : (x0 == 45) = false) (h6 : (x0 == 95) = true) {r : Rs} (hr : Q7 G (Qn p0 (i0 + 1)) r) : Q7 G (Qn p0 i0) r := by
 have hB0 := H.1; have e0 := of_decide_eq_false h0; have e1 := of_decide_eq_true h1; have e2 := of_decide_eq_false h2; have e3 := of_decide_eq_true h3; have e4 := of_decide_eq_false h4; have e5 := beq_eq_false_iff_ne.1 h5; have e6 := eq_of_beq h6
 exact Qa VOK.nil (y := (Q17 p0 (i0 + 1), Q18 p0 (i0 + 1))) [hB 3 hc0, hP 2 (Q1i p0 i0 x0 hx0), hB 2 h0, hB 6 h1, hB 2 h2, hB 7 h3, hB 2 h4, hP 5 (dec (!(x0 == 45)) true (by rw [h5]; rfl)), hP 3 (dec (!(x0 == 95)) false (by rw [h6]; rfl)), hP 6 (Qr i0 (by omega))] [] (by kernel_rfl) hr
theorem Qxh (p0 : BA) (H : Q15 p0) (x0 : Int) (i0 : Nat) (hx0 : (letters p0)[i0]? = some x0) (_hi0 : i0 < List.length (letters p0)) (hc0 : (decide ((i0 : Int) < (ByteArray.size p0 : Int))) = true) (h0 : (decide (97 ≤ x0)) = false) (h1 : (decide (65 ≤ x0)) = true) (h2 : (decide (x0 ≤ 90)) = false) (h3 : (decide (48 ≤ x0)) = true) (h4 : (decide (x0 ≤ 57)) = false) (h5 : (x0 == 45) = false) (h6 : (x0 == 95) = false) (h7 : (x0 == 47) = true) {r : Rs} (hr : Q7 G (Qn p0 (i0 + 1)) r) : Q7 G (Qn p0 i0) r := by
 have hB0 := H.1; have e0 := of_decide_eq_false h0; have e1 := of_decide_eq_true h1; have e2 := of_decide_eq_false h2; have e3 := of_decide_eq_true h3; have e4 := of_decide_eq_false h4; have e5 := beq_eq_false_iff_ne.1 h5; have e6 := beq_eq_false_iff_ne.1 h6; have e7 := eq_of_beq h7
 exact Qa VOK.nil (y := (Q17 p0 (i0 + 1), Q18 p0 (i0 + 1))) [hB 3 hc0, hP 2 (Q1i p0 i0 x0 hx0), hB 2 h0, hB 6 h1, hB 2 h2, hB 7 h3, hB 2 h4, hP 5 (dec (!(x0 == 45)) true (by rw [h5]; rfl)), hP 3 (dec (!(x0 == 95)) true (by rw [h6]; rfl)), hP 3 (dec (!(x0 == 47)) false (by rw [h7]; rfl)), hP 2 (Qr i0 (by omega))] [] (by kernel_rfl) hr
def Ql4 (p0 : BA) (i0 : Nat) (x0 : Int) : List PV :=
  [.str p0, .un, .un, .int .i64 (i0 : Int), .int .u8 x0, .bool false, .int .i64 (i0 : Int), .str p0, .int .i64 (ByteArray.size p0 : Int), .bool true, .un, .un, .str p0, .int .i64 (i0 : Int), .int .u8 x0, .int .u8 x0, .bool false, .bool false, .tup [], .tup [], .bool false, .bool false, .int .u8 x0, .bool true, .bool true, .int .u8 x0, .bool false, .bool false, .bool false, .bool false, .bool true, .bool true, .int .u8 x0, .bool true, .bool true, .int .u8 x0, .bool false, .bool false, .bool true, .bool true, .bool true, .int .u8 x0, .bool true, .bool true, .bool true, .int .u8 x0, .bool true, .bool true, .bool true, .int .u8 x0, .bool true, .bool true]
def Qg3 (_p0 : BA) (_i0 : Nat) (_x0 : Int) : List (Nat × List PV) :=
  []
theorem Qx4 (p0 : BA) (_H : Q15 p0) (x0 : Int) (i0 : Nat) (hx0 : (letters p0)[i0]? = some x0) (_hi0 : i0 < List.length (letters p0)) (hc0 : (decide ((i0 : Int) < (ByteArray.size p0 : Int))) = true) (h0 : (decide (97 ≤ x0)) = false) (h1 : (decide (65 ≤ x0)) = true) (h2 : (decide (x0 ≤ 90)) = false) (h3 : (decide (48 ≤ x0)) = true) (h4 : (decide (x0 ≤ 57)) = false) (h5 : (x0 == 45) = false) (h6 : (x0 == 95) = false) (h7 : (x0 == 47) = false) : Q4b p0 (Qn p0 i0) (.k1) := by
 exact ⟨(envF (Ql4 p0 i0 x0)), (zoF (Qg3 p0 i0 x0)), Qf VOK.nil (x := (.ret, Q3k p0 (envF (Ql4 p0 i0 x0)) (zoF (Qg3 p0 i0 x0)))) [hB 3 hc0, hP 2 (Q1i p0 i0 x0 hx0), hB 2 h0, hB 6 h1, hB 2 h2, hB 7 h3, hB 2 h4, hP 5 (dec (!(x0 == 45)) true (by rw [h5]; rfl)), hP 3 (dec (!(x0 == 95)) true (by rw [h6]; rfl)), hP 3 (dec (!(x0 == 47)) true (by rw [h7]; rfl))] [] (by kernel_rfl)⟩
theorem Qy1 (p0 : BA) (H : Q15 p0) (x0 : Int) (i0 : Nat) (hx0 : (letters p0)[i0]? = some x0) (_hi0 : i0 < List.length (letters p0)) (hc0 : (decide ((i0 : Int) < (ByteArray.size p0 : Int))) = true) (h0 : (decide (97 ≤ x0)) = false) (h1 : (decide (65 ≤ x0)) = true) (h2 : (decide (x0 ≤ 90)) = false) (h3 : (decide (48 ≤ x0)) = false) (h4 : (x0 == 45) = true) {r : Rs} (hr : Q7 G (Qn p0 (i0 + 1)) r) : Q7 G (Qn p0 i0) r := by
 have hB0 := H.1; have e0 := of_decide_eq_false h0; have e1 := of_decide_eq_true h1; have e2 := of_decide_eq_false h2; have e3 := of_decide_eq_false h3; have e4 := eq_of_beq h4
 exact Qa VOK.nil (y := (Q17 p0 (i0 + 1), Q18 p0 (i0 + 1))) [hB 3 hc0, hP 2 (Q1i p0 i0 x0 hx0), hB 2 h0, hB 6 h1, hB 2 h2, hB 7 h3, hP 8 (dec (!(x0 == 45)) false (by rw [h4]; rfl)), hP 10 (Qr i0 (by omega))] [] (by kernel_rfl) hr
theorem Qz0 (p0 : BA) (H : Q15 p0) (x0 : Int) (i0 : Nat) (hx0 : (letters p0)[i0]? = some x0) (_hi0 : i0 < List.length (letters p0)) (hc0 : (decide ((i0 : Int) < (ByteArray.size p0 : Int))) = true) (h0 : (decide (97 ≤ x0)) = false) (h1 : (decide (65 ≤ x0)) = true) (h2 : (decide (x0 ≤ 90)) = false) (h3 : (decide (48 ≤ x0)) = false) (h4 : (x0 == 45) = false) (h5 : (x0 == 95) = true) {r : Rs} (hr : Q7 G (Qn p0 (i0 + 1)) r) : Q7 G (Qn p0 i0) r := by
 have hB0 := H.1; have e0 := of_decide_eq_false h0; have e1 := of_decide_eq_true h1; have e2 := of_decide_eq_false h2; have e3 := of_decide_eq_false h3; have e4 := beq_eq_false_iff_ne.1 h4; have e5 := eq_of_beq h5
 exact Qa VOK.nil (y := (Q17 p0 (i0 + 1), Q18 p0 (i0 + 1))) [hB 3 hc0, hP 2 (Q1i p0 i0 x0 hx0), hB 2 h0, hB 6 h1, hB 2 h2, hB 7 h3, hP 8 (dec (!(x0 == 45)) true (by rw [h4]; rfl)), hP 3 (dec (!(x0 == 95)) false (by rw [h5]; rfl)), hP 6 (Qr i0 (by omega))] [] (by kernel_rfl) hr
theorem Qx6 (p0 : BA) (H : Q15 p0) (x0 : Int) (i0 : Nat) (hx0 : (letters p0)[i0]? = some x0) (_hi0 : i0 < List.length (letters p0)) (hc0 : (decide ((i0 : Int) < (ByteArray.size p0 : Int))) = true) (h0 : (decide (97 ≤ x0)) = false) (h1 : (decide (65 ≤ x0)) = true) (h2 : (decide (x0 ≤ 90)) = false) (h3 : (decide (48 ≤ x0)) = false) (h4 : (x0 == 45) = false) (h5 : (x0 == 95) = false) (h6 : (x0 == 47) = true) {r : Rs} (hr : Q7 G (Qn p0 (i0 + 1)) r) : Q7 G (Qn p0 i0) r := by
 have hB0 := H.1; have e0 := of_decide_eq_false h0; have e1 := of_decide_eq_true h1; have e2 := of_decide_eq_false h2; have e3 := of_decide_eq_false h3; have e4 := beq_eq_false_iff_ne.1 h4; have e5 := beq_eq_false_iff_ne.1 h5; have e6 := eq_of_beq h6
 exact Qa VOK.nil (y := (Q17 p0 (i0 + 1), Q18 p0 (i0 + 1))) [hB 3 hc0, hP 2 (Q1i p0 i0 x0 hx0), hB 2 h0, hB 6 h1, hB 2 h2, hB 7 h3, hP 8 (dec (!(x0 == 45)) true (by rw [h4]; rfl)), hP 3 (dec (!(x0 == 95)) true (by rw [h5]; rfl)), hP 3 (dec (!(x0 == 47)) false (by rw [h6]; rfl)), hP 2 (Qr i0 (by omega))] [] (by kernel_rfl) hr
def Qj7 (p0 : BA) (i0 : Nat) (x0 : Int) : List PV :=
  [.str p0, .un, .un, .int .i64 (i0 : Int), .int .u8 x0, .bool false, .int .i64 (i0 : Int), .str p0, .int .i64 (ByteArray.size p0 : Int), .bool true, .un, .un, .str p0, .int .i64 (i0 : Int), .int .u8 x0, .int .u8 x0, .bool false, .bool false, .tup [], .tup [], .bool false, .bool false, .int .u8 x0, .bool true, .bool true, .int .u8 x0, .bool false, .bool false, .bool false, .bool false, .bool true, .bool true, .int .u8 x0, .bool false, .bool false, .tup [], .tup [], .bool false, .bool true, .bool true, .bool true, .int .u8 x0, .bool true, .bool true, .bool true, .int .u8 x0, .bool true, .bool true, .bool true, .int .u8 x0, .bool true, .bool true]
def Qh0 (_p0 : BA) (_i0 : Nat) (_x0 : Int) : List (Nat × List PV) :=
  []
theorem Qyo (p0 : BA) (_H : Q15 p0) (x0 : Int) (i0 : Nat) (hx0 : (letters p0)[i0]? = some x0) (_hi0 : i0 < List.length (letters p0)) (hc0 : (decide ((i0 : Int) < (ByteArray.size p0 : Int))) = true) (h0 : (decide (97 ≤ x0)) = false) (h1 : (decide (65 ≤ x0)) = true) (h2 : (decide (x0 ≤ 90)) = false) (h3 : (decide (48 ≤ x0)) = false) (h4 : (x0 == 45) = false) (h5 : (x0 == 95) = false) (h6 : (x0 == 47) = false) : Q4b p0 (Qn p0 i0) (.k1) := by
 exact ⟨(envF (Qj7 p0 i0 x0)), (zoF (Qh0 p0 i0 x0)), Qf VOK.nil (x := (.ret, Q3k p0 (envF (Qj7 p0 i0 x0)) (zoF (Qh0 p0 i0 x0)))) [hB 3 hc0, hP 2 (Q1i p0 i0 x0 hx0), hB 2 h0, hB 6 h1, hB 2 h2, hB 7 h3, hP 8 (dec (!(x0 == 45)) true (by rw [h4]; rfl)), hP 3 (dec (!(x0 == 95)) true (by rw [h5]; rfl)), hP 3 (dec (!(x0 == 47)) true (by rw [h6]; rfl))] [] (by kernel_rfl)⟩
theorem Qzv (p0 : BA) (H : Q15 p0) (x0 : Int) (i0 : Nat) (hx0 : (letters p0)[i0]? = some x0) (hi0 : i0 < List.length (letters p0)) (hc0 : (decide ((i0 : Int) < (ByteArray.size p0 : Int))) = true) (h0 : (decide (97 ≤ x0)) = false) (h1 : (decide (65 ≤ x0)) = false) (h2 : (decide (48 ≤ x0)) = true) (h3 : (decide (x0 ≤ 57)) = true) {r : Rs} (hr : Q7 G (Qn p0 (i0 + 1)) r) : Q7 G (Qn p0 i0) r := by
 have hB0 := H.1; have e0 := of_decide_eq_false h0; have e1 := of_decide_eq_false h1; have e2 := of_decide_eq_true h2; have e3 := of_decide_eq_true h3
 exact Qa VOK.nil (y := (Q17 p0 (i0 + 1), Q18 p0 (i0 + 1))) [hB 3 hc0, hP 2 (Q1i p0 i0 x0 hx0), hB 2 h0, hB 6 h1, hB 10 h2, hB 2 h3, hP 16 (Qr i0 (by omega))] [] (by kernel_rfl) hr
theorem Qxy (p0 : BA) (H : Q15 p0) (x0 : Int) (i0 : Nat) (hx0 : (letters p0)[i0]? = some x0) (_hi0 : i0 < List.length (letters p0)) (hc0 : (decide ((i0 : Int) < (ByteArray.size p0 : Int))) = true) (h0 : (decide (97 ≤ x0)) = false) (h1 : (decide (65 ≤ x0)) = false) (h2 : (decide (48 ≤ x0)) = true) (h3 : (decide (x0 ≤ 57)) = false) (h4 : (x0 == 45) = true) {r : Rs} (hr : Q7 G (Qn p0 (i0 + 1)) r) : Q7 G (Qn p0 i0) r := by
 have hB0 := H.1; have e0 := of_decide_eq_false h0; have e1 := of_decide_eq_false h1; have e2 := of_decide_eq_true h2; have e3 := of_decide_eq_false h3; have e4 := eq_of_beq h4
 exact Qa VOK.nil (y := (Q17 p0 (i0 + 1), Q18 p0 (i0 + 1))) [hB 3 hc0, hP 2 (Q1i p0 i0 x0 hx0), hB 2 h0, hB 6 h1, hB 10 h2, hB 2 h3, hP 5 (dec (!(x0 == 45)) false (by rw [h4]; rfl)), hP 10 (Qr i0 (by omega))] [] (by kernel_rfl) hr
theorem Qxf (p0 : BA) (H : Q15 p0) (x0 : Int) (i0 : Nat) (hx0 : (letters p0)[i0]? = some x0) (_hi0 : i0 < List.length (letters p0)) (hc0 : (decide ((i0 : Int) < (ByteArray.size p0 : Int))) = true) (h0 : (decide (97 ≤ x0)) = false) (h1 : (decide (65 ≤ x0)) = false) (h2 : (decide (48 ≤ x0)) = true) (h3 : (decide (x0 ≤ 57)) = false) (h4 : (x0 == 45) = false) (h5 : (x0 == 95) = true) {r : Rs} (hr : Q7 G (Qn p0 (i0 + 1)) r) : Q7 G (Qn p0 i0) r := by
 have hB0 := H.1; have e0 := of_decide_eq_false h0; have e1 := of_decide_eq_false h1; have e2 := of_decide_eq_true h2; have e3 := of_decide_eq_false h3; have e4 := beq_eq_false_iff_ne.1 h4; have e5 := eq_of_beq h5
 exact Qa VOK.nil (y := (Q17 p0 (i0 + 1), Q18 p0 (i0 + 1))) [hB 3 hc0, hP 2 (Q1i p0 i0 x0 hx0), hB 2 h0, hB 6 h1, hB 10 h2, hB 2 h3, hP 5 (dec (!(x0 == 45)) true (by rw [h4]; rfl)), hP 3 (dec (!(x0 == 95)) false (by rw [h5]; rfl)), hP 6 (Qr i0 (by omega))] [] (by kernel_rfl) hr
theorem Qyw (p0 : BA) (H : Q15 p0) (x0 : Int) (i0 : Nat) (hx0 : (letters p0)[i0]? = some x0) (_hi0 : i0 < List.length (letters p0)) (hc0 : (decide ((i0 : Int) < (ByteArray.size p0 : Int))) = true) (h0 : (decide (97 ≤ x0)) = false) (h1 : (decide (65 ≤ x0)) = false) (h2 : (decide (48 ≤ x0)) = true) (h3 : (decide (x0 ≤ 57)) = false) (h4 : (x0 == 45) = false) (h5 : (x0 == 95) = false) (h6 : (x0 == 47) = true) {r : Rs} (hr : Q7 G (Qn p0 (i0 + 1)) r) : Q7 G (Qn p0 i0) r := by
 have hB0 := H.1; have e0 := of_decide_eq_false h0; have e1 := of_decide_eq_false h1; have e2 := of_decide_eq_true h2; have e3 := of_decide_eq_false h3; have e4 := beq_eq_false_iff_ne.1 h4; have e5 := beq_eq_false_iff_ne.1 h5; have e6 := eq_of_beq h6
 exact Qa VOK.nil (y := (Q17 p0 (i0 + 1), Q18 p0 (i0 + 1))) [hB 3 hc0, hP 2 (Q1i p0 i0 x0 hx0), hB 2 h0, hB 6 h1, hB 10 h2, hB 2 h3, hP 5 (dec (!(x0 == 45)) true (by rw [h4]; rfl)), hP 3 (dec (!(x0 == 95)) true (by rw [h5]; rfl)), hP 3 (dec (!(x0 == 47)) false (by rw [h6]; rfl)), hP 2 (Qr i0 (by omega))] [] (by kernel_rfl) hr
def Qij (p0 : BA) (i0 : Nat) (x0 : Int) : List PV :=
  [.str p0, .un, .un, .int .i64 (i0 : Int), .int .u8 x0, .bool false, .int .i64 (i0 : Int), .str p0, .int .i64 (ByteArray.size p0 : Int), .bool true, .un, .un, .str p0, .int .i64 (i0 : Int), .int .u8 x0, .int .u8 x0, .bool false, .bool false, .tup [], .tup [], .bool false, .bool false, .int .u8 x0, .bool false, .bool false, .tup [], .tup [], .bool false, .bool false, .bool false, .bool true, .bool true, .int .u8 x0, .bool true, .bool true, .int .u8 x0, .bool false, .bool false, .bool true, .bool true, .bool true, .int .u8 x0, .bool true, .bool true, .bool true, .int .u8 x0, .bool true, .bool true, .bool true, .int .u8 x0, .bool true, .bool true]
def Qdm (_p0 : BA) (_i0 : Nat) (_x0 : Int) : List (Nat × List PV) :=
  []
theorem Qxk (p0 : BA) (_H : Q15 p0) (x0 : Int) (i0 : Nat) (hx0 : (letters p0)[i0]? = some x0) (_hi0 : i0 < List.length (letters p0)) (hc0 : (decide ((i0 : Int) < (ByteArray.size p0 : Int))) = true) (h0 : (decide (97 ≤ x0)) = false) (h1 : (decide (65 ≤ x0)) = false) (h2 : (decide (48 ≤ x0)) = true) (h3 : (decide (x0 ≤ 57)) = false) (h4 : (x0 == 45) = false) (h5 : (x0 == 95) = false) (h6 : (x0 == 47) = false) : Q4b p0 (Qn p0 i0) (.k1) := by
 exact ⟨(envF (Qij p0 i0 x0)), (zoF (Qdm p0 i0 x0)), Qf VOK.nil (x := (.ret, Q3k p0 (envF (Qij p0 i0 x0)) (zoF (Qdm p0 i0 x0)))) [hB 3 hc0, hP 2 (Q1i p0 i0 x0 hx0), hB 2 h0, hB 6 h1, hB 10 h2, hB 2 h3, hP 5 (dec (!(x0 == 45)) true (by rw [h4]; rfl)), hP 3 (dec (!(x0 == 95)) true (by rw [h5]; rfl)), hP 3 (dec (!(x0 == 47)) true (by rw [h6]; rfl))] [] (by kernel_rfl)⟩
theorem Qyg (p0 : BA) (H : Q15 p0) (x0 : Int) (i0 : Nat) (hx0 : (letters p0)[i0]? = some x0) (hi0 : i0 < List.length (letters p0)) (hc0 : (decide ((i0 : Int) < (ByteArray.size p0 : Int))) = true) (h0 : (decide (97 ≤ x0)) = false) (h1 : (decide (65 ≤ x0)) = false) (h2 : (decide (48 ≤ x0)) = false) (h3 : (x0 == 45) = true) {r : Rs} (hr : Q7 G (Qn p0 (i0 + 1)) r) : Q7 G (Qn p0 i0) r := by
 have hB0 := H.1; have e0 := of_decide_eq_false h0; have e1 := of_decide_eq_false h1; have e2 := of_decide_eq_false h2; have e3 := eq_of_beq h3
 exact Qa VOK.nil (y := (Q17 p0 (i0 + 1), Q18 p0 (i0 + 1))) [hB 3 hc0, hP 2 (Q1i p0 i0 x0 hx0), hB 2 h0, hB 6 h1, hB 10 h2, hP 8 (dec (!(x0 == 45)) false (by rw [h3]; rfl)), hP 10 (Qr i0 (by omega))] [] (by kernel_rfl) hr
theorem Qxt (p0 : BA) (H : Q15 p0) (x0 : Int) (i0 : Nat) (hx0 : (letters p0)[i0]? = some x0) (_hi0 : i0 < List.length (letters p0)) (hc0 : (decide ((i0 : Int) < (ByteArray.size p0 : Int))) = true) (h0 : (decide (97 ≤ x0)) = false) (h1 : (decide (65 ≤ x0)) = false) (h2 : (decide (48 ≤ x0)) = false) (h3 : (x0 == 45) = false) (h4 : (x0 == 95) = true) {r : Rs} (hr : Q7 G (Qn p0 (i0 + 1)) r) : Q7 G (Qn p0 i0) r := by
 have hB0 := H.1; have e0 := of_decide_eq_false h0; have e1 := of_decide_eq_false h1; have e2 := of_decide_eq_false h2; have e3 := beq_eq_false_iff_ne.1 h3; have e4 := eq_of_beq h4
 exact Qa VOK.nil (y := (Q17 p0 (i0 + 1), Q18 p0 (i0 + 1))) [hB 3 hc0, hP 2 (Q1i p0 i0 x0 hx0), hB 2 h0, hB 6 h1, hB 10 h2, hP 8 (dec (!(x0 == 45)) true (by rw [h3]; rfl)), hP 3 (dec (!(x0 == 95)) false (by rw [h4]; rfl)), hP 6 (Qr i0 (by omega))] [] (by kernel_rfl) hr
theorem Qy9 (p0 : BA) (H : Q15 p0) (x0 : Int) (i0 : Nat) (hx0 : (letters p0)[i0]? = some x0) (hi0 : i0 < List.length (letters p0)) (hc0 : (decide ((i0 : Int) < (ByteArray.size p0 : Int))) = true) (h0 : (decide (97 ≤ x0)) = false) (h1 : (decide (65 ≤ x0)) = false) (h2 : (decide (48 ≤ x0)) = false) (h3 : (x0 == 45) = false) (h4 : (x0 == 95) = false) (h5 : (x0 == 47) = true) {r : Rs} (hr : Q7 G (Qn p0 (i0 + 1)) r) : Q7 G (Qn p0 i0) r := by
 have hB0 := H.1; have e0 := of_decide_eq_false h0; have e1 := of_decide_eq_false h1; have e2 := of_decide_eq_false h2; have e3 := beq_eq_false_iff_ne.1 h3; have e4 := beq_eq_false_iff_ne.1 h4; have e5 := eq_of_beq h5
 exact Qa VOK.nil (y := (Q17 p0 (i0 + 1), Q18 p0 (i0 + 1))) [hB 3 hc0, hP 2 (Q1i p0 i0 x0 hx0), hB 2 h0, hB 6 h1, hB 10 h2, hP 8 (dec (!(x0 == 45)) true (by rw [h3]; rfl)), hP 3 (dec (!(x0 == 95)) true (by rw [h4]; rfl)), hP 3 (dec (!(x0 == 47)) false (by rw [h5]; rfl)), hP 2 (Qr i0 (by omega))] [] (by kernel_rfl) hr
def Qk9 (p0 : BA) (i0 : Nat) (x0 : Int) : List PV :=
  [.str p0, .un, .un, .int .i64 (i0 : Int), .int .u8 x0, .bool false, .int .i64 (i0 : Int), .str p0, .int .i64 (ByteArray.size p0 : Int), .bool true, .un, .un, .str p0, .int .i64 (i0 : Int), .int .u8 x0, .int .u8 x0, .bool false, .bool false, .tup [], .tup [], .bool false, .bool false, .int .u8 x0, .bool false, .bool false, .tup [], .tup [], .bool false, .bool false, .bool false, .bool true, .bool true, .int .u8 x0, .bool false, .bool false, .tup [], .tup [], .bool false, .bool true, .bool true, .bool true, .int .u8 x0, .bool true, .bool true, .bool true, .int .u8 x0, .bool true, .bool true, .bool true, .int .u8 x0, .bool true, .bool true]
def Qeh (_p0 : BA) (_i0 : Nat) (_x0 : Int) : List (Nat × List PV) :=
  []
theorem Qzk (p0 : BA) (_H : Q15 p0) (x0 : Int) (i0 : Nat) (hx0 : (letters p0)[i0]? = some x0) (_hi0 : i0 < List.length (letters p0)) (hc0 : (decide ((i0 : Int) < (ByteArray.size p0 : Int))) = true) (h0 : (decide (97 ≤ x0)) = false) (h1 : (decide (65 ≤ x0)) = false) (h2 : (decide (48 ≤ x0)) = false) (h3 : (x0 == 45) = false) (h4 : (x0 == 95) = false) (h5 : (x0 == 47) = false) : Q4b p0 (Qn p0 i0) (.k1) := by
 exact ⟨(envF (Qk9 p0 i0 x0)), (zoF (Qeh p0 i0 x0)), Qf VOK.nil (x := (.ret, Q3k p0 (envF (Qk9 p0 i0 x0)) (zoF (Qeh p0 i0 x0)))) [hB 3 hc0, hP 2 (Q1i p0 i0 x0 hx0), hB 2 h0, hB 6 h1, hB 10 h2, hP 8 (dec (!(x0 == 45)) true (by rw [h3]; rfl)), hP 3 (dec (!(x0 == 95)) true (by rw [h4]; rfl)), hP 3 (dec (!(x0 == 47)) true (by rw [h5]; rfl))] [] (by kernel_rfl)⟩
theorem Q19 (p0 : BA) (H : Q15 p0) : ∀ (r0 : List Int) (i0 : Nat), List.drop i0 (letters p0) = r0 → Q4b p0 (Qn p0 i0) (Q1h p0 r0 i0)
 | [], i0, hd => by
  have hc0 : (decide ((i0 : Int) < (ByteArray.size p0 : Int))) = false := by have hL := Q4n p0; have := Q1d hd; simp; omega
  rw [Q1h]
  exact Q12o p0 H i0 hc0
 | x0 :: r0, i0, hd => by
  obtain ⟨hx0, hi0, hd'⟩ := Qz hd
  have hc0 : (decide ((i0 : Int) < (ByteArray.size p0 : Int))) = true := by have hL := Q4n p0; simp; omega
  rw [Q1h]
  cases h0 : (decide (97 ≤ x0)) with
  | true =>
   cases h1 : (decide (x0 ≤ 122)) with
   | true =>
    exact Qo p0 (fun r hr => Q13r p0 H x0 i0 hx0 hi0 hc0 h0 h1 hr) _ (Q19 p0 H r0 (i0 + 1) hd')
   | false =>
    cases h2 : (decide (65 ≤ x0)) with
    | true =>
     cases h3 : (decide (x0 ≤ 90)) with
     | true =>
      exact Qo p0 (fun r hr => Q13a p0 H x0 i0 hx0 hi0 hc0 h0 h1 h2 h3 hr) _ (Q19 p0 H r0 (i0 + 1) hd')
     | false =>
      cases h4 : (decide (48 ≤ x0)) with
      | true =>
       cases h5 : (decide (x0 ≤ 57)) with
       | true =>
        exact Qo p0 (fun r hr => Q15j p0 H x0 i0 hx0 hi0 hc0 h0 h1 h2 h3 h4 h5 hr) _ (Q19 p0 H r0 (i0 + 1) hd')
       | false =>
        cases h6 : (x0 == 45) with
        | true =>
         exact Qo p0 (fun r hr => Q10s p0 H x0 i0 hx0 hi0 hc0 h0 h1 h2 h3 h4 h5 h6 hr) _ (Q19 p0 H r0 (i0 + 1) hd')
        | false =>
         cases h7 : (x0 == 95) with
         | true =>
          exact Qo p0 (fun r hr => Q11h p0 H x0 i0 hx0 hi0 hc0 h0 h1 h2 h3 h4 h5 h6 h7 hr) _ (Q19 p0 H r0 (i0 + 1) hd')
         | false =>
          cases h8 : (x0 == 47) with
          | true =>
           exact Qo p0 (fun r hr => Q150 p0 H x0 i0 hx0 hi0 hc0 h0 h1 h2 h3 h4 h5 h6 h7 h8 hr) _ (Q19 p0 H r0 (i0 + 1) hd')
          | false =>
           exact Q14q p0 H x0 i0 hx0 hi0 hc0 h0 h1 h2 h3 h4 h5 h6 h7 h8
      | false =>
       cases h5 : (x0 == 45) with
       | true =>
        exact Qo p0 (fun r hr => Q13z p0 H x0 i0 hx0 hi0 hc0 h0 h1 h2 h3 h4 h5 hr) _ (Q19 p0 H r0 (i0 + 1) hd')
       | false =>
        cases h6 : (x0 == 95) with
        | true =>
         exact Qo p0 (fun r hr => Q114 p0 H x0 i0 hx0 hi0 hc0 h0 h1 h2 h3 h4 h5 h6 hr) _ (Q19 p0 H r0 (i0 + 1) hd')
        | false =>
         cases h7 : (x0 == 47) with
         | true =>
          exact Qo p0 (fun r hr => Qx0 p0 H x0 i0 hx0 hi0 hc0 h0 h1 h2 h3 h4 h5 h6 h7 hr) _ (Q19 p0 H r0 (i0 + 1) hd')
         | false =>
          exact Qxm p0 H x0 i0 hx0 hi0 hc0 h0 h1 h2 h3 h4 h5 h6 h7
    | false =>
     cases h3 : (decide (48 ≤ x0)) with
     | true =>
      cases h4 : (decide (x0 ≤ 57)) with
      | true =>
       exact Qo p0 (fun r hr => Qxw p0 H x0 i0 hx0 hi0 hc0 h0 h1 h2 h3 h4 hr) _ (Q19 p0 H r0 (i0 + 1) hd')
      | false =>
       cases h5 : (x0 == 45) with
       | true =>
        exact Qo p0 (fun r hr => Qyt p0 H x0 i0 hx0 hi0 hc0 h0 h1 h2 h3 h4 h5 hr) _ (Q19 p0 H r0 (i0 + 1) hd')
       | false =>
        cases h6 : (x0 == 95) with
        | true =>
         exact Qo p0 (fun r hr => Qx2 p0 H x0 i0 hx0 hi0 hc0 h0 h1 h2 h3 h4 h5 h6 hr) _ (Q19 p0 H r0 (i0 + 1) hd')
        | false =>
         cases h7 : (x0 == 47) with
         | true =>
          exact Qo p0 (fun r hr => Qyr p0 H x0 i0 hx0 hi0 hc0 h0 h1 h2 h3 h4 h5 h6 h7 hr) _ (Q19 p0 H r0 (i0 + 1) hd')
         | false =>
          exact Q101 p0 H x0 i0 hx0 hi0 hc0 h0 h1 h2 h3 h4 h5 h6 h7
     | false =>
      cases h4 : (x0 == 45) with
      | true =>
       exact Qo p0 (fun r hr => Qym p0 H x0 i0 hx0 hi0 hc0 h0 h1 h2 h3 h4 hr) _ (Q19 p0 H r0 (i0 + 1) hd')
      | false =>
       cases h5 : (x0 == 95) with
       | true =>
        exact Qo p0 (fun r hr => Qz6 p0 H x0 i0 hx0 hi0 hc0 h0 h1 h2 h3 h4 h5 hr) _ (Q19 p0 H r0 (i0 + 1) hd')
       | false =>
        cases h6 : (x0 == 47) with
        | true =>
         exact Qo p0 (fun r hr => Qy4 p0 H x0 i0 hx0 hi0 hc0 h0 h1 h2 h3 h4 h5 h6 hr) _ (Q19 p0 H r0 (i0 + 1) hd')
        | false =>
         exact Qxn p0 H x0 i0 hx0 hi0 hc0 h0 h1 h2 h3 h4 h5 h6
  | false =>
   cases h1 : (decide (65 ≤ x0)) with
   | true =>
    cases h2 : (decide (x0 ≤ 90)) with
    | true =>
     exact Qo p0 (fun r hr => Qye p0 H x0 i0 hx0 hi0 hc0 h0 h1 h2 hr) _ (Q19 p0 H r0 (i0 + 1) hd')
    | false =>
     cases h3 : (decide (48 ≤ x0)) with
     | true =>
      cases h4 : (decide (x0 ≤ 57)) with
      | true =>
       exact Qo p0 (fun r hr => Qxj p0 H x0 i0 hx0 hi0 hc0 h0 h1 h2 h3 h4 hr) _ (Q19 p0 H r0 (i0 + 1) hd')
      | false =>
       cases h5 : (x0 == 45) with
       | true =>
        exact Qo p0 (fun r hr => Qx9 p0 H x0 i0 hx0 hi0 hc0 h0 h1 h2 h3 h4 h5 hr) _ (Q19 p0 H r0 (i0 + 1) hd')
       | false =>
        cases h6 : (x0 == 95) with
        | true =>
         exact Qo p0 (fun r hr => Qzn p0 H x0 i0 hx0 hi0 hc0 h0 h1 h2 h3 h4 h5 h6 hr) _ (Q19 p0 H r0 (i0 + 1) hd')
        | false =>
         cases h7 : (x0 == 47) with
         | true =>
          exact Qo p0 (fun r hr => Qxh p0 H x0 i0 hx0 hi0 hc0 h0 h1 h2 h3 h4 h5 h6 h7 hr) _ (Q19 p0 H r0 (i0 + 1) hd')
         | false =>
          exact Qx4 p0 H x0 i0 hx0 hi0 hc0 h0 h1 h2 h3 h4 h5 h6 h7
     | false =>
      cases h4 : (x0 == 45) with
      | true =>
       exact Qo p0 (fun r hr => Qy1 p0 H x0 i0 hx0 hi0 hc0 h0 h1 h2 h3 h4 hr) _ (Q19 p0 H r0 (i0 + 1) hd')
      | false =>
       cases h5 : (x0 == 95) with
       | true =>
        exact Qo p0 (fun r hr => Qz0 p0 H x0 i0 hx0 hi0 hc0 h0 h1 h2 h3 h4 h5 hr) _ (Q19 p0 H r0 (i0 + 1) hd')
       | false =>
        cases h6 : (x0 == 47) with
        | true =>
         exact Qo p0 (fun r hr => Qx6 p0 H x0 i0 hx0 hi0 hc0 h0 h1 h2 h3 h4 h5 h6 hr) _ (Q19 p0 H r0 (i0 + 1) hd')
        | false =>
         exact Qyo p0 H x0 i0 hx0 hi0 hc0 h0 h1 h2 h3 h4 h5 h6
   | false =>
    cases h2 : (decide (48 ≤ x0)) with
    | true =>
     cases h3 : (decide (x0 ≤ 57)) with
     | true =>
      exact Qo p0 (fun r hr => Qzv p0 H x0 i0 hx0 hi0 hc0 h0 h1 h2 h3 hr) _ (Q19 p0 H r0 (i0 + 1) hd')
     | false =>
      cases h4 : (x0 == 45) with
      | true =>
       exact Qo p0 (fun r hr => Qxy p0 H x0 i0 hx0 hi0 hc0 h0 h1 h2 h3 h4 hr) _ (Q19 p0 H r0 (i0 + 1) hd')
      | false =>
       cases h5 : (x0 == 95) with
       | true =>
        exact Qo p0 (fun r hr => Qxf p0 H x0 i0 hx0 hi0 hc0 h0 h1 h2 h3 h4 h5 hr) _ (Q19 p0 H r0 (i0 + 1) hd')
       | false =>
        cases h6 : (x0 == 47) with
        | true =>
         exact Qo p0 (fun r hr => Qyw p0 H x0 i0 hx0 hi0 hc0 h0 h1 h2 h3 h4 h5 h6 hr) _ (Q19 p0 H r0 (i0 + 1) hd')
        | false =>
         exact Qxk p0 H x0 i0 hx0 hi0 hc0 h0 h1 h2 h3 h4 h5 h6
    | false =>
     cases h3 : (x0 == 45) with
     | true =>
      exact Qo p0 (fun r hr => Qyg p0 H x0 i0 hx0 hi0 hc0 h0 h1 h2 h3 hr) _ (Q19 p0 H r0 (i0 + 1) hd')
     | false =>
      cases h4 : (x0 == 95) with
      | true =>
       exact Qo p0 (fun r hr => Qxt p0 H x0 i0 hx0 hi0 hc0 h0 h1 h2 h3 h4 hr) _ (Q19 p0 H r0 (i0 + 1) hd')
      | false =>
       cases h5 : (x0 == 47) with
       | true =>
        exact Qo p0 (fun r hr => Qy9 p0 H x0 i0 hx0 hi0 hc0 h0 h1 h2 h3 h4 h5 hr) _ (Q19 p0 H r0 (i0 + 1) hd')
       | false =>
        exact Qzk p0 H x0 i0 hx0 hi0 hc0 h0 h1 h2 h3 h4 h5
def s_Kp (p0 : BA) : Bool :=
 (match (Q1h p0 (letters p0) 0) with
 | .k0 => bif (decide (1 ≤ (ByteArray.size p0 : Int))) then
   (decide ((ByteArray.size p0 : Int) ≤ 40))
  else
   false
 | .k1 => false)
def c_Kp (p0 : BA) : En := .call 52 [.str p0] []
def a_Kp (p0 : BA) : Rs := .ret (.bool (s_Kp p0)) []
def H_Kp (p0 : BA) : Prop := (Q15 p0) ∧ True
theorem t_Kp (p0 : BA) (H : H_Kp p0) : Q7 G (c_Kp p0) (a_Kp p0) := by
 unfold a_Kp s_Kp
 have hl0 := Q19 p0 (H.1) (letters p0) 0 (by simp)
 cases hr0 : (Q1h p0 (letters p0) 0) with
 | k0 =>
  rw [hr0] at hl0
  obtain ⟨z0, zo0, hl0⟩ := hl0
  try dsimp only
  cases h0 : (decide (1 ≤ (ByteArray.size p0 : Int))) with
  | true =>
   exact Q9 (fn := Ir.Kp) rfl VOK.nil [hB 4 h0] [aN hl0] (by kernel_rfl)
  | false =>
   exact Q9 (fn := Ir.Kp) rfl VOK.nil [hB 4 h0] [aN hl0] (by kernel_rfl)
 | k1 =>
  rw [hr0] at hl0
  obtain ⟨z0, zo0, hl0⟩ := hl0
  exact Q9 (fn := Ir.Kp) rfl VOK.nil [] [aN hl0] (by kernel_rfl)
def s_K2 (p0 : Int) : Bool :=
 (!(p0 == p0))
def c_K2 (p0 : Int) : En := .call 70 [.int .i64 p0] []
def a_K2 (p0 : Int) : Rs := .ret (.bool (s_K2 p0)) []
theorem t_K2 (p0 : Int) : Q7 G (c_K2 p0) (a_K2 p0) := by
 unfold a_K2 s_K2
 exact Q9 (fn := Ir.K2) rfl VOK.nil [] [] (by kernel_rfl)
def s_K0 (p0 : Int) (p1 : Int) : Int :=
 bif (s_K2 p0) then
  bif (s_K2 p1) then
   0
  else
   (-1)
 else
  bif (s_K2 p1) then
   1
  else
   bif (decide (p0 < p1)) then
    (-1)
   else
    bif (decide (p1 < p0)) then
     1
    else
     0
def c_K0 (p0 : Int) (p1 : Int) : En := .call 60 [.int .i64 p0, .int .i64 p1] []
def a_K0 (p0 : Int) (p1 : Int) : Rs := .ret (.int .i64 (s_K0 p0 p1)) []
theorem t_K0 (p0 : Int) (p1 : Int) : Q7 G (c_K0 p0 p1) (a_K0 p0 p1) := by
 unfold a_K0 s_K0
 cases h0 : (s_K2 p0) with
 | true =>
  cases h1 : (s_K2 p1) with
  | true =>
   exact Q9 (fn := Ir.K0) rfl VOK.nil [] [aB (t_K2 p0) h0, aB (t_K2 p1) h1] (by kernel_rfl)
  | false =>
   exact Q9 (fn := Ir.K0) rfl VOK.nil [] [aB (t_K2 p0) h0, aB (t_K2 p1) h1] (by kernel_rfl)
 | false =>
  cases h1 : (s_K2 p1) with
  | true =>
   exact Q9 (fn := Ir.K0) rfl VOK.nil [] [aB (t_K2 p0) h0, aB (t_K2 p1) h1] (by kernel_rfl)
  | false =>
   cases h2 : (decide (p0 < p1)) with
   | true =>
    exact Q9 (fn := Ir.K0) rfl VOK.nil [hB 11 h2] [aB (t_K2 p0) h0, aB (t_K2 p1) h1] (by kernel_rfl)
   | false =>
    cases h3 : (decide (p1 < p0)) with
    | true =>
     exact Q9 (fn := Ir.K0) rfl VOK.nil [hB 11 h2, hB 2 h3] [aB (t_K2 p0) h0, aB (t_K2 p1) h1] (by kernel_rfl)
    | false =>
     exact Q9 (fn := Ir.K0) rfl VOK.nil [hB 11 h2, hB 2 h3] [aB (t_K2 p0) h0, aB (t_K2 p1) h1] (by kernel_rfl)
def Qc1 (p0 : BA) (p1 : BA) : Int :=
 (sCmp p0 p1)
def Q1d3 (p0 : BA) (p1 : BA) : En := .call 44 [.str p0, .str p1] []
def Q193 (p0 : BA) (p1 : BA) : Rs := .ret (.int .i64 (Qc1 p0 p1)) []
theorem Q185 (p0 : BA) (p1 : BA) : Q7 G (Q1d3 p0 p1) (Q193 p0 p1) := by
 unfold Q193 Qc1
 exact Q9 (fn := Ir.K1g) rfl VOK.nil [] [aN (Q169 p0 p1)] (by kernel_rfl)
inductive Q11q where
  | k0 (q0 : Int)
  | k1 (q0 : Int)
def Q6x (p0 : List Int) : List Int → Nat → Int → Q11q
 | [], _i0, v0_1 =>
  (.k0 v0_1)
 | x0 :: r0, i0, v0_1 =>
  bif (x0 == v0_1) then
   Q6x p0 r0 (i0 + 1) v0_1
  else
   (.k1 x0)
def Qvp (p0 : List Int) (i0 : Nat) (v0_1 : Int) : List PV :=
  [.un, .un, .un, .int .i64 v0_1, .un, .un, .sl (Q4p p0), .int .i64 ((List.length p0) : Int), .int .i64 (i0 : Int), .un, .un, .un, .un, .un, .un, .un, .un, .un]
def Qvy (_p0 : List Int) (_i0 : Nat) (_v0_1 : Int) : List Ob :=
  []
def Qd8 (p0 : List Int) (i0 : Nat) (v0_1 : Int) : En := .loop 0 Ir.Qkn Ir.Q19o (Qvp p0 i0 v0_1) (Qvy p0 i0 v0_1)
def Qqy (_p0 : List Int) (q0 : Int) (z : Nat → PV) (_zo : Nat → List PV) : St :=
  ⟨[z 0, z 1, z 2, .int .i64 q0, z 4, z 5, z 6, z 7, z 8, z 9, z 10, z 11, z 12, z 13, z 14, z 15, z 16, z 17], [], 64⟩
def Qpl (_p0 : List Int) (q0 : Int) (z : Nat → PV) (_zo : Nat → List PV) : St :=
  ⟨[z 0, z 1, .int .i64 q0, z 3, z 4, z 5, z 6, z 7, z 8, z 9, z 10, z 11, z 12, z 13, z 14, z 15, z 16, z 17], [], 576⟩
def Qgr (p0 : List Int) (e : En) : Q11q → Prop
  | .k0 q0 => ∃ z zo, Q7 G e (.st (.exit 0) (Qqy p0 q0 z zo))
  | .k1 q0 => ∃ z zo, Q7 G e (.st .ret (Qpl p0 q0 z zo))
theorem Qp1 (p0 : List Int) {e e' : En} (h : ∀ r, Q7 G e r → Q7 G e' r) : ∀ q, Qgr p0 e q → Qgr p0 e' q
  | .k0 _, ⟨z, zo, hz⟩ => ⟨z, zo, h _ hz⟩
  | .k1 _, ⟨z, zo, hz⟩ => ⟨z, zo, h _ hz⟩
def Q91 (p0 : List Int) : Prop := (List.length p0 ≤ 4611686018427387904) ∧ True
def Qor (p0 : List Int) (i0 : Nat) (_v0_1 : Int) : List PV :=
  [.un, .un, .un, .un, .un, .un, .sl (Q4p p0), .int .i64 ((List.length p0) : Int), .int .i64 (i0 : Int), .bool false]
def Qik (_p0 : List Int) (_i0 : Nat) (_v0_1 : Int) : List (Nat × List PV) :=
  []
theorem Q11g (p0 : List Int) (_H : Q91 p0) (i0 : Nat) (v0_1 : Int) (hc0 : (decide ((i0 : Int) < ((List.length p0) : Int))) = false) : Qgr p0 (Qd8 p0 i0 v0_1) (.k0 v0_1) := by
 exact ⟨(envF (Qor p0 i0 v0_1)), (zoF (Qik p0 i0 v0_1)), Qf VOK.nil (x := ((.exit 0), Qqy p0 v0_1 (envF (Qor p0 i0 v0_1)) (zoF (Qik p0 i0 v0_1)))) [hB 0 hc0] [] (by kernel_rfl)⟩
theorem Q10p (p0 : List Int) (H : Q91 p0) (x0 : Int) (i0 : Nat) (v0_1 : Int) (hx0 : p0[i0]? = some x0) (hi0 : i0 < List.length p0) (hc0 : (decide ((i0 : Int) < ((List.length p0) : Int))) = true) (h0 : (x0 == v0_1) = true) {r : Rs} (hr : Q7 G (Qd8 p0 (i0 + 1) v0_1) r) : Q7 G (Qd8 p0 i0 v0_1) r := by
 have hB0 := H.1; have e0 := eq_of_beq h0
 exact Qa VOK.nil (y := (Qvp p0 (i0 + 1) v0_1, Qvy p0 (i0 + 1) v0_1)) [hB 0 hc0, hP 0 (Q10 1 (Q4p p0) i0 _ (Qji hx0) rfl), hP 4 (dec (!(x0 == v0_1)) false (by rw [h0]; rfl)), hP 0 (Qr i0 (by omega))] [] (by kernel_rfl) hr
def Qsn (p0 : List Int) (i0 : Nat) (v0_1 : Int) (x0 : Int) : List PV :=
  [.un, .un, .un, .int .i64 v0_1, .un, .int .i64 x0, .sl (Q4p p0), .int .i64 ((List.length p0) : Int), .int .i64 (i0 : Int), .bool true, .rf [.int .i64 x0], .int .i64 x0, .int .i64 x0, .int .i64 v0_1, .bool true, .int .i64 x0]
def Qlv (_p0 : List Int) (_i0 : Nat) (_v0_1 : Int) (_x0 : Int) : List (Nat × List PV) :=
  []
theorem Q11i (p0 : List Int) (_H : Q91 p0) (x0 : Int) (i0 : Nat) (v0_1 : Int) (hx0 : p0[i0]? = some x0) (_hi0 : i0 < List.length p0) (hc0 : (decide ((i0 : Int) < ((List.length p0) : Int))) = true) (h0 : (x0 == v0_1) = false) : Qgr p0 (Qd8 p0 i0 v0_1) (.k1 x0) := by
 exact ⟨(envF (Qsn p0 i0 v0_1 x0)), (zoF (Qlv p0 i0 v0_1 x0)), Qf VOK.nil (x := (.ret, Qpl p0 x0 (envF (Qsn p0 i0 v0_1 x0)) (zoF (Qlv p0 i0 v0_1 x0)))) [hB 0 hc0, hP 0 (Q10 1 (Q4p p0) i0 _ (Qji hx0) rfl), hP 4 (dec (!(x0 == v0_1)) true (by rw [h0]; rfl))] [] (by kernel_rfl)⟩
theorem Qw5 (p0 : List Int) (H : Q91 p0) : ∀ (r0 : List Int) (i0 : Nat) (v0_1 : Int), List.drop i0 p0 = r0 → Qgr p0 (Qd8 p0 i0 v0_1) (Q6x p0 r0 i0 v0_1)
 | [], i0, v0_1, hd => by
  have hc0 : (decide ((i0 : Int) < ((List.length p0) : Int))) = false := by have := Q1d hd; simp; omega
  rw [Q6x]
  exact Q11g p0 H i0 v0_1 hc0
 | x0 :: r0, i0, v0_1, hd => by
  obtain ⟨hx0, hi0, hd'⟩ := Qz hd
  have hc0 : (decide ((i0 : Int) < ((List.length p0) : Int))) = true := by simp; omega
  rw [Q6x]
  cases h0 : (x0 == v0_1) with
  | true =>
   exact Qp1 p0 (fun r hr => Q10p p0 H x0 i0 v0_1 hx0 hi0 hc0 h0 hr) _ (Qw5 p0 H r0 (i0 + 1) v0_1 hd')
  | false =>
   exact Q11i p0 H x0 i0 v0_1 hx0 hi0 hc0 h0
def s_K1 (p0 : List Int) : Int :=
 (match (Q6x p0 p0 0 0) with
 | .k0 y0_0 => y0_0
 | .k1 y0_0 => y0_0)
def c_K1 (p0 : List Int) : En := .call 59 [.sl (Q4p p0)] []
def a_K1 (p0 : List Int) : Rs := .ret (.int .i64 (s_K1 p0)) []
def H_K1 (p0 : List Int) : Prop := (Q91 p0) ∧ True
theorem t_K1 (p0 : List Int) (H : H_K1 p0) : Q7 G (c_K1 p0) (a_K1 p0) := by
 unfold a_K1 s_K1
 have hl0 := Qw5 p0 (H.1) p0 0 0 (by simp)
 cases hr0 : (Q6x p0 p0 0 0) with
 | k0 y0_0 =>
  rw [hr0] at hl0
  obtain ⟨z0, zo0, hl0⟩ := hl0
  exact Q9 (fn := Ir.K1) rfl VOK.nil [hP 3 (Qe (Q4p p0) (List.length p0) (Qle p0))] [aN hl0] (by kernel_rfl)
 | k1 y0_0 =>
  rw [hr0] at hl0
  obtain ⟨z0, zo0, hl0⟩ := hl0
  exact Q9 (fn := Ir.K1) rfl VOK.nil [hP 3 (Qe (Q4p p0) (List.length p0) (Qle p0))] [aN hl0] (by kernel_rfl)
inductive Q12l where
  | k0
  | k1
inductive Q15m where
  | k0
  | k1
abbrev zF : Fld := (Fld.mk eB (Val.mk 0 0 eB [] []))
mutual
def s_Kx (p0 : Val) (p1 : Int) : Bool :=
 bif (p1 == 0) then
  false
 else
  bif (s_Kw p0) then
   bif (decide (64 < ((List.length p0.list) : Int))) then
    false
   else
    bif (decide (64 < ((List.length p0.fields) : Int))) then
     false
    else
     bif (p0.kind == 4) then
      bif (p0.kind == 5) then
       (match (Q3w p0 p1 p0.list 0) with
       | .k0 => (match (Q2t p0 p1 p0.fields 0) with
        | .k0 => true
        | .k1 => false)
       | .k1 => false)
      else
       bif (decide (0 < ((List.length p0.fields) : Int))) then
        false
       else
        (match (Q3w p0 p1 p0.list 0) with
        | .k0 => (match (Q2t p0 p1 p0.fields 0) with
         | .k0 => true
         | .k1 => false)
        | .k1 => false)
     else
      bif (decide (0 < ((List.length p0.list) : Int))) then
       false
      else
       bif (p0.kind == 5) then
        (match (Q3w p0 p1 p0.list 0) with
        | .k0 => (match (Q2t p0 p1 p0.fields 0) with
         | .k0 => true
         | .k1 => false)
        | .k1 => false)
       else
        bif (decide (0 < ((List.length p0.fields) : Int))) then
         false
        else
         (match (Q3w p0 p1 p0.list 0) with
         | .k0 => (match (Q2t p0 p1 p0.fields 0) with
          | .k0 => true
          | .k1 => false)
         | .k1 => false)
  else
   false
termination_by SizeOf.sizeOf p0
decreasing_by all_goals first | exact Val.Q4f _ | exact Val.Q2e _
def Q3w (p0 : Val) (p1 : Int) : List Val → Nat → Q12l
 | [], _i0 =>
  (.k0)
 | x0 :: r0, i0 =>
  bif (s_Kx x0 (w64 (p1 - 1))) then
   Q3w p0 p1 r0 (i0 + 1)
  else
   (.k1)
termination_by l => SizeOf.sizeOf l
decreasing_by all_goals first | exact Q2j _ _ | exact Q2d _ _ | exact Q1z _ _
def Q2t (p0 : Val) (p1 : Int) : List Fld → Nat → Q15m
 | [], _i1 =>
  (.k0)
 | x1 :: r1, i1 =>
  bif (s_Kp x1.name) then
   bif (decide (0 < (i1 : Int))) then
    bif ((sLt x1.name (List.getD p0.fields (Int.toNat (w64 ((i1 : Int) - 1))) zF).name) || (sEq x1.name (List.getD p0.fields (Int.toNat (w64 ((i1 : Int) - 1))) zF).name)) then
     (.k1)
    else
     bif (s_Kx x1.v (w64 (p1 - 1))) then
      Q2t p0 p1 r1 (i1 + 1)
     else
      (.k1)
   else
    bif (s_Kx x1.v (w64 (p1 - 1))) then
     Q2t p0 p1 r1 (i1 + 1)
    else
     (.k1)
  else
   (.k1)
termination_by l => SizeOf.sizeOf l
decreasing_by all_goals first | exact Q2j _ _ | exact Q2d _ _ | exact Q1z _ _
end
def Qve (_p0 : Val) (p1 : Int) (i0 : Nat) : List PV :=
  [.un, .int .i64 p1, .bx 0 0, .un, .un, .int .i64 (i0 : Int), .un, .un, .un, .un, .un, .un, .un, .un, .un, .un, .un, .un, .un, .un, .un, .un, .un, .un, .un, .un, .un, .un, .un, .un, .un, .un, .un, .un, .un, .un, .un, .un, .un, .un, .un, .un, .un, .un, .un, .un, .un, .un, .un, .un, .un, .un, .un, .un, .un, .un, .un, .un, .un, .un, .un, .un, .un, .un, .un, .un, .un, .un, .un, .un, .un, .un, .un, .un, .un, .un, .un, .un, .un, .un, .un, .un, .un, .un, .un, .un, .un, .un, .un, .un, .un, .un, .un, .un, .un, .un, .un, .un, .un, .un, .un, .un, .un, .un, .un, .un, .un, .un, .un]
def Qv6 (p0 : Val) (_p1 : Int) (_i0 : Nat) : List Ob :=
  [⟨5, 0, true, [.int .i64 p0.kind, .int .i64 p0.n, .str p0.s, .sl (Val.rows p0.list), .sl (Fld.rows p0.fields)]⟩]
def Q2u (p0 : Val) (p1 : Int) (i0 : Nat) : En := .loop 0 Ir.Qi2 Ir.Q19w (Qve p0 p1 i0) (Qv6 p0 p1 i0)
def Q36 (p0 : Val) (p1 : Int) (z : Nat → PV) (_zo : Nat → List PV) : St :=
  ⟨[z 0, .int .i64 p1, .bx 0 0, z 3, z 4, z 5, z 6, z 7, z 8, z 9, z 10, z 11, z 12, z 13, z 14, z 15, z 16, z 17, z 18, z 19, z 20, z 21, z 22, z 23, z 24, z 25, z 26, z 27, z 28, z 29, z 30, z 31, z 32, z 33, z 34, z 35, z 36, z 37, z 38, z 39, z 40, z 41, z 42, z 43, z 44, z 45, z 46, z 47, z 48, z 49, z 50, z 51, z 52, z 53, z 54, z 55, z 56, z 57, z 58, z 59, z 60, z 61, z 62, z 63, z 64, z 65, z 66, z 67, z 68, z 69, z 70, z 71, z 72, z 73, z 74, z 75, z 76, z 77, z 78, z 79, z 80, z 81, z 82, z 83, z 84, z 85, z 86, z 87, z 88, z 89, z 90, z 91, z 92, z 93, z 94, z 95, z 96, z 97, z 98, z 99, z 100, z 101, z 102, z 103, z 104, z 105, z 106, z 107, z 108], [(0, ⟨5, 0, true, [.int .i64 p0.kind, .int .i64 p0.n, .str p0.s, .sl (Val.rows p0.list), .sl (Fld.rows p0.fields)]⟩)], 321⟩
def Q5s (_p0 : Val) (_p1 : Int) (z : Nat → PV) (zo : Nat → List PV) : St :=
  ⟨[z 0, z 1, z 2, z 3, .bool false, z 5, z 6, z 7, z 8, z 9, z 10, z 11, z 12, z 13, z 14, z 15, z 16, z 17, z 18, z 19, z 20, z 21, z 22, z 23, z 24, z 25, z 26, z 27, z 28, z 29, z 30, z 31, z 32, z 33, z 34, z 35, z 36, z 37, z 38, z 39, z 40, z 41, z 42, z 43, z 44, z 45, z 46, z 47, z 48, z 49, z 50, z 51, z 52, z 53, z 54, z 55, z 56, z 57, z 58, z 59, z 60, z 61, z 62, z 63, z 64, z 65, z 66, z 67, z 68, z 69, z 70, z 71, z 72, z 73, z 74, z 75, z 76, z 77, z 78, z 79, z 80, z 81, z 82, z 83, z 84, z 85, z 86, z 87, z 88, z 89, z 90, z 91, z 92, z 93, z 94, z 95, z 96, z 97, z 98, z 99, z 100, z 101, z 102, z 103, z 104, z 105, z 106, z 107, z 108], [(0, ⟨5, 0, true, zo 0⟩)], 961⟩
def Qde (p0 : Val) (p1 : Int) (e : En) : Q12l → Prop
  | .k0 => ∃ z zo, Q7 G e (.st (.exit 0) (Q36 p0 p1 z zo))
  | .k1 => ∃ z zo, Q7 G e (.st .ret (Q5s p0 p1 z zo))
theorem Qp6 (p0 : Val) (p1 : Int) {e e' : En} (h : ∀ r, Q7 G e r → Q7 G e' r) : ∀ q, Qde p0 p1 e q → Qde p0 p1 e' q
  | .k0, ⟨z, zo, hz⟩ => ⟨z, zo, h _ hz⟩
  | .k1, ⟨z, zo, hz⟩ => ⟨z, zo, h _ hz⟩
def Qns (_p0 : Val) (p1 : Int) (i1 : Nat) : List PV :=
  [.un, .int .i64 p1, .bx 0 0, .un, .un, .un, .int .i64 (i1 : Int), .un, .un, .un, .un, .un, .un, .un, .un, .un, .un, .un, .un, .un, .un, .un, .un, .un, .un, .un, .un, .un, .un, .un, .un, .un, .un, .un, .un, .un, .un, .un, .un, .un, .un, .un, .un, .un, .un, .un, .un, .un, .un, .un, .un, .un, .un, .un, .un, .un, .un, .un, .un, .un, .un, .un, .un, .un, .un, .un, .un, .un, .un, .un, .un, .un, .un, .un, .un, .un, .un, .un, .un, .un, .un, .un, .un, .un, .un, .un, .un, .un, .un, .un, .un, .un, .un, .un, .un, .un, .un, .un, .un, .un, .un, .un, .un, .un, .un, .un, .un, .un, .un]
def Qmx (p0 : Val) (_p1 : Int) (_i1 : Nat) : List Ob :=
  [⟨5, 0, true, [.int .i64 p0.kind, .int .i64 p0.n, .str p0.s, .sl (Val.rows p0.list), .sl (Fld.rows p0.fields)]⟩]
def Q2m (p0 : Val) (p1 : Int) (i1 : Nat) : En := .loop 0 Ir.Qki Ir.Q1a3 (Qns p0 p1 i1) (Qmx p0 p1 i1)
def Q5o (p0 : Val) (_p1 : Int) (z : Nat → PV) (_zo : Nat → List PV) : St :=
  ⟨[z 0, z 1, z 2, z 3, z 4, z 5, z 6, z 7, z 8, z 9, z 10, z 11, z 12, z 13, z 14, z 15, z 16, z 17, z 18, z 19, z 20, z 21, z 22, z 23, z 24, z 25, z 26, z 27, z 28, z 29, z 30, z 31, z 32, z 33, z 34, z 35, z 36, z 37, z 38, z 39, z 40, z 41, z 42, z 43, z 44, z 45, z 46, z 47, z 48, z 49, z 50, z 51, z 52, z 53, z 54, z 55, z 56, z 57, z 58, z 59, z 60, z 61, z 62, z 63, z 64, z 65, z 66, z 67, z 68, z 69, z 70, z 71, z 72, z 73, z 74, z 75, z 76, z 77, z 78, z 79, z 80, z 81, z 82, z 83, z 84, z 85, z 86, z 87, z 88, z 89, z 90, z 91, z 92, z 93, z 94, z 95, z 96, z 97, z 98, z 99, z 100, z 101, z 102, z 103, z 104, z 105, z 106, z 107, z 108], [(0, ⟨5, 0, true, [.int .i64 p0.kind, .int .i64 p0.n, .str p0.s, .sl (Val.rows p0.list), .sl (Fld.rows p0.fields)]⟩)], 321⟩
def Q3j (_p0 : Val) (_p1 : Int) (z : Nat → PV) (zo : Nat → List PV) : St :=
  ⟨[z 0, z 1, z 2, z 3, .bool false, z 5, z 6, z 7, z 8, z 9, z 10, z 11, z 12, z 13, z 14, z 15, z 16, z 17, z 18, z 19, z 20, z 21, z 22, z 23, z 24, z 25, z 26, z 27, z 28, z 29, z 30, z 31, z 32, z 33, z 34, z 35, z 36, z 37, z 38, z 39, z 40, z 41, z 42, z 43, z 44, z 45, z 46, z 47, z 48, z 49, z 50, z 51, z 52, z 53, z 54, z 55, z 56, z 57, z 58, z 59, z 60, z 61, z 62, z 63, z 64, z 65, z 66, z 67, z 68, z 69, z 70, z 71, z 72, z 73, z 74, z 75, z 76, z 77, z 78, z 79, z 80, z 81, z 82, z 83, z 84, z 85, z 86, z 87, z 88, z 89, z 90, z 91, z 92, z 93, z 94, z 95, z 96, z 97, z 98, z 99, z 100, z 101, z 102, z 103, z 104, z 105, z 106, z 107, z 108], [(0, ⟨5, 0, true, zo 0⟩)], 2945⟩
def Q71 (p0 : Val) (p1 : Int) (e : En) : Q15m → Prop
  | .k0 => ∃ z zo, Q7 G e (.st (.exit 2) (Q5o p0 p1 z zo))
  | .k1 => ∃ z zo, Q7 G e (.st .ret (Q3j p0 p1 z zo))
theorem Qbl (p0 : Val) (p1 : Int) {e e' : En} (h : ∀ r, Q7 G e r → Q7 G e' r) : ∀ q, Q71 p0 p1 e q → Q71 p0 p1 e' q
  | .k0, ⟨z, zo, hz⟩ => ⟨z, zo, h _ hz⟩
  | .k1, ⟨z, zo, hz⟩ => ⟨z, zo, h _ hz⟩
def c_Kx (p0 : Val) (p1 : Int) : En := .call 38 [.agg (Val.cells p0), .int .i64 p1] []
def a_Kx (p0 : Val) (p1 : Int) : Rs := .ret (.bool (s_Kx p0 p1)) []
abbrev H_Kx (p0 : Val) : Prop := Q30 p0
def Q21 (p0 : Val) : Prop := ∀ (q : Val), SizeOf.sizeOf q < SizeOf.sizeOf p0 → ∀ (p1 : Int), H_Kx q → Q7 G (c_Kx q p1) (a_Kx q p1)
def Qfx (p0 : Val) (_p1 : Int) : Prop := (List.length p0.list ≤ 4611686018427387904) ∧ (∀ x0 ∈ p0.list, H_Kx x0) ∧ True
def Q6c (p0 : Val) (_p1 : Int) : Prop := (List.length p0.fields ≤ 4611686018427387904) ∧ (∀ x1 ∈ p0.fields, H_Kp x1.name) ∧ (∀ (i1 : Nat) (x1 : Fld), p0.fields[i1]? = some x1 → (decide (0 < (i1 : Int))) = true → 0 ≤ (w64 ((i1 : Int) - 1))) ∧ (∀ (i1 : Nat) (x1 : Fld), p0.fields[i1]? = some x1 → (decide (0 < (i1 : Int))) = true → Int.toNat (w64 ((i1 : Int) - 1)) < List.length p0.fields) ∧ (∀ x1 ∈ p0.fields, H_Kx x1.v) ∧ True
theorem Q1v (p0 : Val) (p1 : Int) (H : H_Kx p0) : (H_Kw p0) ∧ (Qfx p0 p1) ∧ (Q6c p0 p1) ∧ True := by
  obtain ⟨_, _, h3, hl, hf, sl, sf⟩ := H.all
  unfold okS at h3
  have nm : ∀ x ∈ p0.fields, H_Kp x.name := fun x hx => by
    have := (sf x hx).1
    unfold okS at this
    exact ⟨⟨by rw [Q4n]; omega, trivial⟩, trivial⟩
  have ix : ∀ (i1 : Nat) (x1 : Fld), p0.fields[i1]? = some x1 → decide (0 < (i1 : Int)) = true → 0 ≤ w64 ((i1 : Int) - 1) ∧ Int.toNat (w64 ((i1 : Int) - 1)) < p0.fields.length := fun i x hx h => by
    have h0 := of_decide_eq_true h
    have h1 := (List.getElem?_eq_some_iff.1 hx).1
    rw [Qbx (by omega)]
    omega
  exact ⟨⟨⟨⟨by rw [Q4n]; omega, trivial⟩, trivial⟩, trivial⟩, ⟨by omega, sl, trivial⟩, ⟨by omega, nm, fun i x a b => (ix i x a b).1, fun i x a b => (ix i x a b).2, fun x hx => (sf x hx).2, trivial⟩, trivial⟩
def Qq1 (p0 : Val) (_p1 : Int) (i0 : Nat) : List PV :=
  [.un, .un, .un, .un, .un, .int .i64 (i0 : Int), .un, .un, .un, .un, .un, .un, .un, .un, .un, .un, .un, .un, .un, .un, .un, .un, .un, .un, .un, .un, .un, .un, .un, .un, .un, .un, .un, .un, .un, .un, .un, .un, .un, .un, .un, .un, .un, .un, .un, .un, .int .i64 (i0 : Int), .bx 0 3, .sl (Val.rows p0.list), .int .i64 ((List.length p0.list) : Int), .bool false]
def Qky (_p0 : Val) (_p1 : Int) (_i0 : Nat) : List (Nat × List PV) :=
  []
theorem Q12i (p0 : Val) (p1 : Int) (_H : Qfx p0 p1) (_rec : Q21 p0) (i0 : Nat) (hc0 : (decide ((i0 : Int) < ((List.length p0.list) : Int))) = false) : Qde p0 p1 (Q2u p0 p1 i0) (.k0) := by
 exact ⟨(envF (Qq1 p0 p1 i0)), (zoF (Qky p0 p1 i0)), Qf VOK.nil (x := ((.exit 0), Q36 p0 p1 (envF (Qq1 p0 p1 i0)) (zoF (Qky p0 p1 i0)))) [hP 3 (Qe (Val.rows p0.list) (List.length p0.list) (Val.Q8 p0.list)), hB 0 hc0] [] (by kernel_rfl)⟩
theorem Q14y (p0 : Val) (p1 : Int) (H : Qfx p0 p1) (rec : Q21 p0) (x0 : Val) (i0 : Nat) (hx0 : p0.list[i0]? = some x0) (hi0 : i0 < List.length p0.list) (hc0 : (decide ((i0 : Int) < ((List.length p0.list) : Int))) = true) (h0 : (s_Kx x0 (w64 (p1 - 1))) = true) {r : Rs} (hr : Q7 G (Q2u p0 p1 (i0 + 1)) r) : Q7 G (Q2u p0 p1 i0) r := by
 have hB0 := H.1
 exact Qa VOK.nil (y := (Qve p0 p1 (i0 + 1), Qv6 p0 p1 (i0 + 1))) [hP 3 (Qe (Val.rows p0.list) (List.length p0.list) (Val.Q8 p0.list)), hB 0 hc0, hP 3 (Q10 5 (Val.rows p0.list) i0 _ (Val.Qg hx0) rfl), hP 6 (Qr i0 (by omega))] [aB (rec x0 (szL hx0) (w64 (p1 - 1)) (H.2.1 x0 (Qt hx0))) h0] (by kernel_rfl) hr
def Qs1 (p0 : Val) (p1 : Int) (i0 : Nat) (x0 : Val) : List PV :=
  [.un, .int .i64 p1, .bx 0 0, .un, .un, .int .i64 (i0 : Int), .un, .un, .un, .un, .un, .un, .un, .un, .un, .un, .un, .un, .un, .un, .un, .un, .un, .un, .un, .un, .un, .un, .un, .un, .un, .un, .un, .un, .un, .un, .un, .un, .un, .un, .un, .un, .un, .un, .un, .un, .int .i64 (i0 : Int), .bx 0 3, .sl (Val.rows p0.list), .int .i64 ((List.length p0.list) : Int), .bool true, .un, .un, .bx 0 3, .sl (Val.rows p0.list), .int .i64 (i0 : Int), .rf [.int .i64 x0.kind, .int .i64 x0.n, .str x0.s, .sl (Val.rows x0.list), .sl (Fld.rows x0.fields)], .agg [.int .i64 x0.kind, .int .i64 x0.n, .str x0.s, .sl (Val.rows x0.list), .sl (Fld.rows x0.fields)], .int .i64 p1, .int .i64 (w64 (p1 - 1)), .bool false, .bool true]
def Qlg (p0 : Val) (_p1 : Int) (_i0 : Nat) (_x0 : Val) : List (Nat × List PV) :=
  [(0, [.int .i64 p0.kind, .int .i64 p0.n, .str p0.s, .sl (Val.rows p0.list), .sl (Fld.rows p0.fields)])]
theorem Q13u (p0 : Val) (p1 : Int) (H : Qfx p0 p1) (rec : Q21 p0) (x0 : Val) (i0 : Nat) (hx0 : p0.list[i0]? = some x0) (_hi0 : i0 < List.length p0.list) (hc0 : (decide ((i0 : Int) < ((List.length p0.list) : Int))) = true) (h0 : (s_Kx x0 (w64 (p1 - 1))) = false) : Qde p0 p1 (Q2u p0 p1 i0) (.k1) := by
 exact ⟨(envF (Qs1 p0 p1 i0 x0)), (zoF (Qlg p0 p1 i0 x0)), Qf VOK.nil (x := (.ret, Q5s p0 p1 (envF (Qs1 p0 p1 i0 x0)) (zoF (Qlg p0 p1 i0 x0)))) [hP 3 (Qe (Val.rows p0.list) (List.length p0.list) (Val.Q8 p0.list)), hB 0 hc0, hP 3 (Q10 5 (Val.rows p0.list) i0 _ (Val.Qg hx0) rfl)] [aB (rec x0 (szL hx0) (w64 (p1 - 1)) (H.2.1 x0 (Qt hx0))) h0] (by kernel_rfl)⟩
theorem Qaa (p0 : Val) (p1 : Int) (H : Qfx p0 p1) (rec : Q21 p0) : ∀ (r0 : List Val) (i0 : Nat), List.drop i0 p0.list = r0 → Qde p0 p1 (Q2u p0 p1 i0) (Q3w p0 p1 r0 i0)
 | [], i0, hd => by
  have hc0 : (decide ((i0 : Int) < ((List.length p0.list) : Int))) = false := by have := Q1d hd; simp; omega
  rw [Q3w]
  exact Q12i p0 p1 H rec i0 hc0
 | x0 :: r0, i0, hd => by
  obtain ⟨hx0, hi0, hd'⟩ := Qz hd
  have hc0 : (decide ((i0 : Int) < ((List.length p0.list) : Int))) = true := by simp; omega
  rw [Q3w]
  cases h0 : (s_Kx x0 (w64 (p1 - 1))) with
  | true =>
   exact Qp6 p0 p1 (fun r hr => Q14y p0 p1 H rec x0 i0 hx0 hi0 hc0 h0 hr) _ (Qaa p0 p1 H rec r0 (i0 + 1) hd')
  | false =>
   exact Q13u p0 p1 H rec x0 i0 hx0 hi0 hc0 h0
def Qt5 (p0 : Val) (p1 : Int) (i1 : Nat) : List PV :=
  [.un, .int .i64 p1, .bx 0 0, .un, .un, .un, .int .i64 (i1 : Int), .un, .un, .un, .un, .un, .un, .un, .un, .un, .un, .un, .un, .un, .un, .un, .un, .un, .un, .un, .un, .un, .un, .un, .un, .un, .un, .un, .un, .un, .un, .un, .un, .un, .un, .un, .un, .un, .un, .un, .un, .un, .un, .un, .un, .un, .un, .un, .un, .un, .un, .un, .un, .un, .un, .un, .int .i64 (i1 : Int), .bx 0 4, .sl (Fld.rows p0.fields), .int .i64 ((List.length p0.fields) : Int), .bool false]
def Qm0 (_p0 : Val) (_p1 : Int) (_i1 : Nat) : List (Nat × List PV) :=
  []
theorem Q11n (p0 : Val) (p1 : Int) (_H : Q6c p0 p1) (_rec : Q21 p0) (i1 : Nat) (hc1 : (decide ((i1 : Int) < ((List.length p0.fields) : Int))) = false) : Q71 p0 p1 (Q2m p0 p1 i1) (.k0) := by
 exact ⟨(envF (Qt5 p0 p1 i1)), (zoF (Qm0 p0 p1 i1)), Qf VOK.nil (x := ((.exit 2), Q5o p0 p1 (envF (Qt5 p0 p1 i1)) (zoF (Qm0 p0 p1 i1)))) [hP 3 (Qe (Fld.rows p0.fields) (List.length p0.fields) (Fld.Q8 p0.fields)), hB 0 hc1] [] (by kernel_rfl)⟩
def Qpb (p0 : Val) (p1 : Int) (i1 : Nat) (x1 : Fld) : List PV :=
  [.un, .int .i64 p1, .bx 0 0, .un, .un, .un, .int .i64 (i1 : Int), .un, .un, .un, .un, .un, .un, .un, .un, .un, .un, .un, .un, .un, .un, .un, .un, .un, .un, .un, .un, .un, .un, .un, .un, .un, .un, .un, .un, .un, .un, .un, .un, .un, .un, .un, .un, .un, .un, .un, .un, .un, .un, .un, .un, .un, .un, .un, .un, .un, .un, .un, .un, .un, .un, .un, .int .i64 (i1 : Int), .bx 0 4, .sl (Fld.rows p0.fields), .int .i64 ((List.length p0.fields) : Int), .bool true, .un, .un, .bx 0 4, .sl (Fld.rows p0.fields), .int .i64 (i1 : Int), .rf [.str x1.name, .int .i64 x1.v.kind, .int .i64 x1.v.n, .str x1.v.s, .sl (Val.rows x1.v.list), .sl (Fld.rows x1.v.fields)], .rf [.str x1.name, .int .i64 x1.v.kind, .int .i64 x1.v.n, .str x1.v.s, .sl (Val.rows x1.v.list), .sl (Fld.rows x1.v.fields)], .str x1.name, .bool true, .bool false, .bool false, .int .i64 (i1 : Int), .bool true, .bool true, .bx 0 4, .sl (Fld.rows p0.fields), .int .i64 (i1 : Int), .rf [.str x1.name, .int .i64 x1.v.kind, .int .i64 x1.v.n, .str x1.v.s, .sl (Val.rows x1.v.list), .sl (Fld.rows x1.v.fields)], .rf [.str x1.name, .int .i64 x1.v.kind, .int .i64 x1.v.n, .str x1.v.s, .sl (Val.rows x1.v.list), .sl (Fld.rows x1.v.fields)], .str x1.name, .bx 0 4, .sl (Fld.rows p0.fields), .int .i64 (i1 : Int), .int .i64 (w64 ((i1 : Int) - 1)), .rf [.str (List.getD p0.fields (Int.toNat (w64 ((i1 : Int) - 1))) zF).name, .int .i64 (List.getD p0.fields (Int.toNat (w64 ((i1 : Int) - 1))) zF).v.kind, .int .i64 (List.getD p0.fields (Int.toNat (w64 ((i1 : Int) - 1))) zF).v.n, .str (List.getD p0.fields (Int.toNat (w64 ((i1 : Int) - 1))) zF).v.s, .sl (Val.rows (List.getD p0.fields (Int.toNat (w64 ((i1 : Int) - 1))) zF).v.list), .sl (Fld.rows (List.getD p0.fields (Int.toNat (w64 ((i1 : Int) - 1))) zF).v.fields)], .rf [.str (List.getD p0.fields (Int.toNat (w64 ((i1 : Int) - 1))) zF).name, .int .i64 (List.getD p0.fields (Int.toNat (w64 ((i1 : Int) - 1))) zF).v.kind, .int .i64 (List.getD p0.fields (Int.toNat (w64 ((i1 : Int) - 1))) zF).v.n, .str (List.getD p0.fields (Int.toNat (w64 ((i1 : Int) - 1))) zF).v.s, .sl (Val.rows (List.getD p0.fields (Int.toNat (w64 ((i1 : Int) - 1))) zF).v.list), .sl (Fld.rows (List.getD p0.fields (Int.toNat (w64 ((i1 : Int) - 1))) zF).v.fields)], .str (List.getD p0.fields (Int.toNat (w64 ((i1 : Int) - 1))) zF).name, .bool true, .bool true, .bool true, .bool true, .tup [], .tup [], .tup [], .tup [], .tup [], .tup [], .tup [], .tup [], .tup [], .tup [], .bool true]
def Qi1 (p0 : Val) (_p1 : Int) (_i1 : Nat) (_x1 : Fld) : List (Nat × List PV) :=
  [(0, [.int .i64 p0.kind, .int .i64 p0.n, .str p0.s, .sl (Val.rows p0.list), .sl (Fld.rows p0.fields)])]
theorem Q110 (p0 : Val) (p1 : Int) (H : Q6c p0 p1) (_rec : Q21 p0) (x1 : Fld) (i1 : Nat) (hx1 : p0.fields[i1]? = some x1) (_hi1 : i1 < List.length p0.fields) (hc1 : (decide ((i1 : Int) < ((List.length p0.fields) : Int))) = true) (h0 : (s_Kp x1.name) = true) (h1 : (decide (0 < (i1 : Int))) = true) (h2 : ((sLt x1.name (List.getD p0.fields (Int.toNat (w64 ((i1 : Int) - 1))) zF).name) || (sEq x1.name (List.getD p0.fields (Int.toNat (w64 ((i1 : Int) - 1))) zF).name)) = true) : Q71 p0 p1 (Q2m p0 p1 i1) (.k1) := by
 exact ⟨(envF (Qpb p0 p1 i1 x1)), (zoF (Qi1 p0 p1 i1 x1)), Qf VOK.nil (x := (.ret, Q3j p0 p1 (envF (Qpb p0 p1 i1 x1)) (zoF (Qi1 p0 p1 i1 x1)))) [hP 3 (Qe (Fld.rows p0.fields) (List.length p0.fields) (Fld.Q8 p0.fields)), hB 0 hc1, hP 3 (Q10 6 (Fld.rows p0.fields) i1 _ (Fld.Qg hx1) rfl), hB 6 h1, hP 4 (Q10 6 (Fld.rows p0.fields) i1 _ (Fld.Qg hx1) rfl), hP 6 (Q55 6 (Fld.rows p0.fields) (w64 ((i1 : Int) - 1)) _ ((H.2.2.1 i1 x1 hx1) h1) (Fld.Qg (Qu p0.fields (Int.toNat (w64 ((i1 : Int) - 1))) zF ((H.2.2.2.1 i1 x1 hx1) h1))) rfl), hB 2 h2] [aB (t_Kp x1.name (H.2.1 x1 (Qt hx1))) h0] (by kernel_rfl)⟩
theorem Q14d (p0 : Val) (p1 : Int) (H : Q6c p0 p1) (rec : Q21 p0) (x1 : Fld) (i1 : Nat) (hx1 : p0.fields[i1]? = some x1) (hi1 : i1 < List.length p0.fields) (hc1 : (decide ((i1 : Int) < ((List.length p0.fields) : Int))) = true) (h0 : (s_Kp x1.name) = true) (h1 : (decide (0 < (i1 : Int))) = true) (h2 : ((sLt x1.name (List.getD p0.fields (Int.toNat (w64 ((i1 : Int) - 1))) zF).name) || (sEq x1.name (List.getD p0.fields (Int.toNat (w64 ((i1 : Int) - 1))) zF).name)) = false) (h3 : (s_Kx x1.v (w64 (p1 - 1))) = true) {r : Rs} (hr : Q7 G (Q2m p0 p1 (i1 + 1)) r) : Q7 G (Q2m p0 p1 i1) r := by
 have hB0 := H.1; have e1 := of_decide_eq_true h1
 exact Qa VOK.nil (y := (Qns p0 p1 (i1 + 1), Qmx p0 p1 (i1 + 1))) [hP 3 (Qe (Fld.rows p0.fields) (List.length p0.fields) (Fld.Q8 p0.fields)), hB 0 hc1, hP 3 (Q10 6 (Fld.rows p0.fields) i1 _ (Fld.Qg hx1) rfl), hB 6 h1, hP 4 (Q10 6 (Fld.rows p0.fields) i1 _ (Fld.Qg hx1) rfl), hP 6 (Q55 6 (Fld.rows p0.fields) (w64 ((i1 : Int) - 1)) _ ((H.2.2.1 i1 x1 hx1) h1) (Fld.Qg (Qu p0.fields (Int.toNat (w64 ((i1 : Int) - 1))) zF ((H.2.2.2.1 i1 x1 hx1) h1))) rfl), hB 2 h2, hP 6 (Q10 6 (Fld.rows p0.fields) i1 _ (Fld.Qg hx1) rfl), hP 8 (Qr i1 (by omega))] [aB (t_Kp x1.name (H.2.1 x1 (Qt hx1))) h0, aB (rec x1.v (szF hx1) (w64 (p1 - 1)) (H.2.2.2.2.1 x1 (Qt hx1))) h3] (by kernel_rfl) hr
def Qsl (p0 : Val) (p1 : Int) (i1 : Nat) (x1 : Fld) : List PV :=
  [.un, .int .i64 p1, .bx 0 0, .un, .un, .un, .int .i64 (i1 : Int), .un, .un, .un, .un, .un, .un, .un, .un, .un, .un, .un, .un, .un, .un, .un, .un, .un, .un, .un, .un, .un, .un, .un, .un, .un, .un, .un, .un, .un, .un, .un, .un, .un, .un, .un, .un, .un, .un, .un, .un, .un, .un, .un, .un, .un, .un, .un, .un, .un, .un, .un, .un, .un, .un, .un, .int .i64 (i1 : Int), .bx 0 4, .sl (Fld.rows p0.fields), .int .i64 ((List.length p0.fields) : Int), .bool true, .un, .un, .bx 0 4, .sl (Fld.rows p0.fields), .int .i64 (i1 : Int), .rf [.str x1.name, .int .i64 x1.v.kind, .int .i64 x1.v.n, .str x1.v.s, .sl (Val.rows x1.v.list), .sl (Fld.rows x1.v.fields)], .rf [.str x1.name, .int .i64 x1.v.kind, .int .i64 x1.v.n, .str x1.v.s, .sl (Val.rows x1.v.list), .sl (Fld.rows x1.v.fields)], .str x1.name, .bool true, .bool false, .bool false, .int .i64 (i1 : Int), .bool true, .bool true, .bx 0 4, .sl (Fld.rows p0.fields), .int .i64 (i1 : Int), .rf [.str x1.name, .int .i64 x1.v.kind, .int .i64 x1.v.n, .str x1.v.s, .sl (Val.rows x1.v.list), .sl (Fld.rows x1.v.fields)], .rf [.str x1.name, .int .i64 x1.v.kind, .int .i64 x1.v.n, .str x1.v.s, .sl (Val.rows x1.v.list), .sl (Fld.rows x1.v.fields)], .str x1.name, .bx 0 4, .sl (Fld.rows p0.fields), .int .i64 (i1 : Int), .int .i64 (w64 ((i1 : Int) - 1)), .rf [.str (List.getD p0.fields (Int.toNat (w64 ((i1 : Int) - 1))) zF).name, .int .i64 (List.getD p0.fields (Int.toNat (w64 ((i1 : Int) - 1))) zF).v.kind, .int .i64 (List.getD p0.fields (Int.toNat (w64 ((i1 : Int) - 1))) zF).v.n, .str (List.getD p0.fields (Int.toNat (w64 ((i1 : Int) - 1))) zF).v.s, .sl (Val.rows (List.getD p0.fields (Int.toNat (w64 ((i1 : Int) - 1))) zF).v.list), .sl (Fld.rows (List.getD p0.fields (Int.toNat (w64 ((i1 : Int) - 1))) zF).v.fields)], .rf [.str (List.getD p0.fields (Int.toNat (w64 ((i1 : Int) - 1))) zF).name, .int .i64 (List.getD p0.fields (Int.toNat (w64 ((i1 : Int) - 1))) zF).v.kind, .int .i64 (List.getD p0.fields (Int.toNat (w64 ((i1 : Int) - 1))) zF).v.n, .str (List.getD p0.fields (Int.toNat (w64 ((i1 : Int) - 1))) zF).v.s, .sl (Val.rows (List.getD p0.fields (Int.toNat (w64 ((i1 : Int) - 1))) zF).v.list), .sl (Fld.rows (List.getD p0.fields (Int.toNat (w64 ((i1 : Int) - 1))) zF).v.fields)], .str (List.getD p0.fields (Int.toNat (w64 ((i1 : Int) - 1))) zF).name, .bool false, .bool false, .bool false, .bool false, .bx 0 4, .sl (Fld.rows p0.fields), .int .i64 (i1 : Int), .rf [.str x1.name, .int .i64 x1.v.kind, .int .i64 x1.v.n, .str x1.v.s, .sl (Val.rows x1.v.list), .sl (Fld.rows x1.v.fields)], .rf [.int .i64 x1.v.kind, .int .i64 x1.v.n, .str x1.v.s, .sl (Val.rows x1.v.list), .sl (Fld.rows x1.v.fields)], .agg [.int .i64 x1.v.kind, .int .i64 x1.v.n, .str x1.v.s, .sl (Val.rows x1.v.list), .sl (Fld.rows x1.v.fields)], .int .i64 p1, .int .i64 (w64 (p1 - 1)), .bool false, .bool true, .bool true]
def Qll (p0 : Val) (_p1 : Int) (_i1 : Nat) (_x1 : Fld) : List (Nat × List PV) :=
  [(0, [.int .i64 p0.kind, .int .i64 p0.n, .str p0.s, .sl (Val.rows p0.list), .sl (Fld.rows p0.fields)])]
theorem Q12y (p0 : Val) (p1 : Int) (H : Q6c p0 p1) (rec : Q21 p0) (x1 : Fld) (i1 : Nat) (hx1 : p0.fields[i1]? = some x1) (_hi1 : i1 < List.length p0.fields) (hc1 : (decide ((i1 : Int) < ((List.length p0.fields) : Int))) = true) (h0 : (s_Kp x1.name) = true) (h1 : (decide (0 < (i1 : Int))) = true) (h2 : ((sLt x1.name (List.getD p0.fields (Int.toNat (w64 ((i1 : Int) - 1))) zF).name) || (sEq x1.name (List.getD p0.fields (Int.toNat (w64 ((i1 : Int) - 1))) zF).name)) = false) (h3 : (s_Kx x1.v (w64 (p1 - 1))) = false) : Q71 p0 p1 (Q2m p0 p1 i1) (.k1) := by
 exact ⟨(envF (Qsl p0 p1 i1 x1)), (zoF (Qll p0 p1 i1 x1)), Qf VOK.nil (x := (.ret, Q3j p0 p1 (envF (Qsl p0 p1 i1 x1)) (zoF (Qll p0 p1 i1 x1)))) [hP 3 (Qe (Fld.rows p0.fields) (List.length p0.fields) (Fld.Q8 p0.fields)), hB 0 hc1, hP 3 (Q10 6 (Fld.rows p0.fields) i1 _ (Fld.Qg hx1) rfl), hB 6 h1, hP 4 (Q10 6 (Fld.rows p0.fields) i1 _ (Fld.Qg hx1) rfl), hP 6 (Q55 6 (Fld.rows p0.fields) (w64 ((i1 : Int) - 1)) _ ((H.2.2.1 i1 x1 hx1) h1) (Fld.Qg (Qu p0.fields (Int.toNat (w64 ((i1 : Int) - 1))) zF ((H.2.2.2.1 i1 x1 hx1) h1))) rfl), hB 2 h2, hP 6 (Q10 6 (Fld.rows p0.fields) i1 _ (Fld.Qg hx1) rfl)] [aB (t_Kp x1.name (H.2.1 x1 (Qt hx1))) h0, aB (rec x1.v (szF hx1) (w64 (p1 - 1)) (H.2.2.2.2.1 x1 (Qt hx1))) h3] (by kernel_rfl)⟩
theorem Q12k (p0 : Val) (p1 : Int) (H : Q6c p0 p1) (rec : Q21 p0) (x1 : Fld) (i1 : Nat) (hx1 : p0.fields[i1]? = some x1) (_hi1 : i1 < List.length p0.fields) (hc1 : (decide ((i1 : Int) < ((List.length p0.fields) : Int))) = true) (h0 : (s_Kp x1.name) = true) (h1 : (decide (0 < (i1 : Int))) = false) (h2 : (s_Kx x1.v (w64 (p1 - 1))) = true) {r : Rs} (hr : Q7 G (Q2m p0 p1 (i1 + 1)) r) : Q7 G (Q2m p0 p1 i1) r := by
 have hB0 := H.1; have e1 := of_decide_eq_false h1
 exact Qa VOK.nil (y := (Qns p0 p1 (i1 + 1), Qmx p0 p1 (i1 + 1))) [hP 3 (Qe (Fld.rows p0.fields) (List.length p0.fields) (Fld.Q8 p0.fields)), hB 0 hc1, hP 3 (Q10 6 (Fld.rows p0.fields) i1 _ (Fld.Qg hx1) rfl), hB 6 h1, hP 21 (Q10 6 (Fld.rows p0.fields) i1 _ (Fld.Qg hx1) rfl), hP 8 (Qr i1 (by omega))] [aB (t_Kp x1.name (H.2.1 x1 (Qt hx1))) h0, aB (rec x1.v (szF hx1) (w64 (p1 - 1)) (H.2.2.2.2.1 x1 (Qt hx1))) h2] (by kernel_rfl) hr
def Qqf (p0 : Val) (p1 : Int) (i1 : Nat) (x1 : Fld) : List PV :=
  [.un, .int .i64 p1, .bx 0 0, .un, .un, .un, .int .i64 (i1 : Int), .un, .un, .un, .un, .un, .un, .un, .un, .un, .un, .un, .un, .un, .un, .un, .un, .un, .un, .un, .un, .un, .un, .un, .un, .un, .un, .un, .un, .un, .un, .un, .un, .un, .un, .un, .un, .un, .un, .un, .un, .un, .un, .un, .un, .un, .un, .un, .un, .un, .un, .un, .un, .un, .un, .un, .int .i64 (i1 : Int), .bx 0 4, .sl (Fld.rows p0.fields), .int .i64 ((List.length p0.fields) : Int), .bool true, .un, .un, .bx 0 4, .sl (Fld.rows p0.fields), .int .i64 (i1 : Int), .rf [.str x1.name, .int .i64 x1.v.kind, .int .i64 x1.v.n, .str x1.v.s, .sl (Val.rows x1.v.list), .sl (Fld.rows x1.v.fields)], .rf [.str x1.name, .int .i64 x1.v.kind, .int .i64 x1.v.n, .str x1.v.s, .sl (Val.rows x1.v.list), .sl (Fld.rows x1.v.fields)], .str x1.name, .bool true, .bool false, .bool false, .int .i64 (i1 : Int), .bool false, .bool false, .tup [], .tup [], .tup [], .tup [], .tup [], .tup [], .tup [], .tup [], .tup [], .tup [], .tup [], .tup [], .tup [], .tup [], .bool false, .bool false, .bool false, .bx 0 4, .sl (Fld.rows p0.fields), .int .i64 (i1 : Int), .rf [.str x1.name, .int .i64 x1.v.kind, .int .i64 x1.v.n, .str x1.v.s, .sl (Val.rows x1.v.list), .sl (Fld.rows x1.v.fields)], .rf [.int .i64 x1.v.kind, .int .i64 x1.v.n, .str x1.v.s, .sl (Val.rows x1.v.list), .sl (Fld.rows x1.v.fields)], .agg [.int .i64 x1.v.kind, .int .i64 x1.v.n, .str x1.v.s, .sl (Val.rows x1.v.list), .sl (Fld.rows x1.v.fields)], .int .i64 p1, .int .i64 (w64 (p1 - 1)), .bool false, .bool true, .bool true]
def Qkg (p0 : Val) (_p1 : Int) (_i1 : Nat) (_x1 : Fld) : List (Nat × List PV) :=
  [(0, [.int .i64 p0.kind, .int .i64 p0.n, .str p0.s, .sl (Val.rows p0.list), .sl (Fld.rows p0.fields)])]
theorem Q12j (p0 : Val) (p1 : Int) (H : Q6c p0 p1) (rec : Q21 p0) (x1 : Fld) (i1 : Nat) (hx1 : p0.fields[i1]? = some x1) (_hi1 : i1 < List.length p0.fields) (hc1 : (decide ((i1 : Int) < ((List.length p0.fields) : Int))) = true) (h0 : (s_Kp x1.name) = true) (h1 : (decide (0 < (i1 : Int))) = false) (h2 : (s_Kx x1.v (w64 (p1 - 1))) = false) : Q71 p0 p1 (Q2m p0 p1 i1) (.k1) := by
 exact ⟨(envF (Qqf p0 p1 i1 x1)), (zoF (Qkg p0 p1 i1 x1)), Qf VOK.nil (x := (.ret, Q3j p0 p1 (envF (Qqf p0 p1 i1 x1)) (zoF (Qkg p0 p1 i1 x1)))) [hP 3 (Qe (Fld.rows p0.fields) (List.length p0.fields) (Fld.Q8 p0.fields)), hB 0 hc1, hP 3 (Q10 6 (Fld.rows p0.fields) i1 _ (Fld.Qg hx1) rfl), hB 6 h1, hP 21 (Q10 6 (Fld.rows p0.fields) i1 _ (Fld.Qg hx1) rfl)] [aB (t_Kp x1.name (H.2.1 x1 (Qt hx1))) h0, aB (rec x1.v (szF hx1) (w64 (p1 - 1)) (H.2.2.2.2.1 x1 (Qt hx1))) h2] (by kernel_rfl)⟩
def Qoo (p0 : Val) (p1 : Int) (i1 : Nat) (x1 : Fld) : List PV :=
  [.un, .int .i64 p1, .bx 0 0, .un, .un, .un, .int .i64 (i1 : Int), .un, .un, .un, .un, .un, .un, .un, .un, .un, .un, .un, .un, .un, .un, .un, .un, .un, .un, .un, .un, .un, .un, .un, .un, .un, .un, .un, .un, .un, .un, .un, .un, .un, .un, .un, .un, .un, .un, .un, .un, .un, .un, .un, .un, .un, .un, .un, .un, .un, .un, .un, .un, .un, .un, .un, .int .i64 (i1 : Int), .bx 0 4, .sl (Fld.rows p0.fields), .int .i64 ((List.length p0.fields) : Int), .bool true, .un, .un, .bx 0 4, .sl (Fld.rows p0.fields), .int .i64 (i1 : Int), .rf [.str x1.name, .int .i64 x1.v.kind, .int .i64 x1.v.n, .str x1.v.s, .sl (Val.rows x1.v.list), .sl (Fld.rows x1.v.fields)], .rf [.str x1.name, .int .i64 x1.v.kind, .int .i64 x1.v.n, .str x1.v.s, .sl (Val.rows x1.v.list), .sl (Fld.rows x1.v.fields)], .str x1.name, .bool false, .bool true, .bool true, .tup [], .tup [], .tup [], .tup [], .tup [], .tup [], .tup [], .tup [], .tup [], .tup [], .tup [], .tup [], .tup [], .tup [], .tup [], .tup [], .tup [], .tup [], .bool true, .bool true, .tup [], .tup [], .tup [], .tup [], .tup [], .tup [], .tup [], .tup [], .tup [], .tup [], .bool true]
def Qif (p0 : Val) (_p1 : Int) (_i1 : Nat) (_x1 : Fld) : List (Nat × List PV) :=
  [(0, [.int .i64 p0.kind, .int .i64 p0.n, .str p0.s, .sl (Val.rows p0.list), .sl (Fld.rows p0.fields)])]
theorem Q12m (p0 : Val) (p1 : Int) (H : Q6c p0 p1) (_rec : Q21 p0) (x1 : Fld) (i1 : Nat) (hx1 : p0.fields[i1]? = some x1) (_hi1 : i1 < List.length p0.fields) (hc1 : (decide ((i1 : Int) < ((List.length p0.fields) : Int))) = true) (h0 : (s_Kp x1.name) = false) : Q71 p0 p1 (Q2m p0 p1 i1) (.k1) := by
 exact ⟨(envF (Qoo p0 p1 i1 x1)), (zoF (Qif p0 p1 i1 x1)), Qf VOK.nil (x := (.ret, Q3j p0 p1 (envF (Qoo p0 p1 i1 x1)) (zoF (Qif p0 p1 i1 x1)))) [hP 3 (Qe (Fld.rows p0.fields) (List.length p0.fields) (Fld.Q8 p0.fields)), hB 0 hc1, hP 3 (Q10 6 (Fld.rows p0.fields) i1 _ (Fld.Qg hx1) rfl)] [aB (t_Kp x1.name (H.2.1 x1 (Qt hx1))) h0] (by kernel_rfl)⟩
theorem Q7r (p0 : Val) (p1 : Int) (H : Q6c p0 p1) (rec : Q21 p0) : ∀ (r1 : List Fld) (i1 : Nat), List.drop i1 p0.fields = r1 → Q71 p0 p1 (Q2m p0 p1 i1) (Q2t p0 p1 r1 i1)
 | [], i1, hd => by
  have hc1 : (decide ((i1 : Int) < ((List.length p0.fields) : Int))) = false := by have := Q1d hd; simp; omega
  rw [Q2t]
  exact Q11n p0 p1 H rec i1 hc1
 | x1 :: r1, i1, hd => by
  obtain ⟨hx1, hi1, hd'⟩ := Qz hd
  have hc1 : (decide ((i1 : Int) < ((List.length p0.fields) : Int))) = true := by simp; omega
  rw [Q2t]
  cases h0 : (s_Kp x1.name) with
  | true =>
   cases h1 : (decide (0 < (i1 : Int))) with
   | true =>
    cases h2 : ((sLt x1.name (List.getD p0.fields (Int.toNat (w64 ((i1 : Int) - 1))) zF).name) || (sEq x1.name (List.getD p0.fields (Int.toNat (w64 ((i1 : Int) - 1))) zF).name)) with
    | true =>
     exact Q110 p0 p1 H rec x1 i1 hx1 hi1 hc1 h0 h1 h2
    | false =>
     cases h3 : (s_Kx x1.v (w64 (p1 - 1))) with
     | true =>
      exact Qbl p0 p1 (fun r hr => Q14d p0 p1 H rec x1 i1 hx1 hi1 hc1 h0 h1 h2 h3 hr) _ (Q7r p0 p1 H rec r1 (i1 + 1) hd')
     | false =>
      exact Q12y p0 p1 H rec x1 i1 hx1 hi1 hc1 h0 h1 h2 h3
   | false =>
    cases h2 : (s_Kx x1.v (w64 (p1 - 1))) with
    | true =>
     exact Qbl p0 p1 (fun r hr => Q12k p0 p1 H rec x1 i1 hx1 hi1 hc1 h0 h1 h2 hr) _ (Q7r p0 p1 H rec r1 (i1 + 1) hd')
    | false =>
     exact Q12j p0 p1 H rec x1 i1 hx1 hi1 hc1 h0 h1 h2
  | false =>
   exact Q12m p0 p1 H rec x1 i1 hx1 hi1 hc1 h0
theorem Q1bu (p0 : Val) (p1 : Int) (_H : H_Kx p0) (_rec : Q21 p0) (h0 : (p1 == 0) = true) : Q7 G (c_Kx p0 p1) (.ret (.bool (false)) []) := by
 exact Q9 (fn := Ir.Kx) rfl VOK.nil [hB 3 h0] [] (by kernel_rfl)
theorem Q1a1 (p0 : Val) (p1 : Int) (H : H_Kx p0) (_rec : Q21 p0) (h0 : (p1 == 0) = false) (h1 : (s_Kw p0) = true) (h2 : (decide (64 < ((List.length p0.list) : Int))) = true) : Q7 G (c_Kx p0 p1) (.ret (.bool (false)) []) := by
 exact Q9 (fn := Ir.Kx) rfl VOK.nil [hB 3 h0, hP 8 (Qe (Val.rows p0.list) (List.length p0.list) (Val.Q8 p0.list)), hB 0 h2] [aB (t_Kw p0 (Q1v p0 p1 H).1) h1] (by kernel_rfl)
theorem Q1a0 (p0 : Val) (p1 : Int) (H : H_Kx p0) (_rec : Q21 p0) (h0 : (p1 == 0) = false) (h1 : (s_Kw p0) = true) (h2 : (decide (64 < ((List.length p0.list) : Int))) = false) (h3 : (decide (64 < ((List.length p0.fields) : Int))) = true) : Q7 G (c_Kx p0 p1) (.ret (.bool (false)) []) := by
 exact Q9 (fn := Ir.Kx) rfl VOK.nil [hB 3 h0, hP 8 (Qe (Val.rows p0.list) (List.length p0.list) (Val.Q8 p0.list)), hB 0 h2, hP 4 (Qe (Fld.rows p0.fields) (List.length p0.fields) (Fld.Q8 p0.fields)), hB 0 h3] [aB (t_Kw p0 (Q1v p0 p1 H).1) h1] (by kernel_rfl)
theorem Q19a (p0 : Val) (p1 : Int) (H : H_Kx p0) (_rec : Q21 p0) (h0 : (p1 == 0) = false) (h1 : (s_Kw p0) = true) (h2 : (decide (64 < ((List.length p0.list) : Int))) = false) (h3 : (decide (64 < ((List.length p0.fields) : Int))) = false) (h4 : (p0.kind == 4) = true) (h5 : (p0.kind == 5) = true) (z6 : Nat → PV) (zo6 : Nat → List PV) (hl6 : Q7 G (Q2u p0 p1 0) (.st (.exit 0) (Q36 p0 p1 z6 zo6))) (z7 : Nat → PV) (zo7 : Nat → List PV) (hl7 : Q7 G (Q2m p0 p1 0) (.st (.exit 2) (Q5o p0 p1 z7 zo7))) : Q7 G (c_Kx p0 p1) (.ret (.bool (true)) []) := by
 exact Q9 (fn := Ir.Kx) rfl VOK.nil [hB 3 h0, hP 8 (Qe (Val.rows p0.list) (List.length p0.list) (Val.Q8 p0.list)), hB 0 h2, hP 4 (Qe (Fld.rows p0.fields) (List.length p0.fields) (Fld.Q8 p0.fields)), hB 0 h3, hP 3 (dec (!(p0.kind == 4)) false (by rw [h4]; rfl)), hP 9 (dec (!(p0.kind == 5)) false (by rw [h5]; rfl))] [aB (t_Kw p0 (Q1v p0 p1 H).1) h1, aN hl6, aN hl7] (by kernel_rfl)
theorem Q1bl (p0 : Val) (p1 : Int) (H : H_Kx p0) (_rec : Q21 p0) (h0 : (p1 == 0) = false) (h1 : (s_Kw p0) = true) (h2 : (decide (64 < ((List.length p0.list) : Int))) = false) (h3 : (decide (64 < ((List.length p0.fields) : Int))) = false) (h4 : (p0.kind == 4) = true) (h5 : (p0.kind == 5) = true) (z6 : Nat → PV) (zo6 : Nat → List PV) (hl6 : Q7 G (Q2u p0 p1 0) (.st (.exit 0) (Q36 p0 p1 z6 zo6))) (z7 : Nat → PV) (zo7 : Nat → List PV) (hl7 : Q7 G (Q2m p0 p1 0) (.st .ret (Q3j p0 p1 z7 zo7))) : Q7 G (c_Kx p0 p1) (.ret (.bool (false)) []) := by
 exact Q9 (fn := Ir.Kx) rfl VOK.nil [hB 3 h0, hP 8 (Qe (Val.rows p0.list) (List.length p0.list) (Val.Q8 p0.list)), hB 0 h2, hP 4 (Qe (Fld.rows p0.fields) (List.length p0.fields) (Fld.Q8 p0.fields)), hB 0 h3, hP 3 (dec (!(p0.kind == 4)) false (by rw [h4]; rfl)), hP 9 (dec (!(p0.kind == 5)) false (by rw [h5]; rfl))] [aB (t_Kw p0 (Q1v p0 p1 H).1) h1, aN hl6, aN hl7] (by kernel_rfl)
theorem Q1az (p0 : Val) (p1 : Int) (H : H_Kx p0) (_rec : Q21 p0) (h0 : (p1 == 0) = false) (h1 : (s_Kw p0) = true) (h2 : (decide (64 < ((List.length p0.list) : Int))) = false) (h3 : (decide (64 < ((List.length p0.fields) : Int))) = false) (h4 : (p0.kind == 4) = true) (h5 : (p0.kind == 5) = true) (z6 : Nat → PV) (zo6 : Nat → List PV) (hl6 : Q7 G (Q2u p0 p1 0) (.st .ret (Q5s p0 p1 z6 zo6))) : Q7 G (c_Kx p0 p1) (.ret (.bool (false)) []) := by
 exact Q9 (fn := Ir.Kx) rfl VOK.nil [hB 3 h0, hP 8 (Qe (Val.rows p0.list) (List.length p0.list) (Val.Q8 p0.list)), hB 0 h2, hP 4 (Qe (Fld.rows p0.fields) (List.length p0.fields) (Fld.Q8 p0.fields)), hB 0 h3, hP 3 (dec (!(p0.kind == 4)) false (by rw [h4]; rfl)), hP 9 (dec (!(p0.kind == 5)) false (by rw [h5]; rfl))] [aB (t_Kw p0 (Q1v p0 p1 H).1) h1, aN hl6] (by kernel_rfl)
theorem Q1b6 (p0 : Val) (p1 : Int) (H : H_Kx p0) (_rec : Q21 p0) (h0 : (p1 == 0) = false) (h1 : (s_Kw p0) = true) (h2 : (decide (64 < ((List.length p0.list) : Int))) = false) (h3 : (decide (64 < ((List.length p0.fields) : Int))) = false) (h4 : (p0.kind == 4) = true) (h5 : (p0.kind == 5) = false) (h6 : (decide (0 < ((List.length p0.fields) : Int))) = true) : Q7 G (c_Kx p0 p1) (.ret (.bool (false)) []) := by
 exact Q9 (fn := Ir.Kx) rfl VOK.nil [hB 3 h0, hP 8 (Qe (Val.rows p0.list) (List.length p0.list) (Val.Q8 p0.list)), hB 0 h2, hP 4 (Qe (Fld.rows p0.fields) (List.length p0.fields) (Fld.Q8 p0.fields)), hB 0 h3, hP 3 (dec (!(p0.kind == 4)) false (by rw [h4]; rfl)), hP 9 (dec (!(p0.kind == 5)) true (by rw [h5]; rfl)), hP 3 (Qe (Fld.rows p0.fields) (List.length p0.fields) (Fld.Q8 p0.fields)), hB 0 h6] [aB (t_Kw p0 (Q1v p0 p1 H).1) h1] (by kernel_rfl)
theorem Q1au (p0 : Val) (p1 : Int) (H : H_Kx p0) (_rec : Q21 p0) (h0 : (p1 == 0) = false) (h1 : (s_Kw p0) = true) (h2 : (decide (64 < ((List.length p0.list) : Int))) = false) (h3 : (decide (64 < ((List.length p0.fields) : Int))) = false) (h4 : (p0.kind == 4) = true) (h5 : (p0.kind == 5) = false) (h6 : (decide (0 < ((List.length p0.fields) : Int))) = false) (z7 : Nat → PV) (zo7 : Nat → List PV) (hl7 : Q7 G (Q2u p0 p1 0) (.st (.exit 0) (Q36 p0 p1 z7 zo7))) (z8 : Nat → PV) (zo8 : Nat → List PV) (hl8 : Q7 G (Q2m p0 p1 0) (.st (.exit 2) (Q5o p0 p1 z8 zo8))) : Q7 G (c_Kx p0 p1) (.ret (.bool (true)) []) := by
 exact Q9 (fn := Ir.Kx) rfl VOK.nil [hB 3 h0, hP 8 (Qe (Val.rows p0.list) (List.length p0.list) (Val.Q8 p0.list)), hB 0 h2, hP 4 (Qe (Fld.rows p0.fields) (List.length p0.fields) (Fld.Q8 p0.fields)), hB 0 h3, hP 3 (dec (!(p0.kind == 4)) false (by rw [h4]; rfl)), hP 9 (dec (!(p0.kind == 5)) true (by rw [h5]; rfl)), hP 3 (Qe (Fld.rows p0.fields) (List.length p0.fields) (Fld.Q8 p0.fields)), hB 0 h6] [aB (t_Kw p0 (Q1v p0 p1 H).1) h1, aN hl7, aN hl8] (by kernel_rfl)
theorem Q1bb (p0 : Val) (p1 : Int) (H : H_Kx p0) (_rec : Q21 p0) (h0 : (p1 == 0) = false) (h1 : (s_Kw p0) = true) (h2 : (decide (64 < ((List.length p0.list) : Int))) = false) (h3 : (decide (64 < ((List.length p0.fields) : Int))) = false) (h4 : (p0.kind == 4) = true) (h5 : (p0.kind == 5) = false) (h6 : (decide (0 < ((List.length p0.fields) : Int))) = false) (z7 : Nat → PV) (zo7 : Nat → List PV) (hl7 : Q7 G (Q2u p0 p1 0) (.st (.exit 0) (Q36 p0 p1 z7 zo7))) (z8 : Nat → PV) (zo8 : Nat → List PV) (hl8 : Q7 G (Q2m p0 p1 0) (.st .ret (Q3j p0 p1 z8 zo8))) : Q7 G (c_Kx p0 p1) (.ret (.bool (false)) []) := by
 exact Q9 (fn := Ir.Kx) rfl VOK.nil [hB 3 h0, hP 8 (Qe (Val.rows p0.list) (List.length p0.list) (Val.Q8 p0.list)), hB 0 h2, hP 4 (Qe (Fld.rows p0.fields) (List.length p0.fields) (Fld.Q8 p0.fields)), hB 0 h3, hP 3 (dec (!(p0.kind == 4)) false (by rw [h4]; rfl)), hP 9 (dec (!(p0.kind == 5)) true (by rw [h5]; rfl)), hP 3 (Qe (Fld.rows p0.fields) (List.length p0.fields) (Fld.Q8 p0.fields)), hB 0 h6] [aB (t_Kw p0 (Q1v p0 p1 H).1) h1, aN hl7, aN hl8] (by kernel_rfl)
theorem Q1bq (p0 : Val) (p1 : Int) (H : H_Kx p0) (_rec : Q21 p0) (h0 : (p1 == 0) = false) (h1 : (s_Kw p0) = true) (h2 : (decide (64 < ((List.length p0.list) : Int))) = false) (h3 : (decide (64 < ((List.length p0.fields) : Int))) = false) (h4 : (p0.kind == 4) = true) (h5 : (p0.kind == 5) = false) (h6 : (decide (0 < ((List.length p0.fields) : Int))) = false) (z7 : Nat → PV) (zo7 : Nat → List PV) (hl7 : Q7 G (Q2u p0 p1 0) (.st .ret (Q5s p0 p1 z7 zo7))) : Q7 G (c_Kx p0 p1) (.ret (.bool (false)) []) := by
 exact Q9 (fn := Ir.Kx) rfl VOK.nil [hB 3 h0, hP 8 (Qe (Val.rows p0.list) (List.length p0.list) (Val.Q8 p0.list)), hB 0 h2, hP 4 (Qe (Fld.rows p0.fields) (List.length p0.fields) (Fld.Q8 p0.fields)), hB 0 h3, hP 3 (dec (!(p0.kind == 4)) false (by rw [h4]; rfl)), hP 9 (dec (!(p0.kind == 5)) true (by rw [h5]; rfl)), hP 3 (Qe (Fld.rows p0.fields) (List.length p0.fields) (Fld.Q8 p0.fields)), hB 0 h6] [aB (t_Kw p0 (Q1v p0 p1 H).1) h1, aN hl7] (by kernel_rfl)
theorem Q18v (p0 : Val) (p1 : Int) (H : H_Kx p0) (_rec : Q21 p0) (h0 : (p1 == 0) = false) (h1 : (s_Kw p0) = true) (h2 : (decide (64 < ((List.length p0.list) : Int))) = false) (h3 : (decide (64 < ((List.length p0.fields) : Int))) = false) (h4 : (p0.kind == 4) = false) (h5 : (decide (0 < ((List.length p0.list) : Int))) = true) : Q7 G (c_Kx p0 p1) (.ret (.bool (false)) []) := by
 exact Q9 (fn := Ir.Kx) rfl VOK.nil [hB 3 h0, hP 8 (Qe (Val.rows p0.list) (List.length p0.list) (Val.Q8 p0.list)), hB 0 h2, hP 4 (Qe (Fld.rows p0.fields) (List.length p0.fields) (Fld.Q8 p0.fields)), hB 0 h3, hP 3 (dec (!(p0.kind == 4)) true (by rw [h4]; rfl)), hP 3 (Qe (Val.rows p0.list) (List.length p0.list) (Val.Q8 p0.list)), hB 0 h5] [aB (t_Kw p0 (Q1v p0 p1 H).1) h1] (by kernel_rfl)
theorem Q18d (p0 : Val) (p1 : Int) (H : H_Kx p0) (_rec : Q21 p0) (h0 : (p1 == 0) = false) (h1 : (s_Kw p0) = true) (h2 : (decide (64 < ((List.length p0.list) : Int))) = false) (h3 : (decide (64 < ((List.length p0.fields) : Int))) = false) (h4 : (p0.kind == 4) = false) (h5 : (decide (0 < ((List.length p0.list) : Int))) = false) (h6 : (p0.kind == 5) = true) (z7 : Nat → PV) (zo7 : Nat → List PV) (hl7 : Q7 G (Q2u p0 p1 0) (.st (.exit 0) (Q36 p0 p1 z7 zo7))) (z8 : Nat → PV) (zo8 : Nat → List PV) (hl8 : Q7 G (Q2m p0 p1 0) (.st (.exit 2) (Q5o p0 p1 z8 zo8))) : Q7 G (c_Kx p0 p1) (.ret (.bool (true)) []) := by
 exact Q9 (fn := Ir.Kx) rfl VOK.nil [hB 3 h0, hP 8 (Qe (Val.rows p0.list) (List.length p0.list) (Val.Q8 p0.list)), hB 0 h2, hP 4 (Qe (Fld.rows p0.fields) (List.length p0.fields) (Fld.Q8 p0.fields)), hB 0 h3, hP 3 (dec (!(p0.kind == 4)) true (by rw [h4]; rfl)), hP 3 (Qe (Val.rows p0.list) (List.length p0.list) (Val.Q8 p0.list)), hB 0 h5, hP 4 (dec (!(p0.kind == 5)) false (by rw [h6]; rfl))] [aB (t_Kw p0 (Q1v p0 p1 H).1) h1, aN hl7, aN hl8] (by kernel_rfl)
theorem Q18n (p0 : Val) (p1 : Int) (H : H_Kx p0) (_rec : Q21 p0) (h0 : (p1 == 0) = false) (h1 : (s_Kw p0) = true) (h2 : (decide (64 < ((List.length p0.list) : Int))) = false) (h3 : (decide (64 < ((List.length p0.fields) : Int))) = false) (h4 : (p0.kind == 4) = false) (h5 : (decide (0 < ((List.length p0.list) : Int))) = false) (h6 : (p0.kind == 5) = true) (z7 : Nat → PV) (zo7 : Nat → List PV) (hl7 : Q7 G (Q2u p0 p1 0) (.st (.exit 0) (Q36 p0 p1 z7 zo7))) (z8 : Nat → PV) (zo8 : Nat → List PV) (hl8 : Q7 G (Q2m p0 p1 0) (.st .ret (Q3j p0 p1 z8 zo8))) : Q7 G (c_Kx p0 p1) (.ret (.bool (false)) []) := by
 exact Q9 (fn := Ir.Kx) rfl VOK.nil [hB 3 h0, hP 8 (Qe (Val.rows p0.list) (List.length p0.list) (Val.Q8 p0.list)), hB 0 h2, hP 4 (Qe (Fld.rows p0.fields) (List.length p0.fields) (Fld.Q8 p0.fields)), hB 0 h3, hP 3 (dec (!(p0.kind == 4)) true (by rw [h4]; rfl)), hP 3 (Qe (Val.rows p0.list) (List.length p0.list) (Val.Q8 p0.list)), hB 0 h5, hP 4 (dec (!(p0.kind == 5)) false (by rw [h6]; rfl))] [aB (t_Kw p0 (Q1v p0 p1 H).1) h1, aN hl7, aN hl8] (by kernel_rfl)
theorem Q18l (p0 : Val) (p1 : Int) (H : H_Kx p0) (_rec : Q21 p0) (h0 : (p1 == 0) = false) (h1 : (s_Kw p0) = true) (h2 : (decide (64 < ((List.length p0.list) : Int))) = false) (h3 : (decide (64 < ((List.length p0.fields) : Int))) = false) (h4 : (p0.kind == 4) = false) (h5 : (decide (0 < ((List.length p0.list) : Int))) = false) (h6 : (p0.kind == 5) = true) (z7 : Nat → PV) (zo7 : Nat → List PV) (hl7 : Q7 G (Q2u p0 p1 0) (.st .ret (Q5s p0 p1 z7 zo7))) : Q7 G (c_Kx p0 p1) (.ret (.bool (false)) []) := by
 exact Q9 (fn := Ir.Kx) rfl VOK.nil [hB 3 h0, hP 8 (Qe (Val.rows p0.list) (List.length p0.list) (Val.Q8 p0.list)), hB 0 h2, hP 4 (Qe (Fld.rows p0.fields) (List.length p0.fields) (Fld.Q8 p0.fields)), hB 0 h3, hP 3 (dec (!(p0.kind == 4)) true (by rw [h4]; rfl)), hP 3 (Qe (Val.rows p0.list) (List.length p0.list) (Val.Q8 p0.list)), hB 0 h5, hP 4 (dec (!(p0.kind == 5)) false (by rw [h6]; rfl))] [aB (t_Kw p0 (Q1v p0 p1 H).1) h1, aN hl7] (by kernel_rfl)
theorem Q18h (p0 : Val) (p1 : Int) (H : H_Kx p0) (_rec : Q21 p0) (h0 : (p1 == 0) = false) (h1 : (s_Kw p0) = true) (h2 : (decide (64 < ((List.length p0.list) : Int))) = false) (h3 : (decide (64 < ((List.length p0.fields) : Int))) = false) (h4 : (p0.kind == 4) = false) (h5 : (decide (0 < ((List.length p0.list) : Int))) = false) (h6 : (p0.kind == 5) = false) (h7 : (decide (0 < ((List.length p0.fields) : Int))) = true) : Q7 G (c_Kx p0 p1) (.ret (.bool (false)) []) := by
 exact Q9 (fn := Ir.Kx) rfl VOK.nil [hB 3 h0, hP 8 (Qe (Val.rows p0.list) (List.length p0.list) (Val.Q8 p0.list)), hB 0 h2, hP 4 (Qe (Fld.rows p0.fields) (List.length p0.fields) (Fld.Q8 p0.fields)), hB 0 h3, hP 3 (dec (!(p0.kind == 4)) true (by rw [h4]; rfl)), hP 3 (Qe (Val.rows p0.list) (List.length p0.list) (Val.Q8 p0.list)), hB 0 h5, hP 4 (dec (!(p0.kind == 5)) true (by rw [h6]; rfl)), hP 3 (Qe (Fld.rows p0.fields) (List.length p0.fields) (Fld.Q8 p0.fields)), hB 0 h7] [aB (t_Kw p0 (Q1v p0 p1 H).1) h1] (by kernel_rfl)
theorem Q187 (p0 : Val) (p1 : Int) (H : H_Kx p0) (_rec : Q21 p0) (h0 : (p1 == 0) = false) (h1 : (s_Kw p0) = true) (h2 : (decide (64 < ((List.length p0.list) : Int))) = false) (h3 : (decide (64 < ((List.length p0.fields) : Int))) = false) (h4 : (p0.kind == 4) = false) (h5 : (decide (0 < ((List.length p0.list) : Int))) = false) (h6 : (p0.kind == 5) = false) (h7 : (decide (0 < ((List.length p0.fields) : Int))) = false) (z8 : Nat → PV) (zo8 : Nat → List PV) (hl8 : Q7 G (Q2u p0 p1 0) (.st (.exit 0) (Q36 p0 p1 z8 zo8))) (z9 : Nat → PV) (zo9 : Nat → List PV) (hl9 : Q7 G (Q2m p0 p1 0) (.st (.exit 2) (Q5o p0 p1 z9 zo9))) : Q7 G (c_Kx p0 p1) (.ret (.bool (true)) []) := by
 exact Q9 (fn := Ir.Kx) rfl VOK.nil [hB 3 h0, hP 8 (Qe (Val.rows p0.list) (List.length p0.list) (Val.Q8 p0.list)), hB 0 h2, hP 4 (Qe (Fld.rows p0.fields) (List.length p0.fields) (Fld.Q8 p0.fields)), hB 0 h3, hP 3 (dec (!(p0.kind == 4)) true (by rw [h4]; rfl)), hP 3 (Qe (Val.rows p0.list) (List.length p0.list) (Val.Q8 p0.list)), hB 0 h5, hP 4 (dec (!(p0.kind == 5)) true (by rw [h6]; rfl)), hP 3 (Qe (Fld.rows p0.fields) (List.length p0.fields) (Fld.Q8 p0.fields)), hB 0 h7] [aB (t_Kw p0 (Q1v p0 p1 H).1) h1, aN hl8, aN hl9] (by kernel_rfl)
theorem Q183 (p0 : Val) (p1 : Int) (H : H_Kx p0) (_rec : Q21 p0) (h0 : (p1 == 0) = false) (h1 : (s_Kw p0) = true) (h2 : (decide (64 < ((List.length p0.list) : Int))) = false) (h3 : (decide (64 < ((List.length p0.fields) : Int))) = false) (h4 : (p0.kind == 4) = false) (h5 : (decide (0 < ((List.length p0.list) : Int))) = false) (h6 : (p0.kind == 5) = false) (h7 : (decide (0 < ((List.length p0.fields) : Int))) = false) (z8 : Nat → PV) (zo8 : Nat → List PV) (hl8 : Q7 G (Q2u p0 p1 0) (.st (.exit 0) (Q36 p0 p1 z8 zo8))) (z9 : Nat → PV) (zo9 : Nat → List PV) (hl9 : Q7 G (Q2m p0 p1 0) (.st .ret (Q3j p0 p1 z9 zo9))) : Q7 G (c_Kx p0 p1) (.ret (.bool (false)) []) := by
 exact Q9 (fn := Ir.Kx) rfl VOK.nil [hB 3 h0, hP 8 (Qe (Val.rows p0.list) (List.length p0.list) (Val.Q8 p0.list)), hB 0 h2, hP 4 (Qe (Fld.rows p0.fields) (List.length p0.fields) (Fld.Q8 p0.fields)), hB 0 h3, hP 3 (dec (!(p0.kind == 4)) true (by rw [h4]; rfl)), hP 3 (Qe (Val.rows p0.list) (List.length p0.list) (Val.Q8 p0.list)), hB 0 h5, hP 4 (dec (!(p0.kind == 5)) true (by rw [h6]; rfl)), hP 3 (Qe (Fld.rows p0.fields) (List.length p0.fields) (Fld.Q8 p0.fields)), hB 0 h7] [aB (t_Kw p0 (Q1v p0 p1 H).1) h1, aN hl8, aN hl9] (by kernel_rfl)
theorem Q18r (p0 : Val) (p1 : Int) (H : H_Kx p0) (_rec : Q21 p0) (h0 : (p1 == 0) = false) (h1 : (s_Kw p0) = true) (h2 : (decide (64 < ((List.length p0.list) : Int))) = false) (h3 : (decide (64 < ((List.length p0.fields) : Int))) = false) (h4 : (p0.kind == 4) = false) (h5 : (decide (0 < ((List.length p0.list) : Int))) = false) (h6 : (p0.kind == 5) = false) (h7 : (decide (0 < ((List.length p0.fields) : Int))) = false) (z8 : Nat → PV) (zo8 : Nat → List PV) (hl8 : Q7 G (Q2u p0 p1 0) (.st .ret (Q5s p0 p1 z8 zo8))) : Q7 G (c_Kx p0 p1) (.ret (.bool (false)) []) := by
 exact Q9 (fn := Ir.Kx) rfl VOK.nil [hB 3 h0, hP 8 (Qe (Val.rows p0.list) (List.length p0.list) (Val.Q8 p0.list)), hB 0 h2, hP 4 (Qe (Fld.rows p0.fields) (List.length p0.fields) (Fld.Q8 p0.fields)), hB 0 h3, hP 3 (dec (!(p0.kind == 4)) true (by rw [h4]; rfl)), hP 3 (Qe (Val.rows p0.list) (List.length p0.list) (Val.Q8 p0.list)), hB 0 h5, hP 4 (dec (!(p0.kind == 5)) true (by rw [h6]; rfl)), hP 3 (Qe (Fld.rows p0.fields) (List.length p0.fields) (Fld.Q8 p0.fields)), hB 0 h7] [aB (t_Kw p0 (Q1v p0 p1 H).1) h1, aN hl8] (by kernel_rfl)
theorem Q18t (p0 : Val) (p1 : Int) (H : H_Kx p0) (_rec : Q21 p0) (h0 : (p1 == 0) = false) (h1 : (s_Kw p0) = false) : Q7 G (c_Kx p0 p1) (.ret (.bool (false)) []) := by
 exact Q9 (fn := Ir.Kx) rfl VOK.nil [hB 3 h0] [aB (t_Kw p0 (Q1v p0 p1 H).1) h1] (by kernel_rfl)
theorem r_Kx (p0 : Val) (p1 : Int) (H : H_Kx p0) (rec : Q21 p0) : Q7 G (c_Kx p0 p1) (a_Kx p0 p1) := by
  unfold a_Kx
  rw [s_Kx]
  cases h0 : (p1 == 0) with
  | true =>
   exact Q1bu p0 p1 H rec h0
  | false =>
   cases h1 : (s_Kw p0) with
   | true =>
    cases h2 : (decide (64 < ((List.length p0.list) : Int))) with
    | true =>
     exact Q1a1 p0 p1 H rec h0 h1 h2
    | false =>
     cases h3 : (decide (64 < ((List.length p0.fields) : Int))) with
     | true =>
      exact Q1a0 p0 p1 H rec h0 h1 h2 h3
     | false =>
      cases h4 : (p0.kind == 4) with
      | true =>
       cases h5 : (p0.kind == 5) with
       | true =>
        have hl6 := Qaa p0 p1 ((Q1v p0 p1 H).2.1) rec p0.list 0 (by simp)
        cases hr6 : (Q3w p0 p1 p0.list 0) with
        | k0 =>
          rw [hr6] at hl6
          obtain ⟨z6, zo6, hl6⟩ := hl6
          try dsimp only
          have hl7 := Q7r p0 p1 ((Q1v p0 p1 H).2.2.1) rec p0.fields 0 (by simp)
          cases hr7 : (Q2t p0 p1 p0.fields 0) with
          | k0 =>
            rw [hr7] at hl7
            obtain ⟨z7, zo7, hl7⟩ := hl7
            exact Q19a p0 p1 H rec h0 h1 h2 h3 h4 h5 z6 zo6 hl6 z7 zo7 hl7
          | k1 =>
            rw [hr7] at hl7
            obtain ⟨z7, zo7, hl7⟩ := hl7
            exact Q1bl p0 p1 H rec h0 h1 h2 h3 h4 h5 z6 zo6 hl6 z7 zo7 hl7
        | k1 =>
          rw [hr6] at hl6
          obtain ⟨z6, zo6, hl6⟩ := hl6
          exact Q1az p0 p1 H rec h0 h1 h2 h3 h4 h5 z6 zo6 hl6
       | false =>
        cases h6 : (decide (0 < ((List.length p0.fields) : Int))) with
        | true =>
         exact Q1b6 p0 p1 H rec h0 h1 h2 h3 h4 h5 h6
        | false =>
         have hl7 := Qaa p0 p1 ((Q1v p0 p1 H).2.1) rec p0.list 0 (by simp)
         cases hr7 : (Q3w p0 p1 p0.list 0) with
         | k0 =>
           rw [hr7] at hl7
           obtain ⟨z7, zo7, hl7⟩ := hl7
           try dsimp only
           have hl8 := Q7r p0 p1 ((Q1v p0 p1 H).2.2.1) rec p0.fields 0 (by simp)
           cases hr8 : (Q2t p0 p1 p0.fields 0) with
           | k0 =>
             rw [hr8] at hl8
             obtain ⟨z8, zo8, hl8⟩ := hl8
             exact Q1au p0 p1 H rec h0 h1 h2 h3 h4 h5 h6 z7 zo7 hl7 z8 zo8 hl8
           | k1 =>
             rw [hr8] at hl8
             obtain ⟨z8, zo8, hl8⟩ := hl8
             exact Q1bb p0 p1 H rec h0 h1 h2 h3 h4 h5 h6 z7 zo7 hl7 z8 zo8 hl8
         | k1 =>
           rw [hr7] at hl7
           obtain ⟨z7, zo7, hl7⟩ := hl7
           exact Q1bq p0 p1 H rec h0 h1 h2 h3 h4 h5 h6 z7 zo7 hl7
      | false =>
       cases h5 : (decide (0 < ((List.length p0.list) : Int))) with
       | true =>
        exact Q18v p0 p1 H rec h0 h1 h2 h3 h4 h5
       | false =>
        cases h6 : (p0.kind == 5) with
        | true =>
         have hl7 := Qaa p0 p1 ((Q1v p0 p1 H).2.1) rec p0.list 0 (by simp)
         cases hr7 : (Q3w p0 p1 p0.list 0) with
         | k0 =>
           rw [hr7] at hl7
           obtain ⟨z7, zo7, hl7⟩ := hl7
           try dsimp only
           have hl8 := Q7r p0 p1 ((Q1v p0 p1 H).2.2.1) rec p0.fields 0 (by simp)
           cases hr8 : (Q2t p0 p1 p0.fields 0) with
           | k0 =>
             rw [hr8] at hl8
             obtain ⟨z8, zo8, hl8⟩ := hl8
             exact Q18d p0 p1 H rec h0 h1 h2 h3 h4 h5 h6 z7 zo7 hl7 z8 zo8 hl8
           | k1 =>
             rw [hr8] at hl8
             obtain ⟨z8, zo8, hl8⟩ := hl8
             exact Q18n p0 p1 H rec h0 h1 h2 h3 h4 h5 h6 z7 zo7 hl7 z8 zo8 hl8
         | k1 =>
           rw [hr7] at hl7
           obtain ⟨z7, zo7, hl7⟩ := hl7
           exact Q18l p0 p1 H rec h0 h1 h2 h3 h4 h5 h6 z7 zo7 hl7
        | false =>
         cases h7 : (decide (0 < ((List.length p0.fields) : Int))) with
         | true =>
          exact Q18h p0 p1 H rec h0 h1 h2 h3 h4 h5 h6 h7
         | false =>
          have hl8 := Qaa p0 p1 ((Q1v p0 p1 H).2.1) rec p0.list 0 (by simp)
          cases hr8 : (Q3w p0 p1 p0.list 0) with
          | k0 =>
            rw [hr8] at hl8
            obtain ⟨z8, zo8, hl8⟩ := hl8
            try dsimp only
            have hl9 := Q7r p0 p1 ((Q1v p0 p1 H).2.2.1) rec p0.fields 0 (by simp)
            cases hr9 : (Q2t p0 p1 p0.fields 0) with
            | k0 =>
              rw [hr9] at hl9
              obtain ⟨z9, zo9, hl9⟩ := hl9
              exact Q187 p0 p1 H rec h0 h1 h2 h3 h4 h5 h6 h7 z8 zo8 hl8 z9 zo9 hl9
            | k1 =>
              rw [hr9] at hl9
              obtain ⟨z9, zo9, hl9⟩ := hl9
              exact Q183 p0 p1 H rec h0 h1 h2 h3 h4 h5 h6 h7 z8 zo8 hl8 z9 zo9 hl9
          | k1 =>
            rw [hr8] at hl8
            obtain ⟨z8, zo8, hl8⟩ := hl8
            exact Q18r p0 p1 H rec h0 h1 h2 h3 h4 h5 h6 h7 z8 zo8 hl8
   | false =>
    exact Q18t p0 p1 H rec h0 h1
theorem i_Kx : ∀ (k : Nat) (p0 : Val), SizeOf.sizeOf p0 < k → ∀ (p1 : Int), H_Kx p0 → Q7 G (c_Kx p0 p1) (a_Kx p0 p1)
  | 0, _, h, _, _ => absurd h (Nat.not_lt_zero _)
  | k + 1, p0, h, p1, H => r_Kx p0 p1 H (fun q hq p1 hH => i_Kx k q (by omega) p1 hH)
theorem t_Kx (p0 : Val) (p1 : Int) (H : H_Kx p0) : Q7 G (c_Kx p0 p1) (a_Kx p0 p1) := i_Kx _ p0 (Nat.lt_succ_self _) p1 H
def s_Ko (p0 : Val) : Bool :=
 bif (s_Kx p0 12) then
  (decide ((s_Kn p0) ≤ 600))
 else
  false
def c_Ko (p0 : Val) : En := .call 23 [.agg (Val.cells p0)] []
def a_Ko (p0 : Val) : Rs := .ret (.bool (s_Ko p0)) []
def H_Ko (p0 : Val) : Prop := (H_Kx p0) ∧ (H_Kn p0) ∧ True
theorem t_Ko (p0 : Val) (H : H_Ko p0) : Q7 G (c_Ko p0) (a_Ko p0) := by
 unfold a_Ko s_Ko
 cases h0 : (s_Kx p0 12) with
 | true =>
  exact Q9 (fn := Ir.Ko) rfl VOK.nil [] [aB (t_Kx p0 12 H.1) h0, aN (t_Kn p0 H.2.1)] (by kernel_rfl)
 | false =>
  exact Q9 (fn := Ir.Ko) rfl VOK.nil [] [aB (t_Kx p0 12 H.1) h0] (by kernel_rfl)
def s_Kt (p0 : Bool) (p1 : Bool) : Int :=
 bif p0 then
  bif p1 then
   (-1)
  else
   (-1)
 else
  bif p1 then
   1
  else
   0
def c_Kt (p0 : Bool) (p1 : Bool) : En := .call 64 [.bool p0, .bool p1] []
def a_Kt (p0 : Bool) (p1 : Bool) : Rs := .ret (.int .i64 (s_Kt p0 p1)) []
theorem t_Kt (p0 : Bool) (p1 : Bool) : Q7 G (c_Kt p0 p1) (a_Kt p0 p1) := by
 unfold a_Kt s_Kt
 cases h0 : p0 with
 | true =>
  cases h1 : p1 with
  | true =>
   exact Q9 (fn := Ir.Kt) rfl VOK.nil [] [] (by kernel_rfl)
  | false =>
   exact Q9 (fn := Ir.Kt) rfl VOK.nil [] [] (by kernel_rfl)
 | false =>
  cases h1 : p1 with
  | true =>
   exact Q9 (fn := Ir.Kt) rfl VOK.nil [] [] (by kernel_rfl)
  | false =>
   exact Q9 (fn := Ir.Kt) rfl VOK.nil [] [] (by kernel_rfl)
end Go.Proofs.Ytnhhddbbppbblaa
end

