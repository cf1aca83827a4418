/- More of single operations: sums that don't run over; shifts of indexes; stores into a slice of one's own that is known by its rows. -/
import Derived.Test.YtedohmdgbilicaaPvX
namespace Go.Pv

def wE (n : Int) : Option Eff := some ⟨.int .i64 (IntKind.i64.wrap n), [], []⟩
theorem w_ok (n : Int) (h : -9223372036854775808 ≤ n ∧ n ≤ 9223372036854775807) : wE n = some (vE (.int .i64 n)) := by
  unfold wE
  have := w64_of h
  unfold w64 at this
  rw [this]
  rfl
theorem beqT {x v : Bool} (h : (x == true) = v) : x = v := by cases x <;> cases v <;> simp_all

def sCmp (a b : ByteArray) : Int := cmpL a.toList b.toList

/-! ### stores -/
theorem flatten_set {sz : Nat} : ∀ (rows : List (List PV)) (k : Nat) (r vals : List PV) (off n : Nat), rows[k]? = some r → (∀ q ∈ rows, q.length = sz) → off + n ≤ sz → vals.length = n →
    rows.flatten.take (k * sz + off) ++ (vals ++ rows.flatten.drop (k * sz + off + n)) = (rows.set k (r.take off ++ (vals ++ r.drop (off + n)))).flatten ∧ k * sz + off + n ≤ rows.flatten.length
  | [], _, _, _, _, _, h, _, _, _ => by simp at h
  | q :: rs, 0, r, vals, off, n, h, hs, hn, hv => by
    have hq := hs q List.mem_cons_self
    simp only [List.getElem?_cons_zero, Option.some.injEq] at h
    subst h
    simp only [Nat.zero_mul, Nat.zero_add, List.flatten_cons, List.set_cons_zero, List.length_append]
    refine ⟨?_, by omega⟩
    rw [List.take_append_of_le_length (by omega), List.drop_append_of_le_length (by omega)]
    simp only [List.append_assoc]
  | q :: rs, k + 1, r, vals, off, n, h, hs, hn, hv => by
    have hq := hs q List.mem_cons_self
    simp only [List.getElem?_cons_succ] at h
    obtain ⟨h1, h2⟩ := flatten_set rs k r vals off n h (fun q hq => hs q (List.mem_cons_of_mem _ hq)) hn hv
    have e1 : (k + 1) * sz + off = q.length + (k * sz + off) := by rw [hq, Nat.add_mul]; omega
    have e2 : (k + 1) * sz + off + n = q.length + (k * sz + off + n) := by rw [hq, Nat.add_mul]; omega
    simp only [List.flatten_cons, List.set_cons_succ, List.length_append]
    refine ⟨?_, by omega⟩
    rw [e2, e1, List.take_length_add_append, List.drop_length_add_append, ← h1]
    simp only [List.append_assoc]
def stE (id sz ro : Nat) (gr : Bool) (cells : List PV) (n : Nat) (at_ : Nat) (x : PV) : Option Eff := opStore (look [(id, ⟨sz, ro, gr, cells⟩)]) n (.bx id at_) x
theorem st_ok (id sz : Nat) (gr : Bool) (cells : List PV) (rows rows' : List (List PV)) (n k off at_ : Nat) (r : List PV) (x : PV) (hc : cells = rows.flatten) (ha : at_ = k * sz + off) (hr : rows[k]? = some r) (hs : ∀ r ∈ rows, r.length = sz) (hn : off + n ≤ sz) (hx : x.cs.length = n) (hf : x.fits = true) (hrows : rows' = rows.set k (r.take off ++ (x.cs ++ r.drop (off + n)))) :
    stE id sz 0 gr cells n at_ x = some ⟨.un, [(id, some ⟨sz, 0, gr, rows'.flatten⟩)], [id]⟩ := by
  subst hc ha hrows
  obtain ⟨h1, h2⟩ := flatten_set rows k r x.cs off n hr hs hn hx
  unfold stE opStore
  simp only [look, Nat.beq_refl, cond_true, Option.bind_some]
  rw [hx, hf, Nat.beq_refl, Nat.ble_eq_true_of_le h2, Nat.ble_eq_true_of_le (Nat.zero_le _), h1]
  rfl
theorem rowsSet {α : Type} (f : α → List PV) (l : List α) (k : Nat) (x : α) : (l.set k x).map f = (l.map f).set k (f x) := List.map_set
theorem intRowsSet (l : List Int) (k : Nat) (x : Int) : intRows (l.set k x) = (intRows l).set k [.int .i64 x] := by simp [intRows, List.map_set]
theorem boolRowsSet (l : List Bool) (k : Nat) (x : Bool) : boolRows (l.set k x) = (boolRows l).set k [.bool x] := by simp [boolRows, List.map_set]
theorem strRowsSet (l : List ByteArray) (k : Nat) (x : ByteArray) : strRows (l.set k x) = (strRows l).set k [.str x] := by simp [strRows, List.map_set]
theorem lenSet {α : Type} {l : List α} {n : Nat} (h : l.length = n) (k : Nat) (x : α) : (l.set k x).length = n := by rw [List.length_set, h]

/-! ### a half of an index -/
def cvE (k : IntKind) (n : Int) : Option Eff := (some (PV.int k (k.wrap n))).bind fun v => some ⟨v, [], []⟩
theorem wrapU {n : Int} (h : 0 ≤ n ∧ n ≤ 9223372036854775807) : IntKind.u64.wrap n = n := by
  unfold IntKind.wrap
  simp [IntKind.signed, IntKind.bits]
  omega
theorem cvU_ok (n : Int) (h : 0 ≤ n ∧ n ≤ 9223372036854775807) : cvE .u64 n = some (vE (.int .u64 n)) := by
  unfold cvE
  rw [wrapU h]
  rfl
theorem cvI_ok (n : Int) (h : 0 ≤ n ∧ n ≤ 9223372036854775807) : cvE .i64 n = some (vE (.int .i64 n)) := by
  unfold cvE
  have := w64_of (n := n) (by omega)
  unfold w64 at this
  rw [this]
  rfl
def shE (k : IntKind) (a b : Int) : Option Eff := (bif decide (0 ≤ b) then some (PV.int k (a.fdiv (2 ^ (min b.toNat k.bits)))) else none).bind fun v => some ⟨v, [], []⟩
theorem sh_ok (n : Int) : shE .u64 n 1 = some (vE (.int .u64 (n / 2))) := by
  unfold shE
  have h : n.fdiv (2 ^ (min (1 : Int).toNat IntKind.u64.bits)) = n / 2 := by
    have e : ((2 : Int) ^ (min (1 : Int).toNat IntKind.u64.bits)) = 2 := by decide
    rw [e, Int.fdiv_eq_ediv_of_nonneg _ (by omega)]
  rw [h]
  rfl
end Go.Pv
