/-
  Small words and hints' lemmas for walks that a program prints.
-/
import Derived.Test.YtedohmdgbilicaaPvW
import Derived.KernelRfl
namespace Go.Pv

def bE (b : Bool) : Eff := ⟨.bool b, [], []⟩
def vE (v : PV) : Eff := ⟨v, [], []⟩
def w64 (n : Int) : Int := IntKind.i64.wrap n
def mx (x y : Int) : Int := if y > x then y else x
def mn (x y : Int) : Int := if y < x then y else x
def sEq (a b : ByteArray) : Bool := a.toList == b.toList
def sLt (a b : ByteArray) : Bool := Op.bytesLess a.toList b.toList

theorem dec (c v : Bool) (h : c = v) : some (bE c) = some (bE v) := by rw [h]
theorem toldOf {G : Nat → Option Fun} {e : En} {r r' : Rs} (h : Tells G e r) (hr : r = r') : Tells G e r' := hr ▸ h

/-! ### rows of a type -/
theorem rowsGet {α : Type} {f : α → List PV} {l : List α} {i : Nat} {x : α} (h : l[i]? = some x) : (l.map f)[i]? = some (f x) := by
  rw [List.getElem?_map, h]
  rfl
def ixE (sz : Nat) (l : List (List PV)) (i : Int) : Option Eff := (opP (fun _ => .un) (.iaddr sz (.c (.sl l)) (.c (.int .i64 i)))).bind fun v => some ⟨v, [], []⟩
theorem ix_ok (sz : Nat) (l : List (List PV)) (i : Nat) (r : List PV) (h : l[i]? = some r) (hs : r.length = sz) : ixE sz l (i : Int) = some (vE (.rf r)) := by
  unfold ixE
  simp only [opP, Opd.ev, asNat]
  have h0 : decide (0 ≤ (i : Int)) = true := by simp
  rw [h0]
  simp only [cond_true, Option.bind_some, Int.toNat_natCast]
  rw [h]
  subst hs
  simp [vE]
theorem ixI_ok (sz : Nat) (l : List (List PV)) (i : Int) (r : List PV) (h0 : 0 ≤ i) (h : l[i.toNat]? = some r) (hs : r.length = sz) : ixE sz l i = some (vE (.rf r)) := by
  have := ix_ok sz l i.toNat r h hs
  rw [show ((i.toNat : Nat) : Int) = i by omega] at this
  exact this
def lenE (l : List (List PV)) : Option Eff := some ⟨.int .i64 (l.length : Int), [], []⟩
theorem len_ok (l : List (List PV)) (n : Nat) (h : l.length = n) : lenE l = some (vE (.int .i64 (n : Int))) := by
  unfold lenE
  rw [h]
  rfl
theorem w64_of {n : Int} (h : -9223372036854775808 ≤ n ∧ n ≤ 9223372036854775807) : w64 n = n := by
  unfold w64 IntKind.wrap
  simp [IntKind.signed, IntKind.bits]
  omega
def addE (a b : Int) : Option Eff := some ⟨.int .i64 (IntKind.i64.wrap (a + b)), [], []⟩
theorem inc_ok (i : Nat) (h : i < 9223372036854775807) : addE (i : Int) 1 = some (vE (.int .i64 ((i + 1 : Nat) : Int))) := by
  unfold addE
  have : IntKind.i64.wrap ((i : Int) + 1) = ((i + 1 : Nat) : Int) := by
    have := w64_of (n := (i : Int) + 1) (by omega)
    unfold w64 at this
    rw [this]
    rfl
  rw [this]
  rfl

theorem apC_eq {ob : Ob} {k : Nat} (h : ob.cells.length = k) : apC ob k = some ob.cells := by
  unfold apC
  rw [h, Nat.beq_refl]
  rfl
/-- an append of one element to a slice whose rows are known -/
def apE (id lid fr sz bytes ro lro : Nat) (lgr : Bool) (rows : List (List PV)) (r : List PV) (n : Nat) : Option Eff :=
  opAppend (look [(id, ⟨sz, ro, true, rows.flatten⟩), (lid, ⟨sz, lro, lgr, r⟩)]) fr sz bytes (.ms id sz 0 n) (.ms lid sz 0 1)
theorem ap_ok (id lid fr sz bytes ro lro : Nat) (lgr : Bool) (rows rows' : List (List PV)) (r : List PV) (n n' : Nat) (hne : Nat.beq id lid = false) (hn : n = rows.length) (hn' : n' = rows'.length) (hr' : rows' = rows ++ [r])
    (hs : ∀ r ∈ rows, r.length = sz) (hr : r.length = sz) (hb : (n + 1) * bytes ≤ 140737488355328) :
    apE id lid fr sz bytes ro lro lgr rows r n = some ⟨.ms fr sz 0 n', [(id, none), (fr, some ⟨sz, ro, true, rows'.flatten⟩)], [id, lid]⟩ := by
  subst hn hn' hr'
  unfold apE opAppend
  have h1 : look [(id, (⟨sz, ro, true, rows.flatten⟩ : Ob)), (lid, ⟨sz, lro, lgr, r⟩)] lid = some ⟨sz, lro, lgr, r⟩ := by simp [look, hne]
  have h2 : look [(id, (⟨sz, ro, true, rows.flatten⟩ : Ob)), (lid, ⟨sz, lro, lgr, r⟩)] id = some ⟨sz, ro, true, rows.flatten⟩ := by simp [look]
  have hsrc : source (look [(id, (⟨sz, ro, true, rows.flatten⟩ : Ob)), (lid, ⟨sz, lro, lgr, r⟩)]) sz (.ms lid sz 0 1) = some (1, r, [lid]) := by
    simp only [source, h1, Option.bind_some]
    subst hr
    have : Nat.ble r.length r.length = true := Nat.ble_eq_true_of_le (Nat.le_refl _)
    simp [this]
  rw [hsrc, Option.bind_some]
  simp only [h2, Option.bind_some]
  have hc : (true && Nat.beq sz sz && Nat.beq sz sz && Nat.beq 0 0 && Nat.ble ((rows.length + 1) * bytes) 140737488355328) = true := by
    simp only [Nat.beq_refl, Bool.and_true, Bool.true_and]
    exact Nat.ble_eq_true_of_le hb
  rw [hc, apC_eq (ob := ⟨sz, ro, true, rows.flatten⟩) (flat_length sz rows hs)]
  simp
end Go.Pv
namespace Go.Pv
theorem VOK.cons {H : Nat → Option Ob} {vw : Views} {id : Nat} {rows : List (List PV)} (h : Seen (H id) rows) (hv : VOK H vw) : VOK H ((id, rows) :: vw) := by
  intro k rs hl
  simp only [look] at hl
  cases c : Nat.beq id k with
  | true =>
    have := Nat.eq_of_beq_eq_true c
    subst this
    rw [c] at hl
    simp only [cond_true, Option.some.injEq] at hl
    subst hl
    exact h
  | false =>
    rw [c] at hl
    exact hv k rs hl
theorem drop_get {α : Type} {l : List α} {i : Nat} {x : α} {r : List α} (h : l.drop i = x :: r) : l[i]? = some x ∧ i < l.length ∧ l.drop (i + 1) = r := by
  have h1 : l[i]? = some x := by
    have := congrArg (fun q => q[0]?) h
    simpa [List.getElem?_drop] using this
  have h2 : i < l.length := (List.getElem?_eq_some_iff.1 h1).1
  refine ⟨h1, h2, ?_⟩
  rw [← List.tail_drop, h]
  rfl
theorem drop_end {α : Type} {l : List α} {i : Nat} (h : l.drop i = []) : l.length ≤ i := by
  simpa using h
theorem mem_get {α : Type} {l : List α} {i : Nat} {x : α} (h : l[i]? = some x) : x ∈ l := List.mem_of_getElem? h
theorem cat_ok (a b : ByteArray) (h : a.size + b.size ≤ 9223372036854775807) : ((sbin .add a b).bind fun v => some (⟨v, [], []⟩ : Eff)) = some (vE (.str (a ++ b))) := by
  simp only [sbin, Nat.ble_eq_true_of_le h, cond_true, Option.bind_some]
  rfl

/-! ### rows of words -/
def intRows (l : List Int) : List (List PV) := l.map fun n => [.int .i64 n]
def boolRows (l : List Bool) : List (List PV) := l.map fun n => [.bool n]
def strRows (l : List ByteArray) : List (List PV) := l.map fun n => [.str n]
theorem intRowsLen (l : List Int) : (intRows l).length = l.length := by simp [intRows]
theorem boolRowsLen (l : List Bool) : (boolRows l).length = l.length := by simp [boolRows]
theorem strRowsLen (l : List ByteArray) : (strRows l).length = l.length := by simp [strRows]
theorem intRowsGet {l : List Int} {i : Nat} {x : Int} (h : l[i]? = some x) : (intRows l)[i]? = some [.int .i64 x] := rowsGet (f := fun n => [.int .i64 n]) h
theorem boolRowsGet {l : List Bool} {i : Nat} {x : Bool} (h : l[i]? = some x) : (boolRows l)[i]? = some [.bool x] := rowsGet (f := fun n => [.bool n]) h
theorem strRowsGet {l : List ByteArray} {i : Nat} {x : ByteArray} (h : l[i]? = some x) : (strRows l)[i]? = some [.str x] := rowsGet (f := fun n => [.str n]) h
theorem intRowsSnoc (l : List Int) (x : Int) : intRows (l ++ [x]) = intRows l ++ [[.int .i64 x]] := by simp [intRows]
theorem boolRowsSnoc (l : List Bool) (x : Bool) : boolRows (l ++ [x]) = boolRows l ++ [[.bool x]] := by simp [boolRows]
theorem strRowsSnoc (l : List ByteArray) (x : ByteArray) : strRows (l ++ [x]) = strRows l ++ [[.str x]] := by simp [strRows]
theorem mapSize {α : Type} {f : α → List PV} {n : Nat} (h : ∀ x, (f x).length = n) (l : List α) : ∀ r ∈ l.map f, r.length = n := fun r hr => by
  obtain ⟨x, _, rfl⟩ := List.mem_map.1 hr
  exact h x
theorem mapPlain {α : Type} {f : α → List PV} (h : ∀ x, (f x).all plain = true) (l : List α) : ∀ r ∈ l.map f, ∀ p ∈ r, plain p = true := fun r hr p hp => by
  obtain ⟨x, _, rfl⟩ := List.mem_map.1 hr
  exact List.all_eq_true.1 (h x) p hp
theorem intRowsSize (l : List Int) : ∀ r ∈ intRows l, r.length = 1 := mapSize (f := fun n => [.int .i64 n]) (fun _ => rfl) l
theorem boolRowsSize (l : List Bool) : ∀ r ∈ boolRows l, r.length = 1 := mapSize (f := fun n => [.bool n]) (fun _ => rfl) l
theorem strRowsSize (l : List ByteArray) : ∀ r ∈ strRows l, r.length = 1 := mapSize (f := fun n => [.str n]) (fun _ => rfl) l
theorem intRowsView (l : List Int) (sz : Nat) (h : sz = 1) : ViewOK sz (intRows l).flatten (intRows l) := by subst h; exact ⟨rfl, intRowsSize l, mapPlain (f := fun n => [.int .i64 n]) (fun _ => rfl) l⟩
theorem boolRowsView (l : List Bool) (sz : Nat) (h : sz = 1) : ViewOK sz (boolRows l).flatten (boolRows l) := by subst h; exact ⟨rfl, boolRowsSize l, mapPlain (f := fun n => [.bool n]) (fun _ => rfl) l⟩
theorem strRowsView (l : List ByteArray) (sz : Nat) (h : sz = 1) : ViewOK sz (strRows l).flatten (strRows l) := by subst h; exact ⟨rfl, strRowsSize l, mapPlain (f := fun n => [.str n]) (fun _ => rfl) l⟩
end Go.Pv
namespace Go.Pv
def zoF (l : List (Nat × List PV)) (j : Nat) : List PV := (look l j).getD []
end Go.Pv
namespace Go.Pv
def optI : Option Int → Option Opd
  | none => none
  | some n => some (.c (.int .i64 n))
def slE (sz : Nat) (l : List (List PV)) (lo hi : Option Int) : Option Eff := (opP (fun _ => .un) (.slice sz (.c (.sl l)) (optI lo) (optI hi) none)).bind fun v => some ⟨v, [], []⟩
theorem rowsSz_ok {l : List (List PV)} {sz : Nat} (hs : ∀ r ∈ l, r.length = sz) : rowsSz l sz = true := by
  unfold rowsSz
  rw [List.all_eq_true]
  intro r hr
  rw [hs r hr]
  exact Nat.beq_refl sz
theorem take_ok (sz : Nat) (l l' : List (List PV)) (k : Int) (hs : ∀ r ∈ l, r.length = sz) (h0 : 0 ≤ k) (h1 : k ≤ (l.length : Int)) (hl : l' = l.take k.toNat) : slE sz l none (some k) = some (vE (.sl l')) := by
  subst hl
  unfold slE
  simp only [opP, optI, Opd.ev, optNat, asNat, Option.bind_some]
  have e0 : decide (0 ≤ k) = true := by simpa using h0
  rw [e0]
  simp only [cond_true, Option.bind_some]
  have e1 : (rowsSz l sz && (Nat.ble 0 k.toNat && Nat.ble k.toNat l.length)) = true := by
    rw [rowsSz_ok hs]
    simp only [Bool.true_and, Bool.and_eq_true]
    exact ⟨Nat.ble_eq_true_of_le (Nat.zero_le _), Nat.ble_eq_true_of_le (by omega)⟩
  rw [e1]
  simp [vE]
theorem drop_ok (sz : Nat) (l l' : List (List PV)) (k : Int) (hs : ∀ r ∈ l, r.length = sz) (h0 : 0 ≤ k) (h1 : k ≤ (l.length : Int)) (hl : l' = l.drop k.toNat) : slE sz l (some k) none = some (vE (.sl l')) := by
  subst hl
  unfold slE
  simp only [opP, optI, Opd.ev, optNat, asNat, Option.bind_some]
  have e0 : decide (0 ≤ k) = true := by simpa using h0
  rw [e0]
  simp only [cond_true, Option.bind_some]
  have e1 : (rowsSz l sz && (Nat.ble k.toNat l.length && Nat.ble l.length l.length)) = true := by
    rw [rowsSz_ok hs]
    simp only [Bool.true_and, Bool.and_eq_true]
    exact ⟨Nat.ble_eq_true_of_le (by omega), Nat.ble_eq_true_of_le (Nat.le_refl _)⟩
  rw [e1]
  simp [vE]
theorem intRowsTake (l : List Int) (n : Nat) : intRows (l.take n) = (intRows l).take n := by simp [intRows, List.map_take]
theorem strRowsTake (l : List ByteArray) (n : Nat) : strRows (l.take n) = (strRows l).take n := by simp [strRows, List.map_take]
theorem boolRowsTake (l : List Bool) (n : Nat) : boolRows (l.take n) = (boolRows l).take n := by simp [boolRows, List.map_take]
theorem intRowsDrop (l : List Int) (n : Nat) : intRows (l.drop n) = (intRows l).drop n := by simp [intRows, List.map_drop]
theorem strRowsDrop (l : List ByteArray) (n : Nat) : strRows (l.drop n) = (strRows l).drop n := by simp [strRows, List.map_drop]
theorem boolRowsDrop (l : List Bool) (n : Nat) : boolRows (l.drop n) = (boolRows l).drop n := by simp [boolRows, List.map_drop]
end Go.Pv
namespace Go.Pv
def ixmE (id sz off len : Nat) (i : Int) : Option Eff := (opP (fun _ => .un) (.iaddr sz (.c (.ms id sz off len)) (.c (.int .i64 i)))).bind fun v => some ⟨v, [], []⟩
theorem ixm_ok (id sz off len : Nat) (i : Int) (k at_ : Nat) (h : i = (k : Int)) (hk : k < len) (ha : at_ = (off + k) * sz) : ixmE id sz off len i = some (vE (.bx id at_)) := by
  subst h ha
  unfold ixmE
  simp only [opP, Opd.ev, asNat]
  have h0 : decide (0 ≤ (k : Int)) = true := by simp
  rw [h0]
  simp only [cond_true, Option.bind_some, Int.toNat_natCast]
  have h1 : (Nat.beq sz sz && Nat.blt k len) = true := by
    rw [Nat.beq_refl, Bool.true_and]
    exact Nat.ble_eq_true_of_le hk
  rw [h1]
  rfl
end Go.Pv
namespace Go.Pv
theorem ixs_ok (id sz len : Nat) (i : Int) (k : Nat) (hk : k = i.toNat) (h0 : 0 ≤ i) (h1 : i < (len : Int)) : ixmE id sz 0 len i = some (vE (.bx id (k * sz))) :=
  ixm_ok id sz 0 len i k (k * sz) (by omega) (by omega) (by rw [Nat.zero_add])
theorem flatten_drop (sz : Nat) : ∀ (rows : List (List PV)) (k : Nat), (∀ r ∈ rows, r.length = sz) → rows.flatten.drop (k * sz) = (rows.drop k).flatten
  | [], k, _ => by simp
  | r :: rs, 0, _ => by simp
  | r :: rs, k + 1, h => by
    have h0 := h r List.mem_cons_self
    rw [List.flatten_cons, List.drop_succ_cons, ← flatten_drop sz rs k (fun q hq => h q (List.mem_cons_of_mem _ hq)), Nat.add_mul, Nat.one_mul, Nat.add_comm, ← List.drop_drop, List.drop_left' h0]
theorem flatten_at {sz : Nat} {rows : List (List PV)} {k : Nat} {r : List PV} {off n : Nat} (hr : rows[k]? = some r) (hs : ∀ r ∈ rows, r.length = sz) (hn : off + n ≤ sz) : (rows.flatten.drop (k * sz + off)).take n = (r.drop off).take n ∧ k * sz + off + n ≤ rows.flatten.length := by
  have hk : k < rows.length := (List.getElem?_eq_some_iff.1 hr).1
  have hd : rows.drop k = r :: rows.drop (k + 1) := by
    rw [List.drop_eq_getElem_cons hk]
    congr 1
    exact (List.getElem?_eq_some_iff.1 hr).2
  have hl := hs r (List.mem_of_getElem? hr)
  refine ⟨?_, ?_⟩
  · rw [← List.drop_drop, flatten_drop sz rows k hs, hd, List.flatten_cons]
    rw [List.drop_append_of_le_length (by omega), List.take_append_of_le_length (by rw [List.length_drop]; omega)]
  · rw [flat_length sz rows hs]
    have : (k + 1) * sz ≤ rows.length * sz := Nat.mul_le_mul_right _ hk
    rw [Nat.add_mul] at this
    omega
def ldE (id sz ro : Nat) (gr : Bool) (cells : List PV) (n : Nat) (ag : Bool) (at_ : Nat) : Option Eff := opLoad (look [(id, ⟨sz, ro, gr, cells⟩)]) n ag (.bx id at_)
theorem ld_ok (id sz ro : Nat) (gr : Bool) (cells : List PV) (rows : List (List PV)) (n : Nat) (ag : Bool) (k off at_ : Nat) (r : List PV) (v : PV) (hc : cells = rows.flatten) (ha : at_ = k * sz + off) (hr : rows[k]? = some r) (hs : ∀ r ∈ rows, r.length = sz) (hn : off + n ≤ sz) (hv : shape ag ((r.drop off).take n) = some v) :
    ldE id sz ro gr cells n ag at_ = some ⟨v, [], [id]⟩ := by
  subst hc ha
  obtain ⟨h1, h2⟩ := flatten_at hr hs hn
  unfold ldE opLoad reads
  simp only [look, Nat.beq_refl, cond_true, Option.bind_some]
  rw [Nat.ble_eq_true_of_le h2]
  simp only [cond_true, Option.bind_some]
  rw [h1, hv, Option.bind_some]
theorem getD_ok {α : Type} (l : List α) (k : Nat) (d : α) (h : k < l.length) : l[k]? = some (l.getD k d) := by
  rw [List.getD_eq_getElem?_getD, List.getElem?_eq_getElem h]
  rfl
end Go.Pv
namespace Go.Pv
theorem decR (c v : Bool) (hr : List Nat) (h : c = v) : some (⟨.bool c, [], hr⟩ : Eff) = some ⟨.bool v, [], hr⟩ := by rw [h]
end Go.Pv
namespace Go.Pv
theorem rem_ok (k : IntKind) (x y : Int) (h : y ≠ 0) : ((bif decide (y = 0) then none else some (PV.int k (x.tmod y))).bind fun v => some (⟨v, [], []⟩ : Eff)) = some (vE (.int k (x.tmod y))) := by
  have : decide (y = 0) = false := by simpa using h
  rw [this]
  rfl
theorem quo_ok (k : IntKind) (x y : Int) (h : y ≠ 0) : ((bif decide (y = 0) then none else some (PV.int k (k.wrap (x.tdiv y)))).bind fun v => some (⟨v, [], []⟩ : Eff)) = some (vE (.int k (k.wrap (x.tdiv y)))) := by
  have : decide (y = 0) = false := by simpa using h
  rw [this]
  rfl
/-- an append of all elements of a tree's slice to a slice of one's own -/
def aplE (id fr sz bytes ro : Nat) (cells : List PV) (rows : List (List PV)) (n : Nat) : Option Eff :=
  opAppend (look [(id, ⟨sz, ro, true, cells⟩)]) fr sz bytes (.ms id sz 0 n) (.sl rows)
theorem apl_ok (id fr sz bytes ro : Nat) (cells : List PV) (rows0 rows rows' : List (List PV)) (n n' : Nat) (hc : cells = rows0.flatten) (hn : n = rows0.length) (hn' : n' = rows'.length) (hr' : rows' = rows0 ++ rows)
    (hs0 : ∀ r ∈ rows0, r.length = sz) (hs : ∀ r ∈ rows, r.length = sz) (hb : (n + rows.length) * bytes ≤ 140737488355328) :
    aplE id fr sz bytes ro cells rows n = some ⟨.ms fr sz 0 n', [(id, none), (fr, some ⟨sz, ro, true, rows'.flatten⟩)], [id]⟩ := by
  subst hc hn hn' hr'
  unfold aplE opAppend
  simp only [source]
  rw [rowsSz_ok hs]
  simp only [cond_true, Option.bind_some, look, Nat.beq_refl]
  have hc : (true && true && true && true && Nat.ble ((rows0.length + rows.length) * bytes) 140737488355328) = true := by
    simp only [Bool.and_true, Bool.true_and]
    exact Nat.ble_eq_true_of_le hb
  rw [hc, apC_eq (ob := ⟨sz, ro, true, rows0.flatten⟩) (flat_length sz rows0 hs0)]
  simp
/-- an append of all elements of a tree's slice to none -/
def apnE (fr sz bytes : Nat) (rows : List (List PV)) : Option Eff := opAppend (fun _ => none) fr sz bytes (.ns sz) (.sl rows)
theorem apn_none (fr sz bytes : Nat) (rows : List (List PV)) (h : rows = []) : apnE fr sz bytes rows = some ⟨.ns sz, [], []⟩ := by
  subst h
  unfold apnE opAppend
  simp only [source, rowsSz, List.all_nil, cond_true, Option.bind_some, List.length_nil, Nat.zero_mul]
  rfl
theorem apn_ok (fr sz bytes : Nat) (rows : List (List PV)) (n : Nat) (hn : n = rows.length) (h : rows ≠ []) (hs : ∀ r ∈ rows, r.length = sz) (hb : rows.length * bytes ≤ 140737488355328) : apnE fr sz bytes rows = some ⟨.ms fr sz 0 n, [(fr, some ⟨sz, 0, true, rows.flatten⟩)], []⟩ := by
  subst hn
  cases rows with
  | nil => exact absurd rfl h
  | cons r rs =>
    unfold apnE opAppend
    simp only [source]
    rw [rowsSz_ok hs]
    simp only [cond_true, Option.bind_some]
    rw [Nat.ble_eq_true_of_le hb]
    rfl
theorem intRowsApp (l m : List Int) : intRows (l ++ m) = intRows l ++ intRows m := by simp [intRows]
theorem boolRowsApp (l m : List Bool) : boolRows (l ++ m) = boolRows l ++ boolRows m := by simp [boolRows]
theorem strRowsApp (l m : List ByteArray) : strRows (l ++ m) = strRows l ++ strRows m := by simp [strRows]
end Go.Pv
