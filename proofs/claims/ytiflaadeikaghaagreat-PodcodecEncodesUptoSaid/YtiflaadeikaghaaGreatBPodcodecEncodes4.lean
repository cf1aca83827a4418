/- Texts of the claim, merged by a program; what the statement does not reach is left out. -/
import Derived.Test.YtiflaadeikaghaaGreatBPodcodecEncodes3
import Derived.KernelRfl
import Derived.OpenShut
import Derived.ChangeArms
import Derived.ChangeSlices
import Derived.ChangeOld
import Derived.Carry
import GoSem.ClaimJoined

section
/-
  Small words and hints' lemmas for walks that a program prints.
-/
namespace Go.Pv
def bE (b : Bool) : Eff := ⟨.bool b, [], []⟩
def vE (v : PV) : Eff := ⟨v, [], []⟩
def w64 (n : Int) : Int := IntKind.i64.wrap n
def mx (x y : Int) : Int := if y > x then y else x
def sEq (a b : ByteArray) : Bool := a.toList == b.toList
theorem dec (c v : Bool) (h : c = v) : some (bE c) = some (bE v) := by rw [h]
theorem Qa {α : Type} {f : α → List PV} {l : List α} {i : Nat} {x : α} (h : l[i]? = some x) : (l.map f)[i]? = some (f x) := by
  rw [List.getElem?_map, h]
  rfl
def ixE (sz : Nat) (l : List (List PV)) (i : Int) : Option Eff := (opP (fun _ => .un) (.iaddr sz (.c (.sl l)) (.c (.int .i64 i)))).bind fun v => some ⟨v, [], []⟩
theorem Q1f (sz : Nat) (l : List (List PV)) (i : Nat) (r : List PV) (h : l[i]? = some r) (hs : r.length = sz) : ixE sz l (i : Int) = some (vE (.rf r)) := by
  unfold ixE
  simp only [opP, Opd.ev, asNat]
  have h0 : decide (0 ≤ (i : Int)) = true := by simp
  rw [h0]
  simp only [cond_true, Option.bind_some, Int.toNat_natCast]
  rw [h]
  subst hs
  simp [vE]
def lenE (l : List (List PV)) : Option Eff := some ⟨.int .i64 (l.length : Int), [], []⟩
theorem Qe (l : List (List PV)) (n : Nat) (h : l.length = n) : lenE l = some (vE (.int .i64 (n : Int))) := by
  unfold lenE
  rw [h]
  rfl
theorem Q1ay {n : Int} (h : -9223372036854775808 ≤ n ∧ n ≤ 9223372036854775807) : w64 n = n := by
  unfold w64 IntKind.wrap
  simp [IntKind.signed, IntKind.bits]
  omega
def addE (a b : Int) : Option Eff := some ⟨.int .i64 (IntKind.i64.wrap (a + b)), [], []⟩
theorem Q1y (i : Nat) (h : i < 9223372036854775807) : addE (i : Int) 1 = some (vE (.int .i64 ((i + 1 : Nat) : Int))) := by
  unfold addE
  have : IntKind.i64.wrap ((i : Int) + 1) = ((i + 1 : Nat) : Int) := by
    have := Q1ay (n := (i : Int) + 1) (by omega)
    unfold w64 at this
    rw [this]
    rfl
  rw [this]
  rfl
theorem Q1dk {ob : Ob} {k : Nat} (h : ob.cells.length = k) : apC ob k = some ob.cells := by
  unfold apC
  rw [h, Nat.beq_refl]
  rfl
def apE (id lid fr sz bytes ro lro : Nat) (lgr : Bool) (rows : List (List PV)) (r : List PV) (n : Nat) : Option Eff :=
  Q6q (look [(id, ⟨sz, ro, true, rows.flatten⟩), (lid, ⟨sz, lro, lgr, r⟩)]) fr sz bytes (.ms id sz 0 n) (.ms lid sz 0 1)
theorem Q5h (id lid fr sz bytes ro lro : Nat) (lgr : Bool) (rows rows' : List (List PV)) (r : List PV) (n n' : Nat) (hne : Nat.beq id lid = false) (hn : n = rows.length) (hn' : n' = rows'.length) (hr' : rows' = rows ++ [r])
    (hs : ∀ r ∈ rows, r.length = sz) (hr : r.length = sz) (hb : (n + 1) * bytes ≤ 140737488355328) :
    apE id lid fr sz bytes ro lro lgr rows r n = some ⟨.ms fr sz 0 n', [(id, none), (fr, some ⟨sz, ro, true, rows'.flatten⟩)], [id, lid]⟩ := by
  subst hn hn' hr'
  unfold apE Q6q
  have h1 : look [(id, (⟨sz, ro, true, rows.flatten⟩ : Ob)), (lid, ⟨sz, lro, lgr, r⟩)] lid = some ⟨sz, lro, lgr, r⟩ := by simp [look, hne]
  have h2 : look [(id, (⟨sz, ro, true, rows.flatten⟩ : Ob)), (lid, ⟨sz, lro, lgr, r⟩)] id = some ⟨sz, ro, true, rows.flatten⟩ := by simp [look]
  have hsrc : source (look [(id, (⟨sz, ro, true, rows.flatten⟩ : Ob)), (lid, ⟨sz, lro, lgr, r⟩)]) sz (.ms lid sz 0 1) = some (1, r, [lid]) := by
    simp only [source, h1, Option.bind_some]
    subst hr
    have : Nat.ble r.length r.length = true := Nat.ble_eq_true_of_le (Nat.le_refl _)
    simp [this]
  rw [hsrc, Option.bind_some]
  simp only [h2, Option.bind_some]
  have hc : (true && Nat.beq sz sz && Nat.beq sz sz && Nat.beq 0 0 && Nat.ble ((rows.length + 1) * bytes) 140737488355328) = true := by
    simp only [Nat.beq_refl, Bool.and_true, Bool.true_and]
    exact Nat.ble_eq_true_of_le hb
  rw [hc, Q1dk (ob := ⟨sz, ro, true, rows.flatten⟩) (Q7u sz rows hs)]
  simp
end Go.Pv
namespace Go.Pv
theorem VOK.cons {H : Nat → Option Ob} {vw : Views} {id : Nat} {rows : List (List PV)} (h : Seen (H id) rows) (hv : VOK H vw) : VOK H ((id, rows) :: vw) := by
  intro k rs hl
  simp only [look] at hl
  cases c : Nat.beq id k with
  | true =>
    have := Nat.eq_of_beq_eq_true c
    subst this
    rw [c] at hl
    simp only [cond_true, Option.some.injEq] at hl
    subst hl
    exact h
  | false =>
    rw [c] at hl
    exact hv k rs hl
theorem Q14 {α : Type} {l : List α} {i : Nat} {x : α} {r : List α} (h : l.drop i = x :: r) : l[i]? = some x ∧ i < l.length ∧ l.drop (i + 1) = r := by
  have h1 : l[i]? = some x := by
    have := congrArg (fun q => q[0]?) h
    simpa [List.getElem?_drop] using this
  have h2 : i < l.length := (List.getElem?_eq_some_iff.1 h1).1
  refine ⟨h1, h2, ?_⟩
  rw [← List.tail_drop, h]
  rfl
theorem Q1b {α : Type} {l : List α} {i : Nat} (h : l.drop i = []) : l.length ≤ i := by
  simpa using h
theorem Q29 {α : Type} {l : List α} {i : Nat} {x : α} (h : l[i]? = some x) : x ∈ l := List.mem_of_getElem? h
def Qf (l : List ByteArray) : List (List PV) := l.map fun n => [.str n]
theorem Q18 (l : List ByteArray) : (Qf l).length = l.length := by simp [Qf]
theorem Q3g {l : List ByteArray} {i : Nat} {x : ByteArray} (h : l[i]? = some x) : (Qf l)[i]? = some [.str x] := Qa (f := fun n => [.str n]) h
theorem Q2l {α : Type} {f : α → List PV} {n : Nat} (h : ∀ x, (f x).length = n) (l : List α) : ∀ r ∈ l.map f, r.length = n := fun r hr => by
  obtain ⟨x, _, rfl⟩ := List.mem_map.1 hr
  exact h x
theorem Q21 {α : Type} {f : α → List PV} (h : ∀ x, (f x).all plain = true) (l : List α) : ∀ r ∈ l.map f, ∀ p ∈ r, plain p = true := fun r hr p hp => by
  obtain ⟨x, _, rfl⟩ := List.mem_map.1 hr
  exact List.all_eq_true.1 (h x) p hp
theorem Qxb (l : List ByteArray) : ∀ r ∈ Qf l, r.length = 1 := Q2l (f := fun n => [.str n]) (fun _ => rfl) l
theorem Ql9 (l : List ByteArray) (sz : Nat) (h : sz = 1) : ViewOK sz (Qf l).flatten (Qf l) := by subst h; exact ⟨rfl, Qxb l, Q21 (f := fun n => [.str n]) (fun _ => rfl) l⟩
end Go.Pv
namespace Go.Pv
def zoF (l : List (Nat × List PV)) (j : Nat) : List PV := (look l j).getD []
end Go.Pv
namespace Go.Pv
theorem Qtt {l : List (List PV)} {sz : Nat} (hs : ∀ r ∈ l, r.length = sz) : Q63 l sz = true := by
  unfold Q63
  rw [List.all_eq_true]
  intro r hr
  rw [hs r hr]
  exact Nat.beq_refl sz
end Go.Pv
namespace Go.Pv
def ixmE (id sz off len : Nat) (i : Int) : Option Eff := (opP (fun _ => .un) (.iaddr sz (.c (.ms id sz off len)) (.c (.int .i64 i)))).bind fun v => some ⟨v, [], []⟩
theorem Q1fz (id sz off len : Nat) (i : Int) (k at_ : Nat) (h : i = (k : Int)) (hk : k < len) (ha : at_ = (off + k) * sz) : ixmE id sz off len i = some (vE (.bx id at_)) := by
  subst h ha
  unfold ixmE
  simp only [opP, Opd.ev, asNat]
  have h0 : decide (0 ≤ (k : Int)) = true := by simp
  rw [h0]
  simp only [cond_true, Option.bind_some, Int.toNat_natCast]
  have h1 : (Nat.beq sz sz && Nat.blt k len) = true := by
    rw [Nat.beq_refl, Bool.true_and]
    exact Nat.ble_eq_true_of_le hk
  rw [h1]
  rfl
end Go.Pv
namespace Go.Pv
theorem Q4y (id sz len : Nat) (i : Int) (k : Nat) (hk : k = i.toNat) (h0 : 0 ≤ i) (h1 : i < (len : Int)) : ixmE id sz 0 len i = some (vE (.bx id (k * sz))) :=
  Q1fz id sz 0 len i k (k * sz) (by omega) (by omega) (by rw [Nat.zero_add])
theorem Qdk (sz : Nat) : ∀ (rows : List (List PV)) (k : Nat), (∀ r ∈ rows, r.length = sz) → rows.flatten.drop (k * sz) = (rows.drop k).flatten
  | [], k, _ => by simp
  | r :: rs, 0, _ => by simp
  | r :: rs, k + 1, h => by
    have h0 := h r List.mem_cons_self
    rw [List.flatten_cons, List.drop_succ_cons, ← Qdk sz rs k (fun q hq => h q (List.mem_cons_of_mem _ hq)), Nat.add_mul, Nat.one_mul, Nat.add_comm, ← List.drop_drop, List.drop_left' h0]
theorem Q13r {sz : Nat} {rows : List (List PV)} {k : Nat} {r : List PV} {off n : Nat} (hr : rows[k]? = some r) (hs : ∀ r ∈ rows, r.length = sz) (hn : off + n ≤ sz) : (rows.flatten.drop (k * sz + off)).take n = (r.drop off).take n ∧ k * sz + off + n ≤ rows.flatten.length := by
  have hk : k < rows.length := (List.getElem?_eq_some_iff.1 hr).1
  have hd : rows.drop k = r :: rows.drop (k + 1) := by
    rw [List.drop_eq_getElem_cons hk]
    congr 1
    exact (List.getElem?_eq_some_iff.1 hr).2
  have hl := hs r (List.mem_of_getElem? hr)
  refine ⟨?_, ?_⟩
  · rw [← List.drop_drop, Qdk sz rows k hs, hd, List.flatten_cons]
    rw [List.drop_append_of_le_length (by omega), List.take_append_of_le_length (by rw [List.length_drop]; omega)]
  · rw [Q7u sz rows hs]
    have : (k + 1) * sz ≤ rows.length * sz := Nat.mul_le_mul_right _ hk
    rw [Nat.add_mul] at this
    omega
def ldE (id sz ro : Nat) (gr : Bool) (cells : List PV) (n : Nat) (ag : Bool) (at_ : Nat) : Option Eff := Ql1 (look [(id, ⟨sz, ro, gr, cells⟩)]) n ag (.bx id at_)
theorem Qas (id sz ro : Nat) (gr : Bool) (cells : List PV) (rows : List (List PV)) (n : Nat) (ag : Bool) (k off at_ : Nat) (r : List PV) (v : PV) (hc : cells = rows.flatten) (ha : at_ = k * sz + off) (hr : rows[k]? = some r) (hs : ∀ r ∈ rows, r.length = sz) (hn : off + n ≤ sz) (hv : shape ag ((r.drop off).take n) = some v) :
    ldE id sz ro gr cells n ag at_ = some ⟨v, [], [id]⟩ := by
  subst hc ha
  obtain ⟨h1, h2⟩ := Q13r hr hs hn
  unfold ldE Ql1 reads
  simp only [look, Nat.beq_refl, cond_true, Option.bind_some]
  rw [Nat.ble_eq_true_of_le h2]
  simp only [cond_true, Option.bind_some]
  rw [h1, hv, Option.bind_some]
theorem Q2b {α : Type} (l : List α) (k : Nat) (d : α) (h : k < l.length) : l[k]? = some (l.getD k d) := by
  rw [List.getD_eq_getElem?_getD, List.getElem?_eq_getElem h]
  rfl
end Go.Pv
namespace Go.Pv
end Go.Pv
namespace Go.Pv
end Go.Pv
end

section
/- More of single operations: sums that don't run over; shifts of indexes; stores into a slice of one's own that is known by its rows. -/
namespace Go.Pv
def wE (n : Int) : Option Eff := some ⟨.int .i64 (IntKind.i64.wrap n), [], []⟩
theorem w_ok (n : Int) (h : -9223372036854775808 ≤ n ∧ n ≤ 9223372036854775807) : wE n = some (vE (.int .i64 n)) := by
  unfold wE
  have := Q1ay h
  unfold w64 at this
  rw [this]
  rfl
def sCmp (a b : ByteArray) : Int := cmpL a.toList b.toList
theorem Qk2 {sz : Nat} : ∀ (rows : List (List PV)) (k : Nat) (r vals : List PV) (off n : Nat), rows[k]? = some r → (∀ q ∈ rows, q.length = sz) → off + n ≤ sz → vals.length = n →
    rows.flatten.take (k * sz + off) ++ (vals ++ rows.flatten.drop (k * sz + off + n)) = (rows.set k (r.take off ++ (vals ++ r.drop (off + n)))).flatten ∧ k * sz + off + n ≤ rows.flatten.length
  | [], _, _, _, _, _, h, _, _, _ => by simp at h
  | q :: rs, 0, r, vals, off, n, h, hs, hn, hv => by
    have hq := hs q List.mem_cons_self
    simp only [List.getElem?_cons_zero, Option.some.injEq] at h
    subst h
    simp only [Nat.zero_mul, Nat.zero_add, List.flatten_cons, List.set_cons_zero, List.length_append]
    refine ⟨?_, by omega⟩
    rw [List.take_append_of_le_length (by omega), List.drop_append_of_le_length (by omega)]
    simp only [List.append_assoc]
  | q :: rs, k + 1, r, vals, off, n, h, hs, hn, hv => by
    have hq := hs q List.mem_cons_self
    simp only [List.getElem?_cons_succ] at h
    obtain ⟨h1, h2⟩ := Qk2 rs k r vals off n h (fun q hq => hs q (List.mem_cons_of_mem _ hq)) hn hv
    have e1 : (k + 1) * sz + off = q.length + (k * sz + off) := by rw [hq, Nat.add_mul]; omega
    have e2 : (k + 1) * sz + off + n = q.length + (k * sz + off + n) := by rw [hq, Nat.add_mul]; omega
    simp only [List.flatten_cons, List.set_cons_succ, List.length_append]
    refine ⟨?_, by omega⟩
    rw [e2, e1, List.take_length_add_append, List.drop_length_add_append, ← h1]
    simp only [List.append_assoc]
def stE (id sz ro : Nat) (gr : Bool) (cells : List PV) (n : Nat) (at_ : Nat) (x : PV) : Option Eff := Qah (look [(id, ⟨sz, ro, gr, cells⟩)]) n (.bx id at_) x
theorem Q15i (id sz : Nat) (gr : Bool) (cells : List PV) (rows rows' : List (List PV)) (n k off at_ : Nat) (r : List PV) (x : PV) (hc : cells = rows.flatten) (ha : at_ = k * sz + off) (hr : rows[k]? = some r) (hs : ∀ r ∈ rows, r.length = sz) (hn : off + n ≤ sz) (hx : x.cs.length = n) (hf : x.fits = true) (hrows : rows' = rows.set k (r.take off ++ (x.cs ++ r.drop (off + n)))) :
    stE id sz 0 gr cells n at_ x = some ⟨.un, [(id, some ⟨sz, 0, gr, rows'.flatten⟩)], [id]⟩ := by
  subst hc ha hrows
  obtain ⟨h1, h2⟩ := Qk2 rows k r x.cs off n hr hs hn hx
  unfold stE Qah
  simp only [look, Nat.beq_refl, cond_true, Option.bind_some]
  rw [hx, hf, Nat.beq_refl, Nat.ble_eq_true_of_le h2, Nat.ble_eq_true_of_le (Nat.zero_le _), h1]
  rfl
theorem Q2h {α : Type} (f : α → List PV) (l : List α) (k : Nat) (x : α) : (l.set k x).map f = (l.map f).set k (f x) := List.map_set
theorem Q50 {α : Type} {l : List α} {n : Nat} (h : l.length = n) (k : Nat) (x : α) : (l.set k x).length = n := by rw [List.length_set, h]
end Go.Pv
end

section
/- A walk's hints and answers, each with its proof. -/
namespace Go.Pv
structure It where
  hint : Option (Nat × (Eff × Views))
  p : Prop
  pf : p
def hsOf : List It → Q6i
  | [] => []
  | x :: r => (match x.hint with | some h => h :: hsOf r | none => hsOf r)
def owOf : List It → List Prop
  | [] => []
  | x :: r => x.p :: owOf r
theorem Q19i : ∀ l : List It, Met (owOf l)
  | [] => Met.nil
  | x :: r => Met.cons x.pf (Q19i r)
structure An (G : Nat → Option Fun) where
  e : En
  r : Rs
  vw : Views
  pf : Q6 G e r
def asOf {G : Nat → Option Fun} : List (An G) → List Ans
  | [] => []
  | x :: r => ⟨x.r, x.vw⟩ :: asOf r
def akOf {G : Nat → Option Fun} : List (An G) → Q9y
  | [] => []
  | x :: r => (x.e, x.r) :: akOf r
theorem Q10b {G : Nat → Option Fun} : ∀ l : List (An G), Told G (akOf l)
  | [] => Told.nil
  | x :: r => Told.cons x.pf (Q10b r)
def hB {c v : Bool} (n : Nat) (h : c = v) : It := ⟨some (n, (bE v, [])), some (bE c) = some (bE v), dec c v h⟩
def hP {x : Option Eff} {y : Eff} (n : Nat) (h : x = some y) : It := ⟨some (n, (y, [])), x = some y, h⟩
def hV {x : Option Eff} {y : Eff} (n : Nat) (vw : Views) (h : x = some y) : It := ⟨some (n, (y, vw)), x = some y, h⟩
def hQ {p : Prop} (h : p) : It := ⟨none, p, h⟩
def aN {G : Nat → Option Fun} {e : En} {r : Rs} (h : Q6 G e r) : An G := ⟨e, r, [], h⟩
def aV {G : Nat → Option Fun} {e : En} {r : Rs} (vw : Views) (h : Q6 G e r) : An G := ⟨e, r, vw, h⟩
def aB {G : Nat → Option Fun} {e : En} {c v : Bool} (h : Q6 G e (.ret (.bool c) [])) (hc : c = v) : An G := ⟨e, .ret (.bool v) [], [], hc ▸ h⟩
theorem vk1 {sz ro : Nat} {gr : Bool} {cells : List PV} {rows : List (List PV)} (h : ViewOK sz cells rows) : VOK (look (number 0 [⟨sz, ro, gr, cells⟩])) [(0, rows)] := VOK.cons (show Seen _ _ from Q3j (ob := ⟨sz, ro, gr, cells⟩) h) VOK.nil
theorem Qb {G : Nat → Option Fun} {f : Nat} {fn : IFn} (hG : G f = some (.ir fn)) {args : List PV} {h : List Ob} {vw : Views} (hv : VOK (look (number 0 h)) vw) {r : Rs} (l : List It) (q : List (An G)) (ht : Q1bg fn args h vw (hsOf l) (asOf q) = some (r, owOf l, akOf q)) : Q6 G (.call f args h) r := Q1bq hG hv (Q19i l) (Q10b q) ht
theorem Qk {G : Nat → Option Fun} {m : Nat} {live : List Nat} {b : IR} {env : List PV} {h : List Ob} {vw : Views} (hv : VOK (look (number 0 h)) vw) {y : List PV × List Ob} {r : Rs} (l : List It) (q : List (An G)) (ht : Q1cs m live b env h vw (hsOf l) (asOf q) = some (y, owOf l, akOf q)) (hr : Q6 G (.loop m live b y.1 y.2) r) : Q6 G (.loop m live b env h) r := Qwu hv (Q19i l) (Q10b q) ht hr
theorem Qg {G : Nat → Option Fun} {m : Nat} {live : List Nat} {b : IR} {env : List PV} {h : List Ob} {vw : Views} (hv : VOK (look (number 0 h)) vw) {x : Ex × St} (l : List It) (q : List (An G)) (ht : Q15g m b env h vw (hsOf l) (asOf q) = some (x, owOf l, akOf q)) : Q6 G (.loop m live b env h) (.st x.1 x.2) := Q120 hv (Q19i l) (Q10b q) ht
end Go.Pv
namespace Go.Pv
def hS {sz : Nat} {cells : List PV} {rows : List (List PV)} (ro : Nat) (gr : Bool) (h : ViewOK sz cells rows) : It := hQ (Q3j (ob := ⟨sz, ro, gr, cells⟩) h)
end Go.Pv
end

section
/-
  What a law is handed, as plain Lean values.
-/
namespace Go.Pv
def okI (k : IntKind) (n : Int) : Prop := (Lit.int k n).wf = true
def Q34 (n : Int) : Prop := -9223372036854775808 ≤ n ∧ n ≤ 9223372036854775807
def okU8 (n : Int) : Prop := 0 ≤ n ∧ n ≤ 255
theorem okI.i64 {n : Int} (h : okI .i64 n) : Q34 n := by
  unfold okI at h
  simp [Lit.wf, IntKind.min, IntKind.max, IntKind.signed, IntKind.bits] at h
  exact h
theorem okI.u8 {n : Int} (h : okI .u8 n) : okU8 n := by
  unfold okI at h
  simp [Lit.wf, IntKind.min, IntKind.max, IntKind.signed, IntKind.bits] at h
  unfold okU8
  omega
def okS (s : ByteArray) : Prop := s.size ≤ 140737488351232
def okL {α : Type} (bytes : Nat) (ok : α → Prop) (l : List α) : Prop := l.length * bytes ≤ 140737488351232 ∧ ∀ x ∈ l, ok x
section
variable {Γ : Nat → Option Ty}
theorem OfL.Qr {f : Ty} {fs : List Ty} {c : List PV} (h : OfL Γ (f :: fs) c) : ∃ a b, c = a ++ b ∧ Of Γ f a ∧ OfL Γ fs b := by
  cases h with
  | cons _ _ a b h1 h2 => exact ⟨a, b, rfl, h1, h2⟩
theorem OfL.empty {c : List PV} (h : OfL Γ [] c) : c = [] := by cases h; rfl
theorem Of.str1 {c : List PV} (h : Of Γ .str c) : ∃ s, c = [.str s] ∧ okS s := by
  cases h with
  | str s h => exact ⟨s, rfl, h⟩
theorem Of.Q1hs {c : List PV} (h : Of Γ .bool c) : ∃ b, c = [.bool b] := by
  cases h with
  | bool b => exact ⟨b, rfl⟩
theorem Of.bool2 {c : List PV} (h : Of Γ .bool c) : ∃ b, c = [.bool b] ∧ True := by
  obtain ⟨b, hb⟩ := h.Q1hs
  exact ⟨b, hb, trivial⟩
theorem Of.int1 {k : IntKind} {c : List PV} (h : Of Γ (.int k) c) : ∃ n, c = [.int k n] ∧ okI k n := by
  cases h with
  | int _ n h => exact ⟨n, rfl, h⟩
theorem Of.i64 {c : List PV} (h : Of Γ (.int .i64) c) : ∃ n, c = [.int .i64 n] ∧ Q34 n := by
  obtain ⟨n, h1, h2⟩ := h.int1
  exact ⟨n, h1, h2.i64⟩
theorem Of.u8 {c : List PV} (h : Of Γ (.int .u8) c) : ∃ n, c = [.int .u8 n] ∧ okU8 n := by
  obtain ⟨n, h1, h2⟩ := h.int1
  exact ⟨n, h1, h2.u8⟩
theorem Of.st1 {fs : List Ty} {c : List PV} (h : Of Γ (.st fs) c) : OfL Γ fs c := by
  cases h with
  | st _ _ h => exact h
theorem Qij {α : Type} {f : α → List PV} {ok : α → Prop} : ∀ (l : List (List PV)), (∀ r ∈ l, ∃ x, r = f x ∧ ok x) → ∃ xs : List α, l = xs.map f ∧ ∀ x ∈ xs, ok x
  | [], _ => ⟨[], rfl, fun _ h => absurd h List.not_mem_nil⟩
  | r :: rs, h => by
    obtain ⟨x, hx, hok⟩ := h r List.mem_cons_self
    obtain ⟨xs, hxs, hoks⟩ := Qij rs (fun q hq => h q (List.mem_cons_of_mem _ hq))
    refine ⟨x :: xs, by rw [hx, hxs]; rfl, fun y hy => ?_⟩
    rcases List.mem_cons.1 hy with rfl | hy
    · exact hok
    · exact hoks y hy
theorem Of.sl1 {bytes : Nat} {e : Ty} {c : List PV} {α : Type} {f : α → List PV} {ok : α → Prop} (h : Of Γ (.sl bytes e) c) (he : ∀ r, Of Γ e r → ∃ x, r = f x ∧ ok x) : ∃ xs : List α, c = [.sl (xs.map f)] ∧ okL bytes ok xs := by
  cases h with
  | sl _ _ l h hl =>
    obtain ⟨xs, rfl, hok⟩ := Qij l (fun r hr => he r (hl r hr))
    exact ⟨xs, rfl, by simpa using h, hok⟩
theorem Arg.one {ty : Ty} {p : PV} (h : Arg Γ ty p) (hs : ty.isSt Γ = false) : Of Γ ty [p] := by
  obtain ⟨c, hc, hp⟩ := h
  rw [hs] at hp
  have hp : c = [p] := hp
  subst hp
  exact hc
theorem Arg.agg {ty : Ty} {p : PV} (h : Arg Γ ty p) (hs : ty.isSt Γ = true) : ∃ c, p = .agg c ∧ Of Γ ty c := by
  obtain ⟨c, hc, hp⟩ := h
  rw [hs] at hp
  exact ⟨c, hp, hc⟩
end
end Go.Pv
end

section
/-
  Strings: equality and order.
-/
namespace Go.Pv
theorem Qxe (b : ByteArray) : ∀ (n i : Nat) (acc : List UInt8), b.size - i = n → ByteArray.toList.loop b i acc = acc.reverse ++ b.data.toList.drop i := by
  intro n
  induction n with
  | zero =>
    intro i acc h
    unfold ByteArray.toList.loop
    have h1 : ¬ i < b.size := by omega
    rw [if_neg h1]
    have : b.data.toList.drop i = [] := by
      rw [List.drop_eq_nil_iff]
      have : b.data.toList.length = b.size := Array.length_toList
      omega
    rw [this, List.append_nil]
  | succ n ih =>
    intro i acc h
    unfold ByteArray.toList.loop
    have h1 : i < b.size := by omega
    rw [if_pos h1, ih (i + 1) _ (by omega)]
    have hl : i < b.data.toList.length := by rw [show b.data.toList.length = b.size from Array.length_toList]; exact h1
    rw [List.drop_eq_getElem_cons hl, List.reverse_cons, List.append_assoc]
    congr 1
    simp only [List.singleton_append, List.cons.injEq, and_true]
    have : b.data.size = b.size := rfl
    simp [ByteArray.get!, h1, this]
theorem toList_data (b : ByteArray) : b.toList = b.data.toList := by
  unfold ByteArray.toList
  rw [Qxe b _ 0 [] rfl]
  simp
theorem toList_inj {a b : ByteArray} (h : a.toList = b.toList) : a = b := by
  rw [toList_data, toList_data] at h
  cases a
  cases b
  simp at h
  rw [h]
theorem Q8z {a b : ByteArray} : sEq a b = true ↔ a = b := by
  unfold sEq
  rw [beq_iff_eq]
  exact ⟨toList_inj, fun h => by rw [h]⟩
theorem Q9f (a : ByteArray) : sEq a a = true := Q8z.2 rfl
mutual
inductive Val where
  | mk (kind n : Int) (s : ByteArray) (list : List Val) (fields : List Fld)
inductive Fld where
  | mk (name : ByteArray) (v : Val)
end
def Val.kind : Val → Int
  | .mk k _ _ _ _ => k
def Val.n : Val → Int
  | .mk _ n _ _ _ => n
def Val.s : Val → ByteArray
  | .mk _ _ s _ _ => s
def Val.list : Val → List Val
  | .mk _ _ _ l _ => l
def Val.fields : Val → List Fld
  | .mk _ _ _ _ f => f
def Fld.name : Fld → ByteArray
  | .mk n _ => n
def Fld.v : Fld → Val
  | .mk _ v => v
mutual
def Val.cs : Val → List PV
  | .mk k n s l f => [.int .i64 k, .int .i64 n, .str s, .sl (Val.css l), .sl (Fld.css f)]
def Val.css : List Val → List (List PV)
  | [] => []
  | v :: r => v.cs :: Val.css r
def Fld.css : List Fld → List (List PV)
  | [] => []
  | f :: r => f.cs :: Fld.css r
def Fld.cs : Fld → List PV
  | .mk n v => .str n :: v.cs
end
def Val.rows (l : List Val) : List (List PV) := Val.css l
def Fld.rows (l : List Fld) : List (List PV) := Fld.css l
def Val.cells (v : Val) : List PV := [.int .i64 v.kind, .int .i64 v.n, .str v.s, .sl (Val.rows v.list), .sl (Fld.rows v.fields)]
def Fld.cells (f : Fld) : List PV := [.str f.name, .int .i64 f.v.kind, .int .i64 f.v.n, .str f.v.s, .sl (Val.rows f.v.list), .sl (Fld.rows f.v.fields)]
theorem Val.Q1bf (v : Val) : v.cs = v.cells := by cases v; rfl
theorem Fld.Q1bf (f : Fld) : f.cs = f.cells := by
  cases f with
  | mk n v => cases v; rfl
theorem Val.Qy : Val.rows [] = [] := rfl
theorem Fld.Qy : Fld.rows [] = [] := rfl
theorem Val.Qo (v : Val) (l : List Val) : Val.rows (v :: l) = v.cells :: Val.rows l := by
  rw [← Val.Q1bf]
  rfl
theorem Fld.Qo (v : Fld) (l : List Fld) : Fld.rows (v :: l) = v.cells :: Fld.rows l := by
  rw [← Fld.Q1bf]
  rfl
theorem Val.Q4r : ∀ l : List Val, Val.rows l = l.map Val.cells
  | [] => rfl
  | v :: r => by rw [Val.Qo, Val.Q4r r]; rfl
theorem Fld.Q4r : ∀ l : List Fld, Fld.rows l = l.map Fld.cells
  | [] => rfl
  | v :: r => by rw [Fld.Qo, Fld.Q4r r]; rfl
theorem Val.Q5 (l : List Val) : (Val.rows l).length = l.length := by simp [Val.Q4r]
theorem Fld.Q5 (l : List Fld) : (Fld.rows l).length = l.length := by simp [Fld.Q4r]
theorem Val.Qa {l : List Val} {i : Nat} {x : Val} (h : l[i]? = some x) : (Val.rows l)[i]? = some (Val.cells x) := by rw [Val.Q4r]; exact Go.Pv.Qa h
theorem Fld.Qa {l : List Fld} {i : Nat} {x : Fld} (h : l[i]? = some x) : (Fld.rows l)[i]? = some (Fld.cells x) := by rw [Fld.Q4r]; exact Go.Pv.Qa h
theorem Val.Q15 (l : List Val) (x : Val) : Val.rows (l ++ [x]) = Val.rows l ++ [Val.cells x] := by simp [Val.Q4r]
theorem Fld.Q15 (l : List Fld) (x : Fld) : Fld.rows (l ++ [x]) = Fld.rows l ++ [Fld.cells x] := by simp [Fld.Q4r]
theorem Val.Qi (l : List Val) : ∀ r ∈ Val.rows l, r.length = 5 := by rw [Val.Q4r]; exact Q2l (f := Val.cells) (fun _ => rfl) l
theorem Fld.Qi (l : List Fld) : ∀ r ∈ Fld.rows l, r.length = 6 := by rw [Fld.Q4r]; exact Q2l (f := Fld.cells) (fun _ => rfl) l
theorem Val.Q7 (l : List Val) (sz : Nat) (h : sz = 5) : ViewOK sz (Val.rows l).flatten (Val.rows l) := by subst h; exact ⟨rfl, Val.Qi l, by rw [Val.Q4r]; exact Q21 (f := Val.cells) (fun _ => rfl) l⟩
theorem Fld.Q7 (l : List Fld) (sz : Nat) (h : sz = 6) : ViewOK sz (Fld.rows l).flatten (Fld.rows l) := by subst h; exact ⟨rfl, Fld.Qi l, by rw [Fld.Q4r]; exact Q21 (f := Fld.cells) (fun _ => rfl) l⟩
theorem Val.Q8m (v : Val) : SizeOf.sizeOf v.list < SizeOf.sizeOf v := by
  cases v with
  | mk k n s l f => simp only [Val.list, Val.mk.sizeOf_spec]; omega
theorem Val.Q5g (v : Val) : SizeOf.sizeOf v.fields < SizeOf.sizeOf v := by
  cases v with
  | mk k n s l f => simp only [Val.fields, Val.mk.sizeOf_spec]; omega
theorem Fld.lt_v (f : Fld) : SizeOf.sizeOf f.v < SizeOf.sizeOf f := by
  cases f with
  | mk n v => simp only [Fld.v, Fld.mk.sizeOf_spec]; omega
theorem szL {v x : Val} {i : Nat} (h : v.list[i]? = some x) : SizeOf.sizeOf x < SizeOf.sizeOf v :=
  Nat.lt_trans (List.sizeOf_lt_of_mem (Q29 h)) v.Q8m
theorem szF {v : Val} {x : Fld} {i : Nat} (h : v.fields[i]? = some x) : SizeOf.sizeOf x.v < SizeOf.sizeOf v :=
  Nat.lt_trans x.lt_v (Nat.lt_trans (List.sizeOf_lt_of_mem (Q29 h)) v.Q5g)
inductive Val.Sm (B : Nat) : Val → Prop
  | mk (v : Val) (hl : v.list.length ≤ B) (hf : v.fields.length ≤ B) (sl : ∀ x ∈ v.list, Val.Sm B x) (sf : ∀ x ∈ v.fields, Val.Sm B x.v) : Val.Sm B v
theorem Val.Sm.all {B : Nat} {v : Val} (h : Val.Sm B v) : v.list.length ≤ B ∧ v.fields.length ≤ B ∧ (∀ x ∈ v.list, Val.Sm B x) ∧ (∀ x ∈ v.fields, Val.Sm B x.v) := by
  cases h with
  | mk _ h1 h2 h3 h4 => exact ⟨h1, h2, h3, h4⟩
theorem Val.Sm.mono {B C : Nat} (hb : B ≤ C) {v : Val} (h : Val.Sm B v) : Val.Sm C v := by
  induction h with
  | mk v h1 h2 _ _ i1 i2 => exact .mk v (by omega) (by omega) i1 i2
theorem Val.Sm.leaf {B : Nat} (k n : Int) (s : ByteArray) : Val.Sm B (.mk k n s [] []) := .mk _ (Nat.zero_le _) (Nat.zero_le _) (fun _ h => by cases h) (fun _ h => by cases h)
theorem Val.Sm.getD {B : Nat} {l : List Val} (h : ∀ x ∈ l, Val.Sm B x) (i : Nat) (k n : Int) (s : ByteArray) : Val.Sm B (l.getD i (.mk k n s [] [])) := by
  by_cases c : i < l.length
  · have := Q2b l i (.mk k n s [] []) c
    exact h _ (Q29 this)
  · rw [List.getD_eq_getElem?_getD, List.getElem?_eq_none (by omega)]
    exact .leaf k n s
inductive Qax : Val → Prop
  | mk (v : Val) (h1 : Q34 v.kind) (h2 : Q34 v.n) (h3 : okS v.s) (hl : v.list.length * 80 ≤ 140737488351232) (hf : v.fields.length * 96 ≤ 140737488351232) (sl : ∀ x ∈ v.list, Qax x) (sn : ∀ x ∈ v.fields, okS x.name) (sf : ∀ x ∈ v.fields, Qax x.v) : Qax v
theorem Qax.all {v : Val} (h : Qax v) : Q34 v.kind ∧ Q34 v.n ∧ okS v.s ∧ v.list.length * 80 ≤ 140737488351232 ∧ v.fields.length * 96 ≤ 140737488351232 ∧ (∀ x ∈ v.list, Qax x) ∧ (∀ x ∈ v.fields, okS x.name ∧ Qax x.v) := by
  cases h with
  | mk _ a b c d e f n g => exact ⟨a, b, c, d, e, f, fun x hx => ⟨n x hx, g x hx⟩⟩
theorem Qax.sm {v : Val} (h : Qax v) : Val.Sm 4611686018427387904 v := by
  induction h with
  | mk v _ _ _ hl hf _ _ _ i1 i2 => exact .mk v (by omega) (by omega) i1 i2
def Qxu (t : Nat) : Ty := .st [.int .i64, .int .i64, .str, .sl 80 (.nm t), .sl 96 (.st [.str, .nm t])]
theorem Q9z {α : Type} [SizeOf α] (x : α) (r : List α) : SizeOf.sizeOf x < SizeOf.sizeOf (x :: r) := by
  simp only [List.cons.sizeOf_spec]
  omega
theorem Qcg {α : Type} [SizeOf α] (x : α) (r : List α) : SizeOf.sizeOf r < SizeOf.sizeOf (x :: r) := by
  simp only [List.cons.sizeOf_spec]
  omega
theorem Q9j (x : Fld) (r : List Fld) : SizeOf.sizeOf x.v < SizeOf.sizeOf (x :: r) := Nat.lt_trans x.lt_v (Q9z x r)
def gam (t : Nat) : Nat → Option Ty := fun k => bif Nat.beq k t then some (Qxu t) else none
theorem gam_tab {P : Program} {t : Nat} (h : Qa5 P (gam t) (Qxu t) t = true) : TabOK P (gam t) := by
  intro k ty hk
  unfold gam at hk
  cases c : Nat.beq k t with
  | false => rw [c] at hk; cases hk
  | true =>
    rw [c] at hk
    simp only [cond_true, Option.some.injEq] at hk
    subst hk
    rw [Nat.eq_of_beq_eq_true c]
    exact ⟨rfl, h⟩
end Go.Pv
namespace Go.Pv
theorem Q3v {G : Nat → Option Fun} {e e' : En} {r : Rs} (h : Q6 G e r) (he : e = e') : Q6 G e' r := he ▸ h
end Go.Pv
end

section
/- Strings byte by byte; rows that are cloned. -/
namespace Go.Pv
theorem Qp1 : ∀ p, plain p = true → bare p = true := fun p h => by cases p <;> first | rfl | (cases h)
theorem Q7k {G : Nat → Option Fun} {f sz bytes : Nat} (hG : G f = some (.ax (Qjf sz bytes))) {rows : List (List PV)} {n : Nat} (hn : rows.length = n) (hv : ViewOK sz rows.flatten rows) (hb : n * bytes ≤ 140737488355328) :
    Q6 G (.call f [.sl rows] []) (.ret (.ms 0 sz 0 n) [⟨sz, 0, true, rows.flatten⟩]) := by
  refine ⟨1, ?_⟩
  subst hn
  simp only [runs, phi, hG, Qjf]
  have h1 : Q63 rows sz = true := Qtt hv.size
  have h2 : rows.flatten.all bare = true := List.all_eq_true.2 fun p hp => Qp1 p (hv.all p hp)
  rw [h1, h2, Nat.ble_eq_true_of_le hb]
  rfl
theorem Q6m {G : Nat → Option Fun} {f sz bytes : Nat} (hG : G f = some (.ax (Qla sz bytes))) {rows : List (List PV)} {n : Nat} (hn : rows.length = n) (hv : ViewOK sz rows.flatten rows) (hb : n * bytes ≤ 140737488355328) :
    Q6 G (.call f [.sl rows] []) (.ret (.sl rows) []) := by
  refine ⟨1, ?_⟩
  subst hn
  simp only [runs, phi, hG, Qla]
  have h1 : Q63 rows sz = true := Qtt hv.size
  have h2 : rows.flatten.all bare = true := List.all_eq_true.2 fun p hp => Qp1 p (hv.all p hp)
  rw [h1, h2, Nat.ble_eq_true_of_le hb]
  rfl
end Go.Pv
namespace Go.Pv
theorem szM {v x : Val} (h : x ∈ v.list) : SizeOf.sizeOf x < SizeOf.sizeOf v := Nat.lt_trans (List.sizeOf_lt_of_mem h) v.Q8m
theorem szN {v : Val} {x : Fld} (h : x ∈ v.fields) : SizeOf.sizeOf x.v < SizeOf.sizeOf v := Nat.lt_trans x.lt_v (Nat.lt_trans (List.sizeOf_lt_of_mem h) v.Q5g)
end Go.Pv
end

section
/- Arrays of bools, asked at an index of a loop. -/
namespace Go.Pv
def zr (z : Nat → PV) (i : Nat) : Nat → List PV
  | 0 => []
  | k + 1 => z i :: zr z (i + 1) k
end Go.Pv
end

section
/-
  What a law is handed, where its bulk is bounded: nothing within is longer.
-/
namespace Go.Pv
open Go.RowKit
inductive Cap (N : Nat) : PV → Prop
  | bool (b : Bool) : Cap N (.bool b)
  | int (k : IntKind) (n : Int) : Cap N (.int k n)
  | str (s : ByteArray) (h : s.size ≤ N) : Cap N (.str s)
  | sl (l : List (List PV)) (h : l.length ≤ N) (hl : ∀ r ∈ l, ∀ p ∈ r, Cap N p) : Cap N (.sl l)
def CapL (N : Nat) (c : List PV) : Prop := ∀ p ∈ c, Cap N p
theorem CapL.one {N : Nat} {p : PV} (h : Cap N p) : CapL N [p] := fun q hq => by
  rw [List.mem_singleton] at hq
  subst hq
  exact h
inductive CapD {H : Type} (N : Nat) : DataW H → Prop
  | lit (l : Lit) (h : ∀ b, l = .string b → b.length ≤ N) : CapD N (.lit l)
  | agg (parts : List (DataW H)) (h : ∀ d ∈ parts, CapD N d) : CapD N (.agg parts)
  | slice (elems spare : List (DataW H)) (h : elems.length ≤ N) (hl : ∀ d ∈ elems, CapD N d) : CapD N (.slice elems spare)
  | nil : CapD N .nil
  | ptr (d : DataW H) : CapD N (.ptr d)
  | iface (t : String) (d : DataW H) : CapD N (.iface t d)
  | map (e : List (Lit × DataW H)) : CapD N (.map e)
  | held (h : H) : CapD N (.held h)
def ArgB (Γ : Nat → Option Ty) (N : Nat) (ty : Ty) (p : PV) : Prop := ∃ c, Of Γ ty c ∧ CapL N c ∧ (bif ty.isSt Γ then p = .agg c else c = [p])
def Q164 (Γ : Nat → Option Ty) (N : Nat) : List Ty → List PV → Prop
  | [], [] => True
  | t :: ts, p :: ps => ArgB Γ N t p ∧ Q164 Γ N ts ps
  | _, _ => False
section
variable {H : Type} {enc : TypeId × Value → H} {P : Program} {w : World} {base : Nat} {sp : Nat → Bool} {held : Bool} {Γ : Nat → Option Ty} {N : Nat}
theorem Qdi {n : Nat} {cs : List Value} (ih : ∀ (ty : Ty) (t : TypeId) (cs : List Value) (x : DataW H × List MemPlace), Qa5 P Γ ty t = true → DataW.trod enc P w base sp held n t cs = some x → Light P t x.1 → CapD N x.1 → ∃ c, RepN w NoM NoD cs c ∧ Of Γ ty c ∧ CapL N c) :
    ∀ (fs : List Ty) (gs : List Field) (off : Nat) (ys : List (DataW H × List MemPlace)), Qul P Γ fs gs off cs.length = true → ys.length = gs.length → (∀ (j : Nat) g, gs[j]? = some g → DataW.trod enc P w base sp held n g.type ((cs.drop g.offset).take (P.cellsOf g.type)) = ys[j]?) →
      (∀ (j : Nat) g y, gs[j]? = some g → ys[j]? = some y → Light P g.type y.1 ∧ CapD N y.1) → ∃ c, RepN w NoM NoD (cs.drop off) c ∧ OfL Γ fs c ∧ CapL N c
  | [], [], off, ys, hc, _, _, _ => by
    simp only [Qul] at hc
    have := Nat.eq_of_beq_eq_true hc
    refine ⟨[], ?_, .nil, fun p hp => absurd hp List.not_mem_nil⟩
    rw [this, List.drop_length]
    exact ⟨rfl, fun i v p h => by simp at h⟩
  | [], _ :: _, off, ys, hc, _, _, _ => by cases hc
  | _ :: _, [], off, ys, hc, _, _, _ => by cases hc
  | f :: fs, g :: gs, off, [], hc, hl, _, _ => by simp at hl
  | f :: fs, g :: gs, off, y :: ys, hc, hl, ht, hw => by
    simp only [Qul, Bool.and_eq_true] at hc
    have ho := Nat.eq_of_beq_eq_true hc.1.1
    have h0 := ht 0 g rfl
    simp only [List.getElem?_cons_zero] at h0
    obtain ⟨a, ha, hoa, hca⟩ := ih f g.type _ y hc.1.2 h0 (hw 0 g y rfl rfl).1 (hw 0 g y rfl rfl).2
    obtain ⟨b, hb, hob, hcb⟩ := Qdi ih fs gs (off + P.cellsOf g.type) ys hc.2 (by simpa using hl) (fun j g' hj => by have := ht (j + 1) g' (by simpa using hj); simpa using this) (fun j g' y' h1 h2 => hw (j + 1) g' y' (by simpa using h1) (by simpa using h2))
    refine ⟨a ++ b, ?_, .cons f fs a b hoa hob, fun p hp => (List.mem_append.1 hp).elim (hca p) (hcb p)⟩
    have : cs.drop off = (cs.drop off).take (P.cellsOf g.type) ++ cs.drop (off + P.cellsOf g.type) := by
      rw [← List.drop_drop]
      exact (List.take_append_drop _ _).symm
    rw [this]
    rw [ho] at ha
    exact ha.app hb
theorem Q19f (hΓ : TabOK P Γ) : ∀ (fuel : Nat) (ty : Ty) (t : TypeId) (cs : List Value) (x : DataW H × List MemPlace), Qa5 P Γ ty t = true → DataW.trod enc P w base sp held fuel t cs = some x → Light P t x.1 → CapD N x.1 → ∃ c, RepN w NoM NoD cs c ∧ Of Γ ty c ∧ CapL N c := by
  intro fuel
  induction fuel with
  | zero => intro ty t cs x _ h; simp [DataW.trod] at h
  | succ n ih =>
    have core : ∀ (ty : Ty) (t : TypeId) (cs : List Value) (x : DataW H × List MemPlace), ty.named = false → Qa5 P Γ ty t = true → DataW.trod enc P w base sp held (n + 1) t cs = some x → Light P t x.1 → CapD N x.1 → ∃ c, RepN w NoM NoD cs c ∧ Of Γ ty c ∧ CapL N c := by
      intro ty t cs x hn hc h hw hcd
      cases ty with
      | nm t' => cases hn
      | bool =>
        simp only [Qa5] at hc
        obtain ⟨b, rfl, rfl⟩ := DataW.trod_bool (Qbx hc) h
        exact ⟨_, .one rfl (.bool _ _), .bool b, CapL.one (.bool b)⟩
      | int k =>
        simp only [Qa5] at hc
        obtain ⟨m, rfl, rfl, hwf⟩ := DataW.trod_int (Qou hc) h
        exact ⟨_, .one rfl (.int _ _ _), .int k m hwf, CapL.one (.int k m)⟩
      | str =>
        simp only [Qa5] at hc
        obtain ⟨s, rfl, rfl, hs⟩ := DataW.trod_string (Q6e hc) h
        refine ⟨_, .one rfl (.str _ _), .str s ?_, CapL.one (.str s (by cases hcd with | lit _ h => simpa using h _ rfl))⟩
        simp only [Light, DataW.weights, List.all_cons, Bool.and_eq_true, decide_eq_true_eq] at hw
        have := hw.1
        unfold reachBytes at this
        simpa using this
      | sl bytes e =>
        simp only [Qa5] at hc
        split at hc
        · rename_i te hu
          rw [Bool.and_eq_true, Bool.and_eq_true] at hc
          have hby := Nat.eq_of_beq_eq_true hc.1.1
          have hsz := Nat.le_of_ble_eq_true hc.1.2
          rcases DataW.trod_slice hu h with ⟨rfl, rfl⟩ | ⟨a, len, cap, elems, rest, n', hn', rfl, rfl, hb, hl, hm, hlen, hel, _, _⟩
          · refine ⟨[.sl []], .one rfl (.sl _ _ _ _ 0 [] 0 0 (fun _ _ => default) rfl (Nat.le_refl _) (Nat.zero_le _) (fun r hr => absurd hr List.not_mem_nil) (fun h => by omega) (fun j r hj => by simp at hj) (fun j r hj => by simp at hj)), .sl _ _ [] (by simp) (fun r hr => absurd hr List.not_mem_nil), CapL.one (.sl [] (Nat.zero_le _) (fun r hr => absurd hr List.not_mem_nil))⟩
          · have hnn : n' = n := by omega
            subst hnn
            simp only [Light, DataW.weights, hu, List.all_cons, List.all_append, Bool.and_eq_true, decide_eq_true_eq, List.length_map] at hw
            obtain ⟨hw1, hw2, _⟩ := hw
            have hlight := Q15n hw2
            have hcap : elems.length ≤ N ∧ ∀ z ∈ elems, CapD N z.1 := by
              cases hcd with
              | slice _ _ h1 h2 => exact ⟨by simpa using h1, fun z hz => h2 _ (List.mem_map.2 ⟨z, hz, rfl⟩)⟩
            have each : ∀ i, i < len → ∃ r, (∃ ys, w.cells? base (a.add (i * P.cellsOf te)) (P.cellsOf te) = some ys ∧ RepN w NoM NoD ys r) ∧ Of Γ e r ∧ CapL N r := by
              intro i hi
              have h1 := hel i hi
              have hi' : i < elems.length := by omega
              rw [List.getElem?_eq_getElem hi'] at h1
              obtain ⟨ys, hy1, hy2⟩ := Option.bind_eq_some_iff.1 h1
              obtain ⟨r, hr, hor⟩ := ih e te ys _ hc.2 hy2 (hlight _ (List.mem_map.2 ⟨_, List.getElem_mem hi', rfl⟩)) (hcap.2 _ (List.getElem_mem hi'))
              exact ⟨r, ⟨ys, hy1, hr⟩, hor⟩
            obtain ⟨l, hll, hlq⟩ := Qje len each
            have hcellsz : ∀ i ys, i < len → w.cells? base (a.add (i * P.cellsOf te)) (P.cellsOf te) = some ys → ys.length = P.cellsOf te ∧ ∀ j, j < P.cellsOf te → w.cell? ((a.add (i * P.cellsOf te)).add j) = ys[j]? := by
              intro i ys _ hy
              have := World.cells?_some hy
              exact ⟨this.2.1, this.2.2⟩
            have hspot : 0 < len → a = ⟨a.block, a.off, none⟩ := by
              intro hpos
              obtain ⟨r, ⟨ys, hy, hr⟩, _⟩ := each 0 hpos
              obtain ⟨hyl, hyc⟩ := hcellsz 0 ys hpos hy
              have h0 := hyc 0 (by omega)
              rw [List.getElem?_eq_getElem (by omega)] at h0
              simp only [Nat.zero_mul, Addr.add, if_true] at h0
              obtain ⟨b, o, s⟩ := a
              cases s with
              | none => rfl
              | some s =>
                simp only [World.cell?] at h0
                split at h0 <;> simp at h0
            have hadd : ∀ i j, 0 < len → (a.add (i * P.cellsOf te)).add j = ⟨a.block, a.off + i * P.cellsOf te + j, none⟩ := by
              intro i j hpos
              rw [hspot hpos]
              unfold Addr.add
              by_cases h1 : i * P.cellsOf te = 0 <;> by_cases h2 : j = 0 <;> simp [h1, h2]
            refine ⟨[.sl l], .one rfl (.sl _ (some a) len cap (P.cellsOf te) l a.block a.off (fun j i => (w.cell? ⟨a.block, a.off + j * P.cellsOf te + i, none⟩).getD default) hll hl hm ?_ (fun hp => congrArg some (hspot hp)) ?_ ?_), .sl bytes e l ?_ ?_, CapL.one (.sl l (by rw [hll]; omega) (fun r hr => by
              obtain ⟨i, hi⟩ := List.getElem?_of_mem hr
              exact (hlq i r hi).2.2))⟩
            · intro r hr
              obtain ⟨i, hi⟩ := List.getElem?_of_mem hr
              have hil := (List.getElem?_eq_some_iff.1 hi).1
              obtain ⟨⟨ys, hy, hrn⟩, _⟩ := hlq i r hi
              rw [← hrn.1]
              exact (hcellsz i ys (by omega) hy).1
            · intro j r hj i p hi
              have hjl := (List.getElem?_eq_some_iff.1 hj).1
              have hil := (List.getElem?_eq_some_iff.1 hi).1
              obtain ⟨⟨ys, hy, hrn⟩, _⟩ := hlq j r hj
              obtain ⟨hyl, hyc⟩ := hcellsz j ys (by omega) hy
              have hiy : i < ys.length := by rw [hrn.1]; exact hil
              have := hyc i (by omega)
              rw [hadd j i (by omega), List.getElem?_eq_getElem hiy] at this
              refine ⟨fun h => h, by rw [this]; rfl, ?_⟩
              rw [this]
              exact (hrn.2 i _ p (List.getElem?_eq_getElem hiy) hi).1
            · intro j r hj i p hi
              have hjl := (List.getElem?_eq_some_iff.1 hj).1
              have hil := (List.getElem?_eq_some_iff.1 hi).1
              obtain ⟨⟨ys, hy, hrn⟩, _⟩ := hlq j r hj
              obtain ⟨hyl, hyc⟩ := hcellsz j ys (by omega) hy
              have hiy : i < ys.length := by rw [hrn.1]; exact hil
              have := hyc i (by omega)
              rw [hadd j i (by omega), List.getElem?_eq_getElem hiy] at this
              rw [this]
              exact (hrn.2 i _ p (List.getElem?_eq_getElem hiy) hi).2
            · rw [← hby, hll]
              unfold reachBytes at hw1
              have : len * P.bytesOf te ≤ (elems.length + rest.length) * P.bytesOf te := Nat.mul_le_mul_right _ (by omega)
              omega
            · intro r hr
              obtain ⟨i, hi⟩ := List.getElem?_of_mem hr
              exact (hlq i r hi).2.1
        · cases hc
      | st fs =>
        simp only [Qa5] at hc
        split at hc
        · rename_i gs hu
          obtain ⟨xs, n', hn', rfl, hl, hxl, hx⟩ := DataW.trod_struct hu h
          have hnn : n' = n := by omega
          subst hnn
          rw [← hl] at hc
          simp only [Light, DataW.weights, hu] at hw
          have hlight := Q12w hw
          have hcap : ∀ z ∈ xs, CapD N z.1 := by
            cases hcd with
            | agg _ h => exact fun z hz => h _ (List.mem_map.2 ⟨z, hz, rfl⟩)
          obtain ⟨c, hr, ho, hcc⟩ := Qdi ih fs gs.toList 0 xs hc (by simpa using hxl) (fun j g hj => hx j g (by simpa using hj)) (fun j g y hj hy => ⟨hlight j g.type y.1 (by simp [hj]) (by simp [hy]), hcap y (List.mem_of_getElem? hy)⟩)
          exact ⟨c, by simpa using hr, .st fs c ho, hcc⟩
        · cases hc
    intro ty t cs x hc h hw hcd
    cases hty : ty.named with
    | false => exact core ty t cs x hty hc h hw hcd
    | true =>
      cases ty with
      | nm t' =>
        simp only [Qa5, Bool.and_eq_true] at hc
        have := Nat.eq_of_beq_eq_true hc.1
        subst this
        obtain ⟨ty', hty'⟩ := Option.isSome_iff_exists.1 hc.2
        obtain ⟨h1, h2⟩ := hΓ _ _ hty'
        obtain ⟨c, hr, ho, hcc⟩ := core ty' t' cs x h1 h2 h hw hcd
        exact ⟨c, hr, .nm t' ty' c hty' ho, hcc⟩
      | _ => cases hty
theorem Q160 (hΓ : TabOK P Γ) {ty : Ty} {t : TypeId} (hc : Qa5 P Γ ty t = true) (hs : (match P.underlying t with | some (.struct _) => ty.isSt Γ | some (.array _ _) => false | _ => !(ty.isSt Γ)) = true) {r : Reach} {b0 : Nat} {v : Value} {d : DataW H} {ps : List MemPlace} (hval : Value.okWide P w r b0 t v) (h : DataW.Trod enc P w base sp held t v d ps) (hw : Light P t d) (hcd : CapD N d) :
    ∃ p, Rep w NoM NoD v p ∧ ArgB Γ N ty p := by
  obtain ⟨fuel, hf⟩ := h
  obtain ⟨c, hr, ho, hcc⟩ := Q19f hΓ fuel ty t _ _ hc hf hw hcd
  unfold Value.okWide at hval
  split at hs
  · rename_i fs hu
    rw [hu] at hval
    obtain ⟨cs, rfl, _, _⟩ := hval
    refine ⟨.agg c, .agg _ cs c (by simpa [Value.cells] using hr.1) (fun i v p hv hp => (hr.2 i v p (by simpa [Value.cells] using hv) hp).1) (fun i v p hv hp => (hr.2 i v p (by simpa [Value.cells] using hv) hp).2), c, ho, hcc, ?_⟩
    rw [hs]
    rfl
  · cases hs
  · rename_i hn1 hn2
    have hcell : Cell.okWide P w r b0 t v := by
      split at hval
      · rename_i fs hu; exact absurd hu (hn1 fs)
      · rename_i k e hu; exact absurd hu (hn2 k e)
      · exact hval
    have hone : v.oneCell' = true := by
      cases v with
      | agg cs => unfold Cell.okWide Cell.ok at hcell; split at hcell <;> simp_all
      | tuple cs => unfold Cell.okWide Cell.ok at hcell; split at hcell <;> simp_all
      | _ => rfl
    have hcs : v.cells.toList = [v] := by cases v <;> first | rfl | (cases hone)
    rw [hcs] at hr
    have hlen := hr.1
    cases c with
    | nil => simp at hlen
    | cons p rest =>
      have : rest = [] := List.eq_nil_of_length_eq_zero (by simpa using hlen.symm)
      subst this
      refine ⟨p, (hr.2 0 v p rfl rfl).2, [p], ho, hcc, ?_⟩
      have : ty.isSt Γ = false := by simpa using hs
      rw [this]
      rfl
theorem open_args2 (hΓ : TabOK P Γ) {r : Reach} {b0 : Nat} : ∀ {tys : List Ty} {ts : List TypeId} {vs : List Value} {ds : List (DataW H)} {ps : List MemPlace}, chkArgs P Γ tys ts = true → (∀ (j : Nat) t v, ts[j]? = some t → vs[j]? = some v → Value.okWide P w r b0 t v) → DataW.TrodAll enc P w base sp held ts vs ds ps →
    (DataW.weightsEach P ts ds).all (· ≤ reachBytes) = true → (∀ d ∈ ds, CapD N d) → ∃ qs, RepL w NoM NoD vs qs ∧ Q164 Γ N tys qs
  | [], [], vs, ds, ps, _, _, h, _, _ => by
    obtain ⟨rfl, rfl, rfl⟩ := ChangeShapes.trodAll_nil h
    exact ⟨[], RepL.nil _ _ _, trivial⟩
  | [], _ :: _, _, _, _, hc, _, _, _, _ => by cases hc
  | _ :: _, [], _, _, _, hc, _, _, _, _ => by cases hc
  | ty :: tys, t :: ts, vs, ds, ps, hc, hv, h, hw, hcd => by
    simp only [chkArgs, Bool.and_eq_true] at hc
    obtain ⟨v, vs', d, ds', p, q, rfl, rfl, rfl, h1, h2⟩ := ChangeShapes.trodAll_cons h
    simp only [DataW.weightsEach, List.all_append, Bool.and_eq_true] at hw
    obtain ⟨x, hx, hax⟩ := Q160 hΓ hc.1.1.1.1 hc.1.1.1.2 (hv 0 t v rfl rfl) h1 hw.1 (hcd _ List.mem_cons_self)
    obtain ⟨qs, hq, haq⟩ := open_args2 hΓ hc.2 (fun j t' v' h1 h2 => hv (j + 1) t' v' (by simpa using h1) (by simpa using h2)) h2 hw.2 (fun d' hd' => hcd d' (List.mem_cons_of_mem _ hd'))
    exact ⟨x :: qs, RepL.cons hx hq, hax, haq⟩
end
theorem ArgB.one {Γ : Nat → Option Ty} {N : Nat} {ty : Ty} {p : PV} (h : ArgB Γ N ty p) (hs : ty.isSt Γ = false) : Of Γ ty [p] ∧ CapL N [p] := by
  obtain ⟨c, hc, hb, hp⟩ := h
  rw [hs] at hp
  have hp : c = [p] := hp
  subst hp
  exact ⟨hc, hb⟩
theorem ArgB.agg {Γ : Nat → Option Ty} {N : Nat} {ty : Ty} {p : PV} (h : ArgB Γ N ty p) (hs : ty.isSt Γ = true) : ∃ c, p = .agg c ∧ Of Γ ty c ∧ CapL N c := by
  obtain ⟨c, hc, hb, hp⟩ := h
  rw [hs] at hp
  exact ⟨c, hp, hc, hb⟩
theorem Cap.strI {N : Nat} {s : ByteArray} (h : Cap N (.str s)) : s.size ≤ N := by
  cases h with
  | str _ h => exact h
theorem Cap.slI {N : Nat} {l : List (List PV)} (h : Cap N (.sl l)) : l.length ≤ N ∧ ∀ r ∈ l, CapL N r := by
  cases h with
  | sl _ h hl => exact ⟨h, hl⟩
theorem Cap.Q72 {N : Nat} {α : Type} {f : α → List PV} {l : List α} (h : Cap N (.sl (l.map f))) : l.length ≤ N ∧ ∀ x ∈ l, CapL N (f x) := by
  obtain ⟨h1, h2⟩ := h.slI
  exact ⟨by simpa using h1, fun x hx => h2 _ (List.mem_map.2 ⟨x, hx, rfl⟩)⟩
theorem law_callsB {P : Program} {G : Nat → Option Fun} (hm : P.follows .mixedOrders = true) (hT : Tie P G) {Γ : Nat → Option Ty} {N : Nat} {tys : List Ty} {f : Nat} (hpure : ∀ qs, Q164 Γ N tys qs → ∃ n, runs G n (.call f qs []) = some (.ret (.bool true) []))
    {W : World} {args : Array Value} (h : ∃ qs, RepL W NoM NoD args.toList qs ∧ Q164 Γ N tys qs) : Calls P f args W fun e W' => e = .returned (.bool true) ∧ Below W.heap.size W W' := by
  obtain ⟨qs, hq, ha⟩ := h
  obtain ⟨n, hn⟩ := hpure qs ha
  obtain ⟨_, hok⟩ := (Qox hm hT n).1 f qs [] _ _ hn
  have hnoM : ∀ b o, Mut NoD (hF []) NoM b o → NoM b o := by
    rintro b o (h | ⟨id, ob, h1, _⟩)
    · exact h
    · simp [hF] at h1
  refine (hok W NoD NoM args ⟨fun b o h => h.elim, Nat.le_refl _, fun id b h => (by cases h), fun id ob h => (by simp [hF] at h), fun i j a b k h => (by simp [hF] at h), fun id ob b o h => (by simp [hF] at h)⟩ (fun _ _ => rfl) (hq.mono fun v p h => h.to (fun b o _ h => hnoM b o h) (fun _ _ h => h))).mono ?_
  rintro e W' ⟨v, D', rfl, _, hk, _, _, _, _, hr⟩
  cases hr with
  | bool _ _ =>
    refine ⟨rfl, (hk.mono (M1 := fun _ _ => False) ?_).below⟩
    rintro b o _ ⟨id, ob, h1, _⟩
    simp [hF] at h1
end Go.Pv
end

section
/- What counting and comparing values compute (printed by a program). -/
namespace Go.Proofs.YtiflaadeikaghaaGreat
open Go.Pv
abbrev G : Nat → Option Fun := tabG Ir.table
abbrev Γ : Nat → Option Ty := gam 31
theorem Q18x (a b : ByteArray) : Q6 G (.call 152 [.str a, .str b] []) (.ret (.int .i64 (sCmp a b)) []) := ⟨1, by kernel_rfl⟩
mutual
def Qct (p0 : Val) (p1 : Int) : Int :=
 (Qbd p0 p0.fields 0 (Q9g p0 p0.list 0 (w64 ((w64 (p1 - 1)) - (ByteArray.size p0.s : Int)))))
termination_by SizeOf.sizeOf p0
decreasing_by all_goals first | exact Val.Q8m _ | exact Val.Q5g _ | exact Q9z _ _ | exact Qcg _ _ | exact Q9j _ _
def Q9g (p0 : Val) : List Val → Nat → Int → Int
 | [], _i0, v0_1 =>
  v0_1
 | x0 :: r0, i0, v0_1 =>
  bif (decide (0 ≤ v0_1)) then
   Q9g p0 r0 (i0 + 1) (Qct x0 v0_1)
  else
   v0_1
termination_by l => SizeOf.sizeOf l
decreasing_by all_goals first | exact Val.Q8m _ | exact Val.Q5g _ | exact Q9z _ _ | exact Qcg _ _ | exact Q9j _ _
def Qbd (p0 : Val) : List Fld → Nat → Int → Int
 | [], _i1, v1_1 =>
  v1_1
 | x1 :: r1, i1, v1_1 =>
  bif (decide (0 ≤ v1_1)) then
   Qbd p0 r1 (i1 + 1) (Qct x1.v (w64 (v1_1 - (ByteArray.size x1.name : Int))))
  else
   v1_1
termination_by l => SizeOf.sizeOf l
decreasing_by all_goals first | exact Val.Q8m _ | exact Val.Q5g _ | exact Q9z _ _ | exact Qcg _ _ | exact Q9j _ _
end
def Qw5 (_p0 : Val) (i0 : Nat) (v0_1 : Int) : List PV :=
  [.un, .int .i64 v0_1, .bx 0 0, .un, .un, .int .i64 (i0 : Int)] ++ nuns 53
def Quw (p0 : Val) (_i0 : Nat) (_v0_1 : Int) : List Ob :=
  [⟨5, 0, true, [.int .i64 p0.kind, .int .i64 p0.n, .str p0.s, .sl (Val.rows p0.list), .sl (Fld.rows p0.fields)]⟩]
def Qbj (p0 : Val) (i0 : Nat) (v0_1 : Int) : En := .loop 0 Ir.Qgt Ir.Q1a1 (Qw5 p0 i0 v0_1) (Quw p0 i0 v0_1)
def Qce (p0 : Val) (q0 : Int) (z : Nat → PV) (_zo : Nat → List PV) : St :=
  ⟨[z 0, .int .i64 q0, .bx 0 0] ++ zr z 3 56, [(0, ⟨5, 0, true, [.int .i64 p0.kind, .int .i64 p0.n, .str p0.s, .sl (Val.rows p0.list), .sl (Fld.rows p0.fields)]⟩)], 577⟩
def Qbn (p0 : Val) (e : En) (q : Int) : Prop := ∃ z zo, Q6 G e (.st (.exit 0) (Qce p0 q z zo))
theorem Qqt (p0 : Val) {e e' : En} (h : ∀ r, Q6 G e r → Q6 G e' r) : ∀ q, Qbn p0 e q → Qbn p0 e' q
  | _, ⟨z, zo, hz⟩ => ⟨z, zo, h _ hz⟩
def Qt6 (_p0 : Val) (i1 : Nat) (v1_1 : Int) : List PV :=
  [.un, .int .i64 v1_1, .bx 0 0, .un, .un, .un, .int .i64 (i1 : Int)] ++ nuns 52
def Qut (p0 : Val) (_i1 : Nat) (_v1_1 : Int) : List Ob :=
  [⟨5, 0, true, [.int .i64 p0.kind, .int .i64 p0.n, .str p0.s, .sl (Val.rows p0.list), .sl (Fld.rows p0.fields)]⟩]
def Qc0 (p0 : Val) (i1 : Nat) (v1_1 : Int) : En := .loop 0 Ir.Qj7 Ir.Q1a6 (Qt6 p0 i1 v1_1) (Qut p0 i1 v1_1)
def Qck (p0 : Val) (q0 : Int) (z : Nat → PV) (_zo : Nat → List PV) : St :=
  ⟨[z 0, .int .i64 q0] ++ zr z 2 57, [(0, ⟨5, 0, true, [.int .i64 p0.kind, .int .i64 p0.n, .str p0.s, .sl (Val.rows p0.list), .sl (Fld.rows p0.fields)]⟩)], 577⟩
def Qb3 (p0 : Val) (e : En) (q : Int) : Prop := ∃ z zo, Q6 G e (.st (.exit 2) (Qck p0 q z zo))
theorem Qq6 (p0 : Val) {e e' : En} (h : ∀ r, Q6 G e r → Q6 G e' r) : ∀ q, Qb3 p0 e q → Qb3 p0 e' q
  | _, ⟨z, zo, hz⟩ => ⟨z, zo, h _ hz⟩
def Q187 (p0 : Val) (p1 : Int) : En := .call 30 [.agg (Val.cells p0), .int .i64 p1] []
def Q16d (p0 : Val) (p1 : Int) : Rs := .ret (.int .i64 (Qct p0 p1)) []
abbrev Qv4 (p0 : Val) : Prop := Val.Sm 4611686018427387904 p0
def Q7t (p0 : Val) : Prop := ∀ (q : Val), SizeOf.sizeOf q < SizeOf.sizeOf p0 → ∀ (p1 : Int), Qv4 q → Q6 G (Q187 q p1) (Q16d q p1)
def Q9l (p0 : Val) : Prop := (List.length p0.list ≤ 4611686018427387904) ∧ (∀ x0 ∈ p0.list, Qv4 x0) ∧ True
def Q92 (p0 : Val) : Prop := (List.length p0.fields ≤ 4611686018427387904) ∧ (∀ x1 ∈ p0.fields, Qv4 x1.v) ∧ True
theorem Q105 (p0 : Val) (_p1 : Int) (H : Qv4 p0) : (Q9l p0) ∧ (Q92 p0) ∧ True := by
  obtain ⟨h1, h2, h3, h4⟩ := H.all
  simp only [Q9l, Q92]
  exact ⟨⟨h1, h3, trivial⟩, ⟨h2, h4, trivial⟩, trivial⟩
def Qov (p0 : Val) (i0 : Nat) (_v0_1 : Int) : List PV :=
  nuns 5 ++ [.int .i64 (i0 : Int)] ++ nuns 7 ++ [.int .i64 (i0 : Int), .bx 0 3, .sl (Val.rows p0.list), .int .i64 ((List.length p0.list) : Int), .bool false, .bool false, .tup [], .tup [], .bool false]
def Qh8 (_p0 : Val) (_i0 : Nat) (_v0_1 : Int) : List (Nat × List PV) :=
  []
theorem Q114 (p0 : Val) (_H : Q9l p0) (_rec : Q7t p0) (i0 : Nat) (v0_1 : Int) (hc0 : (decide ((i0 : Int) < ((List.length p0.list) : Int))) = false) : Qbn p0 (Qbj p0 i0 v0_1) v0_1 := by
 exact ⟨(envF (Qov p0 i0 v0_1)), (zoF (Qh8 p0 i0 v0_1)), Qg VOK.nil (x := ((.exit 0), Qce p0 v0_1 (envF (Qov p0 i0 v0_1)) (zoF (Qh8 p0 i0 v0_1)))) [hP 3 (Qe (Val.rows p0.list) (List.length p0.list) (Val.Q5 p0.list)), hB 0 hc0] [] (by kernel_rfl)⟩
theorem Q14c (p0 : Val) (H : Q9l p0) (rec : Q7t p0) (x0 : Val) (i0 : Nat) (v0_1 : Int) (hx0 : p0.list[i0]? = some x0) (hi0 : i0 < List.length p0.list) (hc0 : (decide ((i0 : Int) < ((List.length p0.list) : Int))) = true) (h0 : (decide (0 ≤ v0_1)) = true) {r : Rs} (hr : Q6 G (Qbj p0 (i0 + 1) (Qct x0 v0_1)) r) : Q6 G (Qbj p0 i0 v0_1) r := by
 have hB0 := H.1; have e0 := of_decide_eq_true h0
 exact Qk VOK.nil (y := (Qw5 p0 (i0 + 1) (Qct x0 v0_1), Quw p0 (i0 + 1) (Qct x0 v0_1))) [hP 3 (Qe (Val.rows p0.list) (List.length p0.list) (Val.Q5 p0.list)), hB 0 hc0, hB 2 h0, hP 4 (Q1f 5 (Val.rows p0.list) i0 _ (Val.Qa hx0) rfl), hP 5 (Q1y i0 (by omega))] [aN (rec x0 (szL hx0) v0_1 (H.2.1 x0 (Q29 hx0)))] (by kernel_rfl) hr
def Qow (p0 : Val) (i0 : Nat) (v0_1 : Int) (_x0 : Val) : List PV :=
  nuns 5 ++ [.int .i64 (i0 : Int)] ++ nuns 7 ++ [.int .i64 (i0 : Int), .bx 0 3, .sl (Val.rows p0.list), .int .i64 ((List.length p0.list) : Int), .bool true, .bool true, .int .i64 v0_1, .bool false, .bool false]
def Qht (_p0 : Val) (_i0 : Nat) (_v0_1 : Int) (_x0 : Val) : List (Nat × List PV) :=
  []
theorem Q135 (p0 : Val) (_H : Q9l p0) (_rec : Q7t p0) (x0 : Val) (i0 : Nat) (v0_1 : Int) (_hx0 : p0.list[i0]? = some x0) (_hi0 : i0 < List.length p0.list) (hc0 : (decide ((i0 : Int) < ((List.length p0.list) : Int))) = true) (h0 : (decide (0 ≤ v0_1)) = false) : Qbn p0 (Qbj p0 i0 v0_1) v0_1 := by
 exact ⟨(envF (Qow p0 i0 v0_1 x0)), (zoF (Qht p0 i0 v0_1 x0)), Qg VOK.nil (x := ((.exit 0), Qce p0 v0_1 (envF (Qow p0 i0 v0_1 x0)) (zoF (Qht p0 i0 v0_1 x0)))) [hP 3 (Qe (Val.rows p0.list) (List.length p0.list) (Val.Q5 p0.list)), hB 0 hc0, hB 2 h0] [] (by kernel_rfl)⟩
theorem Qtd (p0 : Val) (H : Q9l p0) (rec : Q7t p0) : ∀ (r0 : List Val) (i0 : Nat) (v0_1 : Int), List.drop i0 p0.list = r0 → Qbn p0 (Qbj p0 i0 v0_1) (Q9g p0 r0 i0 v0_1)
 | [], i0, v0_1, hd => by
  have hc0 : (decide ((i0 : Int) < ((List.length p0.list) : Int))) = false := by have := Q1b hd; simp; omega
  rw [Q9g]
  exact Q114 p0 H rec i0 v0_1 hc0
 | x0 :: r0, i0, v0_1, hd => by
  obtain ⟨hx0, hi0, hd'⟩ := Q14 hd
  have hc0 : (decide ((i0 : Int) < ((List.length p0.list) : Int))) = true := by simp; omega
  rw [Q9g]
  cases h0 : (decide (0 ≤ v0_1)) with
  | true =>
   exact Qqt p0 (fun r hr => Q14c p0 H rec x0 i0 v0_1 hx0 hi0 hc0 h0 hr) _ (Qtd p0 H rec r0 (i0 + 1) (Qct x0 v0_1) hd')
  | false =>
   exact Q135 p0 H rec x0 i0 v0_1 hx0 hi0 hc0 h0
def Qne (p0 : Val) (i1 : Nat) (_v1_1 : Int) : List PV :=
  [.un, .un, .bx 0 0, .un, .un, .un, .int .i64 (i1 : Int)] ++ nuns 24 ++ [.int .i64 (i1 : Int), .bx 0 4, .sl (Fld.rows p0.fields), .int .i64 ((List.length p0.fields) : Int), .bool false, .bool false, .tup [], .tup [], .bool false]
def Ql6 (_p0 : Val) (_i1 : Nat) (_v1_1 : Int) : List (Nat × List PV) :=
  []
theorem Q13f (p0 : Val) (_H : Q92 p0) (_rec : Q7t p0) (i1 : Nat) (v1_1 : Int) (hc1 : (decide ((i1 : Int) < ((List.length p0.fields) : Int))) = false) : Qb3 p0 (Qc0 p0 i1 v1_1) v1_1 := by
 exact ⟨(envF (Qne p0 i1 v1_1)), (zoF (Ql6 p0 i1 v1_1)), Qg VOK.nil (x := ((.exit 2), Qck p0 v1_1 (envF (Qne p0 i1 v1_1)) (zoF (Ql6 p0 i1 v1_1)))) [hP 3 (Qe (Fld.rows p0.fields) (List.length p0.fields) (Fld.Q5 p0.fields)), hB 0 hc1] [] (by kernel_rfl)⟩
theorem Q129 (p0 : Val) (H : Q92 p0) (rec : Q7t p0) (x1 : Fld) (i1 : Nat) (v1_1 : Int) (hx1 : p0.fields[i1]? = some x1) (hi1 : i1 < List.length p0.fields) (hc1 : (decide ((i1 : Int) < ((List.length p0.fields) : Int))) = true) (h0 : (decide (0 ≤ v1_1)) = true) {r : Rs} (hr : Q6 G (Qc0 p0 (i1 + 1) (Qct x1.v (w64 (v1_1 - (ByteArray.size x1.name : Int))))) r) : Q6 G (Qc0 p0 i1 v1_1) r := by
 have hB0 := H.1; have e0 := of_decide_eq_true h0
 exact Qk VOK.nil (y := (Qt6 p0 (i1 + 1) (Qct x1.v (w64 (v1_1 - (ByteArray.size x1.name : Int)))), Qut p0 (i1 + 1) (Qct x1.v (w64 (v1_1 - (ByteArray.size x1.name : Int)))))) [hP 3 (Qe (Fld.rows p0.fields) (List.length p0.fields) (Fld.Q5 p0.fields)), hB 0 hc1, hB 2 h0, hP 4 (Q1f 6 (Fld.rows p0.fields) i1 _ (Fld.Qa hx1) rfl), hP 6 (Q1f 6 (Fld.rows p0.fields) i1 _ (Fld.Qa hx1) rfl), hP 7 (Q1y i1 (by omega))] [aN (rec x1.v (szF hx1) (w64 (v1_1 - (ByteArray.size x1.name : Int))) (H.2.1 x1 (Q29 hx1)))] (by kernel_rfl) hr
def Qma (p0 : Val) (i1 : Nat) (v1_1 : Int) (_x1 : Fld) : List PV :=
  [.un, .un, .bx 0 0, .un, .un, .un, .int .i64 (i1 : Int)] ++ nuns 24 ++ [.int .i64 (i1 : Int), .bx 0 4, .sl (Fld.rows p0.fields), .int .i64 ((List.length p0.fields) : Int), .bool true, .bool true, .int .i64 v1_1, .bool false, .bool false]
def Qki (_p0 : Val) (_i1 : Nat) (_v1_1 : Int) (_x1 : Fld) : List (Nat × List PV) :=
  []
theorem Q13t (p0 : Val) (_H : Q92 p0) (_rec : Q7t p0) (x1 : Fld) (i1 : Nat) (v1_1 : Int) (_hx1 : p0.fields[i1]? = some x1) (_hi1 : i1 < List.length p0.fields) (hc1 : (decide ((i1 : Int) < ((List.length p0.fields) : Int))) = true) (h0 : (decide (0 ≤ v1_1)) = false) : Qb3 p0 (Qc0 p0 i1 v1_1) v1_1 := by
 exact ⟨(envF (Qma p0 i1 v1_1 x1)), (zoF (Qki p0 i1 v1_1 x1)), Qg VOK.nil (x := ((.exit 2), Qck p0 v1_1 (envF (Qma p0 i1 v1_1 x1)) (zoF (Qki p0 i1 v1_1 x1)))) [hP 3 (Qe (Fld.rows p0.fields) (List.length p0.fields) (Fld.Q5 p0.fields)), hB 0 hc1, hB 2 h0] [] (by kernel_rfl)⟩
theorem Qv8 (p0 : Val) (H : Q92 p0) (rec : Q7t p0) : ∀ (r1 : List Fld) (i1 : Nat) (v1_1 : Int), List.drop i1 p0.fields = r1 → Qb3 p0 (Qc0 p0 i1 v1_1) (Qbd p0 r1 i1 v1_1)
 | [], i1, v1_1, hd => by
  have hc1 : (decide ((i1 : Int) < ((List.length p0.fields) : Int))) = false := by have := Q1b hd; simp; omega
  rw [Qbd]
  exact Q13f p0 H rec i1 v1_1 hc1
 | x1 :: r1, i1, v1_1, hd => by
  obtain ⟨hx1, hi1, hd'⟩ := Q14 hd
  have hc1 : (decide ((i1 : Int) < ((List.length p0.fields) : Int))) = true := by simp; omega
  rw [Qbd]
  cases h0 : (decide (0 ≤ v1_1)) with
  | true =>
   exact Qq6 p0 (fun r hr => Q129 p0 H rec x1 i1 v1_1 hx1 hi1 hc1 h0 hr) _ (Qv8 p0 H rec r1 (i1 + 1) (Qct x1.v (w64 (v1_1 - (ByteArray.size x1.name : Int)))) hd')
  | false =>
   exact Q13t p0 H rec x1 i1 v1_1 hx1 hi1 hc1 h0
theorem Q1k7 (p0 : Val) (p1 : Int) (H : Qv4 p0) (rec : Q7t p0) : Q6 G (Q187 p0 p1) (Q16d p0 p1) := by
  unfold Q16d
  rw [Qct]
  have hl0 := Qtd p0 ((Q105 p0 p1 H).1) rec p0.list 0 (w64 ((w64 (p1 - 1)) - (ByteArray.size p0.s : Int))) (by simp)
  obtain ⟨z0, zo0, hl0⟩ := hl0
  have hl1 := Qv8 p0 ((Q105 p0 p1 H).2.1) rec p0.fields 0 (Q9g p0 p0.list 0 (w64 ((w64 (p1 - 1)) - (ByteArray.size p0.s : Int)))) (by simp)
  obtain ⟨z1, zo1, hl1⟩ := hl1
  exact Qb (fn := Ir.K28) rfl VOK.nil [] [aN hl0, aN hl1] (by kernel_rfl)
theorem Q1f1 : ∀ (k : Nat) (p0 : Val), SizeOf.sizeOf p0 < k → ∀ (p1 : Int), Qv4 p0 → Q6 G (Q187 p0 p1) (Q16d p0 p1)
  | 0, _, h, _, _ => absurd h (Nat.not_lt_zero _)
  | k + 1, p0, h, p1, H => Q1k7 p0 p1 H (fun q hq p1 hH => Q1f1 k q (by omega) p1 hH)
theorem Q1ii (p0 : Val) (p1 : Int) (H : Qv4 p0) : Q6 G (Q187 p0 p1) (Q16d p0 p1) := Q1f1 _ p0 (Nat.lt_succ_self _) p1 H
def Q12d (p0 : Val) (p1 : Int) : Bool :=
 (decide (0 ≤ (Qct p0 p1)))
def Q1gv (p0 : Val) (p1 : Int) : En := .call 9 [.agg (Val.cells p0), .int .i64 p1] []
def Q1fn (p0 : Val) (p1 : Int) : Rs := .ret (.bool (Q12d p0 p1)) []
def Q140 (p0 : Val) (_p1 : Int) : Prop := (Qv4 p0) ∧ True
theorem Q1ca (p0 : Val) (p1 : Int) (H : Q140 p0 p1) : Q6 G (Q1gv p0 p1) (Q1fn p0 p1) := by
 unfold Q1fn Q12d
 exact Qb (fn := Ir.K27) rfl VOK.nil [] [aN (Q1ii p0 p1 H.1)] (by kernel_rfl)
def Q1cp (p0 : ByteArray) (p1 : ByteArray) : Int :=
 (sCmp p0 p1)
def Q1jy (p0 : ByteArray) (p1 : ByteArray) : En := .call 135 [.str p0, .str p1] []
def Q1e7 (p0 : ByteArray) (p1 : ByteArray) : Rs := .ret (.int .i64 (Q1cp p0 p1)) []
theorem Q1le (p0 : ByteArray) (p1 : ByteArray) : Q6 G (Q1jy p0 p1) (Q1e7 p0 p1) := by
 unfold Q1e7 Q1cp
 exact Qb (fn := Ir.K3u) rfl VOK.nil [] [aN (Q18x p0 p1)] (by kernel_rfl)
inductive Qy0 where
  | k0
  | k1
inductive Qy9 where
  | k0
  | k1
abbrev zF : Fld := (Fld.mk (⟨#[]⟩ : ByteArray) (Val.mk 0 0 (⟨#[]⟩ : ByteArray) [] []))
mutual
def Q5n (p0 : Val) (p1 : Val) : Bool :=
 bif (p0.kind == p1.kind) then
  bif (p0.n == p1.n) then
   bif (sEq p0.s p1.s) then
    bif (((List.length p0.list) : Int) == ((List.length p1.list) : Int)) then
     bif (((List.length p0.fields) : Int) == ((List.length p1.fields) : Int)) then
      (match (Q5c p0 p1 p0.list 0) with
      | .k0 => (match (Q5d p0 p1 p0.fields 0) with
       | .k0 => true
       | .k1 => false)
      | .k1 => false)
     else
      false
    else
     false
   else
    false
  else
   false
 else
  false
termination_by SizeOf.sizeOf p0
decreasing_by all_goals first | exact Val.Q8m _ | exact Val.Q5g _ | exact Q9z _ _ | exact Qcg _ _ | exact Q9j _ _
def Q5c (p0 : Val) (p1 : Val) : List Val → Nat → Qy0
 | [], _i0 =>
  (.k0)
 | x0 :: r0, i0 =>
  bif (Q5n x0 (List.getD p1.list i0 (Val.mk 0 0 (⟨#[]⟩ : ByteArray) [] []))) then
   Q5c p0 p1 r0 (i0 + 1)
  else
   (.k1)
termination_by l => SizeOf.sizeOf l
decreasing_by all_goals first | exact Val.Q8m _ | exact Val.Q5g _ | exact Q9z _ _ | exact Qcg _ _ | exact Q9j _ _
def Q5d (p0 : Val) (p1 : Val) : List Fld → Nat → Qy9
 | [], _i1 =>
  (.k0)
 | x1 :: r1, i1 =>
  bif (sEq x1.name (List.getD p1.fields i1 zF).name) then
   bif (Q5n x1.v (List.getD p1.fields i1 zF).v) then
    Q5d p0 p1 r1 (i1 + 1)
   else
    (.k1)
  else
   (.k1)
termination_by l => SizeOf.sizeOf l
decreasing_by all_goals first | exact Val.Q8m _ | exact Val.Q5g _ | exact Q9z _ _ | exact Qcg _ _ | exact Q9j _ _
end
def Qse (_p0 : Val) (_p1 : Val) (i0 : Nat) : List PV :=
  [.un, .un, .bx 0 0, .bx 1 0, .un, .int .i64 (i0 : Int)] ++ nuns 93
def Quf (p0 : Val) (p1 : Val) (_i0 : Nat) : List Ob :=
  [⟨5, 0, true, [.int .i64 p0.kind, .int .i64 p0.n, .str p0.s, .sl (Val.rows p0.list), .sl (Fld.rows p0.fields)]⟩, ⟨5, 0, true, [.int .i64 p1.kind, .int .i64 p1.n, .str p1.s, .sl (Val.rows p1.list), .sl (Fld.rows p1.fields)]⟩]
def Q6j (p0 : Val) (p1 : Val) (i0 : Nat) : En := .loop 0 Ir.Qjh Ir.Q1an (Qse p0 p1 i0) (Quf p0 p1 i0)
def Q93 (p0 : Val) (p1 : Val) (z : Nat → PV) (_zo : Nat → List PV) : St :=
  ⟨[z 0, z 1, .bx 0 0, .bx 1 0] ++ zr z 4 95, [(0, ⟨5, 0, true, [.int .i64 p0.kind, .int .i64 p0.n, .str p0.s, .sl (Val.rows p0.list), .sl (Fld.rows p0.fields)]⟩), (1, ⟨5, 0, true, [.int .i64 p1.kind, .int .i64 p1.n, .str p1.s, .sl (Val.rows p1.list), .sl (Fld.rows p1.fields)]⟩)], 322⟩
def Qcd (_p0 : Val) (_p1 : Val) (z : Nat → PV) (zo : Nat → List PV) : St :=
  ⟨[z 0, z 1, z 2, z 3, .bool false] ++ zr z 5 94, [(0, ⟨5, 0, true, zo 0⟩), (1, ⟨5, 0, true, zo 1⟩)], 1154⟩
def Qau (p0 : Val) (p1 : Val) (e : En) : Qy0 → Prop
  | .k0 => ∃ z zo, Q6 G e (.st (.exit 0) (Q93 p0 p1 z zo))
  | .k1 => ∃ z zo, Q6 G e (.st .ret (Qcd p0 p1 z zo))
theorem Qr4 (p0 : Val) (p1 : Val) {e e' : En} (h : ∀ r, Q6 G e r → Q6 G e' r) : ∀ q, Qau p0 p1 e q → Qau p0 p1 e' q
  | .k0, ⟨z, zo, hz⟩ => ⟨z, zo, h _ hz⟩
  | .k1, ⟨z, zo, hz⟩ => ⟨z, zo, h _ hz⟩
def Qvp (_p0 : Val) (_p1 : Val) (i1 : Nat) : List PV :=
  [.un, .un, .bx 0 0, .bx 1 0, .un, .un, .int .i64 (i1 : Int)] ++ nuns 92
def Qs7 (p0 : Val) (p1 : Val) (_i1 : Nat) : List Ob :=
  [⟨5, 0, true, [.int .i64 p0.kind, .int .i64 p0.n, .str p0.s, .sl (Val.rows p0.list), .sl (Fld.rows p0.fields)]⟩, ⟨5, 0, true, [.int .i64 p1.kind, .int .i64 p1.n, .str p1.s, .sl (Val.rows p1.list), .sl (Fld.rows p1.fields)]⟩]
def Q6p (p0 : Val) (p1 : Val) (i1 : Nat) : En := .loop 0 Ir.Qkm Ir.Q1ah (Qvp p0 p1 i1) (Qs7 p0 p1 i1)
def Qc6 (p0 : Val) (p1 : Val) (z : Nat → PV) (_zo : Nat → List PV) : St :=
  ⟨zr z 0 99, [(0, ⟨5, 0, true, [.int .i64 p0.kind, .int .i64 p0.n, .str p0.s, .sl (Val.rows p0.list), .sl (Fld.rows p0.fields)]⟩), (1, ⟨5, 0, true, [.int .i64 p1.kind, .int .i64 p1.n, .str p1.s, .sl (Val.rows p1.list), .sl (Fld.rows p1.fields)]⟩)], 322⟩
def Q9d (_p0 : Val) (_p1 : Val) (z : Nat → PV) (zo : Nat → List PV) : St :=
  ⟨[z 0, z 1, z 2, z 3, .bool false] ++ zr z 5 94, [(0, ⟨5, 0, true, zo 0⟩), (1, ⟨5, 0, true, zo 1⟩)], 2242⟩
def Q9b (p0 : Val) (p1 : Val) (e : En) : Qy9 → Prop
  | .k0 => ∃ z zo, Q6 G e (.st (.exit 2) (Qc6 p0 p1 z zo))
  | .k1 => ∃ z zo, Q6 G e (.st .ret (Q9d p0 p1 z zo))
theorem Qqy (p0 : Val) (p1 : Val) {e e' : En} (h : ∀ r, Q6 G e r → Q6 G e' r) : ∀ q, Q9b p0 p1 e q → Q9b p0 p1 e' q
  | .k0, ⟨z, zo, hz⟩ => ⟨z, zo, h _ hz⟩
  | .k1, ⟨z, zo, hz⟩ => ⟨z, zo, h _ hz⟩
def Qdp (p0 : Val) (p1 : Val) : En := .call 23 [.agg (Val.cells p0), .agg (Val.cells p1)] []
def Q178 (p0 : Val) (p1 : Val) : Rs := .ret (.bool (Q5n p0 p1)) []
abbrev Q7j (p0 : Val) : Prop := Val.Sm 4611686018427387904 p0
def Q3i (p0 : Val) : Prop := ∀ (q : Val), SizeOf.sizeOf q < SizeOf.sizeOf p0 → ∀ (p1 : Val), Q7j q → Q6 G (Qdp q p1) (Q178 q p1)
def Qbp (p0 : Val) (p1 : Val) : Prop := (List.length p0.list ≤ 4611686018427387904) ∧ (∀ (i0 : Nat) (x0 : Val), p0.list[i0]? = some x0 → i0 < List.length p1.list) ∧ (∀ x0 ∈ p0.list, Q7j x0) ∧ True
def Q95 (p0 : Val) (p1 : Val) : Prop := (List.length p0.fields ≤ 4611686018427387904) ∧ (∀ (i1 : Nat) (x1 : Fld), p0.fields[i1]? = some x1 → i1 < List.length p1.fields) ∧ (∀ x1 ∈ p0.fields, Q7j x1.v) ∧ True
theorem Qzf (p0 : Val) (p1 : Val) (H : Q7j p0) : ((((List.length p0.list) : Int) == ((List.length p1.list) : Int)) = true → (((List.length p0.fields) : Int) == ((List.length p1.fields) : Int)) = true → Qbp p0 p1) ∧ ((((List.length p0.list) : Int) == ((List.length p1.list) : Int)) = true → (((List.length p0.fields) : Int) == ((List.length p1.fields) : Int)) = true → Q95 p0 p1) ∧ True := by
  obtain ⟨h1, h2, h3, h4⟩ := H.all
  exact ⟨fun a _ => ⟨h1, fun i x hx => by have := (List.getElem?_eq_some_iff.1 hx).1; have := eq_of_beq a; omega, h3, trivial⟩, fun _ b => ⟨h2, fun i x hx => by have := (List.getElem?_eq_some_iff.1 hx).1; have := eq_of_beq b; omega, h4, trivial⟩, trivial⟩
def Qmi (p0 : Val) (_p1 : Val) (i0 : Nat) : List PV :=
  nuns 5 ++ [.int .i64 (i0 : Int)] ++ nuns 38 ++ [.int .i64 (i0 : Int), .bx 0 3, .sl (Val.rows p0.list), .int .i64 ((List.length p0.list) : Int), .bool false]
def Qk7 (_p0 : Val) (_p1 : Val) (_i0 : Nat) : List (Nat × List PV) :=
  []
theorem Q14i (p0 : Val) (p1 : Val) (_H : Qbp p0 p1) (_rec : Q3i p0) (i0 : Nat) (hc0 : (decide ((i0 : Int) < ((List.length p0.list) : Int))) = false) : Qau p0 p1 (Q6j p0 p1 i0) (.k0) := by
 exact ⟨(envF (Qmi p0 p1 i0)), (zoF (Qk7 p0 p1 i0)), Qg VOK.nil (x := ((.exit 0), Q93 p0 p1 (envF (Qmi p0 p1 i0)) (zoF (Qk7 p0 p1 i0)))) [hP 3 (Qe (Val.rows p0.list) (List.length p0.list) (Val.Q5 p0.list)), hB 0 hc0] [] (by kernel_rfl)⟩
theorem Q10u (p0 : Val) (p1 : Val) (H : Qbp p0 p1) (rec : Q3i p0) (x0 : Val) (i0 : Nat) (hx0 : p0.list[i0]? = some x0) (hi0 : i0 < List.length p0.list) (hc0 : (decide ((i0 : Int) < ((List.length p0.list) : Int))) = true) (h0 : (Q5n x0 (List.getD p1.list i0 (Val.mk 0 0 (⟨#[]⟩ : ByteArray) [] []))) = true) {r : Rs} (hr : Q6 G (Q6j p0 p1 (i0 + 1)) r) : Q6 G (Q6j p0 p1 i0) r := by
 have hB0 := H.1
 exact Qk VOK.nil (y := (Qse p0 p1 (i0 + 1), Quf p0 p1 (i0 + 1))) [hP 3 (Qe (Val.rows p0.list) (List.length p0.list) (Val.Q5 p0.list)), hB 0 hc0, hP 3 (Q1f 5 (Val.rows p0.list) i0 _ (Val.Qa hx0) rfl), hP 4 (Q1f 5 (Val.rows p1.list) i0 _ (Val.Qa (Q2b p1.list i0 (Val.mk 0 0 (⟨#[]⟩ : ByteArray) [] []) ((H.2.1 i0 x0 hx0)))) rfl), hP 4 (Q1y i0 (by omega))] [aB (rec x0 (szL hx0) (List.getD p1.list i0 (Val.mk 0 0 (⟨#[]⟩ : ByteArray) [] [])) (H.2.2.1 x0 (Q29 hx0))) h0] (by kernel_rfl) hr
def Qno (p0 : Val) (p1 : Val) (i0 : Nat) (x0 : Val) : List PV :=
  [.un, .un, .bx 0 0, .bx 1 0, .un, .int .i64 (i0 : Int)] ++ nuns 38 ++ [.int .i64 (i0 : Int), .bx 0 3, .sl (Val.rows p0.list), .int .i64 ((List.length p0.list) : Int), .bool true, .un, .un, .bx 0 3, .sl (Val.rows p0.list), .int .i64 (i0 : Int), .rf [.int .i64 x0.kind, .int .i64 x0.n, .str x0.s, .sl (Val.rows x0.list), .sl (Fld.rows x0.fields)], .agg [.int .i64 x0.kind, .int .i64 x0.n, .str x0.s, .sl (Val.rows x0.list), .sl (Fld.rows x0.fields)], .bx 1 3, .sl (Val.rows p1.list), .int .i64 (i0 : Int), .rf [.int .i64 (List.getD p1.list i0 (Val.mk 0 0 (⟨#[]⟩ : ByteArray) [] [])).kind, .int .i64 (List.getD p1.list i0 (Val.mk 0 0 (⟨#[]⟩ : ByteArray) [] [])).n, .str (List.getD p1.list i0 (Val.mk 0 0 (⟨#[]⟩ : ByteArray) [] [])).s, .sl (Val.rows (List.getD p1.list i0 (Val.mk 0 0 (⟨#[]⟩ : ByteArray) [] [])).list), .sl (Fld.rows (List.getD p1.list i0 (Val.mk 0 0 (⟨#[]⟩ : ByteArray) [] [])).fields)], .agg [.int .i64 (List.getD p1.list i0 (Val.mk 0 0 (⟨#[]⟩ : ByteArray) [] [])).kind, .int .i64 (List.getD p1.list i0 (Val.mk 0 0 (⟨#[]⟩ : ByteArray) [] [])).n, .str (List.getD p1.list i0 (Val.mk 0 0 (⟨#[]⟩ : ByteArray) [] [])).s, .sl (Val.rows (List.getD p1.list i0 (Val.mk 0 0 (⟨#[]⟩ : ByteArray) [] [])).list), .sl (Fld.rows (List.getD p1.list i0 (Val.mk 0 0 (⟨#[]⟩ : ByteArray) [] [])).fields)], .bool false, .bool true]
def Qkb (p0 : Val) (p1 : Val) (_i0 : Nat) (_x0 : Val) : List (Nat × List PV) :=
  [(0, [.int .i64 p0.kind, .int .i64 p0.n, .str p0.s, .sl (Val.rows p0.list), .sl (Fld.rows p0.fields)]), (1, [.int .i64 p1.kind, .int .i64 p1.n, .str p1.s, .sl (Val.rows p1.list), .sl (Fld.rows p1.fields)])]
theorem Q10r (p0 : Val) (p1 : Val) (H : Qbp p0 p1) (rec : Q3i p0) (x0 : Val) (i0 : Nat) (hx0 : p0.list[i0]? = some x0) (_hi0 : i0 < List.length p0.list) (hc0 : (decide ((i0 : Int) < ((List.length p0.list) : Int))) = true) (h0 : (Q5n x0 (List.getD p1.list i0 (Val.mk 0 0 (⟨#[]⟩ : ByteArray) [] []))) = false) : Qau p0 p1 (Q6j p0 p1 i0) (.k1) := by
 exact ⟨(envF (Qno p0 p1 i0 x0)), (zoF (Qkb p0 p1 i0 x0)), Qg VOK.nil (x := (.ret, Qcd p0 p1 (envF (Qno p0 p1 i0 x0)) (zoF (Qkb p0 p1 i0 x0)))) [hP 3 (Qe (Val.rows p0.list) (List.length p0.list) (Val.Q5 p0.list)), hB 0 hc0, hP 3 (Q1f 5 (Val.rows p0.list) i0 _ (Val.Qa hx0) rfl), hP 4 (Q1f 5 (Val.rows p1.list) i0 _ (Val.Qa (Q2b p1.list i0 (Val.mk 0 0 (⟨#[]⟩ : ByteArray) [] []) ((H.2.1 i0 x0 hx0)))) rfl)] [aB (rec x0 (szL hx0) (List.getD p1.list i0 (Val.mk 0 0 (⟨#[]⟩ : ByteArray) [] [])) (H.2.2.1 x0 (Q29 hx0))) h0] (by kernel_rfl)⟩
theorem Qsv (p0 : Val) (p1 : Val) (H : Qbp p0 p1) (rec : Q3i p0) : ∀ (r0 : List Val) (i0 : Nat), List.drop i0 p0.list = r0 → Qau p0 p1 (Q6j p0 p1 i0) (Q5c p0 p1 r0 i0)
 | [], i0, hd => by
  have hc0 : (decide ((i0 : Int) < ((List.length p0.list) : Int))) = false := by have := Q1b hd; simp; omega
  rw [Q5c]
  exact Q14i p0 p1 H rec i0 hc0
 | x0 :: r0, i0, hd => by
  obtain ⟨hx0, hi0, hd'⟩ := Q14 hd
  have hc0 : (decide ((i0 : Int) < ((List.length p0.list) : Int))) = true := by simp; omega
  rw [Q5c]
  cases h0 : (Q5n x0 (List.getD p1.list i0 (Val.mk 0 0 (⟨#[]⟩ : ByteArray) [] []))) with
  | true =>
   exact Qr4 p0 p1 (fun r hr => Q10u p0 p1 H rec x0 i0 hx0 hi0 hc0 h0 hr) _ (Qsv p0 p1 H rec r0 (i0 + 1) hd')
  | false =>
   exact Q10r p0 p1 H rec x0 i0 hx0 hi0 hc0 h0
def Qnh (p0 : Val) (_p1 : Val) (i1 : Nat) : List PV :=
  [.un, .un, .bx 0 0, .bx 1 0, .un, .un, .int .i64 (i1 : Int)] ++ nuns 56 ++ [.int .i64 (i1 : Int), .bx 0 4, .sl (Fld.rows p0.fields), .int .i64 ((List.length p0.fields) : Int), .bool false]
def Qgx (_p0 : Val) (_p1 : Val) (_i1 : Nat) : List (Nat × List PV) :=
  []
theorem Q11r (p0 : Val) (p1 : Val) (_H : Q95 p0 p1) (_rec : Q3i p0) (i1 : Nat) (hc1 : (decide ((i1 : Int) < ((List.length p0.fields) : Int))) = false) : Q9b p0 p1 (Q6p p0 p1 i1) (.k0) := by
 exact ⟨(envF (Qnh p0 p1 i1)), (zoF (Qgx p0 p1 i1)), Qg VOK.nil (x := ((.exit 2), Qc6 p0 p1 (envF (Qnh p0 p1 i1)) (zoF (Qgx p0 p1 i1)))) [hP 3 (Qe (Fld.rows p0.fields) (List.length p0.fields) (Fld.Q5 p0.fields)), hB 0 hc1] [] (by kernel_rfl)⟩
theorem Q11a (p0 : Val) (p1 : Val) (H : Q95 p0 p1) (rec : Q3i p0) (x1 : Fld) (i1 : Nat) (hx1 : p0.fields[i1]? = some x1) (hi1 : i1 < List.length p0.fields) (hc1 : (decide ((i1 : Int) < ((List.length p0.fields) : Int))) = true) (h0 : (sEq x1.name (List.getD p1.fields i1 zF).name) = true) (h1 : (Q5n x1.v (List.getD p1.fields i1 zF).v) = true) {r : Rs} (hr : Q6 G (Q6p p0 p1 (i1 + 1)) r) : Q6 G (Q6p p0 p1 i1) r := by
 have hB0 := H.1
 exact Qk VOK.nil (y := (Qvp p0 p1 (i1 + 1), Qs7 p0 p1 (i1 + 1))) [hP 3 (Qe (Fld.rows p0.fields) (List.length p0.fields) (Fld.Q5 p0.fields)), hB 0 hc1, hP 3 (Q1f 6 (Fld.rows p0.fields) i1 _ (Fld.Qa hx1) rfl), hP 5 (Q1f 6 (Fld.rows p1.fields) i1 _ (Fld.Qa (Q2b p1.fields i1 zF ((H.2.1 i1 x1 hx1)))) rfl), hP 2 (dec (!(sEq x1.name (List.getD p1.fields i1 zF).name)) false (by rw [h0]; rfl)), hP 4 (Q1f 6 (Fld.rows p0.fields) i1 _ (Fld.Qa hx1) rfl), hP 5 (Q1f 6 (Fld.rows p1.fields) i1 _ (Fld.Qa (Q2b p1.fields i1 zF ((H.2.1 i1 x1 hx1)))) rfl), hP 6 (Q1y i1 (by omega))] [aB (rec x1.v (szF hx1) (List.getD p1.fields i1 zF).v (H.2.2.1 x1 (Q29 hx1))) h1] (by kernel_rfl) hr
def Qo1 (p0 : Val) (p1 : Val) (i1 : Nat) (x1 : Fld) : List PV :=
  [.un, .un, .bx 0 0, .bx 1 0, .un, .un, .int .i64 (i1 : Int)] ++ nuns 56 ++ [.int .i64 (i1 : Int), .bx 0 4, .sl (Fld.rows p0.fields), .int .i64 ((List.length p0.fields) : Int), .bool true, .un, .un, .bx 0 4, .sl (Fld.rows p0.fields), .int .i64 (i1 : Int), .rf [.str x1.name, .int .i64 x1.v.kind, .int .i64 x1.v.n, .str x1.v.s, .sl (Val.rows x1.v.list), .sl (Fld.rows x1.v.fields)], .rf [.str x1.name, .int .i64 x1.v.kind, .int .i64 x1.v.n, .str x1.v.s, .sl (Val.rows x1.v.list), .sl (Fld.rows x1.v.fields)], .str x1.name, .bx 1 4, .sl (Fld.rows p1.fields), .int .i64 (i1 : Int), .rf [.str (List.getD p1.fields i1 zF).name, .int .i64 (List.getD p1.fields i1 zF).v.kind, .int .i64 (List.getD p1.fields i1 zF).v.n, .str (List.getD p1.fields i1 zF).v.s, .sl (Val.rows (List.getD p1.fields i1 zF).v.list), .sl (Fld.rows (List.getD p1.fields i1 zF).v.fields)], .rf [.str (List.getD p1.fields i1 zF).name, .int .i64 (List.getD p1.fields i1 zF).v.kind, .int .i64 (List.getD p1.fields i1 zF).v.n, .str (List.getD p1.fields i1 zF).v.s, .sl (Val.rows (List.getD p1.fields i1 zF).v.list), .sl (Fld.rows (List.getD p1.fields i1 zF).v.fields)], .str (List.getD p1.fields i1 zF).name, .bool false, .bool false, .bx 0 4, .sl (Fld.rows p0.fields), .int .i64 (i1 : Int), .rf [.str x1.name, .int .i64 x1.v.kind, .int .i64 x1.v.n, .str x1.v.s, .sl (Val.rows x1.v.list), .sl (Fld.rows x1.v.fields)], .rf [.int .i64 x1.v.kind, .int .i64 x1.v.n, .str x1.v.s, .sl (Val.rows x1.v.list), .sl (Fld.rows x1.v.fields)], .agg [.int .i64 x1.v.kind, .int .i64 x1.v.n, .str x1.v.s, .sl (Val.rows x1.v.list), .sl (Fld.rows x1.v.fields)], .bx 1 4, .sl (Fld.rows p1.fields), .int .i64 (i1 : Int), .rf [.str (List.getD p1.fields i1 zF).name, .int .i64 (List.getD p1.fields i1 zF).v.kind, .int .i64 (List.getD p1.fields i1 zF).v.n, .str (List.getD p1.fields i1 zF).v.s, .sl (Val.rows (List.getD p1.fields i1 zF).v.list), .sl (Fld.rows (List.getD p1.fields i1 zF).v.fields)], .rf [.int .i64 (List.getD p1.fields i1 zF).v.kind, .int .i64 (List.getD p1.fields i1 zF).v.n, .str (List.getD p1.fields i1 zF).v.s, .sl (Val.rows (List.getD p1.fields i1 zF).v.list), .sl (Fld.rows (List.getD p1.fields i1 zF).v.fields)], .agg [.int .i64 (List.getD p1.fields i1 zF).v.kind, .int .i64 (List.getD p1.fields i1 zF).v.n, .str (List.getD p1.fields i1 zF).v.s, .sl (Val.rows (List.getD p1.fields i1 zF).v.list), .sl (Fld.rows (List.getD p1.fields i1 zF).v.fields)], .bool false, .bool true, .bool true]
def Qkk (p0 : Val) (p1 : Val) (_i1 : Nat) (_x1 : Fld) : List (Nat × List PV) :=
  [(0, [.int .i64 p0.kind, .int .i64 p0.n, .str p0.s, .sl (Val.rows p0.list), .sl (Fld.rows p0.fields)]), (1, [.int .i64 p1.kind, .int .i64 p1.n, .str p1.s, .sl (Val.rows p1.list), .sl (Fld.rows p1.fields)])]
theorem Q14u (p0 : Val) (p1 : Val) (H : Q95 p0 p1) (rec : Q3i p0) (x1 : Fld) (i1 : Nat) (hx1 : p0.fields[i1]? = some x1) (_hi1 : i1 < List.length p0.fields) (hc1 : (decide ((i1 : Int) < ((List.length p0.fields) : Int))) = true) (h0 : (sEq x1.name (List.getD p1.fields i1 zF).name) = true) (h1 : (Q5n x1.v (List.getD p1.fields i1 zF).v) = false) : Q9b p0 p1 (Q6p p0 p1 i1) (.k1) := by
 exact ⟨(envF (Qo1 p0 p1 i1 x1)), (zoF (Qkk p0 p1 i1 x1)), Qg VOK.nil (x := (.ret, Q9d p0 p1 (envF (Qo1 p0 p1 i1 x1)) (zoF (Qkk p0 p1 i1 x1)))) [hP 3 (Qe (Fld.rows p0.fields) (List.length p0.fields) (Fld.Q5 p0.fields)), hB 0 hc1, hP 3 (Q1f 6 (Fld.rows p0.fields) i1 _ (Fld.Qa hx1) rfl), hP 5 (Q1f 6 (Fld.rows p1.fields) i1 _ (Fld.Qa (Q2b p1.fields i1 zF ((H.2.1 i1 x1 hx1)))) rfl), hP 2 (dec (!(sEq x1.name (List.getD p1.fields i1 zF).name)) false (by rw [h0]; rfl)), hP 4 (Q1f 6 (Fld.rows p0.fields) i1 _ (Fld.Qa hx1) rfl), hP 5 (Q1f 6 (Fld.rows p1.fields) i1 _ (Fld.Qa (Q2b p1.fields i1 zF ((H.2.1 i1 x1 hx1)))) rfl)] [aB (rec x1.v (szF hx1) (List.getD p1.fields i1 zF).v (H.2.2.1 x1 (Q29 hx1))) h1] (by kernel_rfl)⟩
def Qnr (p0 : Val) (p1 : Val) (i1 : Nat) (x1 : Fld) : List PV :=
  [.un, .un, .bx 0 0, .bx 1 0, .un, .un, .int .i64 (i1 : Int)] ++ nuns 56 ++ [.int .i64 (i1 : Int), .bx 0 4, .sl (Fld.rows p0.fields), .int .i64 ((List.length p0.fields) : Int), .bool true, .un, .un, .bx 0 4, .sl (Fld.rows p0.fields), .int .i64 (i1 : Int), .rf [.str x1.name, .int .i64 x1.v.kind, .int .i64 x1.v.n, .str x1.v.s, .sl (Val.rows x1.v.list), .sl (Fld.rows x1.v.fields)], .rf [.str x1.name, .int .i64 x1.v.kind, .int .i64 x1.v.n, .str x1.v.s, .sl (Val.rows x1.v.list), .sl (Fld.rows x1.v.fields)], .str x1.name, .bx 1 4, .sl (Fld.rows p1.fields), .int .i64 (i1 : Int), .rf [.str (List.getD p1.fields i1 zF).name, .int .i64 (List.getD p1.fields i1 zF).v.kind, .int .i64 (List.getD p1.fields i1 zF).v.n, .str (List.getD p1.fields i1 zF).v.s, .sl (Val.rows (List.getD p1.fields i1 zF).v.list), .sl (Fld.rows (List.getD p1.fields i1 zF).v.fields)], .rf [.str (List.getD p1.fields i1 zF).name, .int .i64 (List.getD p1.fields i1 zF).v.kind, .int .i64 (List.getD p1.fields i1 zF).v.n, .str (List.getD p1.fields i1 zF).v.s, .sl (Val.rows (List.getD p1.fields i1 zF).v.list), .sl (Fld.rows (List.getD p1.fields i1 zF).v.fields)], .str (List.getD p1.fields i1 zF).name, .bool true, .bool true, .tup [], .tup [], .tup [], .tup [], .tup [], .tup [], .tup [], .tup [], .tup [], .tup [], .tup [], .tup [], .tup [], .tup [], .bool true]
def Qj4 (p0 : Val) (p1 : Val) (_i1 : Nat) (_x1 : Fld) : List (Nat × List PV) :=
  [(0, [.int .i64 p0.kind, .int .i64 p0.n, .str p0.s, .sl (Val.rows p0.list), .sl (Fld.rows p0.fields)]), (1, [.int .i64 p1.kind, .int .i64 p1.n, .str p1.s, .sl (Val.rows p1.list), .sl (Fld.rows p1.fields)])]
theorem Q138 (p0 : Val) (p1 : Val) (H : Q95 p0 p1) (_rec : Q3i p0) (x1 : Fld) (i1 : Nat) (hx1 : p0.fields[i1]? = some x1) (_hi1 : i1 < List.length p0.fields) (hc1 : (decide ((i1 : Int) < ((List.length p0.fields) : Int))) = true) (h0 : (sEq x1.name (List.getD p1.fields i1 zF).name) = false) : Q9b p0 p1 (Q6p p0 p1 i1) (.k1) := by
 exact ⟨(envF (Qnr p0 p1 i1 x1)), (zoF (Qj4 p0 p1 i1 x1)), Qg VOK.nil (x := (.ret, Q9d p0 p1 (envF (Qnr p0 p1 i1 x1)) (zoF (Qj4 p0 p1 i1 x1)))) [hP 3 (Qe (Fld.rows p0.fields) (List.length p0.fields) (Fld.Q5 p0.fields)), hB 0 hc1, hP 3 (Q1f 6 (Fld.rows p0.fields) i1 _ (Fld.Qa hx1) rfl), hP 5 (Q1f 6 (Fld.rows p1.fields) i1 _ (Fld.Qa (Q2b p1.fields i1 zF ((H.2.1 i1 x1 hx1)))) rfl), hP 2 (dec (!(sEq x1.name (List.getD p1.fields i1 zF).name)) true (by rw [h0]; rfl))] [] (by kernel_rfl)⟩
theorem Qvs (p0 : Val) (p1 : Val) (H : Q95 p0 p1) (rec : Q3i p0) : ∀ (r1 : List Fld) (i1 : Nat), List.drop i1 p0.fields = r1 → Q9b p0 p1 (Q6p p0 p1 i1) (Q5d p0 p1 r1 i1)
 | [], i1, hd => by
  have hc1 : (decide ((i1 : Int) < ((List.length p0.fields) : Int))) = false := by have := Q1b hd; simp; omega
  rw [Q5d]
  exact Q11r p0 p1 H rec i1 hc1
 | x1 :: r1, i1, hd => by
  obtain ⟨hx1, hi1, hd'⟩ := Q14 hd
  have hc1 : (decide ((i1 : Int) < ((List.length p0.fields) : Int))) = true := by simp; omega
  rw [Q5d]
  cases h0 : (sEq x1.name (List.getD p1.fields i1 zF).name) with
  | true =>
   cases h1 : (Q5n x1.v (List.getD p1.fields i1 zF).v) with
   | true =>
    exact Qqy p0 p1 (fun r hr => Q11a p0 p1 H rec x1 i1 hx1 hi1 hc1 h0 h1 hr) _ (Qvs p0 p1 H rec r1 (i1 + 1) hd')
   | false =>
    exact Q14u p0 p1 H rec x1 i1 hx1 hi1 hc1 h0 h1
  | false =>
   exact Q138 p0 p1 H rec x1 i1 hx1 hi1 hc1 h0
theorem Q1c2 (p0 : Val) (p1 : Val) (_H : Q7j p0) (_rec : Q3i p0) (h0 : (p0.kind == p1.kind) = true) (h1 : (p0.n == p1.n) = true) (h2 : (sEq p0.s p1.s) = true) (h3 : (((List.length p0.list) : Int) == ((List.length p1.list) : Int)) = true) (h4 : (((List.length p0.fields) : Int) == ((List.length p1.fields) : Int)) = true) (z5 : Nat → PV) (zo5 : Nat → List PV) (hl5 : Q6 G (Q6j p0 p1 0) (.st (.exit 0) (Q93 p0 p1 z5 zo5))) (z6 : Nat → PV) (zo6 : Nat → List PV) (hl6 : Q6 G (Q6p p0 p1 0) (.st (.exit 2) (Qc6 p0 p1 z6 zo6))) : Q6 G (Qdp p0 p1) (.ret (.bool (true)) []) := by
 exact Qb (fn := Ir.K26) rfl VOK.nil [hP 7 (dec (!(p0.kind == p1.kind)) false (by rw [h0]; rfl)), hP 5 (dec (!(p0.n == p1.n)) false (by rw [h1]; rfl)), hP 6 (dec (!(sEq p0.s p1.s)) false (by rw [h2]; rfl)), hP 4 (Qe (Val.rows p0.list) (List.length p0.list) (Val.Q5 p0.list)), hP 2 (Qe (Val.rows p1.list) (List.length p1.list) (Val.Q5 p1.list)), hP 0 (dec (!(((List.length p0.list) : Int) == ((List.length p1.list) : Int))) false (by rw [h3]; rfl)), hP 4 (Qe (Fld.rows p0.fields) (List.length p0.fields) (Fld.Q5 p0.fields)), hP 2 (Qe (Fld.rows p1.fields) (List.length p1.fields) (Fld.Q5 p1.fields)), hP 0 (dec (!(((List.length p0.fields) : Int) == ((List.length p1.fields) : Int))) false (by rw [h4]; rfl))] [aN hl5, aN hl6] (by kernel_rfl)
theorem Q1c7 (p0 : Val) (p1 : Val) (_H : Q7j p0) (_rec : Q3i p0) (h0 : (p0.kind == p1.kind) = true) (h1 : (p0.n == p1.n) = true) (h2 : (sEq p0.s p1.s) = true) (h3 : (((List.length p0.list) : Int) == ((List.length p1.list) : Int)) = true) (h4 : (((List.length p0.fields) : Int) == ((List.length p1.fields) : Int)) = true) (z5 : Nat → PV) (zo5 : Nat → List PV) (hl5 : Q6 G (Q6j p0 p1 0) (.st (.exit 0) (Q93 p0 p1 z5 zo5))) (z6 : Nat → PV) (zo6 : Nat → List PV) (hl6 : Q6 G (Q6p p0 p1 0) (.st .ret (Q9d p0 p1 z6 zo6))) : Q6 G (Qdp p0 p1) (.ret (.bool (false)) []) := by
 exact Qb (fn := Ir.K26) rfl VOK.nil [hP 7 (dec (!(p0.kind == p1.kind)) false (by rw [h0]; rfl)), hP 5 (dec (!(p0.n == p1.n)) false (by rw [h1]; rfl)), hP 6 (dec (!(sEq p0.s p1.s)) false (by rw [h2]; rfl)), hP 4 (Qe (Val.rows p0.list) (List.length p0.list) (Val.Q5 p0.list)), hP 2 (Qe (Val.rows p1.list) (List.length p1.list) (Val.Q5 p1.list)), hP 0 (dec (!(((List.length p0.list) : Int) == ((List.length p1.list) : Int))) false (by rw [h3]; rfl)), hP 4 (Qe (Fld.rows p0.fields) (List.length p0.fields) (Fld.Q5 p0.fields)), hP 2 (Qe (Fld.rows p1.fields) (List.length p1.fields) (Fld.Q5 p1.fields)), hP 0 (dec (!(((List.length p0.fields) : Int) == ((List.length p1.fields) : Int))) false (by rw [h4]; rfl))] [aN hl5, aN hl6] (by kernel_rfl)
theorem Q1cd (p0 : Val) (p1 : Val) (_H : Q7j p0) (_rec : Q3i p0) (h0 : (p0.kind == p1.kind) = true) (h1 : (p0.n == p1.n) = true) (h2 : (sEq p0.s p1.s) = true) (h3 : (((List.length p0.list) : Int) == ((List.length p1.list) : Int)) = true) (h4 : (((List.length p0.fields) : Int) == ((List.length p1.fields) : Int)) = true) (z5 : Nat → PV) (zo5 : Nat → List PV) (hl5 : Q6 G (Q6j p0 p1 0) (.st .ret (Qcd p0 p1 z5 zo5))) : Q6 G (Qdp p0 p1) (.ret (.bool (false)) []) := by
 exact Qb (fn := Ir.K26) rfl VOK.nil [hP 7 (dec (!(p0.kind == p1.kind)) false (by rw [h0]; rfl)), hP 5 (dec (!(p0.n == p1.n)) false (by rw [h1]; rfl)), hP 6 (dec (!(sEq p0.s p1.s)) false (by rw [h2]; rfl)), hP 4 (Qe (Val.rows p0.list) (List.length p0.list) (Val.Q5 p0.list)), hP 2 (Qe (Val.rows p1.list) (List.length p1.list) (Val.Q5 p1.list)), hP 0 (dec (!(((List.length p0.list) : Int) == ((List.length p1.list) : Int))) false (by rw [h3]; rfl)), hP 4 (Qe (Fld.rows p0.fields) (List.length p0.fields) (Fld.Q5 p0.fields)), hP 2 (Qe (Fld.rows p1.fields) (List.length p1.fields) (Fld.Q5 p1.fields)), hP 0 (dec (!(((List.length p0.fields) : Int) == ((List.length p1.fields) : Int))) false (by rw [h4]; rfl))] [aN hl5] (by kernel_rfl)
theorem Q1c5 (p0 : Val) (p1 : Val) (_H : Q7j p0) (_rec : Q3i p0) (h0 : (p0.kind == p1.kind) = true) (h1 : (p0.n == p1.n) = true) (h2 : (sEq p0.s p1.s) = true) (h3 : (((List.length p0.list) : Int) == ((List.length p1.list) : Int)) = true) (h4 : (((List.length p0.fields) : Int) == ((List.length p1.fields) : Int)) = false) : Q6 G (Qdp p0 p1) (.ret (.bool (false)) []) := by
 exact Qb (fn := Ir.K26) rfl VOK.nil [hP 7 (dec (!(p0.kind == p1.kind)) false (by rw [h0]; rfl)), hP 5 (dec (!(p0.n == p1.n)) false (by rw [h1]; rfl)), hP 6 (dec (!(sEq p0.s p1.s)) false (by rw [h2]; rfl)), hP 4 (Qe (Val.rows p0.list) (List.length p0.list) (Val.Q5 p0.list)), hP 2 (Qe (Val.rows p1.list) (List.length p1.list) (Val.Q5 p1.list)), hP 0 (dec (!(((List.length p0.list) : Int) == ((List.length p1.list) : Int))) false (by rw [h3]; rfl)), hP 4 (Qe (Fld.rows p0.fields) (List.length p0.fields) (Fld.Q5 p0.fields)), hP 2 (Qe (Fld.rows p1.fields) (List.length p1.fields) (Fld.Q5 p1.fields)), hP 0 (dec (!(((List.length p0.fields) : Int) == ((List.length p1.fields) : Int))) true (by rw [h4]; rfl))] [] (by kernel_rfl)
theorem Q1by (p0 : Val) (p1 : Val) (_H : Q7j p0) (_rec : Q3i p0) (h0 : (p0.kind == p1.kind) = true) (h1 : (p0.n == p1.n) = true) (h2 : (sEq p0.s p1.s) = true) (h3 : (((List.length p0.list) : Int) == ((List.length p1.list) : Int)) = false) : Q6 G (Qdp p0 p1) (.ret (.bool (false)) []) := by
 exact Qb (fn := Ir.K26) rfl VOK.nil [hP 7 (dec (!(p0.kind == p1.kind)) false (by rw [h0]; rfl)), hP 5 (dec (!(p0.n == p1.n)) false (by rw [h1]; rfl)), hP 6 (dec (!(sEq p0.s p1.s)) false (by rw [h2]; rfl)), hP 4 (Qe (Val.rows p0.list) (List.length p0.list) (Val.Q5 p0.list)), hP 2 (Qe (Val.rows p1.list) (List.length p1.list) (Val.Q5 p1.list)), hP 0 (dec (!(((List.length p0.list) : Int) == ((List.length p1.list) : Int))) true (by rw [h3]; rfl))] [] (by kernel_rfl)
theorem Q1bb (p0 : Val) (p1 : Val) (_H : Q7j p0) (_rec : Q3i p0) (h0 : (p0.kind == p1.kind) = true) (h1 : (p0.n == p1.n) = true) (h2 : (sEq p0.s p1.s) = false) : Q6 G (Qdp p0 p1) (.ret (.bool (false)) []) := by
 exact Qb (fn := Ir.K26) rfl VOK.nil [hP 7 (dec (!(p0.kind == p1.kind)) false (by rw [h0]; rfl)), hP 5 (dec (!(p0.n == p1.n)) false (by rw [h1]; rfl)), hP 6 (dec (!(sEq p0.s p1.s)) true (by rw [h2]; rfl))] [] (by kernel_rfl)
theorem Q1b0 (p0 : Val) (p1 : Val) (_H : Q7j p0) (_rec : Q3i p0) (h0 : (p0.kind == p1.kind) = true) (h1 : (p0.n == p1.n) = false) : Q6 G (Qdp p0 p1) (.ret (.bool (false)) []) := by
 exact Qb (fn := Ir.K26) rfl VOK.nil [hP 7 (dec (!(p0.kind == p1.kind)) false (by rw [h0]; rfl)), hP 5 (dec (!(p0.n == p1.n)) true (by rw [h1]; rfl))] [] (by kernel_rfl)
theorem Q1bt (p0 : Val) (p1 : Val) (_H : Q7j p0) (_rec : Q3i p0) (h0 : (p0.kind == p1.kind) = false) : Q6 G (Qdp p0 p1) (.ret (.bool (false)) []) := by
 exact Qb (fn := Ir.K26) rfl VOK.nil [hP 7 (dec (!(p0.kind == p1.kind)) true (by rw [h0]; rfl))] [] (by kernel_rfl)
theorem Q1i1 (p0 : Val) (p1 : Val) (H : Q7j p0) (rec : Q3i p0) : Q6 G (Qdp p0 p1) (Q178 p0 p1) := by
  unfold Q178
  rw [Q5n]
  cases h0 : (p0.kind == p1.kind) with
  | true =>
   cases h1 : (p0.n == p1.n) with
   | true =>
    cases h2 : (sEq p0.s p1.s) with
    | true =>
     cases h3 : (((List.length p0.list) : Int) == ((List.length p1.list) : Int)) with
     | true =>
      cases h4 : (((List.length p0.fields) : Int) == ((List.length p1.fields) : Int)) with
      | true =>
       have hl5 := Qsv p0 p1 ((Qzf p0 p1 H).1 h3 h4) rec p0.list 0 (by simp)
       cases hr5 : (Q5c p0 p1 p0.list 0) with
       | k0 =>
         rw [hr5] at hl5
         obtain ⟨z5, zo5, hl5⟩ := hl5
         try dsimp only
         have hl6 := Qvs p0 p1 ((Qzf p0 p1 H).2.1 h3 h4) rec p0.fields 0 (by simp)
         cases hr6 : (Q5d p0 p1 p0.fields 0) with
         | k0 =>
           rw [hr6] at hl6
           obtain ⟨z6, zo6, hl6⟩ := hl6
           exact Q1c2 p0 p1 H rec h0 h1 h2 h3 h4 z5 zo5 hl5 z6 zo6 hl6
         | k1 =>
           rw [hr6] at hl6
           obtain ⟨z6, zo6, hl6⟩ := hl6
           exact Q1c7 p0 p1 H rec h0 h1 h2 h3 h4 z5 zo5 hl5 z6 zo6 hl6
       | k1 =>
         rw [hr5] at hl5
         obtain ⟨z5, zo5, hl5⟩ := hl5
         exact Q1cd p0 p1 H rec h0 h1 h2 h3 h4 z5 zo5 hl5
      | false =>
       exact Q1c5 p0 p1 H rec h0 h1 h2 h3 h4
     | false =>
      exact Q1by p0 p1 H rec h0 h1 h2 h3
    | false =>
     exact Q1bb p0 p1 H rec h0 h1 h2
   | false =>
    exact Q1b0 p0 p1 H rec h0 h1
  | false =>
   exact Q1bt p0 p1 H rec h0
theorem Q1dr : ∀ (k : Nat) (p0 : Val), SizeOf.sizeOf p0 < k → ∀ (p1 : Val), Q7j p0 → Q6 G (Qdp p0 p1) (Q178 p0 p1)
  | 0, _, h, _, _ => absurd h (Nat.not_lt_zero _)
  | k + 1, p0, h, p1, H => Q1i1 p0 p1 H (fun q hq p1 hH => Q1dr k q (by omega) p1 hH)
theorem Q15y (p0 : Val) (p1 : Val) (H : Q7j p0) : Q6 G (Qdp p0 p1) (Q178 p0 p1) := Q1dr _ p0 (Nat.lt_succ_self _) p1 H
end Go.Proofs.YtiflaadeikaghaaGreat
end

section
/- Parts of a slice of one's own, and appends of them. -/
namespace Go.Pv
end Go.Pv
end

section
/- Slices that are made with a length: their rows. -/
namespace Go.Pv
end Go.Pv
end

section
/- Rows of one's own: cleared behind a place, appended to from a place on. -/
namespace Go.Pv
theorem Val.Q2h (l : List Val) (k : Nat) (x : Val) : Val.rows (l.set k x) = (Val.rows l).set k (Val.cells x) := by simp [Val.Q4r, List.map_set]
theorem Fld.Q2h (l : List Fld) (k : Nat) (x : Fld) : Fld.rows (l.set k x) = (Fld.rows l).set k (Fld.cells x) := by simp [Fld.Q4r, List.map_set]
theorem Qwa {l : List (List PV)} {k : Nat} {r : List PV} (h : l[k]? = some r) : l = l.set k r := by
  apply List.ext_getElem?
  intro i
  rw [List.getElem?_set]
  by_cases e : k = i
  · subst e
    rw [if_pos rfl, h, if_pos (List.getElem?_eq_some_iff.1 h).1]
  · rw [if_neg e]
end Go.Pv
end

section
/- What copying values computes (printed by a program). -/
namespace Go.Proofs.YtiflaadeikaghaaGreat
open Go.Pv
def Q1f5 (p0 : Val) : Val := p0
def Qyd (p0 : Val) : List Val → Nat → Unit
 | [], _i0 =>
  ()
 | _x0 :: r0, i0 =>
  Qyd p0 r0 (i0 + 1)
def Qs1 (p0 : Val) (i0 : Nat) : List PV :=
  [.un, .bx 0 0, .bx 1 0] ++ nuns 9 ++ [.ms 2 5 0 (List.length p0.list), .int .i64 ((List.length p0.list) : Int), .int .i64 (i0 : Int)] ++ nuns 33
def Qgm (p0 : Val) (_i0 : Nat) : List Ob :=
  [⟨5, 0, true, [.int .i64 p0.kind, .int .i64 p0.n, .str p0.s, .ms 2 5 0 (List.length p0.list), .sl (Fld.rows p0.fields)]⟩, ⟨5, 0, true, [.int .i64 0, .int .i64 0, .str (⟨#[]⟩ : ByteArray), .ms 3 5 0 0, .ms 4 6 0 0]⟩, ⟨5, 0, true, (Val.rows p0.list).flatten⟩, ⟨5, 0, true, []⟩, ⟨6, 0, true, []⟩]
def Qft (p0 : Val) (i0 : Nat) : En := .loop 0 Ir.Qis Ir.Q1av (Qs1 p0 i0) (Qgm p0 i0)
def Qmy (p0 : Val) (z : Nat → PV) (_zo : Nat → List PV) : St :=
  ⟨[z 0, .bx 0 0, .bx 1 0] ++ zr z 3 45, [(0, ⟨5, 0, true, [.int .i64 p0.kind, .int .i64 p0.n, .str p0.s, .ms 2 5 0 (List.length p0.list), .sl (Fld.rows p0.fields)]⟩), (1, ⟨5, 0, true, [.int .i64 0, .int .i64 0, .str (⟨#[]⟩ : ByteArray), .ms 3 5 0 0, .ms 4 6 0 0]⟩), (2, ⟨5, 0, true, (Val.rows p0.list).flatten⟩), (3, ⟨5, 0, true, []⟩), (4, ⟨6, 0, true, []⟩)], 69⟩
theorem Qzs (p0 : Val) (i0 : Nat) : VOK (Go.Pv.look (number 0 (Qgm p0 i0))) [(2, Val.rows p0.list)] := (VOK.cons (show Seen _ _ from Q3j (ob := ⟨5, 0, true, (Val.rows p0.list).flatten⟩) (Val.Q7 p0.list 5 rfl)) VOK.nil)
def Q9h (p0 : Val) (e : En) (_q : Unit) : Prop := ∃ z zo, Q6 G e (.st (.exit 0) (Qmy p0 z zo))
theorem Qrc (p0 : Val) {e e' : En} (h : ∀ r, Q6 G e r → Q6 G e' r) : ∀ q, Q9h p0 e q → Q9h p0 e' q
  | _, ⟨z, zo, hz⟩ => ⟨z, zo, h _ hz⟩
def Qzi (p0 : Val) : List Fld → Nat → Unit
 | [], _i1 =>
  ()
 | _x1 :: r1, i1 =>
  Qzi p0 r1 (i1 + 1)
def Qw1 (p0 : Val) (i1 : Nat) : List PV :=
  [.un, .bx 0 0, .bx 1 0] ++ nuns 28 ++ [.ms 2 6 0 (List.length p0.fields), .int .i64 ((List.length p0.fields) : Int), .int .i64 (i1 : Int)] ++ nuns 14
def Qji (p0 : Val) (_i1 : Nat) : List Ob :=
  [⟨5, 0, true, [.int .i64 p0.kind, .int .i64 p0.n, .str p0.s, .ms 3 5 0 (List.length p0.list), .ms 2 6 0 (List.length p0.fields)]⟩, ⟨5, 0, true, [.int .i64 0, .int .i64 0, .str (⟨#[]⟩ : ByteArray), .ms 4 5 0 0, .ms 5 6 0 0]⟩, ⟨6, 0, true, (Fld.rows p0.fields).flatten⟩, ⟨5, 0, true, (Val.rows p0.list).flatten⟩, ⟨5, 0, true, []⟩, ⟨6, 0, true, []⟩]
def Qem (p0 : Val) (i1 : Nat) : En := .loop 0 Ir.Qik Ir.Q1ad (Qw1 p0 i1) (Qji p0 i1)
def Qn5 (p0 : Val) (z : Nat → PV) (_zo : Nat → List PV) : St :=
  ⟨[z 0, .bx 0 0, .bx 1 0] ++ zr z 3 45, [(0, ⟨5, 0, true, [.int .i64 p0.kind, .int .i64 p0.n, .str p0.s, .ms 3 5 0 (List.length p0.list), .ms 2 6 0 (List.length p0.fields)]⟩), (1, ⟨5, 0, true, [.int .i64 0, .int .i64 0, .str (⟨#[]⟩ : ByteArray), .ms 4 5 0 0, .ms 5 6 0 0]⟩), (2, ⟨6, 0, true, (Fld.rows p0.fields).flatten⟩), (3, ⟨5, 0, true, (Val.rows p0.list).flatten⟩), (4, ⟨5, 0, true, []⟩), (5, ⟨6, 0, true, []⟩)], 70⟩
theorem Qzr (p0 : Val) (i1 : Nat) : VOK (Go.Pv.look (number 0 (Qji p0 i1))) [(2, Fld.rows p0.fields), (3, Val.rows p0.list)] := (VOK.cons (show Seen _ _ from Q3j (ob := ⟨6, 0, true, (Fld.rows p0.fields).flatten⟩) (Fld.Q7 p0.fields 6 rfl)) (VOK.cons (show Seen _ _ from Q3j (ob := ⟨5, 0, true, (Val.rows p0.list).flatten⟩) (Val.Q7 p0.list 5 rfl)) VOK.nil))
def Q9m (p0 : Val) (e : En) (_q : Unit) : Prop := ∃ z zo, Q6 G e (.st (.exit 2) (Qn5 p0 z zo))
theorem Qpw (p0 : Val) {e e' : En} (h : ∀ r, Q6 G e r → Q6 G e' r) : ∀ q, Q9m p0 e q → Q9m p0 e' q
  | _, ⟨z, zo, hz⟩ => ⟨z, zo, h _ hz⟩
theorem Q1hm (p0 : Val) : Q1f5 p0 = (p0) := by
  rfl
def Q18g (p0 : Val) : En := .call 136 [.agg (Val.cells p0)] []
def Q16a (p0 : Val) : Rs := .ret (.agg (Val.cells (Q1f5 p0))) []
abbrev Qpp (p0 : Val) : Prop := Val.Sm 1000000000 p0
def Qa4 (p0 : Val) : Prop := ∀ (q : Val), SizeOf.sizeOf q < SizeOf.sizeOf p0 → Qpp q → Q6 G (Q18g q) (Q16a q)
def Qep (p0 : Val) : Prop := (List.length p0.list ≤ 4611686018427387904) ∧ (∀ x0 ∈ p0.list, Qpp x0) ∧ True
def Qg1 (p0 : Val) : Prop := (List.length p0.fields ≤ 4611686018427387904) ∧ (∀ x1 ∈ p0.fields, Qpp x1.v) ∧ True
theorem Qe2 (p0 : Val) (H : Qpp p0) : (List.length p0.list * 80 ≤ 140737488355328) ∧ (Qep p0) ∧ (List.length p0.fields * 96 ≤ 140737488355328) ∧ (Qg1 p0) ∧ True := by
  obtain ⟨h1, h2, h3, h4⟩ := H.all
  exact ⟨by omega, ⟨by omega, h3, trivial⟩, by omega, ⟨by omega, h4, trivial⟩, trivial⟩
def Qmo (p0 : Val) (i0 : Nat) : List PV :=
  nuns 12 ++ [.ms 2 5 0 (List.length p0.list), .int .i64 ((List.length p0.list) : Int), .int .i64 (i0 : Int), .bool false]
def Qiw (_p0 : Val) (_i0 : Nat) : List (Nat × List PV) :=
  []
theorem Q13o (p0 : Val) (_H : Qep p0) (_rec : Qa4 p0) (i0 : Nat) (hc0 : (decide ((i0 : Int) < ((List.length p0.list) : Int))) = false) : Q9h p0 (Qft p0 i0) () := by
 exact ⟨(envF (Qmo p0 i0)), (zoF (Qiw p0 i0)), Qg (Qzs p0 i0) (x := ((.exit 0), Qmy p0 (envF (Qmo p0 i0)) (zoF (Qiw p0 i0)))) [hB 0 hc0] [] (by kernel_rfl)⟩
theorem Q11p (p0 : Val) (H : Qep p0) (rec : Qa4 p0) (x0 : Val) (i0 : Nat) (hx0 : p0.list[i0]? = some x0) (hi0 : i0 < List.length p0.list) (hc0 : (decide ((i0 : Int) < ((List.length p0.list) : Int))) = true) {r : Rs} (hr : Q6 G (Qft p0 (i0 + 1)) r) : Q6 G (Qft p0 i0) r := by
 have hB0 := H.1
 exact Qk (Qzs p0 i0) (y := (Qs1 p0 (i0 + 1), Qgm p0 (i0 + 1))) [hB 0 hc0, hP 1 (Q4y 2 5 (List.length p0.list) (i0 : Int) i0 (by omega) (by omega) (by omega)), hP 0 (Qas 2 5 0 true ((Val.rows p0.list).flatten) (Val.rows p0.list) 5 true i0 0 (i0 * 5) (Val.cells x0) (.agg [.int .i64 x0.kind, .int .i64 x0.n, .str x0.s, .sl (Val.rows x0.list), .sl (Fld.rows x0.fields)]) rfl rfl (Val.Qa hx0) (Val.Qi p0.list) (by decide) rfl), hP 8 (Q4y 2 5 (List.length p0.list) (i0 : Int) i0 (by omega) (by omega) (by omega)), hV 0 [(2, Val.rows p0.list)] (Q15i 2 5 true ((Val.rows p0.list).flatten) (Val.rows p0.list) (Val.rows p0.list) 5 i0 0 (i0 * 5) _ (.agg [.int .i64 x0.kind, .int .i64 x0.n, .str x0.s, .sl (Val.rows x0.list), .sl (Fld.rows x0.fields)]) rfl rfl (Val.Qa hx0) (Val.Qi p0.list) (by decide) rfl rfl (Qwa (Val.Qa hx0))), hS 0 true (Val.Q7 p0.list 5 rfl), hP 0 (Q1y i0 (by omega))] [aN (rec x0 (szL hx0) (H.2.1 x0 (Q29 hx0)))] (by kernel_rfl) hr
theorem Qve (p0 : Val) (H : Qep p0) (rec : Qa4 p0) : ∀ (r0 : List Val) (i0 : Nat), List.drop i0 p0.list = r0 → Q9h p0 (Qft p0 i0) (Qyd p0 r0 i0)
 | [], i0, hd => by
  have hc0 : (decide ((i0 : Int) < ((List.length p0.list) : Int))) = false := by have := Q1b hd; simp; omega
  show Q9h p0 _ ()
  exact Q13o p0 H rec i0 hc0
 | x0 :: r0, i0, hd => by
  obtain ⟨hx0, hi0, hd'⟩ := Q14 hd
  have hc0 : (decide ((i0 : Int) < ((List.length p0.list) : Int))) = true := by simp; omega
  show Q9h p0 _ ()
  exact Qrc p0 (fun r hr => Q11p p0 H rec x0 i0 hx0 hi0 hc0 hr) _ (Qve p0 H rec r0 (i0 + 1) hd')
def Qmr (p0 : Val) (i1 : Nat) : List PV :=
  nuns 31 ++ [.ms 2 6 0 (List.length p0.fields), .int .i64 ((List.length p0.fields) : Int), .int .i64 (i1 : Int), .bool false]
def Qhf (_p0 : Val) (_i1 : Nat) : List (Nat × List PV) :=
  []
theorem Q10t (p0 : Val) (_H : Qg1 p0) (_rec : Qa4 p0) (i1 : Nat) (hc1 : (decide ((i1 : Int) < ((List.length p0.fields) : Int))) = false) : Q9m p0 (Qem p0 i1) () := by
 exact ⟨(envF (Qmr p0 i1)), (zoF (Qhf p0 i1)), Qg (Qzr p0 i1) (x := ((.exit 2), Qn5 p0 (envF (Qmr p0 i1)) (zoF (Qhf p0 i1)))) [hB 0 hc1] [] (by kernel_rfl)⟩
theorem Q14g (p0 : Val) (H : Qg1 p0) (rec : Qa4 p0) (x1 : Fld) (i1 : Nat) (hx1 : p0.fields[i1]? = some x1) (hi1 : i1 < List.length p0.fields) (hc1 : (decide ((i1 : Int) < ((List.length p0.fields) : Int))) = true) {r : Rs} (hr : Q6 G (Qem p0 (i1 + 1)) r) : Q6 G (Qem p0 i1) r := by
 have hB0 := H.1
 exact Qk (Qzr p0 i1) (y := (Qw1 p0 (i1 + 1), Qji p0 (i1 + 1))) [hB 0 hc1, hP 1 (Q4y 2 6 (List.length p0.fields) (i1 : Int) i1 (by omega) (by omega) (by omega)), hP 0 (Qas 2 6 0 true ((Fld.rows p0.fields).flatten) (Fld.rows p0.fields) 6 true i1 0 (i1 * 6) (Fld.cells x1) (.agg [.str x1.name, .int .i64 x1.v.kind, .int .i64 x1.v.n, .str x1.v.s, .sl (Val.rows x1.v.list), .sl (Fld.rows x1.v.fields)]) rfl rfl (Fld.Qa hx1) (Fld.Qi p0.fields) (by decide) rfl), hP 9 (Q4y 2 6 (List.length p0.fields) (i1 : Int) i1 (by omega) (by omega) (by omega)), hV 1 [(2, Fld.rows p0.fields)] (Q15i 2 6 true ((Fld.rows p0.fields).flatten) (Fld.rows p0.fields) (Fld.rows p0.fields) 5 i1 1 (i1 * 6 + 1) _ (.agg [.int .i64 x1.v.kind, .int .i64 x1.v.n, .str x1.v.s, .sl (Val.rows x1.v.list), .sl (Fld.rows x1.v.fields)]) rfl rfl (Fld.Qa hx1) (Fld.Qi p0.fields) (by decide) rfl rfl (Qwa (Fld.Qa hx1))), hS 0 true (Fld.Q7 p0.fields 6 rfl), hP 0 (Q1y i1 (by omega))] [aN (rec x1.v (szF hx1) (H.2.1 x1 (Q29 hx1)))] (by kernel_rfl) hr
theorem Qvx (p0 : Val) (H : Qg1 p0) (rec : Qa4 p0) : ∀ (r1 : List Fld) (i1 : Nat), List.drop i1 p0.fields = r1 → Q9m p0 (Qem p0 i1) (Qzi p0 r1 i1)
 | [], i1, hd => by
  have hc1 : (decide ((i1 : Int) < ((List.length p0.fields) : Int))) = false := by have := Q1b hd; simp; omega
  show Q9m p0 _ ()
  exact Q10t p0 H rec i1 hc1
 | x1 :: r1, i1, hd => by
  obtain ⟨hx1, hi1, hd'⟩ := Q14 hd
  have hc1 : (decide ((i1 : Int) < ((List.length p0.fields) : Int))) = true := by simp; omega
  show Q9m p0 _ ()
  exact Qpw p0 (fun r hr => Q14g p0 H rec x1 i1 hx1 hi1 hc1 hr) _ (Qvx p0 H rec r1 (i1 + 1) hd')
theorem Q1je (p0 : Val) (H : Qpp p0) (rec : Qa4 p0) : Q6 G (Q18g p0) (Q16a p0) := by
  unfold Q16a
  rw [Q1hm]
  have hl0 := Qve p0 ((Qe2 p0 H).2.1) rec p0.list 0 (by simp)
  obtain ⟨z0, zo0, hl0⟩ := hl0
  have hl1 := Qvx p0 ((Qe2 p0 H).2.2.2.1) rec p0.fields 0 (by simp)
  obtain ⟨z1, zo1, hl1⟩ := hl1
  exact Qb (fn := Ir.K42) rfl VOK.nil [hQ (Val.Q7 p0.list 5 rfl), hS 0 true (Val.Q7 p0.list 5 rfl), hQ (Fld.Q7 p0.fields 6 rfl), hS 0 true (Fld.Q7 p0.fields 6 rfl), hS 0 true (Val.Q7 p0.list 5 rfl), hQ (Val.Q5 p0.list).symm, hQ (Fld.Q5 p0.fields).symm] [aV [(0, Val.rows p0.list)] (Q7k (G := G) (f := 153) (sz := 5) (bytes := 80) rfl (Val.Q5 p0.list) (Val.Q7 p0.list 5 rfl) (Qe2 p0 H).1), aV [(2, Val.rows p0.list)] hl0, aV [(0, Fld.rows p0.fields)] (Q7k (G := G) (f := 132) (sz := 6) (bytes := 96) rfl (Fld.Q5 p0.fields) (Fld.Q7 p0.fields 6 rfl) (Qe2 p0 H).2.2.1), aV [(2, Fld.rows p0.fields), (3, Val.rows p0.list)] hl1] (by kernel_rfl)
theorem Q1em : ∀ (k : Nat) (p0 : Val), SizeOf.sizeOf p0 < k → Qpp p0 → Q6 G (Q18g p0) (Q16a p0)
  | 0, _, h, _ => absurd h (Nat.not_lt_zero _)
  | k + 1, p0, h, H => Q1je p0 H (fun q hq hH => Q1em k q (by omega) hH)
theorem Q1dj (p0 : Val) (H : Qpp p0) : Q6 G (Q18g p0) (Q16a p0) := Q1em _ p0 (Nat.lt_succ_self _) H
def Qbf (p0 : List Val) : Val :=
 (Val.mk 4 0 (⟨#[]⟩ : ByteArray) p0 [])
def Q1h4 (p0 : List Val) : En := .call 137 [.sl (Val.rows p0)] []
def Q1eq (p0 : List Val) : Rs := .ret (.agg (Val.cells (Qbf p0))) []
def Qc5 (p0 : List Val) : Prop := (Qpp (Val.mk 4 0 (⟨#[]⟩ : ByteArray) p0 [])) ∧ True
theorem Qdv (p0 : List Val) (H : Qc5 p0) : Q6 G (Q1h4 p0) (Q1eq p0) := by
 unfold Q1eq Qbf
 exact Qb (fn := Ir.K3y) rfl VOK.nil [] [aN (Q1dj (Val.mk 4 0 (⟨#[]⟩ : ByteArray) p0 []) H.1)] (by kernel_rfl)
end Go.Proofs.YtiflaadeikaghaaGreat
end

section
/- What building a map computes (printed by a program). -/
namespace Go.Proofs.YtiflaadeikaghaaGreat
open Go.Pv
def Qva (p0 : Fld) (p1 : Fld) : Int :=
 (Q1cp p0.name p1.name)
def Q1j9 (p0 : Fld) (p1 : Fld) : En := .call 134 [.agg (Fld.cells p0), .agg (Fld.cells p1)] []
def Q1ex (p0 : Fld) (p1 : Fld) : Rs := .ret (.int .i64 (Qva p0 p1)) []
theorem Q1g0 (p0 : Fld) (p1 : Fld) : Q6 G (Q1j9 p0 p1) (Q1ex p0 p1) := by
 unfold Q1ex Qva
 exact Qb (fn := Ir.K40) rfl VOK.nil [] [aN (Q1le p0.name p1.name)] (by kernel_rfl)
def Q30 (n0 : Nat) (p1 : Int) (p2 : Int) (v0_0 : Int) : Nat → (List Fld) → Int → List Fld
 | 0, v1_0, _v1_1 => v1_0
 | k1 + 1, v1_0, v1_1 =>
  bif (decide (p1 < v1_1)) then
   bif (decide ((Qva (List.getD v1_0 (Int.toNat v1_1) zF) (List.getD v1_0 (Int.toNat (v1_1 - 1)) zF)) < 0)) then
    Q30 n0 p1 p2 v0_0 k1 (List.set (List.set v1_0 (Int.toNat v1_1) (List.getD v1_0 (Int.toNat (v1_1 - 1)) zF)) (Int.toNat (v1_1 - 1)) (List.getD v1_0 (Int.toNat v1_1) zF)) (v1_1 - 1)
   else
    v1_0
  else
   v1_0
def Qt2 (n0 : Nat) (p1 : Int) (p2 : Int) (v0_0 : Int) (_v1_0 : List Fld) (v1_1 : Int) : List PV :=
  [.ms 0 6 0 n0, .int .i64 p1, .int .i64 p2, .fn 134 [] [], .un, .un, .un, .un, .int .i64 v0_0, .int .i64 v1_1] ++ nuns 43
def Qjy (_n0 : Nat) (_p1 : Int) (_p2 : Int) (_v0_0 : Int) (v1_0 : List Fld) (_v1_1 : Int) : List Ob :=
  [⟨6, 0, false, (Fld.rows v1_0).flatten⟩]
def Q9k (n0 : Nat) (p1 : Int) (p2 : Int) (v0_0 : Int) (v1_0 : List Fld) (v1_1 : Int) : En := .loop 1 Ir.Qh7 Ir.Q19q (Qt2 n0 p1 p2 v0_0 v1_0 v1_1) (Qjy n0 p1 p2 v0_0 v1_0 v1_1)
def Q9o (n0 : Nat) (p1 : Int) (p2 : Int) (v0_0 : Int) (q0 : List Fld) (z : Nat → PV) (_zo : Nat → List PV) : St :=
  ⟨[.ms 0 6 0 n0, .int .i64 p1, .int .i64 p2, .fn 134 [] [], z 4, z 5, z 6, z 7, .int .i64 v0_0] ++ zr z 9 44, [(0, ⟨6, 0, false, (Fld.rows q0).flatten⟩)], 1089⟩
theorem Qpv (n0 : Nat) (p1 : Int) (p2 : Int) (v0_0 : Int) (v1_0 : List Fld) (v1_1 : Int) : VOK (Go.Pv.look (number 0 (Qjy n0 p1 p2 v0_0 v1_0 v1_1))) [(0, Fld.rows v1_0)] := (VOK.cons (show Seen _ _ from Q3j (ob := ⟨6, 0, false, (Fld.rows v1_0).flatten⟩) (Fld.Q7 v1_0 6 rfl)) VOK.nil)
def Qbo (n0 : Nat) (p1 : Int) (p2 : Int) (v0_0 : Int) (e : En) (q : List Fld) : Prop := ∃ z zo, Q6 G e (.st (.exit 2) (Q9o n0 p1 p2 v0_0 q z zo))
theorem Qpr (n0 : Nat) (p1 : Int) (p2 : Int) (v0_0 : Int) {e e' : En} (h : ∀ r, Q6 G e r → Q6 G e' r) : ∀ q, Qbo n0 p1 p2 v0_0 e q → Qbo n0 p1 p2 v0_0 e' q
  | _, ⟨z, zo, hz⟩ => ⟨z, zo, h _ hz⟩
theorem Q12z (n0 : Nat) (p1 : Int) (p2 : Int) (v0_0 : Int) (v1_0 : List Fld) (v1_1 : Int) (ho1_0 : 0 ≤ p1) (_ho1_1 : p1 ≤ v1_1) (ho1_2 : v1_1 < n0) (ho1_3 : (n0 : Int) ≤ 20) (ho1_4 : List.length v1_0 = n0) (h0 : (decide (p1 < v1_1)) = true) (h1 : (decide ((Qva (List.getD v1_0 (Int.toNat v1_1) zF) (List.getD v1_0 (Int.toNat (v1_1 - 1)) zF)) < 0)) = true) {r : Rs} (hr : Q6 G (Q9k n0 p1 p2 v0_0 (List.set (List.set v1_0 (Int.toNat v1_1) (List.getD v1_0 (Int.toNat (v1_1 - 1)) zF)) (Int.toNat (v1_1 - 1)) (List.getD v1_0 (Int.toNat v1_1) zF)) (v1_1 - 1)) r) : Q6 G (Q9k n0 p1 p2 v0_0 v1_0 v1_1) r := by
 have e0 := of_decide_eq_true h0; have e1 := of_decide_eq_true h1
 exact Qk (Qpv n0 p1 p2 v0_0 v1_0 v1_1) (y := (Qt2 n0 p1 p2 v0_0 (List.set (List.set v1_0 (Int.toNat v1_1) (List.getD v1_0 (Int.toNat (v1_1 - 1)) zF)) (Int.toNat (v1_1 - 1)) (List.getD v1_0 (Int.toNat v1_1) zF)) (v1_1 - 1), Qjy n0 p1 p2 v0_0 (List.set (List.set v1_0 (Int.toNat v1_1) (List.getD v1_0 (Int.toNat (v1_1 - 1)) zF)) (Int.toNat (v1_1 - 1)) (List.getD v1_0 (Int.toNat v1_1) zF)) (v1_1 - 1))) [hB 2 h0, hP 4 (Q4y 0 6 n0 v1_1 (Int.toNat v1_1) rfl (by omega) (by omega)), hP 0 (Qas 0 6 0 false ((Fld.rows v1_0).flatten) (Fld.rows v1_0) 6 true (Int.toNat v1_1) 0 ((Int.toNat v1_1) * 6) (Fld.cells (List.getD v1_0 (Int.toNat v1_1) zF)) (.agg [.str (List.getD v1_0 (Int.toNat v1_1) zF).name, .int .i64 (List.getD v1_0 (Int.toNat v1_1) zF).v.kind, .int .i64 (List.getD v1_0 (Int.toNat v1_1) zF).v.n, .str (List.getD v1_0 (Int.toNat v1_1) zF).v.s, .sl (Val.rows (List.getD v1_0 (Int.toNat v1_1) zF).v.list), .sl (Fld.rows (List.getD v1_0 (Int.toNat v1_1) zF).v.fields)]) rfl rfl (Fld.Qa (Q2b v1_0 (Int.toNat v1_1) zF (by omega))) (Fld.Qi v1_0) (by decide) rfl), hP 2 (w_ok (v1_1 - 1) (by omega)), hP 0 (Q4y 0 6 n0 (v1_1 - 1) (Int.toNat (v1_1 - 1)) rfl (by omega) (by omega)), hP 0 (Qas 0 6 0 false ((Fld.rows v1_0).flatten) (Fld.rows v1_0) 6 true (Int.toNat (v1_1 - 1)) 0 ((Int.toNat (v1_1 - 1)) * 6) (Fld.cells (List.getD v1_0 (Int.toNat (v1_1 - 1)) zF)) (.agg [.str (List.getD v1_0 (Int.toNat (v1_1 - 1)) zF).name, .int .i64 (List.getD v1_0 (Int.toNat (v1_1 - 1)) zF).v.kind, .int .i64 (List.getD v1_0 (Int.toNat (v1_1 - 1)) zF).v.n, .str (List.getD v1_0 (Int.toNat (v1_1 - 1)) zF).v.s, .sl (Val.rows (List.getD v1_0 (Int.toNat (v1_1 - 1)) zF).v.list), .sl (Fld.rows (List.getD v1_0 (Int.toNat (v1_1 - 1)) zF).v.fields)]) rfl rfl (Fld.Qa (Q2b v1_0 (Int.toNat (v1_1 - 1)) zF (by omega))) (Fld.Qi v1_0) (by decide) rfl), hB 1 h1, hP 5 (w_ok (v1_1 - 1) (by omega)), hP 2 (w_ok (v1_1 - 1) (by omega)), hP 0 (Q4y 0 6 n0 (v1_1 - 1) (Int.toNat (v1_1 - 1)) rfl (by omega) (by omega)), hP 0 (Qas 0 6 0 false ((Fld.rows v1_0).flatten) (Fld.rows v1_0) 6 true (Int.toNat (v1_1 - 1)) 0 ((Int.toNat (v1_1 - 1)) * 6) (Fld.cells (List.getD v1_0 (Int.toNat (v1_1 - 1)) zF)) (.agg [.str (List.getD v1_0 (Int.toNat (v1_1 - 1)) zF).name, .int .i64 (List.getD v1_0 (Int.toNat (v1_1 - 1)) zF).v.kind, .int .i64 (List.getD v1_0 (Int.toNat (v1_1 - 1)) zF).v.n, .str (List.getD v1_0 (Int.toNat (v1_1 - 1)) zF).v.s, .sl (Val.rows (List.getD v1_0 (Int.toNat (v1_1 - 1)) zF).v.list), .sl (Fld.rows (List.getD v1_0 (Int.toNat (v1_1 - 1)) zF).v.fields)]) rfl rfl (Fld.Qa (Q2b v1_0 (Int.toNat (v1_1 - 1)) zF (by omega))) (Fld.Qi v1_0) (by decide) rfl), hP 2 (Q4y 0 6 n0 v1_1 (Int.toNat v1_1) rfl (by omega) (by omega)), hP 0 (Qas 0 6 0 false ((Fld.rows v1_0).flatten) (Fld.rows v1_0) 6 true (Int.toNat v1_1) 0 ((Int.toNat v1_1) * 6) (Fld.cells (List.getD v1_0 (Int.toNat v1_1) zF)) (.agg [.str (List.getD v1_0 (Int.toNat v1_1) zF).name, .int .i64 (List.getD v1_0 (Int.toNat v1_1) zF).v.kind, .int .i64 (List.getD v1_0 (Int.toNat v1_1) zF).v.n, .str (List.getD v1_0 (Int.toNat v1_1) zF).v.s, .sl (Val.rows (List.getD v1_0 (Int.toNat v1_1) zF).v.list), .sl (Fld.rows (List.getD v1_0 (Int.toNat v1_1) zF).v.fields)]) rfl rfl (Fld.Qa (Q2b v1_0 (Int.toNat v1_1) zF (by omega))) (Fld.Qi v1_0) (by decide) rfl), hP 0 (Q4y 0 6 n0 v1_1 (Int.toNat v1_1) rfl (by omega) (by omega)), hV 0 [(0, Fld.rows (List.set v1_0 (Int.toNat v1_1) (List.getD v1_0 (Int.toNat (v1_1 - 1)) zF)))] (Q15i 0 6 false ((Fld.rows v1_0).flatten) (Fld.rows v1_0) (Fld.rows (List.set v1_0 (Int.toNat v1_1) (List.getD v1_0 (Int.toNat (v1_1 - 1)) zF))) 6 (Int.toNat v1_1) 0 ((Int.toNat v1_1) * 6) _ (.agg [.str (List.getD v1_0 (Int.toNat (v1_1 - 1)) zF).name, .int .i64 (List.getD v1_0 (Int.toNat (v1_1 - 1)) zF).v.kind, .int .i64 (List.getD v1_0 (Int.toNat (v1_1 - 1)) zF).v.n, .str (List.getD v1_0 (Int.toNat (v1_1 - 1)) zF).v.s, .sl (Val.rows (List.getD v1_0 (Int.toNat (v1_1 - 1)) zF).v.list), .sl (Fld.rows (List.getD v1_0 (Int.toNat (v1_1 - 1)) zF).v.fields)]) rfl rfl (Fld.Qa (Q2b v1_0 (Int.toNat v1_1) zF (by omega))) (Fld.Qi v1_0) (by decide) rfl rfl (Fld.Q2h v1_0 (Int.toNat v1_1) (List.getD v1_0 (Int.toNat (v1_1 - 1)) zF))), hS 0 false (Fld.Q7 (List.set v1_0 (Int.toNat v1_1) (List.getD v1_0 (Int.toNat (v1_1 - 1)) zF)) 6 rfl), hP 0 (Q4y 0 6 n0 (v1_1 - 1) (Int.toNat (v1_1 - 1)) rfl (by have f0 := (Q50 ho1_4 (Int.toNat v1_1) (List.getD v1_0 (Int.toNat (v1_1 - 1)) zF)); omega) (by have f0 := (Q50 ho1_4 (Int.toNat v1_1) (List.getD v1_0 (Int.toNat (v1_1 - 1)) zF)); omega)), hV 0 [(0, Fld.rows (List.set (List.set v1_0 (Int.toNat v1_1) (List.getD v1_0 (Int.toNat (v1_1 - 1)) zF)) (Int.toNat (v1_1 - 1)) (List.getD v1_0 (Int.toNat v1_1) zF)))] (Q15i 0 6 false ((Fld.rows (List.set v1_0 (Int.toNat v1_1) (List.getD v1_0 (Int.toNat (v1_1 - 1)) zF))).flatten) (Fld.rows (List.set v1_0 (Int.toNat v1_1) (List.getD v1_0 (Int.toNat (v1_1 - 1)) zF))) (Fld.rows (List.set (List.set v1_0 (Int.toNat v1_1) (List.getD v1_0 (Int.toNat (v1_1 - 1)) zF)) (Int.toNat (v1_1 - 1)) (List.getD v1_0 (Int.toNat v1_1) zF))) 6 (Int.toNat (v1_1 - 1)) 0 ((Int.toNat (v1_1 - 1)) * 6) _ (.agg [.str (List.getD v1_0 (Int.toNat v1_1) zF).name, .int .i64 (List.getD v1_0 (Int.toNat v1_1) zF).v.kind, .int .i64 (List.getD v1_0 (Int.toNat v1_1) zF).v.n, .str (List.getD v1_0 (Int.toNat v1_1) zF).v.s, .sl (Val.rows (List.getD v1_0 (Int.toNat v1_1) zF).v.list), .sl (Fld.rows (List.getD v1_0 (Int.toNat v1_1) zF).v.fields)]) rfl rfl (Fld.Qa (Q2b (List.set v1_0 (Int.toNat v1_1) (List.getD v1_0 (Int.toNat (v1_1 - 1)) zF)) (Int.toNat (v1_1 - 1)) zF (by have f0 := (Q50 ho1_4 (Int.toNat v1_1) (List.getD v1_0 (Int.toNat (v1_1 - 1)) zF)); try simp only [List.length_set]; omega))) (Fld.Qi (List.set v1_0 (Int.toNat v1_1) (List.getD v1_0 (Int.toNat (v1_1 - 1)) zF))) (by decide) rfl rfl (Fld.Q2h (List.set v1_0 (Int.toNat v1_1) (List.getD v1_0 (Int.toNat (v1_1 - 1)) zF)) (Int.toNat (v1_1 - 1)) (List.getD v1_0 (Int.toNat v1_1) zF))), hS 0 false (Fld.Q7 (List.set (List.set v1_0 (Int.toNat v1_1) (List.getD v1_0 (Int.toNat (v1_1 - 1)) zF)) (Int.toNat (v1_1 - 1)) (List.getD v1_0 (Int.toNat v1_1) zF)) 6 rfl), hP 1 (w_ok (v1_1 - 1) (by have f0 := (Q50 (Q50 ho1_4 (Int.toNat v1_1) (List.getD v1_0 (Int.toNat (v1_1 - 1)) zF)) (Int.toNat (v1_1 - 1)) (List.getD v1_0 (Int.toNat v1_1) zF)); omega))] [aN (Q1g0 (List.getD v1_0 (Int.toNat v1_1) zF) (List.getD v1_0 (Int.toNat (v1_1 - 1)) zF))] (by kernel_rfl) hr
def Qoa (n0 : Nat) (p1 : Int) (_p2 : Int) (_v0_0 : Int) (v1_0 : List Fld) (v1_1 : Int) : List PV :=
  nuns 9 ++ [.int .i64 v1_1] ++ nuns 8 ++ [.int .i64 v1_1, .int .i64 p1, .bool true, .bool true, .fn 134 [] [], .ms 0 6 0 n0, .int .i64 v1_1, .bx 0 ((Int.toNat v1_1) * 6), .agg [.str (List.getD v1_0 (Int.toNat v1_1) zF).name, .int .i64 (List.getD v1_0 (Int.toNat v1_1) zF).v.kind, .int .i64 (List.getD v1_0 (Int.toNat v1_1) zF).v.n, .str (List.getD v1_0 (Int.toNat v1_1) zF).v.s, .sl (Val.rows (List.getD v1_0 (Int.toNat v1_1) zF).v.list), .sl (Fld.rows (List.getD v1_0 (Int.toNat v1_1) zF).v.fields)], .ms 0 6 0 n0, .int .i64 v1_1, .int .i64 (v1_1 - 1), .bx 0 ((Int.toNat (v1_1 - 1)) * 6), .agg [.str (List.getD v1_0 (Int.toNat (v1_1 - 1)) zF).name, .int .i64 (List.getD v1_0 (Int.toNat (v1_1 - 1)) zF).v.kind, .int .i64 (List.getD v1_0 (Int.toNat (v1_1 - 1)) zF).v.n, .str (List.getD v1_0 (Int.toNat (v1_1 - 1)) zF).v.s, .sl (Val.rows (List.getD v1_0 (Int.toNat (v1_1 - 1)) zF).v.list), .sl (Fld.rows (List.getD v1_0 (Int.toNat (v1_1 - 1)) zF).v.fields)], .int .i64 (Qva (List.getD v1_0 (Int.toNat v1_1) zF) (List.getD v1_0 (Int.toNat (v1_1 - 1)) zF)), .bool false, .bool false]
def Qhb (_n0 : Nat) (_p1 : Int) (_p2 : Int) (_v0_0 : Int) (_v1_0 : List Fld) (_v1_1 : Int) : List (Nat × List PV) :=
  []
theorem Q137 (n0 : Nat) (p1 : Int) (p2 : Int) (v0_0 : Int) (v1_0 : List Fld) (v1_1 : Int) (ho1_0 : 0 ≤ p1) (_ho1_1 : p1 ≤ v1_1) (ho1_2 : v1_1 < n0) (ho1_3 : (n0 : Int) ≤ 20) (ho1_4 : List.length v1_0 = n0) (h0 : (decide (p1 < v1_1)) = true) (h1 : (decide ((Qva (List.getD v1_0 (Int.toNat v1_1) zF) (List.getD v1_0 (Int.toNat (v1_1 - 1)) zF)) < 0)) = false) : Qbo n0 p1 p2 v0_0 (Q9k n0 p1 p2 v0_0 v1_0 v1_1) v1_0 := by
 have e0 := of_decide_eq_true h0; have e1 := of_decide_eq_false h1
 exact ⟨(envF (Qoa n0 p1 p2 v0_0 v1_0 v1_1)), (zoF (Qhb n0 p1 p2 v0_0 v1_0 v1_1)), Qg (Qpv n0 p1 p2 v0_0 v1_0 v1_1) (x := ((.exit 2), Q9o n0 p1 p2 v0_0 v1_0 (envF (Qoa n0 p1 p2 v0_0 v1_0 v1_1)) (zoF (Qhb n0 p1 p2 v0_0 v1_0 v1_1)))) [hB 2 h0, hP 4 (Q4y 0 6 n0 v1_1 (Int.toNat v1_1) rfl (by omega) (by omega)), hP 0 (Qas 0 6 0 false ((Fld.rows v1_0).flatten) (Fld.rows v1_0) 6 true (Int.toNat v1_1) 0 ((Int.toNat v1_1) * 6) (Fld.cells (List.getD v1_0 (Int.toNat v1_1) zF)) (.agg [.str (List.getD v1_0 (Int.toNat v1_1) zF).name, .int .i64 (List.getD v1_0 (Int.toNat v1_1) zF).v.kind, .int .i64 (List.getD v1_0 (Int.toNat v1_1) zF).v.n, .str (List.getD v1_0 (Int.toNat v1_1) zF).v.s, .sl (Val.rows (List.getD v1_0 (Int.toNat v1_1) zF).v.list), .sl (Fld.rows (List.getD v1_0 (Int.toNat v1_1) zF).v.fields)]) rfl rfl (Fld.Qa (Q2b v1_0 (Int.toNat v1_1) zF (by omega))) (Fld.Qi v1_0) (by decide) rfl), hP 2 (w_ok (v1_1 - 1) (by omega)), hP 0 (Q4y 0 6 n0 (v1_1 - 1) (Int.toNat (v1_1 - 1)) rfl (by omega) (by omega)), hP 0 (Qas 0 6 0 false ((Fld.rows v1_0).flatten) (Fld.rows v1_0) 6 true (Int.toNat (v1_1 - 1)) 0 ((Int.toNat (v1_1 - 1)) * 6) (Fld.cells (List.getD v1_0 (Int.toNat (v1_1 - 1)) zF)) (.agg [.str (List.getD v1_0 (Int.toNat (v1_1 - 1)) zF).name, .int .i64 (List.getD v1_0 (Int.toNat (v1_1 - 1)) zF).v.kind, .int .i64 (List.getD v1_0 (Int.toNat (v1_1 - 1)) zF).v.n, .str (List.getD v1_0 (Int.toNat (v1_1 - 1)) zF).v.s, .sl (Val.rows (List.getD v1_0 (Int.toNat (v1_1 - 1)) zF).v.list), .sl (Fld.rows (List.getD v1_0 (Int.toNat (v1_1 - 1)) zF).v.fields)]) rfl rfl (Fld.Qa (Q2b v1_0 (Int.toNat (v1_1 - 1)) zF (by omega))) (Fld.Qi v1_0) (by decide) rfl), hB 1 h1] [aN (Q1g0 (List.getD v1_0 (Int.toNat v1_1) zF) (List.getD v1_0 (Int.toNat (v1_1 - 1)) zF))] (by kernel_rfl)⟩
def Qng (_n0 : Nat) (p1 : Int) (_p2 : Int) (_v0_0 : Int) (_v1_0 : List Fld) (v1_1 : Int) : List PV :=
  nuns 9 ++ [.int .i64 v1_1] ++ nuns 8 ++ [.int .i64 v1_1, .int .i64 p1, .bool false, .bool false, .tup [], .tup [], .tup [], .tup [], .tup [], .tup [], .tup [], .tup [], .tup [], .tup [], .tup [], .tup [], .bool false]
def Qh6 (_n0 : Nat) (_p1 : Int) (_p2 : Int) (_v0_0 : Int) (_v1_0 : List Fld) (_v1_1 : Int) : List (Nat × List PV) :=
  []
theorem Q13q (n0 : Nat) (p1 : Int) (p2 : Int) (v0_0 : Int) (v1_0 : List Fld) (v1_1 : Int) (_ho1_0 : 0 ≤ p1) (_ho1_1 : p1 ≤ v1_1) (_ho1_2 : v1_1 < n0) (_ho1_3 : (n0 : Int) ≤ 20) (_ho1_4 : List.length v1_0 = n0) (h0 : (decide (p1 < v1_1)) = false) : Qbo n0 p1 p2 v0_0 (Q9k n0 p1 p2 v0_0 v1_0 v1_1) v1_0 := by
 exact ⟨(envF (Qng n0 p1 p2 v0_0 v1_0 v1_1)), (zoF (Qh6 n0 p1 p2 v0_0 v1_0 v1_1)), Qg (Qpv n0 p1 p2 v0_0 v1_0 v1_1) (x := ((.exit 2), Q9o n0 p1 p2 v0_0 v1_0 (envF (Qng n0 p1 p2 v0_0 v1_0 v1_1)) (zoF (Qh6 n0 p1 p2 v0_0 v1_0 v1_1)))) [hB 2 h0] [] (by kernel_rfl)⟩
theorem Qu0 (n0 : Nat) (p1 : Int) (p2 : Int) (v0_0 : Int) : ∀ (k1 : Nat) (v1_0 : List Fld) (v1_1 : Int), 0 ≤ p1 → p1 ≤ v1_1 → v1_1 < n0 → (n0 : Int) ≤ 20 → List.length v1_0 = n0 → Int.toNat v1_1 < k1 → Qbo n0 p1 p2 v0_0 (Q9k n0 p1 p2 v0_0 v1_0 v1_1) (Q30 n0 p1 p2 v0_0 k1 v1_0 v1_1)
 | 0, v1_0, v1_1, _, _, _, _, _, hm => absurd hm (Nat.not_lt_zero _)
 | k1 + 1, v1_0, v1_1, ho1_0, ho1_1, ho1_2, ho1_3, ho1_4, hm => by
  rw [Q30]
  cases h0 : (decide (p1 < v1_1)) with
  | true =>
   have e0 := of_decide_eq_true h0
   cases h1 : (decide ((Qva (List.getD v1_0 (Int.toNat v1_1) zF) (List.getD v1_0 (Int.toNat (v1_1 - 1)) zF)) < 0)) with
   | true =>
    have e1 := of_decide_eq_true h1
    exact Qpr n0 p1 p2 v0_0 (fun r hr => Q12z n0 p1 p2 v0_0 v1_0 v1_1 ho1_0 ho1_1 ho1_2 ho1_3 ho1_4 h0 h1 hr) _ (Qu0 n0 p1 p2 v0_0 k1 (List.set (List.set v1_0 (Int.toNat v1_1) (List.getD v1_0 (Int.toNat (v1_1 - 1)) zF)) (Int.toNat (v1_1 - 1)) (List.getD v1_0 (Int.toNat v1_1) zF)) (v1_1 - 1) (by have f0 := (Q50 (Q50 ho1_4 (Int.toNat v1_1) (List.getD v1_0 (Int.toNat (v1_1 - 1)) zF)) (Int.toNat (v1_1 - 1)) (List.getD v1_0 (Int.toNat v1_1) zF)); omega) (by have f0 := (Q50 (Q50 ho1_4 (Int.toNat v1_1) (List.getD v1_0 (Int.toNat (v1_1 - 1)) zF)) (Int.toNat (v1_1 - 1)) (List.getD v1_0 (Int.toNat v1_1) zF)); omega) (by have f0 := (Q50 (Q50 ho1_4 (Int.toNat v1_1) (List.getD v1_0 (Int.toNat (v1_1 - 1)) zF)) (Int.toNat (v1_1 - 1)) (List.getD v1_0 (Int.toNat v1_1) zF)); omega) (by have f0 := (Q50 (Q50 ho1_4 (Int.toNat v1_1) (List.getD v1_0 (Int.toNat (v1_1 - 1)) zF)) (Int.toNat (v1_1 - 1)) (List.getD v1_0 (Int.toNat v1_1) zF)); omega) (Q50 (Q50 ho1_4 (Int.toNat v1_1) (List.getD v1_0 (Int.toNat (v1_1 - 1)) zF)) (Int.toNat (v1_1 - 1)) (List.getD v1_0 (Int.toNat v1_1) zF)) (by have f0 := (Q50 (Q50 ho1_4 (Int.toNat v1_1) (List.getD v1_0 (Int.toNat (v1_1 - 1)) zF)) (Int.toNat (v1_1 - 1)) (List.getD v1_0 (Int.toNat v1_1) zF)); omega))
   | false =>
    exact Q137 n0 p1 p2 v0_0 v1_0 v1_1 ho1_0 ho1_1 ho1_2 ho1_3 ho1_4 h0 h1
  | false =>
   exact Q13q n0 p1 p2 v0_0 v1_0 v1_1 ho1_0 ho1_1 ho1_2 ho1_3 ho1_4 h0
theorem Q39 (n0 : Nat) (p1 : Int) (p2 : Int) (v0_0 : Int) : ∀ (k1 : Nat) (v1_0 : List Fld) (v1_1 : Int), List.length v1_0 = n0 → List.length (Q30 n0 p1 p2 v0_0 k1 v1_0 v1_1) = n0
 | 0, v1_0, v1_1, ho1_4 => by rw [Q30]; exact ho1_4
 | k1 + 1, v1_0, v1_1, ho1_4 => by
  rw [Q30]
  cases h0 : (decide (p1 < v1_1)) with
  | true =>
   cases h1 : (decide ((Qva (List.getD v1_0 (Int.toNat v1_1) zF) (List.getD v1_0 (Int.toNat (v1_1 - 1)) zF)) < 0)) with
   | true =>
    exact Q39 n0 p1 p2 v0_0 k1 (List.set (List.set v1_0 (Int.toNat v1_1) (List.getD v1_0 (Int.toNat (v1_1 - 1)) zF)) (Int.toNat (v1_1 - 1)) (List.getD v1_0 (Int.toNat v1_1) zF)) (v1_1 - 1) (Q50 (Q50 ho1_4 (Int.toNat v1_1) (List.getD v1_0 (Int.toNat (v1_1 - 1)) zF)) (Int.toNat (v1_1 - 1)) (List.getD v1_0 (Int.toNat v1_1) zF))
   | false =>
    exact ho1_4
  | false =>
   exact ho1_4
def Q3r (n0 : Nat) (p1 : Int) (p2 : Int) : Nat → Int → (List Fld) → List Fld
 | 0, _v0_0, v0_1 => v0_1
 | k0 + 1, v0_0, v0_1 =>
  bif (decide (v0_0 < p2)) then
   Q3r n0 p1 p2 k0 (v0_0 + 1) (Q30 n0 p1 p2 v0_0 ((Int.toNat v0_0) + 1) v0_1 v0_0)
  else
   v0_1
def Quj (n0 : Nat) (p1 : Int) (p2 : Int) (v0_0 : Int) (_v0_1 : List Fld) : List PV :=
  [.ms 0 6 0 n0, .int .i64 p1, .int .i64 p2, .fn 134 [] [], .un, .un, .un, .un, .int .i64 v0_0] ++ nuns 44
def Qgi (_n0 : Nat) (_p1 : Int) (_p2 : Int) (_v0_0 : Int) (v0_1 : List Fld) : List Ob :=
  [⟨6, 0, false, (Fld.rows v0_1).flatten⟩]
def Qgb (n0 : Nat) (p1 : Int) (p2 : Int) (v0_0 : Int) (v0_1 : List Fld) : En := .loop 1 Ir.Qhi Ir.Q1a9 (Quj n0 p1 p2 v0_0 v0_1) (Qgi n0 p1 p2 v0_0 v0_1)
def Qo5 (_n0 : Nat) (_p1 : Int) (_p2 : Int) (q0 : List Fld) (z : Nat → PV) (_zo : Nat → List PV) : St :=
  ⟨zr z 0 53, [(0, ⟨6, 0, false, (Fld.rows q0).flatten⟩)], 193⟩
theorem Qxp (n0 : Nat) (p1 : Int) (p2 : Int) (v0_0 : Int) (v0_1 : List Fld) : VOK (Go.Pv.look (number 0 (Qgi n0 p1 p2 v0_0 v0_1))) [(0, Fld.rows v0_1)] := (VOK.cons (show Seen _ _ from Q3j (ob := ⟨6, 0, false, (Fld.rows v0_1).flatten⟩) (Fld.Q7 v0_1 6 rfl)) VOK.nil)
def Qg2 (n0 : Nat) (p1 : Int) (p2 : Int) (e : En) (q : List Fld) : Prop := ∃ z zo, Q6 G e (.st (.exit 0) (Qo5 n0 p1 p2 q z zo))
theorem Qq0 (n0 : Nat) (p1 : Int) (p2 : Int) {e e' : En} (h : ∀ r, Q6 G e r → Q6 G e' r) : ∀ q, Qg2 n0 p1 p2 e q → Qg2 n0 p1 p2 e' q
  | _, ⟨z, zo, hz⟩ => ⟨z, zo, h _ hz⟩
theorem Q12a (n0 : Nat) (p1 : Int) (p2 : Int) (v0_0 : Int) (v0_1 : List Fld) (ho0_0 : 0 ≤ p1) (ho0_1 : p1 < v0_0) (ho0_2 : p2 ≤ n0) (ho0_3 : (n0 : Int) ≤ 20) (ho0_4 : List.length v0_1 = n0) (h0 : (decide (v0_0 < p2)) = true) (z1 : Nat → PV) (zo1 : Nat → List PV) (hl1 : Q6 G (Q9k n0 p1 p2 v0_0 v0_1 v0_0) (.st (.exit 2) (Q9o n0 p1 p2 v0_0 (Q30 n0 p1 p2 v0_0 ((Int.toNat v0_0) + 1) v0_1 v0_0) z1 zo1))) {r : Rs} (hr : Q6 G (Qgb n0 p1 p2 (v0_0 + 1) (Q30 n0 p1 p2 v0_0 ((Int.toNat v0_0) + 1) v0_1 v0_0)) r) : Q6 G (Qgb n0 p1 p2 v0_0 v0_1) r := by
 have e0 := of_decide_eq_true h0
 exact Qk (Qxp n0 p1 p2 v0_0 v0_1) (y := (Quj n0 p1 p2 (v0_0 + 1) (Q30 n0 p1 p2 v0_0 ((Int.toNat v0_0) + 1) v0_1 v0_0), Qgi n0 p1 p2 (v0_0 + 1) (Q30 n0 p1 p2 v0_0 ((Int.toNat v0_0) + 1) v0_1 v0_0))) [hB 2 h0, hS 0 false (Fld.Q7 (Q30 n0 p1 p2 v0_0 ((Int.toNat v0_0) + 1) v0_1 v0_0) 6 rfl), hP 3 (w_ok (v0_0 + 1) (by have f0 := (Q39 n0 p1 p2 v0_0 ((Int.toNat v0_0) + 1) v0_1 v0_0 ho0_4); omega))] [aV [(0, Fld.rows (Q30 n0 p1 p2 v0_0 ((Int.toNat v0_0) + 1) v0_1 v0_0))] hl1] (by kernel_rfl) hr
def Qmk (n0 : Nat) (p1 : Int) (p2 : Int) (v0_0 : Int) (_v0_1 : List Fld) : List PV :=
  [.ms 0 6 0 n0, .int .i64 p1, .int .i64 p2, .fn 134 [] [], .un, .un, .un, .un, .int .i64 v0_0, .un, .un, .un, .int .i64 v0_0, .int .i64 p2, .bool false]
def Qhw (_n0 : Nat) (_p1 : Int) (_p2 : Int) (_v0_0 : Int) (_v0_1 : List Fld) : List (Nat × List PV) :=
  []
theorem Q124 (n0 : Nat) (p1 : Int) (p2 : Int) (v0_0 : Int) (v0_1 : List Fld) (_ho0_0 : 0 ≤ p1) (_ho0_1 : p1 < v0_0) (_ho0_2 : p2 ≤ n0) (_ho0_3 : (n0 : Int) ≤ 20) (_ho0_4 : List.length v0_1 = n0) (h0 : (decide (v0_0 < p2)) = false) : Qg2 n0 p1 p2 (Qgb n0 p1 p2 v0_0 v0_1) v0_1 := by
 exact ⟨(envF (Qmk n0 p1 p2 v0_0 v0_1)), (zoF (Qhw n0 p1 p2 v0_0 v0_1)), Qg (Qxp n0 p1 p2 v0_0 v0_1) (x := ((.exit 0), Qo5 n0 p1 p2 v0_1 (envF (Qmk n0 p1 p2 v0_0 v0_1)) (zoF (Qhw n0 p1 p2 v0_0 v0_1)))) [hB 2 h0] [] (by kernel_rfl)⟩
theorem Qvm (n0 : Nat) (p1 : Int) (p2 : Int) : ∀ (k0 : Nat) (v0_0 : Int) (v0_1 : List Fld), 0 ≤ p1 → p1 < v0_0 → p2 ≤ n0 → (n0 : Int) ≤ 20 → List.length v0_1 = n0 → Int.toNat (p2 - v0_0) < k0 → Qg2 n0 p1 p2 (Qgb n0 p1 p2 v0_0 v0_1) (Q3r n0 p1 p2 k0 v0_0 v0_1)
 | 0, v0_0, v0_1, _, _, _, _, _, hm => absurd hm (Nat.not_lt_zero _)
 | k0 + 1, v0_0, v0_1, ho0_0, ho0_1, ho0_2, ho0_3, ho0_4, hm => by
  rw [Q3r]
  cases h0 : (decide (v0_0 < p2)) with
  | true =>
   have e0 := of_decide_eq_true h0
   have hl1 := Qu0 n0 p1 p2 v0_0 ((Int.toNat v0_0) + 1) v0_1 v0_0 (by omega) (by omega) (by omega) (by omega) ho0_4 (by omega)
   obtain ⟨z1, zo1, hl1⟩ := hl1
   exact Qq0 n0 p1 p2 (fun r hr => Q12a n0 p1 p2 v0_0 v0_1 ho0_0 ho0_1 ho0_2 ho0_3 ho0_4 h0 z1 zo1 hl1 hr) _ (Qvm n0 p1 p2 k0 (v0_0 + 1) (Q30 n0 p1 p2 v0_0 ((Int.toNat v0_0) + 1) v0_1 v0_0) (by have f0 := (Q39 n0 p1 p2 v0_0 ((Int.toNat v0_0) + 1) v0_1 v0_0 ho0_4); omega) (by have f0 := (Q39 n0 p1 p2 v0_0 ((Int.toNat v0_0) + 1) v0_1 v0_0 ho0_4); omega) (by have f0 := (Q39 n0 p1 p2 v0_0 ((Int.toNat v0_0) + 1) v0_1 v0_0 ho0_4); omega) (by have f0 := (Q39 n0 p1 p2 v0_0 ((Int.toNat v0_0) + 1) v0_1 v0_0 ho0_4); omega) (Q39 n0 p1 p2 v0_0 ((Int.toNat v0_0) + 1) v0_1 v0_0 ho0_4) (by have f0 := (Q39 n0 p1 p2 v0_0 ((Int.toNat v0_0) + 1) v0_1 v0_0 ho0_4); omega))
  | false =>
   exact Q124 n0 p1 p2 v0_0 v0_1 ho0_0 ho0_1 ho0_2 ho0_3 ho0_4 h0
theorem Qa6 (n0 : Nat) (p1 : Int) (p2 : Int) : ∀ (k0 : Nat) (v0_0 : Int) (v0_1 : List Fld), List.length v0_1 = n0 → List.length (Q3r n0 p1 p2 k0 v0_0 v0_1) = n0
 | 0, v0_0, v0_1, ho0_4 => by rw [Q3r]; exact ho0_4
 | k0 + 1, v0_0, v0_1, ho0_4 => by
  rw [Q3r]
  cases h0 : (decide (v0_0 < p2)) with
  | true =>
   exact Qa6 n0 p1 p2 k0 (v0_0 + 1) (Q30 n0 p1 p2 v0_0 ((Int.toNat v0_0) + 1) v0_1 v0_0) (Q39 n0 p1 p2 v0_0 ((Int.toNat v0_0) + 1) v0_1 v0_0 ho0_4)
  | false =>
   exact ho0_4
def Q1o (n0 : Nat) (p0 : List Fld) (p1 : Int) (p2 : Int) : List Fld :=
 (Q3r n0 p1 p2 ((Int.toNat (p2 - (p1 + 1))) + 1) (p1 + 1) p0)
def Q131 (n0 : Nat) (p0 : List Fld) (p1 : Int) (p2 : Int) : En := .call 155 [.ms 0 6 0 n0, .int .i64 p1, .int .i64 p2, .fn 134 [] []] [⟨6, 0, false, (Fld.rows p0).flatten⟩]
def Qlj (n0 : Nat) (p0 : List Fld) (p1 : Int) (p2 : Int) : Rs := .ret (.tup []) [⟨6, 0, false, (Fld.rows (Q1o n0 p0 p1 p2)).flatten⟩]
theorem Q19 (n0 : Nat) (p0 : List Fld) (p1 : Int) (p2 : Int) (hn : List.length p0 = n0) : List.length (Q1o n0 p0 p1 p2) = n0 := by
 unfold Q1o
 have hz0_0 : List.length (Q3r n0 p1 p2 ((Int.toNat (p2 - (p1 + 1))) + 1) (p1 + 1) p0) = n0 := Qa6 n0 p1 p2 ((Int.toNat (p2 - (p1 + 1))) + 1) (p1 + 1) p0 hn
 obtain ⟨R0, eR0⟩ : ∃ R, (Q3r n0 p1 p2 ((Int.toNat (p2 - (p1 + 1))) + 1) (p1 + 1) p0) = R := ⟨_, rfl⟩
 rw [eR0] at hz0_0 ⊢
 exact hz0_0
theorem Qmp (n0 : Nat) (p0 : List Fld) (p1 : Int) (p2 : Int) (hn : List.length p0 = n0) (hq0 : 0 ≤ p1 ∧ p1 ≤ p2 ∧ p2 ≤ n0 ∧ (n0 : Int) ≤ 20) : Q6 G (Q131 n0 p0 p1 p2) (Qlj n0 p0 p1 p2) := by
 unfold Qlj Q1o
 have hl0 := Qvm n0 p1 p2 ((Int.toNat (p2 - (p1 + 1))) + 1) (p1 + 1) p0 (by omega) (by omega) (by omega) (by omega) hn (by omega)
 have hz0_0 : List.length (Q3r n0 p1 p2 ((Int.toNat (p2 - (p1 + 1))) + 1) (p1 + 1) p0) = n0 := Qa6 n0 p1 p2 ((Int.toNat (p2 - (p1 + 1))) + 1) (p1 + 1) p0 hn
 obtain ⟨R0, eR0⟩ : ∃ R, (Q3r n0 p1 p2 ((Int.toNat (p2 - (p1 + 1))) + 1) (p1 + 1) p0) = R := ⟨_, rfl⟩
 rw [eR0] at hz0_0 hl0 ⊢
 obtain ⟨z0, zo0, hl0⟩ := hl0
 exact Qb (fn := Ir.K3s) rfl (vk1 (Fld.Q7 p0 6 rfl)) [hP 1 (w_ok (p1 + 1) (by omega)), hS 0 false (Fld.Q7 R0 6 rfl)] [aV [(0, Fld.rows R0)] hl0] (by kernel_rfl)
def Q2t (n0 : Nat) (p1 : Int) : Nat → (List Fld) → Int → Int → (List Fld) × Int
 | 0, v0_0, v0_1, _v0_2 => (v0_0, v0_1)
 | k0 + 1, v0_0, v0_1, v0_2 =>
  bif (decide (v0_2 ≤ p1)) then
   Q2t n0 p1 k0 (Q1o n0 v0_0 v0_1 v0_2) v0_2 (v0_2 + 20)
  else
   (v0_0, v0_1)
def Qun (n0 : Nat) (p1 : Int) (_v0_0 : List Fld) (v0_1 : Int) (v0_2 : Int) : List PV :=
  [.ms 0 6 0 n0, .int .i64 p1, .fn 134 [] [], .un, .un, .un, .int .i64 20, .int .i64 v0_1, .int .i64 v0_2] ++ nuns 54
def Qgf (_n0 : Nat) (_p1 : Int) (v0_0 : List Fld) (_v0_1 : Int) (_v0_2 : Int) : List Ob :=
  [⟨6, 0, false, (Fld.rows v0_0).flatten⟩]
def Qf0 (n0 : Nat) (p1 : Int) (v0_0 : List Fld) (v0_1 : Int) (v0_2 : Int) : En := .loop 1 Ir.Qkq Ir.Q1ag (Qun n0 p1 v0_0 v0_1 v0_2) (Qgf n0 p1 v0_0 v0_1 v0_2)
def Qm8 (n0 : Nat) (p1 : Int) (q0 : List Fld) (q1 : Int) (z : Nat → PV) (_zo : Nat → List PV) : St :=
  ⟨[.ms 0 6 0 n0, .int .i64 p1, .fn 134 [] [], z 3, z 4, z 5, .int .i64 20, .int .i64 q1] ++ zr z 8 55, [(0, ⟨6, 0, false, (Fld.rows q0).flatten⟩)], 193⟩
theorem Qy8 (n0 : Nat) (p1 : Int) (v0_0 : List Fld) (v0_1 : Int) (v0_2 : Int) : VOK (Go.Pv.look (number 0 (Qgf n0 p1 v0_0 v0_1 v0_2))) [(0, Fld.rows v0_0)] := (VOK.cons (show Seen _ _ from Q3j (ob := ⟨6, 0, false, (Fld.rows v0_0).flatten⟩) (Fld.Q7 v0_0 6 rfl)) VOK.nil)
def Qf4 (n0 : Nat) (p1 : Int) (e : En) (q : (List Fld) × Int) : Prop := ∃ z zo, Q6 G e (.st (.exit 0) (Qm8 n0 p1 q.1 q.2 z zo))
theorem Qqp (n0 : Nat) (p1 : Int) {e e' : En} (h : ∀ r, Q6 G e r → Q6 G e' r) : ∀ q, Qf4 n0 p1 e q → Qf4 n0 p1 e' q
  | _, ⟨z, zo, hz⟩ => ⟨z, zo, h _ hz⟩
theorem Q10m (n0 : Nat) (p1 : Int) (v0_0 : List Fld) (v0_1 : Int) (v0_2 : Int) (ho0_0 : 0 ≤ v0_1) (_ho0_1 : v0_1 ≤ n0) (ho0_2 : v0_1 + 20 = v0_2) (ho0_3 : p1 = n0) (ho0_4 : (n0 : Int) ≤ 20) (ho0_5 : List.length v0_0 = n0) (h0 : (decide (v0_2 ≤ p1)) = true) {r : Rs} (hr : Q6 G (Qf0 n0 p1 (Q1o n0 v0_0 v0_1 v0_2) v0_2 (v0_2 + 20)) r) : Q6 G (Qf0 n0 p1 v0_0 v0_1 v0_2) r := by
 have e0 := of_decide_eq_true h0
 exact Qk (Qy8 n0 p1 v0_0 v0_1 v0_2) (y := (Qun n0 p1 (Q1o n0 v0_0 v0_1 v0_2) v0_2 (v0_2 + 20), Qgf n0 p1 (Q1o n0 v0_0 v0_1 v0_2) v0_2 (v0_2 + 20))) [hB 2 h0, hQ (Fld.Q7 (Q1o n0 v0_0 v0_1 v0_2) 6 rfl), hP 9 (w_ok (v0_2 + 20) (by have f0 := (Q19 n0 v0_0 v0_1 v0_2 ho0_5); omega))] [aV [(0, Fld.rows (Q1o n0 v0_0 v0_1 v0_2))] (Qmp n0 v0_0 v0_1 v0_2 ho0_5 (by omega))] (by kernel_rfl) hr
def Qoe (_n0 : Nat) (p1 : Int) (_v0_0 : List Fld) (_v0_1 : Int) (v0_2 : Int) : List PV :=
  nuns 8 ++ [.int .i64 v0_2, .un, .un, .int .i64 v0_2, .int .i64 p1, .bool false]
def Qkg (_n0 : Nat) (_p1 : Int) (_v0_0 : List Fld) (_v0_1 : Int) (_v0_2 : Int) : List (Nat × List PV) :=
  []
theorem Q14h (n0 : Nat) (p1 : Int) (v0_0 : List Fld) (v0_1 : Int) (v0_2 : Int) (_ho0_0 : 0 ≤ v0_1) (_ho0_1 : v0_1 ≤ n0) (_ho0_2 : v0_1 + 20 = v0_2) (_ho0_3 : p1 = n0) (_ho0_4 : (n0 : Int) ≤ 20) (_ho0_5 : List.length v0_0 = n0) (h0 : (decide (v0_2 ≤ p1)) = false) : Qf4 n0 p1 (Qf0 n0 p1 v0_0 v0_1 v0_2) (v0_0, v0_1) := by
 exact ⟨(envF (Qoe n0 p1 v0_0 v0_1 v0_2)), (zoF (Qkg n0 p1 v0_0 v0_1 v0_2)), Qg (Qy8 n0 p1 v0_0 v0_1 v0_2) (x := ((.exit 0), Qm8 n0 p1 v0_0 v0_1 (envF (Qoe n0 p1 v0_0 v0_1 v0_2)) (zoF (Qkg n0 p1 v0_0 v0_1 v0_2)))) [hB 2 h0] [] (by kernel_rfl)⟩
theorem Qtg (n0 : Nat) (p1 : Int) : ∀ (k0 : Nat) (v0_0 : List Fld) (v0_1 : Int) (v0_2 : Int), 0 ≤ v0_1 → v0_1 ≤ n0 → v0_1 + 20 = v0_2 → p1 = n0 → (n0 : Int) ≤ 20 → List.length v0_0 = n0 → Int.toNat (p1 + 20 - v0_2) < k0 → Qf4 n0 p1 (Qf0 n0 p1 v0_0 v0_1 v0_2) (Q2t n0 p1 k0 v0_0 v0_1 v0_2)
 | 0, v0_0, v0_1, v0_2, _, _, _, _, _, _, hm => absurd hm (Nat.not_lt_zero _)
 | k0 + 1, v0_0, v0_1, v0_2, ho0_0, ho0_1, ho0_2, ho0_3, ho0_4, ho0_5, hm => by
  rw [Q2t]
  cases h0 : (decide (v0_2 ≤ p1)) with
  | true =>
   have e0 := of_decide_eq_true h0
   exact Qqp n0 p1 (fun r hr => Q10m n0 p1 v0_0 v0_1 v0_2 ho0_0 ho0_1 ho0_2 ho0_3 ho0_4 ho0_5 h0 hr) _ (Qtg n0 p1 k0 (Q1o n0 v0_0 v0_1 v0_2) v0_2 (v0_2 + 20) (by have f0 := (Q19 n0 v0_0 v0_1 v0_2 ho0_5); omega) (by have f0 := (Q19 n0 v0_0 v0_1 v0_2 ho0_5); omega) (by have f0 := (Q19 n0 v0_0 v0_1 v0_2 ho0_5); omega) (by have f0 := (Q19 n0 v0_0 v0_1 v0_2 ho0_5); omega) (by have f0 := (Q19 n0 v0_0 v0_1 v0_2 ho0_5); omega) (Q19 n0 v0_0 v0_1 v0_2 ho0_5) (by have f0 := (Q19 n0 v0_0 v0_1 v0_2 ho0_5); omega))
  | false =>
   exact Q14h n0 p1 v0_0 v0_1 v0_2 ho0_0 ho0_1 ho0_2 ho0_3 ho0_4 ho0_5 h0
theorem Qac (n0 : Nat) (p1 : Int) : ∀ (k0 : Nat) (v0_0 : List Fld) (v0_1 : Int) (v0_2 : Int), List.length v0_0 = n0 → List.length (Q2t n0 p1 k0 v0_0 v0_1 v0_2).1 = n0
 | 0, v0_0, v0_1, v0_2, ho0_5 => by rw [Q2t]; exact ho0_5
 | k0 + 1, v0_0, v0_1, v0_2, ho0_5 => by
  rw [Q2t]
  cases h0 : (decide (v0_2 ≤ p1)) with
  | true =>
   exact Qac n0 p1 k0 (Q1o n0 v0_0 v0_1 v0_2) v0_2 (v0_2 + 20) (Q19 n0 v0_0 v0_1 v0_2 ho0_5)
  | false =>
   exact ho0_5
theorem Qsb (n0 : Nat) (p1 : Int) : ∀ (k0 : Nat) (v0_0 : List Fld) (v0_1 : Int) (v0_2 : Int), 0 ≤ v0_1 → v0_1 ≤ n0 → v0_1 + 20 = v0_2 → p1 = n0 → (n0 : Int) ≤ 20 → List.length v0_0 = n0 → Int.toNat (p1 + 20 - v0_2) < k0 → 0 ≤ (Q2t n0 p1 k0 v0_0 v0_1 v0_2).2 ∧ (Q2t n0 p1 k0 v0_0 v0_1 v0_2).2 ≤ n0
 | 0, v0_0, v0_1, v0_2, _, _, _, _, _, _, hm => absurd hm (Nat.not_lt_zero _)
 | k0 + 1, v0_0, v0_1, v0_2, ho0_0, ho0_1, ho0_2, ho0_3, ho0_4, ho0_5, hm => by
  rw [Q2t]
  cases h0 : (decide (v0_2 ≤ p1)) with
  | true =>
   have e0 := of_decide_eq_true h0
   exact Qsb n0 p1 k0 (Q1o n0 v0_0 v0_1 v0_2) v0_2 (v0_2 + 20) (by have f0 := (Q19 n0 v0_0 v0_1 v0_2 ho0_5); omega) (by have f0 := (Q19 n0 v0_0 v0_1 v0_2 ho0_5); omega) (by have f0 := (Q19 n0 v0_0 v0_1 v0_2 ho0_5); omega) (by have f0 := (Q19 n0 v0_0 v0_1 v0_2 ho0_5); omega) (by have f0 := (Q19 n0 v0_0 v0_1 v0_2 ho0_5); omega) (Q19 n0 v0_0 v0_1 v0_2 ho0_5) (by have f0 := (Q19 n0 v0_0 v0_1 v0_2 ho0_5); omega)
  | false =>
   have e0 := of_decide_eq_false h0
   exact (show 0 ≤ v0_1 ∧ v0_1 ≤ n0 from ⟨(by omega), (by omega)⟩)
def Q4z (_n0 : Nat) (_p1 : Int) : Nat → (List Fld) → List Fld
 | 0, v1_0 => v1_0
 | _k1 + 1, v1_0 =>
  v1_0
def Q17r (n0 : Nat) (p1 : Int) (_v1_0 : List Fld) : List PV :=
  [.ms 0 6 0 n0, .int .i64 p1, .fn 134 [] [], .un, .un, .un, .int .i64 20] ++ nuns 56
def Qtr (_n0 : Nat) (_p1 : Int) (v1_0 : List Fld) : List Ob :=
  [⟨6, 0, false, (Fld.rows v1_0).flatten⟩]
def Q10g (n0 : Nat) (p1 : Int) (v1_0 : List Fld) : En := .loop 1 Ir.Qhl Ir.Q1a7 (Q17r n0 p1 v1_0) (Qtr n0 p1 v1_0)
def Qmq (_n0 : Nat) (_p1 : Int) (q0 : List Fld) (z : Nat → PV) (_zo : Nat → List PV) : St :=
  ⟨zr z 0 63, [(0, ⟨6, 0, false, (Fld.rows q0).flatten⟩)], 193⟩
theorem Q19b (n0 : Nat) (p1 : Int) (v1_0 : List Fld) : VOK (Go.Pv.look (number 0 (Qtr n0 p1 v1_0))) [(0, Fld.rows v1_0)] := (VOK.cons (show Seen _ _ from Q3j (ob := ⟨6, 0, false, (Fld.rows v1_0).flatten⟩) (Fld.Q7 v1_0 6 rfl)) VOK.nil)
def Qxz (n0 : Nat) (p1 : Int) (e : En) (q : List Fld) : Prop := ∃ z zo, Q6 G e (.st (.exit 2) (Qmq n0 p1 q z zo))
def Qp8 (n0 : Nat) (p1 : Int) (_v1_0 : List Fld) : List PV :=
  [.ms 0 6 0 n0, .int .i64 p1, .fn 134 [] [], .un, .un, .un, .int .i64 20] ++ nuns 21 ++ [.int .i64 20, .int .i64 p1, .bool false]
def Qjn (_n0 : Nat) (_p1 : Int) (_v1_0 : List Fld) : List (Nat × List PV) :=
  []
theorem Q12o (n0 : Nat) (p1 : Int) (v1_0 : List Fld) (ho1_0 : p1 = n0) (ho1_1 : (n0 : Int) ≤ 20) (ho1_2 : List.length v1_0 = n0) : Qxz n0 p1 (Q10g n0 p1 v1_0) v1_0 := by
 exact ⟨(envF (Qp8 n0 p1 v1_0)), (zoF (Qjn n0 p1 v1_0)), Qg (Q19b n0 p1 v1_0) (x := ((.exit 2), Qmq n0 p1 v1_0 (envF (Qp8 n0 p1 v1_0)) (zoF (Qjn n0 p1 v1_0)))) [hP 2 (dec (decide (20 < p1)) false (decide_eq_false (by omega)))] [] (by kernel_rfl)⟩
theorem Q15z (n0 : Nat) (p1 : Int) : ∀ (k1 : Nat) (v1_0 : List Fld), p1 = n0 → (n0 : Int) ≤ 20 → List.length v1_0 = n0 → 0 < k1 → Qxz n0 p1 (Q10g n0 p1 v1_0) (Q4z n0 p1 k1 v1_0)
 | 0, v1_0, _, _, _, hm => absurd hm (Nat.not_lt_zero _)
 | k1 + 1, v1_0, ho1_0, ho1_1, ho1_2, hm => by
  rw [Q4z]
  exact Q12o n0 p1 v1_0 ho1_0 ho1_1 ho1_2
theorem Qh0 (n0 : Nat) (p1 : Int) : ∀ (k1 : Nat) (v1_0 : List Fld), List.length v1_0 = n0 → List.length (Q4z n0 p1 k1 v1_0) = n0
 | 0, v1_0, ho1_2 => by rw [Q4z]; exact ho1_2
 | k1 + 1, v1_0, ho1_2 => by
  rw [Q4z]
  exact ho1_2
def Q4v (n0 : Nat) (p0 : List Fld) (p1 : Int) : List Fld :=
 (Q4z n0 p1 (0 + 1) (Q1o n0 (Q2t n0 p1 ((Int.toNat (p1 + 20 - 20)) + 1) p0 0 20).1 (Q2t n0 p1 ((Int.toNat (p1 + 20 - 20)) + 1) p0 0 20).2 p1))
def Q11t (n0 : Nat) (p0 : List Fld) (p1 : Int) : En := .call 151 [.ms 0 6 0 n0, .int .i64 p1, .fn 134 [] []] [⟨6, 0, false, (Fld.rows p0).flatten⟩]
def Qo2 (n0 : Nat) (p0 : List Fld) (p1 : Int) : Rs := .ret (.tup []) [⟨6, 0, false, (Fld.rows (Q4v n0 p0 p1)).flatten⟩]
theorem Qr3 (n0 : Nat) (p0 : List Fld) (p1 : Int) (hn : List.length p0 = n0) : List.length (Q4v n0 p0 p1) = n0 := by
 unfold Q4v
 have hz0_0 : List.length (Q2t n0 p1 ((Int.toNat (p1 + 20 - 20)) + 1) p0 0 20).1 = n0 := Qac n0 p1 ((Int.toNat (p1 + 20 - 20)) + 1) p0 0 20 hn
 obtain ⟨R1, eR1⟩ : ∃ R, (Q2t n0 p1 ((Int.toNat (p1 + 20 - 20)) + 1) p0 0 20) = R := ⟨_, rfl⟩
 rw [eR1] at hz0_0 ⊢
 have hz1_0 : List.length (Q4z n0 p1 (0 + 1) (Q1o n0 R1.1 R1.2 p1)) = n0 := Qh0 n0 p1 (0 + 1) (Q1o n0 R1.1 R1.2 p1) (Q19 n0 R1.1 R1.2 p1 hz0_0)
 obtain ⟨R2, eR2⟩ : ∃ R, (Q4z n0 p1 (0 + 1) (Q1o n0 R1.1 R1.2 p1)) = R := ⟨_, rfl⟩
 rw [eR2] at hz1_0 ⊢
 exact hz1_0
theorem Q13e (n0 : Nat) (p0 : List Fld) (p1 : Int) (hn : List.length p0 = n0) (hq0 : 0 ≤ p1 ∧ p1 = n0 ∧ (n0 : Int) ≤ 20) : Q6 G (Q11t n0 p0 p1) (Qo2 n0 p0 p1) := by
 unfold Qo2 Q4v
 have hl0 := Qtg n0 p1 ((Int.toNat (p1 + 20 - 20)) + 1) p0 0 20 (by omega) (by omega) (by omega) (by omega) (by omega) hn (by omega)
 have hz0_0 : List.length (Q2t n0 p1 ((Int.toNat (p1 + 20 - 20)) + 1) p0 0 20).1 = n0 := Qac n0 p1 ((Int.toNat (p1 + 20 - 20)) + 1) p0 0 20 hn
 have hy0 : 0 ≤ (Q2t n0 p1 ((Int.toNat (p1 + 20 - 20)) + 1) p0 0 20).2 ∧ (Q2t n0 p1 ((Int.toNat (p1 + 20 - 20)) + 1) p0 0 20).2 ≤ n0 := Qsb n0 p1 ((Int.toNat (p1 + 20 - 20)) + 1) p0 0 20 (by omega) (by omega) (by omega) (by omega) (by omega) hn (by omega)
 obtain ⟨R1, eR1⟩ : ∃ R, (Q2t n0 p1 ((Int.toNat (p1 + 20 - 20)) + 1) p0 0 20) = R := ⟨_, rfl⟩
 rw [eR1] at hz0_0 hy0 hl0 ⊢
 obtain ⟨z0, zo0, hl0⟩ := hl0
 have hl1 := Q15z n0 p1 (0 + 1) (Q1o n0 R1.1 R1.2 p1) (by have f0 := (Q19 n0 R1.1 R1.2 p1 hz0_0); have g0 := hy0; omega) (by have f0 := (Q19 n0 R1.1 R1.2 p1 hz0_0); have g0 := hy0; omega) (Q19 n0 R1.1 R1.2 p1 hz0_0) (by omega)
 have hz1_0 : List.length (Q4z n0 p1 (0 + 1) (Q1o n0 R1.1 R1.2 p1)) = n0 := Qh0 n0 p1 (0 + 1) (Q1o n0 R1.1 R1.2 p1) (Q19 n0 R1.1 R1.2 p1 hz0_0)
 obtain ⟨R2, eR2⟩ : ∃ R, (Q4z n0 p1 (0 + 1) (Q1o n0 R1.1 R1.2 p1)) = R := ⟨_, rfl⟩
 rw [eR2] at hz1_0 hl1 ⊢
 obtain ⟨z1, zo1, hl1⟩ := hl1
 exact Qb (fn := Ir.K3t) rfl (vk1 (Fld.Q7 p0 6 rfl)) [hS 0 false (Fld.Q7 R1.1 6 rfl), hQ (Fld.Q7 (Q1o n0 R1.1 R1.2 p1) 6 rfl), hS 0 false (Fld.Q7 R2 6 rfl)] [aV [(0, Fld.rows R1.1)] hl0, aV [(0, Fld.rows (Q1o n0 R1.1 R1.2 p1))] (Qmp n0 R1.1 R1.2 p1 hz0_0 (by have g0 := hy0; omega)), aV [(0, Fld.rows R2)] hl1] (by kernel_rfl)
def Ql (n0 : Nat) (p0 : List Fld) : List Fld :=
 (Q4v n0 p0 (n0 : Int))
def Q13h (n0 : Nat) (p0 : List Fld) : En := .call 133 [.ms 0 6 0 n0, .fn 134 [] []] [⟨6, 0, false, (Fld.rows p0).flatten⟩]
def Qm2 (n0 : Nat) (p0 : List Fld) : Rs := .ret (.tup []) [⟨6, 0, false, (Fld.rows (Ql n0 p0)).flatten⟩]
theorem Q1u (n0 : Nat) (p0 : List Fld) (hn : List.length p0 = n0) : List.length (Ql n0 p0) = n0 := by
 unfold Ql
 exact (Qr3 n0 p0 (n0 : Int) hn)
theorem Q148 (n0 : Nat) (p0 : List Fld) (hn : List.length p0 = n0) (hq0 : (n0 : Int) ≤ 20) : Q6 G (Q13h n0 p0) (Qm2 n0 p0) := by
 unfold Qm2 Ql
 exact Qb (fn := Ir.K3r) rfl (vk1 (Fld.Q7 p0 6 rfl)) [hQ (Fld.Q7 (Q4v n0 p0 (n0 : Int)) 6 rfl)] [aV [(0, Fld.rows (Q4v n0 p0 (n0 : Int)))] (Q13e n0 p0 (n0 : Int) hn (by omega))] (by kernel_rfl)
def Q2w (p0 : List Fld) : List Fld → Nat → (List Fld) → List Fld
 | [], _i0, v0_1 =>
  v0_1
 | x0 :: r0, i0, v0_1 =>
  bif (((i0 + 1 : Nat) : Int) == ((List.length p0) : Int)) then
   Q2w p0 r0 (i0 + 1) (v0_1 ++ [x0])
  else
   bif (sEq (List.getD (Ql (List.length p0) p0) (Int.toNat ((i0 + 1 : Nat) : Int)) zF).name x0.name) then
    Q2w p0 r0 (i0 + 1) v0_1
   else
    Q2w p0 r0 (i0 + 1) (v0_1 ++ [x0])
def Qb1 (p0 : List Fld) (i0 : Nat) (_v0_1 : List Fld) : List PV :=
  [.un, .un, .bx 0 0, .ms 1 6 0 (List.length p0), .bx 2 0] ++ nuns 7 ++ [.ms 1 6 0 (List.length p0), .int .i64 ((List.length p0) : Int), .int .i64 (i0 : Int)] ++ nuns 29
def Q90 (p0 : List Fld) (_i0 : Nat) (v0_1 : List Fld) : List Ob :=
  [⟨5, 0, true, [.int .i64 0, .int .i64 0, .str (⟨#[]⟩ : ByteArray), .ms 3 5 0 0, .ms 4 6 0 0]⟩, ⟨6, 0, false, (Fld.rows (Ql (List.length p0) p0)).flatten⟩, ⟨5, 0, true, [.int .i64 5, .int .i64 0, .str (⟨#[]⟩ : ByteArray), .ms 5 5 0 0, .ms 6 6 0 (List.length v0_1)]⟩, ⟨5, 0, true, []⟩, ⟨6, 0, true, []⟩, ⟨5, 0, true, []⟩, ⟨6, 0, true, (Fld.rows v0_1).flatten⟩]
def Q6n (p0 : List Fld) (i0 : Nat) (v0_1 : List Fld) : En := .loop 0 Ir.Qjj Ir.Q1ac (Qb1 p0 i0 v0_1) (Q90 p0 i0 v0_1)
def Qn8 (p0 : List Fld) (q0 : List Fld) (z : Nat → PV) (_zo : Nat → List PV) : St :=
  ⟨[z 0, z 1, .bx 0 0, z 3, .bx 2 0] ++ zr z 5 39, [(0, ⟨5, 0, true, [.int .i64 0, .int .i64 0, .str (⟨#[]⟩ : ByteArray), .ms 3 5 0 0, .ms 4 6 0 0]⟩), (1, ⟨6, 0, false, (Fld.rows (Ql (List.length p0) p0)).flatten⟩), (2, ⟨5, 0, true, [.int .i64 5, .int .i64 0, .str (⟨#[]⟩ : ByteArray), .ms 5 5 0 0, .ms 6 6 0 (List.length q0)]⟩), (3, ⟨5, 0, true, []⟩), (4, ⟨6, 0, true, []⟩), (5, ⟨5, 0, true, []⟩), (6, ⟨6, 0, true, (Fld.rows q0).flatten⟩)], 71⟩
theorem Qgd (p0 : List Fld) (i0 : Nat) (v0_1 : List Fld) : VOK (Go.Pv.look (number 0 (Q90 p0 i0 v0_1))) [(1, Fld.rows (Ql (List.length p0) p0)), (6, Fld.rows v0_1)] := (VOK.cons (show Seen _ _ from Q3j (ob := ⟨6, 0, false, (Fld.rows (Ql (List.length p0) p0)).flatten⟩) (Fld.Q7 (Ql (List.length p0) p0) 6 rfl)) (VOK.cons (show Seen _ _ from Q3j (ob := ⟨6, 0, true, (Fld.rows v0_1).flatten⟩) (Fld.Q7 v0_1 6 rfl)) VOK.nil))
def Qe5 (p0 : List Fld) (e : En) (q : List Fld) : Prop := ∃ z zo, Q6 G e (.st (.exit 0) (Qn8 p0 q z zo))
theorem Q80 (p0 : List Fld) {e e' : En} (h : ∀ r, Q6 G e r → Q6 G e' r) : ∀ q, Qe5 p0 e q → Qe5 p0 e' q
  | _, ⟨z, zo, hz⟩ => ⟨z, zo, h _ hz⟩
def Q9i (p0 : List Fld) : Prop := (List.length (Ql (List.length p0) p0) ≤ 137438953472) ∧ True
def Qnb (p0 : List Fld) (i0 : Nat) (_v0_1 : List Fld) : List PV :=
  [.un, .un, .un, .ms 1 6 0 (List.length p0)] ++ nuns 8 ++ [.ms 1 6 0 (List.length p0), .int .i64 ((List.length p0) : Int), .int .i64 (i0 : Int), .bool false]
def Qhj (_p0 : List Fld) (_i0 : Nat) (_v0_1 : List Fld) : List (Nat × List PV) :=
  []
theorem Q12c (p0 : List Fld) (_H : Q9i p0) (i0 : Nat) (v0_1 : List Fld) (_ho0_0 : List.length v0_1 ≤ i0) (hc0 : (decide ((i0 : Int) < ((List.length p0) : Int))) = false) : Qe5 p0 (Q6n p0 i0 v0_1) v0_1 := by
 exact ⟨(envF (Qnb p0 i0 v0_1)), (zoF (Qhj p0 i0 v0_1)), Qg (Qgd p0 i0 v0_1) (x := ((.exit 0), Qn8 p0 v0_1 (envF (Qnb p0 i0 v0_1)) (zoF (Qhj p0 i0 v0_1)))) [hB 0 hc0] [] (by kernel_rfl)⟩
theorem Q111 (p0 : List Fld) (H : Q9i p0) (x0 : Fld) (i0 : Nat) (v0_1 : List Fld) (hx0 : (Ql (List.length p0) p0)[i0]? = some x0) (hi0 : i0 < List.length (Ql (List.length p0) p0)) (ho0_0 : List.length v0_1 ≤ i0) (hc0 : (decide ((i0 : Int) < ((List.length p0) : Int))) = true) (h0 : (((i0 + 1 : Nat) : Int) == ((List.length p0) : Int)) = true) {r : Rs} (hr : Q6 G (Q6n p0 (i0 + 1) (v0_1 ++ [x0])) r) : Q6 G (Q6n p0 i0 v0_1) r := by
 have hB0 := H.1; have e0 := eq_of_beq h0
 exact Qk (Qgd p0 i0 v0_1) (y := (Qb1 p0 (i0 + 1) (v0_1 ++ [x0]), Q90 p0 (i0 + 1) (v0_1 ++ [x0]))) [hB 0 hc0, hP 1 (Q4y 1 6 (List.length p0) (i0 : Int) i0 (by omega) (by have f1 := (Q1u (List.length p0) p0 rfl); omega) (by have f1 := (Q1u (List.length p0) p0 rfl); omega)), hP 0 (Qas 1 6 0 false ((Fld.rows (Ql (List.length p0) p0)).flatten) (Fld.rows (Ql (List.length p0) p0)) 6 true i0 0 (i0 * 6) (Fld.cells x0) (.agg [.str x0.name, .int .i64 x0.v.kind, .int .i64 x0.v.n, .str x0.v.s, .sl (Val.rows x0.v.list), .sl (Fld.rows x0.v.fields)]) rfl rfl (Fld.Qa hx0) (Fld.Qi (Ql (List.length p0) p0)) (by decide) rfl), hP 4 (Q1y i0 (by omega)), hB 2 h0, hV 15 [(1735, Fld.rows (v0_1 ++ [x0]))] (Q5h 6 1671 1735 6 96 0 0 true (Fld.rows v0_1) (Fld.rows (v0_1 ++ [x0])) (Fld.cells x0) (List.length v0_1) (List.length (v0_1 ++ [x0])) rfl (Fld.Q5 v0_1).symm (Fld.Q5 (v0_1 ++ [x0])).symm (Fld.Q15 v0_1 x0) (Fld.Qi v0_1) rfl (by omega)), hS 0 true (Fld.Q7 (v0_1 ++ [x0]) 6 rfl), hP 2 (Q1y i0 (by omega))] [] (by kernel_rfl) hr
theorem Q130 (p0 : List Fld) (H : Q9i p0) (x0 : Fld) (i0 : Nat) (v0_1 : List Fld) (hx0 : (Ql (List.length p0) p0)[i0]? = some x0) (hi0 : i0 < List.length (Ql (List.length p0) p0)) (_ho0_0 : List.length v0_1 ≤ i0) (hc0 : (decide ((i0 : Int) < ((List.length p0) : Int))) = true) (h0 : (((i0 + 1 : Nat) : Int) == ((List.length p0) : Int)) = false) (h1 : (sEq (List.getD (Ql (List.length p0) p0) (Int.toNat ((i0 + 1 : Nat) : Int)) zF).name x0.name) = true) {r : Rs} (hr : Q6 G (Q6n p0 (i0 + 1) v0_1) r) : Q6 G (Q6n p0 i0 v0_1) r := by
 have hB0 := H.1; have e0 := beq_eq_false_iff_ne.1 h0
 exact Qk (Qgd p0 i0 v0_1) (y := (Qb1 p0 (i0 + 1) v0_1, Q90 p0 (i0 + 1) v0_1)) [hB 0 hc0, hP 1 (Q4y 1 6 (List.length p0) (i0 : Int) i0 (by omega) (by have f1 := (Q1u (List.length p0) p0 rfl); omega) (by have f1 := (Q1u (List.length p0) p0 rfl); omega)), hP 0 (Qas 1 6 0 false ((Fld.rows (Ql (List.length p0) p0)).flatten) (Fld.rows (Ql (List.length p0) p0)) 6 true i0 0 (i0 * 6) (Fld.cells x0) (.agg [.str x0.name, .int .i64 x0.v.kind, .int .i64 x0.v.n, .str x0.v.s, .sl (Val.rows x0.v.list), .sl (Fld.rows x0.v.fields)]) rfl rfl (Fld.Qa hx0) (Fld.Qi (Ql (List.length p0) p0)) (by decide) rfl), hP 4 (Q1y i0 (by omega)), hB 2 h0, hP 3 (Q1y i0 (by omega)), hP 0 (Q4y 1 6 (List.length p0) ((i0 + 1 : Nat) : Int) (Int.toNat ((i0 + 1 : Nat) : Int)) rfl (by have f1 := (Q1u (List.length p0) p0 rfl); omega) (by have f1 := (Q1u (List.length p0) p0 rfl); omega)), hP 1 (Qas 1 6 0 false ((Fld.rows (Ql (List.length p0) p0)).flatten) (Fld.rows (Ql (List.length p0) p0)) 1 false (Int.toNat ((i0 + 1 : Nat) : Int)) 0 ((Int.toNat ((i0 + 1 : Nat) : Int)) * 6) (Fld.cells (List.getD (Ql (List.length p0) p0) (Int.toNat ((i0 + 1 : Nat) : Int)) zF)) (.str (List.getD (Ql (List.length p0) p0) (Int.toNat ((i0 + 1 : Nat) : Int)) zF).name) rfl rfl (Fld.Qa (Q2b (Ql (List.length p0) p0) (Int.toNat ((i0 + 1 : Nat) : Int)) zF (by have f1 := (Q1u (List.length p0) p0 rfl); omega))) (Fld.Qi (Ql (List.length p0) p0)) (by decide) rfl), hP 2 (dec (!(sEq (List.getD (Ql (List.length p0) p0) (Int.toNat ((i0 + 1 : Nat) : Int)) zF).name x0.name)) false (by rw [h1]; rfl)), hP 1 (Q1y i0 (by omega))] [] (by kernel_rfl) hr
theorem Q10n (p0 : List Fld) (H : Q9i p0) (x0 : Fld) (i0 : Nat) (v0_1 : List Fld) (hx0 : (Ql (List.length p0) p0)[i0]? = some x0) (hi0 : i0 < List.length (Ql (List.length p0) p0)) (ho0_0 : List.length v0_1 ≤ i0) (hc0 : (decide ((i0 : Int) < ((List.length p0) : Int))) = true) (h0 : (((i0 + 1 : Nat) : Int) == ((List.length p0) : Int)) = false) (h1 : (sEq (List.getD (Ql (List.length p0) p0) (Int.toNat ((i0 + 1 : Nat) : Int)) zF).name x0.name) = false) {r : Rs} (hr : Q6 G (Q6n p0 (i0 + 1) (v0_1 ++ [x0])) r) : Q6 G (Q6n p0 i0 v0_1) r := by
 have hB0 := H.1; have e0 := beq_eq_false_iff_ne.1 h0
 exact Qk (Qgd p0 i0 v0_1) (y := (Qb1 p0 (i0 + 1) (v0_1 ++ [x0]), Q90 p0 (i0 + 1) (v0_1 ++ [x0]))) [hB 0 hc0, hP 1 (Q4y 1 6 (List.length p0) (i0 : Int) i0 (by omega) (by have f1 := (Q1u (List.length p0) p0 rfl); omega) (by have f1 := (Q1u (List.length p0) p0 rfl); omega)), hP 0 (Qas 1 6 0 false ((Fld.rows (Ql (List.length p0) p0)).flatten) (Fld.rows (Ql (List.length p0) p0)) 6 true i0 0 (i0 * 6) (Fld.cells x0) (.agg [.str x0.name, .int .i64 x0.v.kind, .int .i64 x0.v.n, .str x0.v.s, .sl (Val.rows x0.v.list), .sl (Fld.rows x0.v.fields)]) rfl rfl (Fld.Qa hx0) (Fld.Qi (Ql (List.length p0) p0)) (by decide) rfl), hP 4 (Q1y i0 (by omega)), hB 2 h0, hP 3 (Q1y i0 (by omega)), hP 0 (Q4y 1 6 (List.length p0) ((i0 + 1 : Nat) : Int) (Int.toNat ((i0 + 1 : Nat) : Int)) rfl (by have f1 := (Q1u (List.length p0) p0 rfl); omega) (by have f1 := (Q1u (List.length p0) p0 rfl); omega)), hP 1 (Qas 1 6 0 false ((Fld.rows (Ql (List.length p0) p0)).flatten) (Fld.rows (Ql (List.length p0) p0)) 1 false (Int.toNat ((i0 + 1 : Nat) : Int)) 0 ((Int.toNat ((i0 + 1 : Nat) : Int)) * 6) (Fld.cells (List.getD (Ql (List.length p0) p0) (Int.toNat ((i0 + 1 : Nat) : Int)) zF)) (.str (List.getD (Ql (List.length p0) p0) (Int.toNat ((i0 + 1 : Nat) : Int)) zF).name) rfl rfl (Fld.Qa (Q2b (Ql (List.length p0) p0) (Int.toNat ((i0 + 1 : Nat) : Int)) zF (by have f1 := (Q1u (List.length p0) p0 rfl); omega))) (Fld.Qi (Ql (List.length p0) p0)) (by decide) rfl), hP 2 (dec (!(sEq (List.getD (Ql (List.length p0) p0) (Int.toNat ((i0 + 1 : Nat) : Int)) zF).name x0.name)) true (by rw [h1]; rfl)), hV 5 [(1735, Fld.rows (v0_1 ++ [x0]))] (Q5h 6 1671 1735 6 96 0 0 true (Fld.rows v0_1) (Fld.rows (v0_1 ++ [x0])) (Fld.cells x0) (List.length v0_1) (List.length (v0_1 ++ [x0])) rfl (Fld.Q5 v0_1).symm (Fld.Q5 (v0_1 ++ [x0])).symm (Fld.Q15 v0_1 x0) (Fld.Qi v0_1) rfl (by omega)), hS 0 true (Fld.Q7 (v0_1 ++ [x0]) 6 rfl), hP 2 (Q1y i0 (by omega))] [] (by kernel_rfl) hr
theorem Qbu (p0 : List Fld) (H : Q9i p0) : ∀ (r0 : List Fld) (i0 : Nat) (v0_1 : List Fld), List.drop i0 (Ql (List.length p0) p0) = r0 → List.length v0_1 ≤ i0 → Qe5 p0 (Q6n p0 i0 v0_1) (Q2w p0 r0 i0 v0_1)
 | [], i0, v0_1, hd, ho0_0 => by
  have hc0 : (decide ((i0 : Int) < ((List.length p0) : Int))) = false := by have hL := (Q1u (List.length p0) p0 rfl); have := Q1b hd; simp; omega
  rw [Q2w]
  exact Q12c p0 H i0 v0_1 ho0_0 hc0
 | x0 :: r0, i0, v0_1, hd, ho0_0 => by
  obtain ⟨hx0, hi0, hd'⟩ := Q14 hd
  have hc0 : (decide ((i0 : Int) < ((List.length p0) : Int))) = true := by have hL := (Q1u (List.length p0) p0 rfl); simp; omega
  rw [Q2w]
  cases h0 : (((i0 + 1 : Nat) : Int) == ((List.length p0) : Int)) with
  | true =>
   have e0 := eq_of_beq h0
   exact Q80 p0 (fun r hr => Q111 p0 H x0 i0 v0_1 hx0 hi0 ho0_0 hc0 h0 hr) _ (Qbu p0 H r0 (i0 + 1) (v0_1 ++ [x0]) hd' (by first | omega | (simp; omega)))
  | false =>
   have e0 := beq_eq_false_iff_ne.1 h0
   cases h1 : (sEq (List.getD (Ql (List.length p0) p0) (Int.toNat ((i0 + 1 : Nat) : Int)) zF).name x0.name) with
   | true =>
    exact Q80 p0 (fun r hr => Q130 p0 H x0 i0 v0_1 hx0 hi0 ho0_0 hc0 h0 h1 hr) _ (Qbu p0 H r0 (i0 + 1) v0_1 hd' (by first | omega | (simp; omega)))
   | false =>
    exact Q80 p0 (fun r hr => Q10n p0 H x0 i0 v0_1 hx0 hi0 ho0_0 hc0 h0 h1 hr) _ (Qbu p0 H r0 (i0 + 1) (v0_1 ++ [x0]) hd' (by first | omega | (simp; omega)))
def Q5f (p0 : List Fld) : Val :=
 (Val.mk 5 0 (⟨#[]⟩ : ByteArray) [] (Q2w p0 (Ql (List.length p0) p0) 0 []))
def Q85 (p0 : List Fld) : En := .call 61 [.sl (Fld.rows p0)] []
def Q1f9 (p0 : List Fld) : Rs := .ret (.agg (Val.cells (Q5f p0))) []
def Q7v (p0 : List Fld) : Prop := (List.length p0 * 96 ≤ 140737488355328) ∧ (((List.length p0) : Int) ≤ 20) ∧ (Q9i p0) ∧ (Qpp (Val.mk 5 0 (⟨#[]⟩ : ByteArray) [] (Q2w p0 (Ql (List.length p0) p0) 0 []))) ∧ True
theorem Q8s (p0 : List Fld) (H : Q7v p0) : Q6 G (Q85 p0) (Q1f9 p0) := by
 unfold Q1f9 Q5f
 have hl0 := Qbu p0 (H.2.2.1) (Ql (List.length p0) p0) 0 [] (by simp) (by simp)
 obtain ⟨z0, zo0, hl0⟩ := hl0
 exact Qb (fn := Ir.K3z) rfl VOK.nil [hQ (Fld.Q7 p0 6 rfl), hQ (Fld.Q7 (Ql (List.length p0) p0) 6 rfl), hS 0 false (Fld.Q7 (Ql (List.length p0) p0) 6 rfl), hS 0 true (Fld.Q7 (Q2w p0 (Ql (List.length p0) p0) 0 []) 6 rfl), hQ (Fld.Q5 (Q2w p0 (Ql (List.length p0) p0) 0 [])).symm] [aV [(0, Fld.rows p0)] (Q7k (G := G) (f := 132) (sz := 6) (bytes := 96) rfl (Fld.Q5 p0) (Fld.Q7 p0 6 rfl) H.1), aV [(0, Fld.rows (Ql (List.length p0) p0))] (Q148 (List.length p0) p0 rfl (H.2.1)), aV [(1, Fld.rows (Ql (List.length p0) p0)), (6, Fld.rows (Q2w p0 (Ql (List.length p0) p0) 0 []))] hl0, aN (Q1dj (Val.mk 5 0 (⟨#[]⟩ : ByteArray) [] (Q2w p0 (Ql (List.length p0) p0) 0 [])) H.2.2.2.1)] (by kernel_rfl)
end Go.Proofs.YtiflaadeikaghaaGreat
end

section
/- The library's stable sort as plain functions on lists, and what it answers: the stably sorted list. Program-free. -/
namespace Go.Pv.Srt
section
variable {α : Type} (z : α) (c : α → α → Int)
def gt (d : List α) (i : Int) : α := d.getD i.toNat z
def sw (d : List α) (i j : Int) : List α := (d.set i.toNat (gt z d j)).set j.toNat (gt z d i)
def ins1 (a : Int) : Nat → List α → Int → List α
  | 0, v, _ => v
  | k + 1, v, j => bif decide (a < j) then (bif decide (c (gt z v j) (gt z v (j - 1)) < 0) then ins1 a k (sw z v j (j - 1)) (j - 1) else v) else v
def ins0 (a b : Int) : Nat → Int → List α → List α
  | 0, _, v => v
  | k + 1, i, v => bif decide (i < b) then ins0 a b k (i + 1) (ins1 z c a (i.toNat + 1) v i) else v
def ins (d : List α) (a b : Int) : List α := ins0 z c a b ((b - (a + 1)).toNat + 1) (a + 1) d
theorem Q17t {d A C : List α} {x : α} {i : Int} (hd : d = A ++ x :: C) (hi : i = (A.length : Int)) : gt z d i = x := by
  subst hd hi
  simp [gt]
theorem Q1ai {A C : List α} {x y : α} {i : Int} (hi : i = (A.length : Int)) : (A ++ x :: C).set i.toNat y = A ++ y :: C := by
  subst hi
  simp
theorem Q1cn {A M C : List α} {x y : α} {i j : Int} (hi : i = (A.length : Int)) (hj : j = (A.length : Int) + 1 + (M.length : Int)) : sw z (A ++ x :: (M ++ y :: C)) j i = A ++ y :: (M ++ x :: C) := by
  have e1 : gt z (A ++ x :: (M ++ y :: C)) i = x := Q17t z rfl hi
  have e2 : gt z (A ++ x :: (M ++ y :: C)) j = y := Q17t z (A := A ++ x :: M) (C := C) (by simp) (by simp; omega)
  unfold sw
  rw [e1, e2]
  have e3 : A ++ x :: (M ++ y :: C) = (A ++ x :: M) ++ y :: C := by simp
  rw [e3, Q1ai (A := A ++ x :: M) (by simp; omega)]
  have e4 : (A ++ x :: M) ++ x :: C = A ++ x :: (M ++ x :: C) := by simp
  rw [e4, Q1ai hi]
def insR (x : α) : List α → List α
  | [] => [x]
  | s :: t => bif decide (c x s < 0) then s :: insR x t else x :: s :: t
def Qcy (l : List α) : List α := (l.foldl (fun r x => insR c x r) []).reverse
theorem Qt8 (a : Int) (A : List α) (x : α) (ha : a = (A.length : Int)) : ∀ (R C : List α) (k : Nat) (j : Int), j = (A.length : Int) + (R.length : Int) → R.length < k → ins1 z c a k (A ++ (R.reverse ++ x :: C)) j = A ++ ((insR c x R).reverse ++ C)
  | _, _, 0, _, _, h => absurd h (Nat.not_lt_zero _)
  | [], C, k + 1, j, hj, _ => by
    rw [ins1, show decide (a < j) = false by simp at hj ⊢; omega]
    simp [insR]
  | s :: t, C, k + 1, j, hj, hk => by
    simp only [List.length_cons] at hj hk
    have e0 : A ++ ((s :: t).reverse ++ x :: C) = (A ++ t.reverse) ++ s :: ([] ++ x :: C) := by simp
    rw [ins1, show decide (a < j) = true by simp; omega, cond_true, e0]
    have e1 : gt z ((A ++ t.reverse) ++ s :: ([] ++ x :: C)) j = x := Q17t z (A := A ++ t.reverse ++ [s]) (C := C) (by simp) (by simp; omega)
    have e2 : gt z ((A ++ t.reverse) ++ s :: ([] ++ x :: C)) (j - 1) = s := Q17t z (A := A ++ t.reverse) rfl (by simp; omega)
    rw [e1, e2, insR]
    cases decide (c x s < 0) with
    | true =>
      rw [cond_true, cond_true, Q1cn z (by simp; omega) (by simp; omega)]
      have e3 : (A ++ t.reverse) ++ x :: ([] ++ s :: C) = A ++ (t.reverse ++ x :: (s :: C)) := by simp
      rw [e3, Qt8 a A x ha t (s :: C) k (j - 1) (by omega) (by omega)]
      simp
    | false => simp
theorem Quc (a b : Int) (A : List α) (ha : a = (A.length : Int)) : ∀ (M R C : List α) (k : Nat) (i : Int), i = (A.length : Int) + (R.length : Int) → b = i + (M.length : Int) → M.length < k →
    ins0 z c a b k i (A ++ (R.reverse ++ (M ++ C))) = A ++ ((M.foldl (fun r x => insR c x r) R).reverse ++ C)
  | _, _, _, 0, _, _, _, h => absurd h (Nat.not_lt_zero _)
  | [], R, C, k + 1, i, hi, hb, _ => by
    rw [ins0, show decide (i < b) = false by simp at hb ⊢; omega]
    simp
  | x :: M, R, C, k + 1, i, hi, hb, hk => by
    simp only [List.length_cons] at hb hk
    rw [ins0, show decide (i < b) = true by simp; omega, cond_true, List.cons_append, Qt8 z c a A x ha R (M ++ C) _ i hi (by omega)]
    have hl : (insR c x R).length = R.length + 1 := by
      clear hi hb hk
      induction R with
      | nil => rfl
      | cons s t ih => rw [insR]; cases decide (c x s < 0) <;> simp [ih]
    rw [Quc a b A ha M (insR c x R) C k (i + 1) (by omega) (by omega) (by omega)]
    rfl
theorem Qrv {d A M C : List α} {a b : Int} (hd : d = A ++ (M ++ C)) (ha : a = (A.length : Int)) (hb : b = a + (M.length : Int)) : ins z c d a b = A ++ (Qcy c M ++ C) := by
  subst hd
  unfold ins Qcy
  cases M with
  | nil =>
    simp only [List.length_nil, Int.ofNat_zero] at hb
    rw [ins0, show decide (a + 1 < b) = false by simp; omega]
    rfl
  | cons x M =>
    simp only [List.length_cons] at hb
    have e : A ++ (x :: M ++ C) = A ++ ([x].reverse ++ (M ++ C)) := by simp
    rw [e, Quc z c a b A ha M [x] C _ _ (by simp; omega) (by omega) (by omega)]
    rfl
end
end Go.Pv.Srt
end

section
/- The library's stable sort: its merging, and that it answers the stably sorted list. Program-free. -/
namespace Go.Pv.Srt
section
variable {α : Type} (z : α) (c : α → α → Int)
structure Tot : Prop where
  asym : ∀ x y, c x y < 0 → ¬ c y x < 0
  tr : ∀ x y w, ¬ c y x < 0 → ¬ c w y < 0 → ¬ c w x < 0
def le (x y : α) : Prop := ¬ c y x < 0
def Up (l : List α) : Prop := l.Pairwise (le c)
def eqv (x y : α) : Bool := decide (¬ c x y < 0) && decide (¬ c y x < 0)
def F (l r : List α) : Prop := l.length = r.length ∧ ∀ x, l.filter (eqv c x) = r.filter (eqv c x)
variable {c}
theorem F.rfl {l : List α} : F c l l := ⟨Eq.refl _, fun _ => Eq.refl _⟩
theorem F.trans {l r s : List α} (h : F c l r) (g : F c r s) : F c l s := ⟨h.1.trans g.1, fun x => (h.2 x).trans (g.2 x)⟩
theorem F.symm {l r : List α} (h : F c l r) : F c r l := ⟨h.1.symm, fun x => (h.2 x).symm⟩
theorem F.app {l r l' r' : List α} (h : F c l r) (g : F c l' r') : F c (l ++ l') (r ++ r') :=
  ⟨by rw [List.length_append, List.length_append, h.1, g.1], fun x => by rw [List.filter_append, List.filter_append, h.2 x, g.2 x]⟩
theorem Tot.refl (T : Tot c) (x : α) : ¬ c x x < 0 := fun h => T.asym x x h h
theorem Q18s (T : Tot c) (x : α) : eqv c x x = true := by simpa [eqv] using T.refl x
theorem F.mem (T : Tot c) {l r : List α} (h : F c l r) {x : α} (hx : x ∈ l) : x ∈ r := by
  have h1 : x ∈ l.filter (eqv c x) := List.mem_filter.2 ⟨hx, Q18s T x⟩
  rw [h.2 x] at h1
  exact (List.mem_filter.1 h1).1
theorem F.swap (T : Tot c) {A B : List α} (h : ∀ a ∈ A, ∀ b ∈ B, c b a < 0) : F c (A ++ B) (B ++ A) := by
  refine ⟨by simp [Nat.add_comm], fun x => ?_⟩
  rw [List.filter_append, List.filter_append]
  by_cases hA : A.filter (eqv c x) = []
  · rw [hA]
    simp
  · have hB : B.filter (eqv c x) = [] := by
      obtain ⟨a, ha⟩ := List.exists_mem_of_ne_nil _ hA
      obtain ⟨ha, hxa⟩ := List.mem_filter.1 ha
      refine List.filter_eq_nil_iff.2 fun b hb hxb => ?_
      simp only [eqv, Bool.and_eq_true, decide_eq_true_eq] at hxa hxb
      exact T.tr a x b hxa.1 hxb.2 (h a ha b hb)
    rw [hB]
    simp
theorem Qzt {x y : α} : ∀ {R : List α}, y ∈ insR c x R → y = x ∨ y ∈ R
  | [], h => by simpa [insR] using h
  | s :: t, h => by
    rw [insR] at h
    cases hd : decide (c x s < 0) with
    | true =>
      rw [hd, cond_true] at h
      rcases List.mem_cons.1 h with e | e
      · exact Or.inr (by simp [e])
      · rcases Qzt e with e | e
        · exact Or.inl e
        · exact Or.inr (List.mem_cons_of_mem _ e)
    | false =>
      rw [hd, cond_false] at h
      rcases List.mem_cons.1 h with e | e
      · exact Or.inl e
      · exact Or.inr e
theorem Q172 (T : Tot c) (x : α) : ∀ {R : List α}, R.Pairwise (fun a b => le c b a) → (insR c x R).Pairwise (fun a b => le c b a)
  | [], _ => by simp [insR]
  | s :: t, h => by
    have h' := List.pairwise_cons.1 h
    rw [insR]
    by_cases hd : c x s < 0
    · rw [show decide (c x s < 0) = true by simpa using hd, cond_true]
      refine List.pairwise_cons.2 ⟨fun y hy => ?_, Q172 T x h'.2⟩
      rcases Qzt hy with e | e
      · subst e
        exact T.asym _ _ hd
      · exact h'.1 y e
    · rw [show decide (c x s < 0) = false by simpa using hd, cond_false]
      refine List.pairwise_cons.2 ⟨fun y hy => ?_, h⟩
      rcases List.mem_cons.1 hy with e | e
      · subst e
        exact hd
      · exact T.tr y s x (h'.1 y e) hd
theorem Q19u (T : Tot c) (x : α) : ∀ (R : List α), F c (R.reverse ++ [x]) (insR c x R).reverse
  | [] => F.rfl
  | s :: t => by
    rw [insR]
    by_cases hd : c x s < 0
    · rw [show decide (c x s < 0) = true by simpa using hd, cond_true, List.reverse_cons, List.reverse_cons, List.append_assoc]
      have h1 : F c ([s] ++ [x]) ([x] ++ [s]) := F.swap T (by simpa using hd)
      exact (F.rfl.app h1).trans (by rw [← List.append_assoc]; exact (Q19u T x t).app F.rfl)
    · rw [show decide (c x s < 0) = false by simpa using hd, cond_false, List.reverse_cons (a := x)]
      exact F.rfl
theorem Qx8 (T : Tot c) : ∀ (M R : List α), R.Pairwise (fun a b => le c b a) → (M.foldl (fun r x => insR c x r) R).Pairwise (fun a b => le c b a) ∧ F c (R.reverse ++ M) (M.foldl (fun r x => insR c x r) R).reverse
  | [], R, h => ⟨h, by simpa using F.rfl⟩
  | x :: M, R, h => by
    obtain ⟨h1, h2⟩ := Qx8 T M (insR c x R) (Q172 T x h)
    refine ⟨h1, F.trans ?_ h2⟩
    have e : R.reverse ++ x :: M = (R.reverse ++ [x]) ++ M := by simp
    rw [e]
    exact (Q19u T x R).app F.rfl
theorem Qz8 (T : Tot c) (l : List α) : Up c (Qcy c l) := by
  unfold Up Qcy
  rw [List.pairwise_reverse]
  exact (Qx8 T l [] List.Pairwise.nil).1
theorem Q15k (T : Tot c) (l : List α) : F c l (Qcy c l) := (Qx8 T l [] List.Pairwise.nil).2
def bs (g : Int → Bool) : Nat → Int → Int → Int
  | 0, i, _ => i
  | k + 1, i, j => bif decide (i < j) then (bif g ((i + j) / 2) then bs g k ((i + j) / 2 + 1) j else bs g k i ((i + j) / 2)) else i
end
end Go.Pv.Srt
end

section
/- The library's stable sort: symmetric merging and the sort as a whole answer the stably sorted list. Program-free. -/
namespace Go.Pv.Srt
section
variable {α : Type} (z : α) (c : α → α → Int)
def st1 (d : List α) (a m b : Int) : Int := bs (fun h => decide (c (gt z d h) (gt z d a) < 0)) ((b - m).toNat + 1) m b
variable {c}
end
end Go.Pv.Srt
end

section
/- The library's stable sort: merging in general, blocks, the whole. Program-free. -/
namespace Go.Pv.Srt
section
variable {α : Type} (z : α) {c : α → α → Int}
end
end Go.Pv.Srt
end

section
/- The library's stable sort: blocks, and the whole: it answers what insertion answers. Program-free. -/
namespace Go.Pv.Srt
section
variable {α : Type} (z : α) (c : α → α → Int)
inductive Bl (s : Nat) : List α → Prop
  | last {l : List α} : l.length ≤ s → Up c l → Bl s l
  | cons {l r : List α} : l.length = s → Up c l → Bl s r → Bl s (l ++ r)
inductive Fu (s : Nat) : List α → Prop
  | nil : Fu s []
  | snoc {p l : List α} : Fu s p → l.length = s → Up c l → Fu s (p ++ l)
variable {c}
theorem Bl.one {s : Nat} {Q : List α} (h : Bl c s Q) (hl : Q.length ≤ s) : Up c Q := by
  cases h with
  | last _ h => exact h
  | cons h1 h2 h3 =>
    rename_i l r
    rw [List.length_append] at hl
    rw [List.length_eq_zero_iff.1 (show r.length = 0 by omega), List.append_nil]
    exact h2
theorem Bl.split {s : Nat} {Q : List α} (h : Bl c s Q) (hl : s < Q.length) : ∃ l r, Q = l ++ r ∧ l.length = s ∧ Up c l ∧ Bl c s r := by
  cases h with
  | last h _ => omega
  | cons h1 h2 h3 => exact ⟨_, _, rfl, h1, h2, h3⟩
end
end Go.Pv.Srt
end

section
/- Comparisons that answer -1, 0 or 1; the order of strings. -/
namespace Go.Pv
def R3 (a : Int) : Prop := a = -1 ∨ a = 0 ∨ a = 1
def T3 (a b e : Int) : Prop := (a = 0 → e = b) ∧ (b = 0 → e = a) ∧ (a = b → e = a)
def lx (a b : Int) : Int := if a = 0 then b else a
def icmp (a b : Int) : Int := if a < b then -1 else if b < a then 1 else 0
theorem Q1fk (a b : Int) : lx (-a) (-b) = -lx a b := by
  unfold lx
  split <;> split <;> omega
theorem Q1i7 {a b e a' b' e' : Int} (_ha : R3 a) (_hb : R3 b) (_he : R3 e) (t : T3 a b e) (t' : T3 a' b' e') : T3 (lx a a') (lx b b') (lx e e') := by
  unfold T3 at *
  unfold lx R3 at *
  split <;> split <;> split <;> omega
theorem Qwk (a b : Int) : R3 (icmp a b) := by
  unfold icmp R3
  split
  · omega
  · split <;> omega
theorem Q18u (a b : Int) : icmp b a = -icmp a b := by
  unfold icmp
  split <;> split <;> first | omega | (split <;> omega) | skip
  all_goals omega
theorem Q1ce (a b e : Int) : T3 (icmp a b) (icmp b e) (icmp a e) := by
  unfold T3 icmp
  split <;> split <;> split <;> (try split) <;> (try split) <;> (try split) <;> omega
theorem Q156 {a b : Int} : icmp a b = 0 ↔ a = b := by
  unfold icmp
  constructor
  · intro h
    split at h
    · omega
    · split at h <;> omega
  · intro h
    rw [if_neg (by omega), if_neg (by omega)]
theorem Qwe : ∀ a b : List UInt8, R3 (cmpL a b)
  | [], [] => Or.inr (Or.inl rfl)
  | [], _ :: _ => Or.inl rfl
  | _ :: _, [] => Or.inr (Or.inr rfl)
  | x :: a, y :: b => by
    rw [cmpL]
    split
    · exact Or.inl rfl
    · split
      · exact Or.inr (Or.inr rfl)
      · exact Qwe a b
theorem Q7i (x y : UInt8) (a b : List UInt8) : cmpL (x :: a) (y :: b) = lx (icmp (x.toNat : Int) (y.toNat : Int)) (cmpL a b) := by
  rw [cmpL]
  unfold lx icmp
  simp only [UInt8.lt_iff_toNat_lt]
  by_cases h1 : x.toNat < y.toNat
  · rw [if_pos h1, if_pos (show (x.toNat : Int) < (y.toNat : Int) by omega)]
    rfl
  · by_cases h2 : y.toNat < x.toNat
    · rw [if_neg h1, if_pos h2, if_neg (show ¬ (x.toNat : Int) < (y.toNat : Int) by omega), if_pos (show (y.toNat : Int) < (x.toNat : Int) by omega)]
      rfl
    · rw [if_neg h1, if_neg h2, if_neg (show ¬ (x.toNat : Int) < (y.toNat : Int) by omega), if_neg (show ¬ (y.toNat : Int) < (x.toNat : Int) by omega)]
      rfl
theorem Qro : ∀ a b : List UInt8, cmpL b a = -cmpL a b
  | [], [] => rfl
  | [], _ :: _ => rfl
  | _ :: _, [] => rfl
  | x :: a, y :: b => by rw [Q7i, Q7i, Qro a b, Q18u (x.toNat : Int) (y.toNat : Int), Q1fk]
theorem Q15s : ∀ a b d : List UInt8, T3 (cmpL a b) (cmpL b d) (cmpL a d)
  | [], [], [] => by simp [T3, cmpL]
  | [], [], _ :: _ => by simp [T3, cmpL]
  | [], _ :: _, [] => by simp [T3, cmpL]
  | [], _ :: _, _ :: _ => by simp [T3, cmpL]
  | _ :: _, [], [] => by simp [T3, cmpL]
  | _ :: _, [], _ :: _ => by simp [T3, cmpL]
  | x :: a, y :: b, [] => by
    have h := Qwe (x :: a) (y :: b)
    unfold R3 at h
    unfold T3
    rw [show cmpL (y :: b) [] = 1 from rfl, show cmpL (x :: a) [] = 1 from rfl]
    omega
  | x :: a, y :: b, w :: d => by
    rw [Q7i, Q7i, Q7i]
    exact Q1i7 (Qwk _ _) (Qwk _ _) (Qwk _ _) (Q1ce _ _ _) (Q15s a b d)
theorem Qvd : ∀ a b : List UInt8, cmpL a b = 0 → a = b
  | [], [], _ => rfl
  | [], _ :: _, h => by simp [cmpL] at h
  | _ :: _, [], h => by simp [cmpL] at h
  | x :: a, y :: b, h => by
    rw [Q7i] at h
    unfold lx at h
    split at h
    · rename_i e
      have := Q156.1 e
      rw [UInt8.toNat_inj.1 (show x.toNat = y.toNat by omega), Qvd a b h]
    · omega
theorem Q15x (a : List UInt8) : cmpL a a = 0 := by
  have := Qro a a
  omega
theorem Qhs (a b : ByteArray) : R3 (sCmp a b) := Qwe _ _
theorem Q6t (a b : ByteArray) : sCmp b a = -sCmp a b := Qro _ _
theorem Q14z (a b d : ByteArray) : T3 (sCmp a b) (sCmp b d) (sCmp a d) := Q15s _ _ _
theorem Qug {a b : ByteArray} : sCmp a b = 0 ↔ a = b := ⟨fun h => toList_inj (Qvd _ _ h), fun h => by rw [h]; exact Q15x _⟩
end Go.Pv
end

section
/- Lists of fields: strictly sorted lists are known by their members; keeping the last field of each name of a sorted list; putting a field into a sorted list. -/
namespace Go.Pv
open Srt
theorem Q8i (a : ByteArray) : sCmp a a = 0 := Qug.2 rfl
theorem Qwj {a b d : ByteArray} (h : sCmp a b < 0) (g : sCmp b d < 0) : sCmp a d < 0 := by
  have t := Q14z a b d
  have h1 := Qhs a b
  have h2 := Qhs b d
  unfold R3 at h1 h2
  unfold T3 at t
  omega
theorem Q1am {a b : ByteArray} : sEq a b = false ↔ a ≠ b := by
  cases h : sEq a b with
  | true => simp [Q8z.1 h]
  | false => exact ⟨fun _ e => (by rw [Q8z.2 e] at h; cases h), fun _ => rfl⟩
theorem Qfz (a b : ByteArray) : sCmp a b < 0 ∨ a = b ∨ sCmp b a < 0 := by
  have h1 := Qhs a b
  have h2 := Q6t a b
  have h3 : sCmp a b = 0 → a = b := Qug.1
  unfold R3 at h1
  by_cases e : sCmp a b = 0
  · exact .inr (.inl (h3 e))
  · omega
theorem Q94 {α : Type} (f : α → ByteArray) : Tot (fun x y : α => sCmp (f x) (f y)) := by
  refine ⟨fun x y h => ?_, fun x y w h g => ?_⟩
  · rw [Q6t]
    omega
  · have t := Q14z (f w) (f y) (f x)
    have h1 := Qhs (f w) (f y)
    have h2 := Qhs (f y) (f x)
    rw [Q6t] at h
    rw [Q6t] at g
    have h3 := Q6t (f w) (f y)
    have h4 := Q6t (f y) (f x)
    have h5 := Q6t (f y) (f w)
    have h6 := Q6t (f x) (f y)
    unfold R3 at h1 h2
    unfold T3 at t
    omega
abbrev nlt (x y : Fld) : Prop := sCmp x.name y.name < 0
def SS (l : List Fld) : Prop := l.Pairwise nlt
theorem SS.cons {x : Fld} {l : List Fld} : SS (x :: l) ↔ (∀ y ∈ l, nlt x y) ∧ SS l := List.pairwise_cons
theorem SS.nil : SS [] := List.Pairwise.nil
theorem Qx6 (x : Fld) : ¬ nlt x x := by unfold nlt; rw [Q8i]; omega
theorem Q19r : ∀ {l r : List Fld}, SS l → SS r → (∀ f, f ∈ l ↔ f ∈ r) → l = r
  | [], [], _, _, _ => rfl
  | [], y :: r, _, _, h => by have := (h y).2 List.mem_cons_self; cases this
  | x :: l, [], _, _, h => by have := (h x).1 List.mem_cons_self; cases this
  | x :: l, y :: r, hl, hr, h => by
    obtain ⟨hx, hl'⟩ := SS.cons.1 hl
    obtain ⟨hy, hr'⟩ := SS.cons.1 hr
    have e : x = y := by
      rcases List.mem_cons.1 ((h x).1 List.mem_cons_self) with e | e
      · exact e
      · rcases List.mem_cons.1 ((h y).2 List.mem_cons_self) with e' | e'
        · exact e'.symm
        · exact absurd (Qwj (hx y e') (hy x e)) (Qx6 x)
    subst e
    have k1 : ∀ f, f ∈ l → f ∈ r := fun f hf => by
      rcases List.mem_cons.1 ((h f).1 (List.mem_cons_of_mem _ hf)) with e | e
      · subst e; exact absurd (hx _ hf) (Qx6 _)
      · exact e
    have k2 : ∀ f, f ∈ r → f ∈ l := fun f hf => by
      rcases List.mem_cons.1 ((h f).2 (List.mem_cons_of_mem _ hf)) with e | e
      · subst e; exact absurd (hy _ hf) (Qx6 _)
      · exact e
    rw [Q19r hl' hr' fun f => ⟨k1 f, k2 f⟩]
theorem SS.filter {l : List Fld} (h : SS l) (p : Fld → Bool) : SS (l.filter p) := h.sublist List.filter_sublist
theorem SS.inj {l : List Fld} (h : SS l) {x y : Fld} (hx : x ∈ l) (hy : y ∈ l) (e : x.name = y.name) : x = y := by
  induction l with
  | nil => cases hx
  | cons z l ih =>
    obtain ⟨hz, hl⟩ := SS.cons.1 h
    rcases List.mem_cons.1 hx with e1 | hx' <;> rcases List.mem_cons.1 hy with e2 | hy'
    · rw [e1, e2]
    · subst e1; have := hz y hy'; unfold nlt at this; rw [e, Q8i] at this; omega
    · subst e2; have := hz x hx'; unfold nlt at this; rw [e, Q8i] at this; omega
    · exact ih hl hx' hy'
def lastOf (l : List Fld) (f : Fld) : Prop := (l.filter fun y => decide (y.name = f.name)).getLast? = some f
theorem Qcr (f : Fld) : ¬ lastOf [] f := by simp [lastOf]
theorem Q9v (x f : Fld) (l : List Fld) : lastOf (x :: l) f ↔ lastOf l f ∨ (f = x ∧ ∀ y ∈ l, y.name ≠ x.name) := by
  unfold lastOf
  by_cases h : x.name = f.name
  · rw [List.filter_cons_of_pos (by simpa using h)]
    cases e : l.filter fun y => decide (y.name = f.name) with
    | nil =>
      have := List.filter_eq_nil_iff.1 e
      simp only [List.getLast?_singleton, Option.some.injEq, List.getLast?_nil, reduceCtorEq, false_or]
      exact ⟨fun g => ⟨g.symm, fun y hy => by have := this y hy; rw [h]; simpa using this⟩, fun g => g.1.symm⟩
    | cons a r =>
      rw [List.getLast?_cons_cons]
      refine ⟨.inl, fun g => ?_⟩
      rcases g with g | g
      · exact g
      · have : a ∈ l.filter fun y => decide (y.name = f.name) := by rw [e]; exact List.mem_cons_self
        obtain ⟨h1, h2⟩ := List.mem_filter.1 this
        exact absurd ((of_decide_eq_true h2).trans (by rw [g.1])) (g.2 a h1)
  · rw [List.filter_cons_of_neg (by simpa using h)]
    exact ⟨.inl, fun g => by
      rcases g with g | g
      · exact g
      · exact absurd (by rw [g.1]) h⟩
theorem Q113 {l : List Fld} {f : Fld} (h : lastOf l f) : f ∈ l := (List.mem_filter.1 (List.mem_of_getLast? h)).1
theorem Q17a {l : List Fld} (h : SS l) (f : Fld) : lastOf l f ↔ f ∈ l := by
  induction l with
  | nil => exact ⟨fun g => absurd g (Qcr f), fun g => by cases g⟩
  | cons x l ih =>
    obtain ⟨hx, hl⟩ := SS.cons.1 h
    rw [Q9v, ih hl, List.mem_cons]
    exact ⟨fun g => g.elim .inr fun g => .inl g.1, fun g => g.elim (fun g => .inr ⟨g, fun y hy e => by have := hx y hy; unfold nlt at this; rw [e, Q8i] at this; omega⟩) .inl⟩
def lasts : List Fld → List Fld
  | [] => []
  | [x] => [x]
  | x :: y :: r => bif sEq y.name x.name then lasts (y :: r) else x :: lasts (y :: r)
abbrev cNm (x y : Fld) : Int := sCmp x.name y.name
theorem Qu8 : ∀ (l : List Fld), Up cNm l → ∀ f, f ∈ lasts l ↔ lastOf l f
  | [], _, f => ⟨fun g => (by cases g), fun g => absurd g (Qcr f)⟩
  | [x], _, f => by
    rw [Q9v]
    simp [lasts, Qcr]
  | x :: y :: r, h, f => by
    have h' := List.pairwise_cons.1 h
    have ih := Qu8 (y :: r) h'.2 f
    rw [lasts, Q9v]
    cases e : sEq y.name x.name with
    | true =>
      rw [cond_true, ih]
      exact ⟨.inl, fun g => g.elim id fun g => absurd (Q8z.1 e) (g.2 y List.mem_cons_self)⟩
    | false =>
      rw [cond_false, List.mem_cons, ih]
      refine ⟨fun g => g.elim (fun g => .inr ⟨g, fun w hw hn => ?_⟩) .inl, fun g => g.elim .inr fun g => .inl g.1⟩
      have e := Q1am.1 e
      rcases List.mem_cons.1 hw with rfl | hw
      · exact e hn
      · have h1 := (List.pairwise_cons.1 h'.2).1 w hw
        have h2 := h'.1 y List.mem_cons_self
        unfold le cNm at h1 h2
        rw [hn] at h1
        rcases Qfz x.name y.name with g | g | g
        · exact h1 g
        · exact e g.symm
        · exact h2 g
theorem Qbw : ∀ (l : List Fld), (lasts l).Sublist l
  | [] => List.Sublist.slnil
  | [x] => List.Sublist.refl _
  | x :: y :: r => by
    rw [lasts]
    cases sEq y.name x.name with
    | true => exact (Qbw (y :: r)).cons x
    | false => exact (Qbw (y :: r)).cons_cons x
theorem Q185 (l : List Fld) (h : Up cNm l) : SS (lasts l) := by
  induction l with
  | nil => exact SS.nil
  | cons x l ih =>
    cases l with
    | nil => exact SS.cons.2 ⟨fun _ g => (by cases g), SS.nil⟩
    | cons y r =>
      have h' := List.pairwise_cons.1 h
      rw [lasts]
      cases e : sEq y.name x.name with
      | true => exact ih h'.2
      | false =>
        rw [cond_false]
        refine SS.cons.2 ⟨fun w hw => ?_, ih h'.2⟩
        have e := Q1am.1 e
        have h2 := h'.1 y List.mem_cons_self
        unfold le cNm at h2
        have hxy : sCmp x.name y.name < 0 := by
          rcases Qfz x.name y.name with g | g | g
          · exact g
          · exact absurd g.symm e
          · exact absurd g h2
        rcases List.mem_cons.1 ((Qbw _).mem hw) with rfl | hw
        · exact hxy
        · have h1 := (List.pairwise_cons.1 h'.2).1 w hw
          unfold le cNm at h1
          unfold nlt
          rcases Qfz y.name w.name with g | g | g
          · exact Qwj hxy g
          · rw [← g]; exact hxy
          · exact absurd g h1
theorem Q1ez (x y : Fld) : Srt.eqv cNm x y = decide (y.name = x.name) := by
  unfold Srt.eqv cNm
  have h1 : (y.name = x.name) ↔ (¬ sCmp x.name y.name < 0 ∧ ¬ sCmp y.name x.name < 0) := by
    constructor
    · intro e; rw [e, Q8i]; omega
    · intro ⟨g1, g2⟩
      rcases Qfz x.name y.name with g | g | g
      · exact absurd g g1
      · exact g.symm
      · exact absurd g g2
  rw [← Bool.decide_and]
  exact decide_eq_decide.2 h1.symm
theorem Q186 {l r : List Fld} (h : F cNm l r) (f : Fld) : lastOf l f ↔ lastOf r f := by
  have := h.2 f
  unfold lastOf
  rw [show (fun y : Fld => decide (y.name = f.name)) = Srt.eqv cNm f from funext fun y => (Q1ez f y).symm, this]
def mapOf (l : List Fld) : List Fld := lasts (Qcy cNm l)
theorem Q182 (l : List Fld) : SS (mapOf l) := Q185 _ (Qz8 (Q94 Fld.name) l)
theorem Qs0 (l : List Fld) (f : Fld) : f ∈ mapOf l ↔ lastOf l f := by
  unfold mapOf
  rw [Qu8 _ (Qz8 (Q94 Fld.name) l)]
  exact (Q186 (Q15k (Q94 Fld.name) l) f).symm
theorem Qxh {l : List Fld} (h : SS l) : mapOf l = l := Q19r (Q182 l) h fun f => by rw [Qs0, Q17a h]
theorem Qif {α : Type} (c : α → α → Int) (T : Tot c) (l : List α) : (Qcy c l).length = l.length := (Q15k T l).1.symm
theorem Q15p (l : List Fld) : (mapOf l).length ≤ l.length := Nat.le_trans (Qbw _).length_le (Nat.le_of_eq (Qif _ (Q94 Fld.name) l))
theorem Q15c {l : List Fld} {f : Fld} (h : f ∈ mapOf l) : f ∈ l := Q113 ((Qs0 l f).1 h)
end Go.Pv
end

section
/- How many values a value holds; what that bounds. -/
namespace Go.Pv
open Srt
end Go.Pv
end

section
/- Structures as values: the parts of a map, their kinds; what decodes what was encoded. No program is in sight here. -/
namespace Go.Pv
abbrev vZ : Val := .mk 0 0 (⟨#[]⟩ : ByteArray) [] []
abbrev vN (n : Int) : Val := .mk 2 n (⟨#[]⟩ : ByteArray) [] []
abbrev vS (s : ByteArray) : Val := .mk 3 0 s [] []
abbrev vB (b : Bool) : Val := .mk 1 (bif b then 1 else 0) (⟨#[]⟩ : ByteArray) [] []
abbrev vL (l : List Val) : Val := .mk 4 0 (⟨#[]⟩ : ByteArray) l []
abbrev vM (l : List Fld) : Val := .mk 5 0 (⟨#[]⟩ : ByteArray) [] l
def Q1dv (n : ByteArray) : List Fld → Val
  | [] => vZ
  | x :: r => bif sEq x.name n then x.v else Q1dv n r
def prt (v : Val) (n : ByteArray) : Val := bif v.kind == 5 then Q1dv n v.fields else vZ
def isM (v : Val) : Bool := v.kind == 5 || v.kind == 0
def xN (x : Val) : Int × Bool := bif x.kind == 2 then (x.n, true) else (0, x.kind == 0)
def xS (x : Val) : ByteArray × Bool := bif x.kind == 3 then (x.s, true) else ((⟨#[]⟩ : ByteArray), x.kind == 0)
def xB (x : Val) : Bool × Bool := bif x.kind == 1 then (!(x.n == 0), true) else (false, x.kind == 0)
def xL (x : Val) : List Val × Bool := bif x.kind == 4 then (x.list, true) else ([], x.kind == 0)
def xE {α : Type} (f : Val → α × Bool) (x : Val) : List α × Bool := ((xL x).1.map fun y => (f y).1, (xL x).2 && (xL x).1.all fun y => (f y).2)
abbrev dN (v : Val) (n : ByteArray) : Int × Bool := xN (prt v n)
abbrev dS (v : Val) (n : ByteArray) : ByteArray × Bool := xS (prt v n)
abbrev dB (v : Val) (n : ByteArray) : Bool × Bool := xB (prt v n)
abbrev dE {α : Type} (f : Val → α × Bool) (v : Val) (n : ByteArray) : List α × Bool := xE f (prt v n)
abbrev dT {α : Type} (f : Val → α × Bool) (v : Val) (n : ByteArray) : α × Bool := f (prt v n)
abbrev sB : Nat := 1000000000
theorem Q1kn {l : List Val} (h : l.length ≤ sB) (g : ∀ x ∈ l, Val.Sm sB x) : Val.Sm sB (vL l) := .mk _ h (Nat.zero_le _) g (fun _ h => by cases h)
theorem Q8w {l : List Fld} (h : l.length ≤ sB) (g : ∀ x ∈ l, Val.Sm sB x.v) : Val.Sm sB (vM l) := .mk _ (Nat.zero_le _) h (fun _ h => by cases h) g
def LSm {α : Type} (p : α → Prop) (l : List α) : Prop := l.length ≤ sB ∧ ∀ x ∈ l, p x
theorem LSm.leaf {α : Type} {l : List α} (h : l.length ≤ sB) : LSm (fun _ => True) l := ⟨h, fun _ _ => trivial⟩
theorem LSm.nil {α : Type} {p : α → Prop} : LSm p [] := ⟨Nat.zero_le _, fun _ h => by cases h⟩
theorem Q2a {α : Type} {e : α → Val} {p : α → Prop} (he : ∀ x, p x → Val.Sm sB (e x)) {l : List α} (h : LSm p l) : Val.Sm sB (vL (l.map e)) :=
  Q1kn (by rw [List.length_map]; exact h.1) fun z hz => by
    obtain ⟨x, hx, rfl⟩ := List.mem_map.1 hz
    exact he x (h.2 x hx)
def ssb : List Fld → Bool
  | [] => true
  | [_] => true
  | x :: y :: r => decide (sCmp x.name y.name < 0) && ssb (y :: r)
theorem Q1a3 : ∀ {l : List Fld}, ssb l = true → SS l
  | [], _ => SS.nil
  | [x], _ => SS.cons.2 ⟨(fun _ h => by cases h), SS.nil⟩
  | x :: y :: r, h => by
    unfold ssb at h
    rw [Bool.and_eq_true] at h
    have h1 := of_decide_eq_true h.1
    have h2 := Q1a3 h.2
    refine SS.cons.2 ⟨fun z hz => ?_, h2⟩
    rcases List.mem_cons.1 hz with rfl | hz
    · exact h1
    · exact Qwj h1 ((SS.cons.1 h2).1 z hz)
theorem Q169 {l : List Fld} (h : ssb l = true) : mapOf l = l := Qxh (Q1a3 h)
end Go.Pv
end

section
/- Maps of at most 20 fields, fields of a name and equality in plain words. -/
namespace Go.Proofs.YtiflaadeikaghaaGreat
open Go.Pv Go.Pv.Srt
theorem vind {P : Val → Prop} (h : ∀ v : Val, (∀ x ∈ v.list, P x) → (∀ f ∈ v.fields, P f.v) → P v) : ∀ v, P v := by
  have key : ∀ (k : Nat) (v : Val), SizeOf.sizeOf v < k → P v := by
    intro k
    induction k with
    | zero => intro v hv; exact absurd hv (Nat.not_lt_zero _)
    | succ k ih => intro v hv; exact h v (fun x hx => ih x (by have := szM hx; omega)) (fun f hf => ih f.v (by have := szN hf; omega))
  exact fun v => key _ v (Nat.lt_succ_self _)
theorem Qz7 (p q : Val) : ∀ (r : List Val) (i : Nat), p.list.drop i = r → p.list.length = q.list.length → (∀ x ∈ r, ∀ y, Q5n x y = true ↔ x = y) → (Q5c p q r i = .k0 ↔ q.list.drop i = r)
  | [], i, hd, hl, _ => by
    rw [Q5c]
    have := List.drop_eq_nil_iff.1 hd
    simp [List.drop_eq_nil_iff.2 (hl ▸ this)]
  | x :: r, i, hd, hl, hx => by
    obtain ⟨h1, h2, h3⟩ := Q14 hd
    have hq : i < q.list.length := by omega
    rw [Q5c, List.drop_eq_getElem_cons hq, List.getD_eq_getElem?_getD, List.getElem?_eq_getElem hq, Option.getD_some]
    have ih := Qz7 p q r (i + 1) h3 hl fun y hy => hx y (List.mem_cons_of_mem _ hy)
    have k := hx x List.mem_cons_self q.list[i]
    cases e : Q5n x q.list[i] with
    | true =>
      rw [cond_true, ih]
      have e' := k.1 e
      constructor
      · intro g; rw [g, ← e']
      · intro g; injection g
    | false =>
      rw [cond_false]
      constructor
      · intro g; cases g
      · intro g
        injection g with g1 g2
        rw [k.2 g1.symm] at e
        cases e
theorem Qyb (p q : Val) : ∀ (r : List Fld) (i : Nat), p.fields.drop i = r → p.fields.length = q.fields.length → (∀ x ∈ r, ∀ y, Q5n x.v y = true ↔ x.v = y) → (Q5d p q r i = .k0 ↔ q.fields.drop i = r)
  | [], i, hd, hl, _ => by
    rw [Q5d]
    have := List.drop_eq_nil_iff.1 hd
    simp [List.drop_eq_nil_iff.2 (hl ▸ this)]
  | x :: r, i, hd, hl, hx => by
    obtain ⟨h1, h2, h3⟩ := Q14 hd
    have hq : i < q.fields.length := by omega
    rw [Q5d, List.drop_eq_getElem_cons hq, List.getD_eq_getElem?_getD, List.getElem?_eq_getElem hq, Option.getD_some]
    have ih := Qyb p q r (i + 1) h3 hl fun y hy => hx y (List.mem_cons_of_mem _ hy)
    have k := hx x List.mem_cons_self q.fields[i].v
    cases en : sEq x.name q.fields[i].name with
    | false =>
      rw [cond_false]
      constructor
      · intro g; cases g
      · intro g
        injection g with g1 g2
        rw [g1] at en
        exact absurd (Q8z.2 rfl) (by rw [en]; simp)
    | true =>
      rw [cond_true]
      cases e : Q5n x.v q.fields[i].v with
      | true =>
        rw [cond_true, ih]
        have e' := k.1 e
        have e1 : x = q.fields[i] := by
          have n := Q8z.1 en
          revert e' n
          generalize q.fields[i] = y
          intro a b
          cases x; cases y
          simp only [Fld.name, Fld.v] at a b
          rw [a, b]
        constructor
        · intro g; rw [g, ← e1]
        · intro g; injection g
      | false =>
        rw [cond_false]
        constructor
        · intro g; cases g
        · intro g
          injection g with g1 g2
          rw [k.2 (by rw [g1])] at e
          cases e
theorem Q17f : ∀ a b : Val, Q5n a b = true ↔ a = b := vind fun a h1 h2 b => by
  have b0 := fun hl => Qz7 a b a.list 0 rfl hl h1
  have b1 := fun hl => Qyb a b a.fields 0 rfl hl h2
  rw [Q5n]
  constructor
  · intro h
    cases c1 : a.kind == b.kind with
    | false => rw [c1] at h; cases h
    | true =>
      rw [c1, cond_true] at h
      cases c2 : a.n == b.n with
      | false => rw [c2] at h; cases h
      | true =>
        rw [c2, cond_true] at h
        cases c3 : sEq a.s b.s with
        | false => rw [c3] at h; cases h
        | true =>
          rw [c3, cond_true] at h
          cases c4 : ((a.list.length : Int) == (b.list.length : Int)) with
          | false => rw [c4] at h; cases h
          | true =>
            rw [c4, cond_true] at h
            cases c5 : ((a.fields.length : Int) == (b.fields.length : Int)) with
            | false => rw [c5] at h; cases h
            | true =>
              rw [c5, cond_true] at h
              have e4 := eq_of_beq c4
              have e5 := eq_of_beq c5
              cases l0 : Q5c a b a.list 0 with
              | k1 => rw [l0] at h; cases h
              | k0 =>
                rw [l0] at h
                cases l1 : Q5d a b a.fields 0 with
                | k1 => rw [l1] at h; cases h
                | k0 =>
                  have g0 := (b0 (by omega)).1 l0
                  have g1 := (b1 (by omega)).1 l1
                  rw [List.drop_zero] at g0 g1
                  have q1 := eq_of_beq c1
                  have q2 := eq_of_beq c2
                  have q3 := Q8z.1 c3
                  revert q1 q2 q3 g0 g1
                  clear h b0 b1 h1 h2 l0 l1 c1 c2 c3 c4 c5 e4 e5
                  cases a; cases b
                  simp only [Val.kind, Val.n, Val.s, Val.list, Val.fields]
                  intro q1 q2 q3 g0 g1
                  rw [q1, q2, q3, g0, g1]
  · rintro rfl
    rw [(b0 rfl).2 rfl, (b1 rfl).2 rfl, Q8z.2 rfl]
    simp
theorem Qcb (v : Val) : Q5n v v = true := (Q17f v v).2 rfl
abbrev Qcs : Fld := zF
theorem Q19o (n0 : Nat) (a b i : Int) : ∀ (k : Nat) (v : List Fld) (j : Int), Q30 n0 a b i k v j = ins1 Qcs cNm a k v j
  | 0, _, _ => rfl
  | k + 1, v, j => by
    rw [Q30, ins1, Q19o n0 a b i k]
    rfl
theorem Q19y (n0 : Nat) (a b : Int) : ∀ (k : Nat) (i : Int) (v : List Fld), Q3r n0 a b k i v = ins0 Qcs cNm a b k i v
  | 0, _, _ => rfl
  | k + 1, i, v => by
    rw [Q3r, ins0, Q19y n0 a b k, Q19o]
theorem Q1eg (n0 : Nat) (d : List Fld) (a b : Int) : Q1o n0 d a b = ins Qcs cNm d a b := Q19y n0 a b _ _ _
theorem Qqe {l : List Fld} (h : l.length ≤ 20) : Ql l.length l = Qcy cNm l := by
  unfold Ql Q4v
  have i1 : ∀ v, Q4z l.length (l.length : Int) (0 + 1) v = v := fun v => rfl
  rw [i1, Q1eg, Q2t]
  by_cases c : (20 : Int) ≤ (l.length : Int)
  · rw [show decide ((20 : Int) ≤ (l.length : Int)) = true by simpa using c, cond_true, Q1eg, show Int.toNat ((l.length : Int) + 20 - 20) = 19 + 1 by omega, Q2t, show decide ((20 : Int) + 20 ≤ (l.length : Int)) = false by simp; omega, cond_false]
    have e1 := Qrv (z := Qcs) (c := cNm) (d := l) (A := []) (M := l) (C := []) (a := 0) (b := 20) (by simp) rfl (by omega)
    rw [List.nil_append, List.append_nil] at e1
    rw [e1, Qrv (z := Qcs) (c := cNm) (d := Qcy cNm l) (A := Qcy cNm l) (M := []) (C := []) (by simp) (by rw [Qif _ (Q94 Fld.name)]; omega) (by simp; omega)]
    simp [Qcy]
  · rw [show decide ((20 : Int) ≤ (l.length : Int)) = false by simpa using c, cond_false]
    have e1 := Qrv (z := Qcs) (c := cNm) (d := l) (A := []) (M := l) (C := []) (a := 0) (b := (l.length : Int)) (by simp) rfl (by omega)
    rw [List.nil_append, List.append_nil] at e1
    exact e1
theorem Qd1 (p : List Fld) : (Qcy cNm p).length = p.length := Qif _ (Q94 Fld.name) p
theorem Q15t {p : List Fld} (hp : p.length ≤ 20) : ∀ (r : List Fld) (i : Nat) (a : List Fld), (Qcy cNm p).drop i = r → Q2w p r i a = a ++ lasts r
  | [], i, a, _ => by rw [Q2w, lasts]; simp
  | [x], i, a, hd => by
    have hl := Qd1 p
    have h := congrArg List.length hd
    rw [List.length_drop, List.length_singleton] at h
    rw [Q2w, show (((i + 1 : Nat) : Int) == (List.length p : Int)) = true by simp; omega, cond_true, Q2w]
    rfl
  | x :: y :: r, i, a, hd => by
    have hl := Qd1 p
    have h := congrArg List.length hd
    rw [List.length_drop, List.length_cons, List.length_cons] at h
    obtain ⟨_, _, hd'⟩ := Q14 hd
    obtain ⟨hy, _, _⟩ := Q14 hd'
    rw [Q2w, show (((i + 1 : Nat) : Int) == (List.length p : Int)) = false by simp; omega, cond_false, Qqe hp, Int.toNat_natCast, List.getD_eq_getElem?_getD, hy, Option.getD_some, lasts]
    cases sEq y.name x.name with
    | true => rw [cond_true, cond_true, Q15t hp (y :: r) (i + 1) a hd']
    | false => rw [cond_false, cond_false, Q15t hp (y :: r) (i + 1) _ hd']; simp
theorem Qjv {p : List Fld} (hp : p.length ≤ 20) : Q2w p (Ql p.length p) 0 [] = mapOf p := by
  rw [Q15t hp _ 0 [] (by rw [Qqe hp]; rfl), Qqe hp]
  rfl
theorem vmap {p : List Fld} (hp : p.length ≤ 20) : Q5f p = vM (mapOf p) := by
  unfold Q5f
  rw [Qjv hp]
theorem Q2z {p : List Fld} (hp : p.length ≤ 20) (hs : ssb p = true) : Q5f p = vM p := by rw [vmap hp, Q169 hs]
theorem Q1g2 {l : List Fld} (hl : l.length ≤ 20) (h : ∀ f ∈ l, Val.Sm sB f.v) : Val.Sm sB (vM (mapOf l)) :=
  .mk _ (Nat.zero_le _) (Nat.le_trans (Q15p l) (by show l.length ≤ 1000000000; omega)) (fun _ g => by cases g) fun f hf => h f (Q15c hf)
theorem Q8h {l : List Fld} (hl : l.length ≤ 20) (h : ∀ f ∈ l, Val.Sm sB f.v) : Q7v l := by
  refine ⟨by omega, by omega, ⟨?_, trivial⟩, ?_, trivial⟩
  · rw [Qqe hl, Qd1]
    omega
  · rw [Qjv hl]
    exact Q1g2 hl h
end Go.Proofs.YtiflaadeikaghaaGreat
end

section
/- Structures as values: what encodes and what decodes them, in plain words (printed by a program). -/
namespace Go.Proofs.YtiflaadeikaghaaGreat
open Go.Pv
structure Probe where
  delay : Int
  period : Int
  success : Int
  failure : Int
def Probe.cells (x : Probe) : List PV :=
  [.int .i64 x.delay, .int .i64 x.period, .int .i64 x.success, .int .i64 x.failure]
def Probe.rows (l : List Probe) : List (List PV) := l.map Probe.cells
theorem Probe.Q5 (l : List Probe) : (Probe.rows l).length = l.length := by simp [Probe.rows]
theorem Probe.Qa {l : List Probe} {i : Nat} {x : Probe} (h : l[i]? = some x) : (Probe.rows l)[i]? = some (Probe.cells x) := Go.Pv.Qa h
theorem Probe.Q15 (l : List Probe) (x : Probe) : Probe.rows (l ++ [x]) = Probe.rows l ++ [Probe.cells x] := by simp [Probe.rows]
theorem Probe.Q2h (l : List Probe) (k : Nat) (x : Probe) : Probe.rows (l.set k x) = (Probe.rows l).set k (Probe.cells x) := by simp [Probe.rows, List.map_set]
theorem Probe.Qi (l : List Probe) : ∀ r ∈ Probe.rows l, r.length = 4 := Q2l (f := Probe.cells) (fun _ => rfl) l
theorem Probe.Q7 (l : List Probe) (sz : Nat) (h : sz = 4) : ViewOK sz (Probe.rows l).flatten (Probe.rows l) := by subst h; exact ⟨rfl, Probe.Qi l, Q21 (f := Probe.cells) (fun _ => rfl) l⟩
structure Resources where
  cPU : Int
  memory : Int
  disk : Int
def Resources.cells (x : Resources) : List PV :=
  [.int .i64 x.cPU, .int .i64 x.memory, .int .i64 x.disk]
def Resources.rows (l : List Resources) : List (List PV) := l.map Resources.cells
theorem Resources.Q5 (l : List Resources) : (Resources.rows l).length = l.length := by simp [Resources.rows]
theorem Resources.Qa {l : List Resources} {i : Nat} {x : Resources} (h : l[i]? = some x) : (Resources.rows l)[i]? = some (Resources.cells x) := Go.Pv.Qa h
theorem Resources.Q15 (l : List Resources) (x : Resources) : Resources.rows (l ++ [x]) = Resources.rows l ++ [Resources.cells x] := by simp [Resources.rows]
theorem Resources.Q2h (l : List Resources) (k : Nat) (x : Resources) : Resources.rows (l.set k x) = (Resources.rows l).set k (Resources.cells x) := by simp [Resources.rows, List.map_set]
theorem Resources.Qi (l : List Resources) : ∀ r ∈ Resources.rows l, r.length = 3 := Q2l (f := Resources.cells) (fun _ => rfl) l
theorem Resources.Q7 (l : List Resources) (sz : Nat) (h : sz = 3) : ViewOK sz (Resources.rows l).flatten (Resources.rows l) := by subst h; exact ⟨rfl, Resources.Qi l, Q21 (f := Resources.cells) (fun _ => rfl) l⟩
structure Container where
  name : ByteArray
  image : ByteArray
  request : Resources
  limit : Resources
  live : List Probe
  ready : List Probe
  startup : List Probe
def Container.cells (x : Container) : List PV :=
  [.str x.name, .str x.image, .int .i64 x.request.cPU, .int .i64 x.request.memory, .int .i64 x.request.disk, .int .i64 x.limit.cPU, .int .i64 x.limit.memory, .int .i64 x.limit.disk, .sl (Probe.rows x.live), .sl (Probe.rows x.ready), .sl (Probe.rows x.startup)]
def Container.rows (l : List Container) : List (List PV) := l.map Container.cells
theorem Container.Q5 (l : List Container) : (Container.rows l).length = l.length := by simp [Container.rows]
theorem Container.Qa {l : List Container} {i : Nat} {x : Container} (h : l[i]? = some x) : (Container.rows l)[i]? = some (Container.cells x) := Go.Pv.Qa h
theorem Container.Q15 (l : List Container) (x : Container) : Container.rows (l ++ [x]) = Container.rows l ++ [Container.cells x] := by simp [Container.rows]
theorem Container.Q2h (l : List Container) (k : Nat) (x : Container) : Container.rows (l.set k x) = (Container.rows l).set k (Container.cells x) := by simp [Container.rows, List.map_set]
theorem Container.Qi (l : List Container) : ∀ r ∈ Container.rows l, r.length = 11 := Q2l (f := Container.cells) (fun _ => rfl) l
theorem Container.Q7 (l : List Container) (sz : Nat) (h : sz = 11) : ViewOK sz (Container.rows l).flatten (Container.rows l) := by subst h; exact ⟨rfl, Container.Qi l, Q21 (f := Container.cells) (fun _ => rfl) l⟩
structure Requirement where
  key : ByteArray
  op : Int
  values : List ByteArray
def Requirement.cells (x : Requirement) : List PV :=
  [.str x.key, .int .i64 x.op, .sl (Qf x.values)]
def Requirement.rows (l : List Requirement) : List (List PV) := l.map Requirement.cells
theorem Requirement.Q5 (l : List Requirement) : (Requirement.rows l).length = l.length := by simp [Requirement.rows]
theorem Requirement.Qa {l : List Requirement} {i : Nat} {x : Requirement} (h : l[i]? = some x) : (Requirement.rows l)[i]? = some (Requirement.cells x) := Go.Pv.Qa h
theorem Requirement.Q15 (l : List Requirement) (x : Requirement) : Requirement.rows (l ++ [x]) = Requirement.rows l ++ [Requirement.cells x] := by simp [Requirement.rows]
theorem Requirement.Q2h (l : List Requirement) (k : Nat) (x : Requirement) : Requirement.rows (l.set k x) = (Requirement.rows l).set k (Requirement.cells x) := by simp [Requirement.rows, List.map_set]
theorem Requirement.Qi (l : List Requirement) : ∀ r ∈ Requirement.rows l, r.length = 3 := Q2l (f := Requirement.cells) (fun _ => rfl) l
theorem Requirement.Q7 (l : List Requirement) (sz : Nat) (h : sz = 3) : ViewOK sz (Requirement.rows l).flatten (Requirement.rows l) := by subst h; exact ⟨rfl, Requirement.Qi l, Q21 (f := Requirement.cells) (fun _ => rfl) l⟩
structure NodeTerm where
  required : Bool
  selector : List Requirement
  weight : Int
def NodeTerm.cells (x : NodeTerm) : List PV :=
  [.bool x.required, .sl (Requirement.rows x.selector), .int .i64 x.weight]
def NodeTerm.rows (l : List NodeTerm) : List (List PV) := l.map NodeTerm.cells
theorem NodeTerm.Q5 (l : List NodeTerm) : (NodeTerm.rows l).length = l.length := by simp [NodeTerm.rows]
theorem NodeTerm.Qa {l : List NodeTerm} {i : Nat} {x : NodeTerm} (h : l[i]? = some x) : (NodeTerm.rows l)[i]? = some (NodeTerm.cells x) := Go.Pv.Qa h
theorem NodeTerm.Q15 (l : List NodeTerm) (x : NodeTerm) : NodeTerm.rows (l ++ [x]) = NodeTerm.rows l ++ [NodeTerm.cells x] := by simp [NodeTerm.rows]
theorem NodeTerm.Q2h (l : List NodeTerm) (k : Nat) (x : NodeTerm) : NodeTerm.rows (l.set k x) = (NodeTerm.rows l).set k (NodeTerm.cells x) := by simp [NodeTerm.rows, List.map_set]
theorem NodeTerm.Qi (l : List NodeTerm) : ∀ r ∈ NodeTerm.rows l, r.length = 3 := Q2l (f := NodeTerm.cells) (fun _ => rfl) l
theorem NodeTerm.Q7 (l : List NodeTerm) (sz : Nat) (h : sz = 3) : ViewOK sz (NodeTerm.rows l).flatten (NodeTerm.rows l) := by subst h; exact ⟨rfl, NodeTerm.Qi l, Q21 (f := NodeTerm.cells) (fun _ => rfl) l⟩
structure PodTerm where
  required : Bool
  anti : Bool
  selector : List Requirement
  topology : ByteArray
  weight : Int
def PodTerm.cells (x : PodTerm) : List PV :=
  [.bool x.required, .bool x.anti, .sl (Requirement.rows x.selector), .str x.topology, .int .i64 x.weight]
def PodTerm.rows (l : List PodTerm) : List (List PV) := l.map PodTerm.cells
theorem PodTerm.Q5 (l : List PodTerm) : (PodTerm.rows l).length = l.length := by simp [PodTerm.rows]
theorem PodTerm.Qa {l : List PodTerm} {i : Nat} {x : PodTerm} (h : l[i]? = some x) : (PodTerm.rows l)[i]? = some (PodTerm.cells x) := Go.Pv.Qa h
theorem PodTerm.Q15 (l : List PodTerm) (x : PodTerm) : PodTerm.rows (l ++ [x]) = PodTerm.rows l ++ [PodTerm.cells x] := by simp [PodTerm.rows]
theorem PodTerm.Q2h (l : List PodTerm) (k : Nat) (x : PodTerm) : PodTerm.rows (l.set k x) = (PodTerm.rows l).set k (PodTerm.cells x) := by simp [PodTerm.rows, List.map_set]
theorem PodTerm.Qi (l : List PodTerm) : ∀ r ∈ PodTerm.rows l, r.length = 5 := Q2l (f := PodTerm.cells) (fun _ => rfl) l
theorem PodTerm.Q7 (l : List PodTerm) (sz : Nat) (h : sz = 5) : ViewOK sz (PodTerm.rows l).flatten (PodTerm.rows l) := by subst h; exact ⟨rfl, PodTerm.Qi l, Q21 (f := PodTerm.cells) (fun _ => rfl) l⟩
structure SpreadRule where
  maxSkew : Int
  topology : ByteArray
  selector : List Requirement
  required : Bool
def SpreadRule.cells (x : SpreadRule) : List PV :=
  [.int .i64 x.maxSkew, .str x.topology, .sl (Requirement.rows x.selector), .bool x.required]
def SpreadRule.rows (l : List SpreadRule) : List (List PV) := l.map SpreadRule.cells
theorem SpreadRule.Q5 (l : List SpreadRule) : (SpreadRule.rows l).length = l.length := by simp [SpreadRule.rows]
theorem SpreadRule.Qa {l : List SpreadRule} {i : Nat} {x : SpreadRule} (h : l[i]? = some x) : (SpreadRule.rows l)[i]? = some (SpreadRule.cells x) := Go.Pv.Qa h
theorem SpreadRule.Q15 (l : List SpreadRule) (x : SpreadRule) : SpreadRule.rows (l ++ [x]) = SpreadRule.rows l ++ [SpreadRule.cells x] := by simp [SpreadRule.rows]
theorem SpreadRule.Q2h (l : List SpreadRule) (k : Nat) (x : SpreadRule) : SpreadRule.rows (l.set k x) = (SpreadRule.rows l).set k (SpreadRule.cells x) := by simp [SpreadRule.rows, List.map_set]
theorem SpreadRule.Qi (l : List SpreadRule) : ∀ r ∈ SpreadRule.rows l, r.length = 4 := Q2l (f := SpreadRule.cells) (fun _ => rfl) l
theorem SpreadRule.Q7 (l : List SpreadRule) (sz : Nat) (h : sz = 4) : ViewOK sz (SpreadRule.rows l).flatten (SpreadRule.rows l) := by subst h; exact ⟨rfl, SpreadRule.Qi l, Q21 (f := SpreadRule.cells) (fun _ => rfl) l⟩
structure Toleration where
  key : ByteArray
  value : ByteArray
  exists_ : Bool
  effect : Int
  seconds : Int
def Toleration.cells (x : Toleration) : List PV :=
  [.str x.key, .str x.value, .bool x.exists_, .int .i64 x.effect, .int .i64 x.seconds]
def Toleration.rows (l : List Toleration) : List (List PV) := l.map Toleration.cells
theorem Toleration.Q5 (l : List Toleration) : (Toleration.rows l).length = l.length := by simp [Toleration.rows]
theorem Toleration.Qa {l : List Toleration} {i : Nat} {x : Toleration} (h : l[i]? = some x) : (Toleration.rows l)[i]? = some (Toleration.cells x) := Go.Pv.Qa h
theorem Toleration.Q15 (l : List Toleration) (x : Toleration) : Toleration.rows (l ++ [x]) = Toleration.rows l ++ [Toleration.cells x] := by simp [Toleration.rows]
theorem Toleration.Q2h (l : List Toleration) (k : Nat) (x : Toleration) : Toleration.rows (l.set k x) = (Toleration.rows l).set k (Toleration.cells x) := by simp [Toleration.rows, List.map_set]
theorem Toleration.Qi (l : List Toleration) : ∀ r ∈ Toleration.rows l, r.length = 5 := Q2l (f := Toleration.cells) (fun _ => rfl) l
theorem Toleration.Q7 (l : List Toleration) (sz : Nat) (h : sz = 5) : ViewOK sz (Toleration.rows l).flatten (Toleration.rows l) := by subst h; exact ⟨rfl, Toleration.Qi l, Q21 (f := Toleration.cells) (fun _ => rfl) l⟩
structure PodSpec where
  node : ByteArray
  priority : Int
  restart : Int
  grace : Int
  containers : List Container
  nodeSelector : List Requirement
  nodeTerms : List NodeTerm
  podTerms : List PodTerm
  spread : List SpreadRule
  tolerations : List Toleration
def PodSpec.cells (x : PodSpec) : List PV :=
  [.str x.node, .int .i64 x.priority, .int .i64 x.restart, .int .i64 x.grace, .sl (Container.rows x.containers), .sl (Requirement.rows x.nodeSelector), .sl (NodeTerm.rows x.nodeTerms), .sl (PodTerm.rows x.podTerms), .sl (SpreadRule.rows x.spread), .sl (Toleration.rows x.tolerations)]
def PodSpec.rows (l : List PodSpec) : List (List PV) := l.map PodSpec.cells
theorem PodSpec.Q5 (l : List PodSpec) : (PodSpec.rows l).length = l.length := by simp [PodSpec.rows]
theorem PodSpec.Qa {l : List PodSpec} {i : Nat} {x : PodSpec} (h : l[i]? = some x) : (PodSpec.rows l)[i]? = some (PodSpec.cells x) := Go.Pv.Qa h
theorem PodSpec.Q15 (l : List PodSpec) (x : PodSpec) : PodSpec.rows (l ++ [x]) = PodSpec.rows l ++ [PodSpec.cells x] := by simp [PodSpec.rows]
theorem PodSpec.Q2h (l : List PodSpec) (k : Nat) (x : PodSpec) : PodSpec.rows (l.set k x) = (PodSpec.rows l).set k (PodSpec.cells x) := by simp [PodSpec.rows, List.map_set]
theorem PodSpec.Qi (l : List PodSpec) : ∀ r ∈ PodSpec.rows l, r.length = 10 := Q2l (f := PodSpec.cells) (fun _ => rfl) l
theorem PodSpec.Q7 (l : List PodSpec) (sz : Nat) (h : sz = 10) : ViewOK sz (PodSpec.rows l).flatten (PodSpec.rows l) := by subst h; exact ⟨rfl, PodSpec.Qi l, Q21 (f := PodSpec.cells) (fun _ => rfl) l⟩
structure ContainerStatus where
  name : ByteArray
  state : Int
  restarts : Int
  exitCode : Int
  since : Int
  ready : Bool
  started : Bool
def ContainerStatus.cells (x : ContainerStatus) : List PV :=
  [.str x.name, .int .i64 x.state, .int .i64 x.restarts, .int .i64 x.exitCode, .int .i64 x.since, .bool x.ready, .bool x.started]
def ContainerStatus.rows (l : List ContainerStatus) : List (List PV) := l.map ContainerStatus.cells
theorem ContainerStatus.Q5 (l : List ContainerStatus) : (ContainerStatus.rows l).length = l.length := by simp [ContainerStatus.rows]
theorem ContainerStatus.Qa {l : List ContainerStatus} {i : Nat} {x : ContainerStatus} (h : l[i]? = some x) : (ContainerStatus.rows l)[i]? = some (ContainerStatus.cells x) := Go.Pv.Qa h
theorem ContainerStatus.Q15 (l : List ContainerStatus) (x : ContainerStatus) : ContainerStatus.rows (l ++ [x]) = ContainerStatus.rows l ++ [ContainerStatus.cells x] := by simp [ContainerStatus.rows]
theorem ContainerStatus.Q2h (l : List ContainerStatus) (k : Nat) (x : ContainerStatus) : ContainerStatus.rows (l.set k x) = (ContainerStatus.rows l).set k (ContainerStatus.cells x) := by simp [ContainerStatus.rows, List.map_set]
theorem ContainerStatus.Qi (l : List ContainerStatus) : ∀ r ∈ ContainerStatus.rows l, r.length = 7 := Q2l (f := ContainerStatus.cells) (fun _ => rfl) l
theorem ContainerStatus.Q7 (l : List ContainerStatus) (sz : Nat) (h : sz = 7) : ViewOK sz (ContainerStatus.rows l).flatten (ContainerStatus.rows l) := by subst h; exact ⟨rfl, ContainerStatus.Qi l, Q21 (f := ContainerStatus.cells) (fun _ => rfl) l⟩
structure PodStatus where
  phase : Int
  ready : Bool
  readySince : Int
  started : Int
  finished : Int
  containers : List ContainerStatus
  address : Int
  nominated : ByteArray
  reason : ByteArray
def PodStatus.cells (x : PodStatus) : List PV :=
  [.int .i64 x.phase, .bool x.ready, .int .i64 x.readySince, .int .i64 x.started, .int .i64 x.finished, .sl (ContainerStatus.rows x.containers), .int .i64 x.address, .str x.nominated, .str x.reason]
def PodStatus.rows (l : List PodStatus) : List (List PV) := l.map PodStatus.cells
theorem PodStatus.Q5 (l : List PodStatus) : (PodStatus.rows l).length = l.length := by simp [PodStatus.rows]
theorem PodStatus.Qa {l : List PodStatus} {i : Nat} {x : PodStatus} (h : l[i]? = some x) : (PodStatus.rows l)[i]? = some (PodStatus.cells x) := Go.Pv.Qa h
theorem PodStatus.Q15 (l : List PodStatus) (x : PodStatus) : PodStatus.rows (l ++ [x]) = PodStatus.rows l ++ [PodStatus.cells x] := by simp [PodStatus.rows]
theorem PodStatus.Q2h (l : List PodStatus) (k : Nat) (x : PodStatus) : PodStatus.rows (l.set k x) = (PodStatus.rows l).set k (PodStatus.cells x) := by simp [PodStatus.rows, List.map_set]
theorem PodStatus.Qi (l : List PodStatus) : ∀ r ∈ PodStatus.rows l, r.length = 9 := Q2l (f := PodStatus.cells) (fun _ => rfl) l
theorem PodStatus.Q7 (l : List PodStatus) (sz : Nat) (h : sz = 9) : ViewOK sz (PodStatus.rows l).flatten (PodStatus.rows l) := by subst h; exact ⟨rfl, PodStatus.Qi l, Q21 (f := PodStatus.cells) (fun _ => rfl) l⟩
structure Taint where
  key : ByteArray
  value : ByteArray
  effect : Int
  since : Int
def Taint.cells (x : Taint) : List PV :=
  [.str x.key, .str x.value, .int .i64 x.effect, .int .i64 x.since]
def Taint.rows (l : List Taint) : List (List PV) := l.map Taint.cells
theorem Taint.Q5 (l : List Taint) : (Taint.rows l).length = l.length := by simp [Taint.rows]
theorem Taint.Qa {l : List Taint} {i : Nat} {x : Taint} (h : l[i]? = some x) : (Taint.rows l)[i]? = some (Taint.cells x) := Go.Pv.Qa h
theorem Taint.Q15 (l : List Taint) (x : Taint) : Taint.rows (l ++ [x]) = Taint.rows l ++ [Taint.cells x] := by simp [Taint.rows]
theorem Taint.Q2h (l : List Taint) (k : Nat) (x : Taint) : Taint.rows (l.set k x) = (Taint.rows l).set k (Taint.cells x) := by simp [Taint.rows, List.map_set]
theorem Taint.Qi (l : List Taint) : ∀ r ∈ Taint.rows l, r.length = 4 := Q2l (f := Taint.cells) (fun _ => rfl) l
theorem Taint.Q7 (l : List Taint) (sz : Nat) (h : sz = 4) : ViewOK sz (Taint.rows l).flatten (Taint.rows l) := by subst h; exact ⟨rfl, Taint.Qi l, Q21 (f := Taint.cells) (fun _ => rfl) l⟩
structure Image where
  name : ByteArray
  size : Int
  used : Int
def Image.cells (x : Image) : List PV :=
  [.str x.name, .int .i64 x.size, .int .i64 x.used]
def Image.rows (l : List Image) : List (List PV) := l.map Image.cells
theorem Image.Q5 (l : List Image) : (Image.rows l).length = l.length := by simp [Image.rows]
theorem Image.Qa {l : List Image} {i : Nat} {x : Image} (h : l[i]? = some x) : (Image.rows l)[i]? = some (Image.cells x) := Go.Pv.Qa h
theorem Image.Q15 (l : List Image) (x : Image) : Image.rows (l ++ [x]) = Image.rows l ++ [Image.cells x] := by simp [Image.rows]
theorem Image.Q2h (l : List Image) (k : Nat) (x : Image) : Image.rows (l.set k x) = (Image.rows l).set k (Image.cells x) := by simp [Image.rows, List.map_set]
theorem Image.Qi (l : List Image) : ∀ r ∈ Image.rows l, r.length = 3 := Q2l (f := Image.cells) (fun _ => rfl) l
theorem Image.Q7 (l : List Image) (sz : Nat) (h : sz = 3) : ViewOK sz (Image.rows l).flatten (Image.rows l) := by subst h; exact ⟨rfl, Image.Qi l, Q21 (f := Image.cells) (fun _ => rfl) l⟩
structure Label where
  key : ByteArray
  value : ByteArray
def Label.cells (x : Label) : List PV :=
  [.str x.key, .str x.value]
def Label.rows (l : List Label) : List (List PV) := l.map Label.cells
theorem Label.Q5 (l : List Label) : (Label.rows l).length = l.length := by simp [Label.rows]
theorem Label.Qa {l : List Label} {i : Nat} {x : Label} (h : l[i]? = some x) : (Label.rows l)[i]? = some (Label.cells x) := Go.Pv.Qa h
theorem Label.Q15 (l : List Label) (x : Label) : Label.rows (l ++ [x]) = Label.rows l ++ [Label.cells x] := by simp [Label.rows]
theorem Label.Q2h (l : List Label) (k : Nat) (x : Label) : Label.rows (l.set k x) = (Label.rows l).set k (Label.cells x) := by simp [Label.rows, List.map_set]
theorem Label.Qi (l : List Label) : ∀ r ∈ Label.rows l, r.length = 2 := Q2l (f := Label.cells) (fun _ => rfl) l
theorem Label.Q7 (l : List Label) (sz : Nat) (h : sz = 2) : ViewOK sz (Label.rows l).flatten (Label.rows l) := by subst h; exact ⟨rfl, Label.Qi l, Q21 (f := Label.cells) (fun _ => rfl) l⟩
structure Template where
  labels : List Label
  spec : PodSpec
def Template.cells (x : Template) : List PV :=
  [.sl (Label.rows x.labels), .str x.spec.node, .int .i64 x.spec.priority, .int .i64 x.spec.restart, .int .i64 x.spec.grace, .sl (Container.rows x.spec.containers), .sl (Requirement.rows x.spec.nodeSelector), .sl (NodeTerm.rows x.spec.nodeTerms), .sl (PodTerm.rows x.spec.podTerms), .sl (SpreadRule.rows x.spec.spread), .sl (Toleration.rows x.spec.tolerations)]
def Template.rows (l : List Template) : List (List PV) := l.map Template.cells
theorem Template.Q5 (l : List Template) : (Template.rows l).length = l.length := by simp [Template.rows]
theorem Template.Qa {l : List Template} {i : Nat} {x : Template} (h : l[i]? = some x) : (Template.rows l)[i]? = some (Template.cells x) := Go.Pv.Qa h
theorem Template.Q15 (l : List Template) (x : Template) : Template.rows (l ++ [x]) = Template.rows l ++ [Template.cells x] := by simp [Template.rows]
theorem Template.Q2h (l : List Template) (k : Nat) (x : Template) : Template.rows (l.set k x) = (Template.rows l).set k (Template.cells x) := by simp [Template.rows, List.map_set]
theorem Template.Qi (l : List Template) : ∀ r ∈ Template.rows l, r.length = 11 := Q2l (f := Template.cells) (fun _ => rfl) l
theorem Template.Q7 (l : List Template) (sz : Nat) (h : sz = 11) : ViewOK sz (Template.rows l).flatten (Template.rows l) := by subst h; exact ⟨rfl, Template.Qi l, Q21 (f := Template.cells) (fun _ => rfl) l⟩
def Qpx : ByteArray := ⟨#[78, 111, 100, 101]⟩
def Q17e : ByteArray := ⟨#[80, 111, 100]⟩
def Q2y : ByteArray := ⟨#[97, 100, 100, 114, 101, 115, 115]⟩
def Q2u : ByteArray := ⟨#[97, 110, 116, 105]⟩
def Q76 : ByteArray := ⟨#[98, 101, 97, 116]⟩
def Q36 : ByteArray := ⟨#[99, 97, 112, 97, 99, 105, 116, 121]⟩
def Q13 : ByteArray := ⟨#[99, 111, 110, 116, 97, 105, 110, 101, 114, 115]⟩
def Q35 : ByteArray := ⟨#[99, 111, 114, 100, 111, 110, 101, 100]⟩
def Q83 : ByteArray := ⟨#[99, 112, 117]⟩
def Q28 : ByteArray := ⟨#[100, 101, 108, 97, 121]⟩
def Q5j : ByteArray := ⟨#[100, 105, 115, 107]⟩
def Qv : ByteArray := ⟨#[101, 102, 102, 101, 99, 116]⟩
def Q1v : ByteArray := ⟨#[101, 120, 105, 115, 116, 115]⟩
def Q1d : ByteArray := ⟨#[101, 120, 105, 116, 67, 111, 100, 101]⟩
def Q1n : ByteArray := ⟨#[102, 97, 105, 108, 117, 114, 101]⟩
def Q2k : ByteArray := ⟨#[102, 105, 110, 105, 115, 104, 101, 100]⟩
def Q4e : ByteArray := ⟨#[103, 114, 97, 99, 101]⟩
def Q25 : ByteArray := ⟨#[105, 109, 97, 103, 101]⟩
def Q47 : ByteArray := ⟨#[105, 109, 97, 103, 101, 115]⟩
def Qx : ByteArray := ⟨#[107, 101, 121]⟩
def Q3b : ByteArray := ⟨#[108, 97, 98, 101, 108, 115]⟩
def Q27 : ByteArray := ⟨#[108, 105, 109, 105, 116]⟩
def Q2s : ByteArray := ⟨#[108, 105, 118, 101]⟩
def Q3h : ByteArray := ⟨#[108, 111, 119, 68, 105, 115, 107]⟩
def Q45 : ByteArray := ⟨#[108, 111, 119, 77, 101, 109]⟩
def Q3f : ByteArray := ⟨#[109, 97, 120, 80, 111, 100, 115]⟩
def Q1m : ByteArray := ⟨#[109, 97, 120, 83, 107, 101, 119]⟩
def Q3d : ByteArray := ⟨#[109, 101, 109, 111, 114, 121]⟩
def Qw : ByteArray := ⟨#[110, 97, 109, 101]⟩
def Q5k : ByteArray := ⟨#[110, 111, 100, 101]⟩
def Q1t : ByteArray := ⟨#[110, 111, 100, 101, 83, 101, 108, 101, 99, 116, 111, 114]⟩
def Q2d : ByteArray := ⟨#[110, 111, 100, 101, 84, 101, 114, 109, 115]⟩
def Q2c : ByteArray := ⟨#[110, 111, 109, 105, 110, 97, 116, 101, 100]⟩
def Q5s : ByteArray := ⟨#[111, 112]⟩
def Q1x : ByteArray := ⟨#[112, 101, 114, 105, 111, 100]⟩
def Q4f : ByteArray := ⟨#[112, 104, 97, 115, 101]⟩
def Q2j : ByteArray := ⟨#[112, 111, 100, 84, 101, 114, 109, 115]⟩
def Q2m : ByteArray := ⟨#[112, 114, 105, 111, 114, 105, 116, 121]⟩
def Qp : ByteArray := ⟨#[114, 101, 97, 100, 121]⟩
def Q22 : ByteArray := ⟨#[114, 101, 97, 100, 121, 83, 105, 110, 99, 101]⟩
def Q3c : ByteArray := ⟨#[114, 101, 97, 115, 111, 110]⟩
def Q1l : ByteArray := ⟨#[114, 101, 113, 117, 101, 115, 116]⟩
def Qd : ByteArray := ⟨#[114, 101, 113, 117, 105, 114, 101, 100]⟩
def Q2x : ByteArray := ⟨#[114, 101, 115, 116, 97, 114, 116]⟩
def Q1g : ByteArray := ⟨#[114, 101, 115, 116, 97, 114, 116, 115]⟩
def Q1j : ByteArray := ⟨#[115, 101, 99, 111, 110, 100, 115]⟩
def Qc : ByteArray := ⟨#[115, 101, 108, 101, 99, 116, 111, 114]⟩
def Q16 : ByteArray := ⟨#[115, 105, 110, 99, 101]⟩
def Q2q : ByteArray := ⟨#[115, 105, 122, 101]⟩
def Q5l : ByteArray := ⟨#[115, 112, 101, 99]⟩
def Q3e : ByteArray := ⟨#[115, 112, 114, 101, 97, 100]⟩
def Q10 : ByteArray := ⟨#[115, 116, 97, 114, 116, 101, 100]⟩
def Q1p : ByteArray := ⟨#[115, 116, 97, 114, 116, 117, 112]⟩
def Q26 : ByteArray := ⟨#[115, 116, 97, 116, 101]⟩
def Q1k : ByteArray := ⟨#[115, 117, 99, 99, 101, 115, 115]⟩
def Q48 : ByteArray := ⟨#[116, 97, 105, 110, 116, 115]⟩
def Q20 : ByteArray := ⟨#[116, 111, 108, 101, 114, 97, 116, 105, 111, 110, 115]⟩
def Qm : ByteArray := ⟨#[116, 111, 112, 111, 108, 111, 103, 121]⟩
def Q2r : ByteArray := ⟨#[117, 115, 101, 100]⟩
def Qn : ByteArray := ⟨#[118, 97, 108, 117, 101]⟩
def Q1w : ByteArray := ⟨#[118, 97, 108, 117, 101, 115]⟩
def Qu : ByteArray := ⟨#[119, 101, 105, 103, 104, 116]⟩
def Probe.enc (x : Probe) : Val := vM [.mk Q28 (vN x.delay), .mk Q1n (vN x.failure), .mk Q1x (vN x.period), .mk Q1k (vN x.success)]
def Probe.dec (v : Val) : Probe × Bool := (Probe.mk (dN v Q28).1 (dN v Q1x).1 (dN v Q1k).1 (dN v Q1n).1, isM v && (dN v Q28).2 && (dN v Q1n).2 && (dN v Q1x).2 && (dN v Q1k).2)
def Probe.sm (_ : Probe) : Prop := True
theorem Probe.Q1i {x : Probe} (_ : Probe.sm x) : Val.Sm sB (Probe.enc x) := Q8w (Nat.le_of_ble_eq_true rfl) (List.forall_mem_cons.2 ⟨Val.Sm.leaf 2 _ _, List.forall_mem_cons.2 ⟨Val.Sm.leaf 2 _ _, List.forall_mem_cons.2 ⟨Val.Sm.leaf 2 _ _, List.forall_mem_cons.2 ⟨Val.Sm.leaf 2 _ _, fun _ h => by cases h⟩⟩⟩⟩)
def Resources.enc (x : Resources) : Val := vM [.mk Q83 (vN x.cPU), .mk Q5j (vN x.disk), .mk Q3d (vN x.memory)]
def Resources.dec (v : Val) : Resources × Bool := (Resources.mk (dN v Q83).1 (dN v Q3d).1 (dN v Q5j).1, isM v && (dN v Q83).2 && (dN v Q5j).2 && (dN v Q3d).2)
def Resources.sm (_ : Resources) : Prop := True
theorem Resources.Q1i {x : Resources} (_ : Resources.sm x) : Val.Sm sB (Resources.enc x) := Q8w (Nat.le_of_ble_eq_true rfl) (List.forall_mem_cons.2 ⟨Val.Sm.leaf 2 _ _, List.forall_mem_cons.2 ⟨Val.Sm.leaf 2 _ _, List.forall_mem_cons.2 ⟨Val.Sm.leaf 2 _ _, fun _ h => by cases h⟩⟩⟩)
def Container.enc (x : Container) : Val := vM [.mk Q25 (vS x.image), .mk Q27 (Resources.enc x.limit), .mk Q2s (vL (x.live.map Probe.enc)), .mk Qw (vS x.name), .mk Qp (vL (x.ready.map Probe.enc)), .mk Q1l (Resources.enc x.request), .mk Q1p (vL (x.startup.map Probe.enc))]
def Container.dec (v : Val) : Container × Bool := (Container.mk (dS v Qw).1 (dS v Q25).1 (dT Resources.dec v Q1l).1 (dT Resources.dec v Q27).1 (dE Probe.dec v Q2s).1 (dE Probe.dec v Qp).1 (dE Probe.dec v Q1p).1, isM v && (dS v Q25).2 && (dT Resources.dec v Q27).2 && (dE Probe.dec v Q2s).2 && (dS v Qw).2 && (dE Probe.dec v Qp).2 && (dT Resources.dec v Q1l).2 && (dE Probe.dec v Q1p).2)
def Container.sm (x : Container) : Prop := Resources.sm x.request ∧ Resources.sm x.limit ∧ LSm Probe.sm x.live ∧ LSm Probe.sm x.ready ∧ LSm Probe.sm x.startup ∧ True
theorem Container.Q1i {x : Container} (h : Container.sm x) : Val.Sm sB (Container.enc x) := Q8w (Nat.le_of_ble_eq_true rfl) (List.forall_mem_cons.2 ⟨Val.Sm.leaf 3 _ _, List.forall_mem_cons.2 ⟨Resources.Q1i h.2.1, List.forall_mem_cons.2 ⟨Q2a (fun _ h => Probe.Q1i h) h.2.2.1, List.forall_mem_cons.2 ⟨Val.Sm.leaf 3 _ _, List.forall_mem_cons.2 ⟨Q2a (fun _ h => Probe.Q1i h) h.2.2.2.1, List.forall_mem_cons.2 ⟨Resources.Q1i h.1, List.forall_mem_cons.2 ⟨Q2a (fun _ h => Probe.Q1i h) h.2.2.2.2.1, fun _ h => by cases h⟩⟩⟩⟩⟩⟩⟩)
def Requirement.enc (x : Requirement) : Val := vM [.mk Qx (vS x.key), .mk Q5s (vN x.op), .mk Q1w (vL (x.values.map vS))]
def Requirement.dec (v : Val) : Requirement × Bool := (Requirement.mk (dS v Qx).1 (dN v Q5s).1 (dE xS v Q1w).1, isM v && (dS v Qx).2 && (dN v Q5s).2 && (dE xS v Q1w).2)
def Requirement.sm (x : Requirement) : Prop := LSm (fun _ : ByteArray => True) x.values ∧ True
theorem Requirement.Q1i {x : Requirement} (h : Requirement.sm x) : Val.Sm sB (Requirement.enc x) := Q8w (Nat.le_of_ble_eq_true rfl) (List.forall_mem_cons.2 ⟨Val.Sm.leaf 3 _ _, List.forall_mem_cons.2 ⟨Val.Sm.leaf 2 _ _, List.forall_mem_cons.2 ⟨Q2a (fun _ h => Val.Sm.leaf _ _ _) h.1, fun _ h => by cases h⟩⟩⟩)
def NodeTerm.enc (x : NodeTerm) : Val := vM [.mk Qd (vB x.required), .mk Qc (vL (x.selector.map Requirement.enc)), .mk Qu (vN x.weight)]
def NodeTerm.dec (v : Val) : NodeTerm × Bool := (NodeTerm.mk (dB v Qd).1 (dE Requirement.dec v Qc).1 (dN v Qu).1, isM v && (dB v Qd).2 && (dE Requirement.dec v Qc).2 && (dN v Qu).2)
def NodeTerm.sm (x : NodeTerm) : Prop := LSm Requirement.sm x.selector ∧ True
theorem NodeTerm.Q1i {x : NodeTerm} (h : NodeTerm.sm x) : Val.Sm sB (NodeTerm.enc x) := Q8w (Nat.le_of_ble_eq_true rfl) (List.forall_mem_cons.2 ⟨Val.Sm.leaf 1 _ _, List.forall_mem_cons.2 ⟨Q2a (fun _ h => Requirement.Q1i h) h.1, List.forall_mem_cons.2 ⟨Val.Sm.leaf 2 _ _, fun _ h => by cases h⟩⟩⟩)
def PodTerm.enc (x : PodTerm) : Val := vM [.mk Q2u (vB x.anti), .mk Qd (vB x.required), .mk Qc (vL (x.selector.map Requirement.enc)), .mk Qm (vS x.topology), .mk Qu (vN x.weight)]
def PodTerm.dec (v : Val) : PodTerm × Bool := (PodTerm.mk (dB v Qd).1 (dB v Q2u).1 (dE Requirement.dec v Qc).1 (dS v Qm).1 (dN v Qu).1, isM v && (dB v Q2u).2 && (dB v Qd).2 && (dE Requirement.dec v Qc).2 && (dS v Qm).2 && (dN v Qu).2)
def PodTerm.sm (x : PodTerm) : Prop := LSm Requirement.sm x.selector ∧ True
theorem PodTerm.Q1i {x : PodTerm} (h : PodTerm.sm x) : Val.Sm sB (PodTerm.enc x) := Q8w (Nat.le_of_ble_eq_true rfl) (List.forall_mem_cons.2 ⟨Val.Sm.leaf 1 _ _, List.forall_mem_cons.2 ⟨Val.Sm.leaf 1 _ _, List.forall_mem_cons.2 ⟨Q2a (fun _ h => Requirement.Q1i h) h.1, List.forall_mem_cons.2 ⟨Val.Sm.leaf 3 _ _, List.forall_mem_cons.2 ⟨Val.Sm.leaf 2 _ _, fun _ h => by cases h⟩⟩⟩⟩⟩)
def SpreadRule.enc (x : SpreadRule) : Val := vM [.mk Q1m (vN x.maxSkew), .mk Qd (vB x.required), .mk Qc (vL (x.selector.map Requirement.enc)), .mk Qm (vS x.topology)]
def SpreadRule.dec (v : Val) : SpreadRule × Bool := (SpreadRule.mk (dN v Q1m).1 (dS v Qm).1 (dE Requirement.dec v Qc).1 (dB v Qd).1, isM v && (dN v Q1m).2 && (dB v Qd).2 && (dE Requirement.dec v Qc).2 && (dS v Qm).2)
def SpreadRule.sm (x : SpreadRule) : Prop := LSm Requirement.sm x.selector ∧ True
theorem SpreadRule.Q1i {x : SpreadRule} (h : SpreadRule.sm x) : Val.Sm sB (SpreadRule.enc x) := Q8w (Nat.le_of_ble_eq_true rfl) (List.forall_mem_cons.2 ⟨Val.Sm.leaf 2 _ _, List.forall_mem_cons.2 ⟨Val.Sm.leaf 1 _ _, List.forall_mem_cons.2 ⟨Q2a (fun _ h => Requirement.Q1i h) h.1, List.forall_mem_cons.2 ⟨Val.Sm.leaf 3 _ _, fun _ h => by cases h⟩⟩⟩⟩)
def Toleration.enc (x : Toleration) : Val := vM [.mk Qv (vN x.effect), .mk Q1v (vB x.exists_), .mk Qx (vS x.key), .mk Q1j (vN x.seconds), .mk Qn (vS x.value)]
def Toleration.dec (v : Val) : Toleration × Bool := (Toleration.mk (dS v Qx).1 (dS v Qn).1 (dB v Q1v).1 (dN v Qv).1 (dN v Q1j).1, isM v && (dN v Qv).2 && (dB v Q1v).2 && (dS v Qx).2 && (dN v Q1j).2 && (dS v Qn).2)
def Toleration.sm (_ : Toleration) : Prop := True
theorem Toleration.Q1i {x : Toleration} (_ : Toleration.sm x) : Val.Sm sB (Toleration.enc x) := Q8w (Nat.le_of_ble_eq_true rfl) (List.forall_mem_cons.2 ⟨Val.Sm.leaf 2 _ _, List.forall_mem_cons.2 ⟨Val.Sm.leaf 1 _ _, List.forall_mem_cons.2 ⟨Val.Sm.leaf 3 _ _, List.forall_mem_cons.2 ⟨Val.Sm.leaf 2 _ _, List.forall_mem_cons.2 ⟨Val.Sm.leaf 3 _ _, fun _ h => by cases h⟩⟩⟩⟩⟩)
def PodSpec.enc (x : PodSpec) : Val := vM [.mk Q13 (vL (x.containers.map Container.enc)), .mk Q4e (vN x.grace), .mk Q5k (vS x.node), .mk Q1t (vL (x.nodeSelector.map Requirement.enc)), .mk Q2d (vL (x.nodeTerms.map NodeTerm.enc)), .mk Q2j (vL (x.podTerms.map PodTerm.enc)), .mk Q2m (vN x.priority), .mk Q2x (vN x.restart), .mk Q3e (vL (x.spread.map SpreadRule.enc)), .mk Q20 (vL (x.tolerations.map Toleration.enc))]
def PodSpec.dec (v : Val) : PodSpec × Bool := (PodSpec.mk (dS v Q5k).1 (dN v Q2m).1 (dN v Q2x).1 (dN v Q4e).1 (dE Container.dec v Q13).1 (dE Requirement.dec v Q1t).1 (dE NodeTerm.dec v Q2d).1 (dE PodTerm.dec v Q2j).1 (dE SpreadRule.dec v Q3e).1 (dE Toleration.dec v Q20).1, isM v && (dE Container.dec v Q13).2 && (dN v Q4e).2 && (dS v Q5k).2 && (dE Requirement.dec v Q1t).2 && (dE NodeTerm.dec v Q2d).2 && (dE PodTerm.dec v Q2j).2 && (dN v Q2m).2 && (dN v Q2x).2 && (dE SpreadRule.dec v Q3e).2 && (dE Toleration.dec v Q20).2)
def PodSpec.sm (x : PodSpec) : Prop := LSm Container.sm x.containers ∧ LSm Requirement.sm x.nodeSelector ∧ LSm NodeTerm.sm x.nodeTerms ∧ LSm PodTerm.sm x.podTerms ∧ LSm SpreadRule.sm x.spread ∧ LSm Toleration.sm x.tolerations ∧ True
theorem PodSpec.Q1i {x : PodSpec} (h : PodSpec.sm x) : Val.Sm sB (PodSpec.enc x) := Q8w (Nat.le_of_ble_eq_true rfl) (List.forall_mem_cons.2 ⟨Q2a (fun _ h => Container.Q1i h) h.1, List.forall_mem_cons.2 ⟨Val.Sm.leaf 2 _ _, List.forall_mem_cons.2 ⟨Val.Sm.leaf 3 _ _, List.forall_mem_cons.2 ⟨Q2a (fun _ h => Requirement.Q1i h) h.2.1, List.forall_mem_cons.2 ⟨Q2a (fun _ h => NodeTerm.Q1i h) h.2.2.1, List.forall_mem_cons.2 ⟨Q2a (fun _ h => PodTerm.Q1i h) h.2.2.2.1, List.forall_mem_cons.2 ⟨Val.Sm.leaf 2 _ _, List.forall_mem_cons.2 ⟨Val.Sm.leaf 2 _ _, List.forall_mem_cons.2 ⟨Q2a (fun _ h => SpreadRule.Q1i h) h.2.2.2.2.1, List.forall_mem_cons.2 ⟨Q2a (fun _ h => Toleration.Q1i h) h.2.2.2.2.2.1, fun _ h => by cases h⟩⟩⟩⟩⟩⟩⟩⟩⟩⟩)
def ContainerStatus.enc (x : ContainerStatus) : Val := vM [.mk Q1d (vN x.exitCode), .mk Qw (vS x.name), .mk Qp (vB x.ready), .mk Q1g (vN x.restarts), .mk Q16 (vN x.since), .mk Q10 (vB x.started), .mk Q26 (vN x.state)]
def ContainerStatus.dec (v : Val) : ContainerStatus × Bool := (ContainerStatus.mk (dS v Qw).1 (dN v Q26).1 (dN v Q1g).1 (dN v Q1d).1 (dN v Q16).1 (dB v Qp).1 (dB v Q10).1, isM v && (dN v Q1d).2 && (dS v Qw).2 && (dB v Qp).2 && (dN v Q1g).2 && (dN v Q16).2 && (dB v Q10).2 && (dN v Q26).2)
def ContainerStatus.sm (_ : ContainerStatus) : Prop := True
theorem ContainerStatus.Q1i {x : ContainerStatus} (_ : ContainerStatus.sm x) : Val.Sm sB (ContainerStatus.enc x) := Q8w (Nat.le_of_ble_eq_true rfl) (List.forall_mem_cons.2 ⟨Val.Sm.leaf 2 _ _, List.forall_mem_cons.2 ⟨Val.Sm.leaf 3 _ _, List.forall_mem_cons.2 ⟨Val.Sm.leaf 1 _ _, List.forall_mem_cons.2 ⟨Val.Sm.leaf 2 _ _, List.forall_mem_cons.2 ⟨Val.Sm.leaf 2 _ _, List.forall_mem_cons.2 ⟨Val.Sm.leaf 1 _ _, List.forall_mem_cons.2 ⟨Val.Sm.leaf 2 _ _, fun _ h => by cases h⟩⟩⟩⟩⟩⟩⟩)
def PodStatus.enc (x : PodStatus) : Val := vM [.mk Q2y (vN x.address), .mk Q13 (vL (x.containers.map ContainerStatus.enc)), .mk Q2k (vN x.finished), .mk Q2c (vS x.nominated), .mk Q4f (vN x.phase), .mk Qp (vB x.ready), .mk Q22 (vN x.readySince), .mk Q3c (vS x.reason), .mk Q10 (vN x.started)]
def PodStatus.dec (v : Val) : PodStatus × Bool := (PodStatus.mk (dN v Q4f).1 (dB v Qp).1 (dN v Q22).1 (dN v Q10).1 (dN v Q2k).1 (dE ContainerStatus.dec v Q13).1 (dN v Q2y).1 (dS v Q2c).1 (dS v Q3c).1, isM v && (dN v Q2y).2 && (dE ContainerStatus.dec v Q13).2 && (dN v Q2k).2 && (dS v Q2c).2 && (dN v Q4f).2 && (dB v Qp).2 && (dN v Q22).2 && (dS v Q3c).2 && (dN v Q10).2)
def PodStatus.sm (x : PodStatus) : Prop := LSm ContainerStatus.sm x.containers ∧ True
theorem PodStatus.Q1i {x : PodStatus} (h : PodStatus.sm x) : Val.Sm sB (PodStatus.enc x) := Q8w (Nat.le_of_ble_eq_true rfl) (List.forall_mem_cons.2 ⟨Val.Sm.leaf 2 _ _, List.forall_mem_cons.2 ⟨Q2a (fun _ h => ContainerStatus.Q1i h) h.1, List.forall_mem_cons.2 ⟨Val.Sm.leaf 2 _ _, List.forall_mem_cons.2 ⟨Val.Sm.leaf 3 _ _, List.forall_mem_cons.2 ⟨Val.Sm.leaf 2 _ _, List.forall_mem_cons.2 ⟨Val.Sm.leaf 1 _ _, List.forall_mem_cons.2 ⟨Val.Sm.leaf 2 _ _, List.forall_mem_cons.2 ⟨Val.Sm.leaf 3 _ _, List.forall_mem_cons.2 ⟨Val.Sm.leaf 2 _ _, fun _ h => by cases h⟩⟩⟩⟩⟩⟩⟩⟩⟩)
def Taint.enc (x : Taint) : Val := vM [.mk Qv (vN x.effect), .mk Qx (vS x.key), .mk Q16 (vN x.since), .mk Qn (vS x.value)]
def Taint.dec (v : Val) : Taint × Bool := (Taint.mk (dS v Qx).1 (dS v Qn).1 (dN v Qv).1 (dN v Q16).1, isM v && (dN v Qv).2 && (dS v Qx).2 && (dN v Q16).2 && (dS v Qn).2)
def Taint.sm (_ : Taint) : Prop := True
theorem Taint.Q1i {x : Taint} (_ : Taint.sm x) : Val.Sm sB (Taint.enc x) := Q8w (Nat.le_of_ble_eq_true rfl) (List.forall_mem_cons.2 ⟨Val.Sm.leaf 2 _ _, List.forall_mem_cons.2 ⟨Val.Sm.leaf 3 _ _, List.forall_mem_cons.2 ⟨Val.Sm.leaf 2 _ _, List.forall_mem_cons.2 ⟨Val.Sm.leaf 3 _ _, fun _ h => by cases h⟩⟩⟩⟩)
def Image.enc (x : Image) : Val := vM [.mk Qw (vS x.name), .mk Q2q (vN x.size), .mk Q2r (vN x.used)]
def Image.dec (v : Val) : Image × Bool := (Image.mk (dS v Qw).1 (dN v Q2q).1 (dN v Q2r).1, isM v && (dS v Qw).2 && (dN v Q2q).2 && (dN v Q2r).2)
def Image.sm (_ : Image) : Prop := True
theorem Image.Q1i {x : Image} (_ : Image.sm x) : Val.Sm sB (Image.enc x) := Q8w (Nat.le_of_ble_eq_true rfl) (List.forall_mem_cons.2 ⟨Val.Sm.leaf 3 _ _, List.forall_mem_cons.2 ⟨Val.Sm.leaf 2 _ _, List.forall_mem_cons.2 ⟨Val.Sm.leaf 2 _ _, fun _ h => by cases h⟩⟩⟩)
def Label.enc (x : Label) : Val := vM [.mk Qx (vS x.key), .mk Qn (vS x.value)]
def Label.dec (v : Val) : Label × Bool := (Label.mk (dS v Qx).1 (dS v Qn).1, isM v && (dS v Qx).2 && (dS v Qn).2)
def Label.sm (_ : Label) : Prop := True
theorem Label.Q1i {x : Label} (_ : Label.sm x) : Val.Sm sB (Label.enc x) := Q8w (Nat.le_of_ble_eq_true rfl) (List.forall_mem_cons.2 ⟨Val.Sm.leaf 3 _ _, List.forall_mem_cons.2 ⟨Val.Sm.leaf 3 _ _, fun _ h => by cases h⟩⟩)
def Template.enc (x : Template) : Val := vM [.mk Q3b (vL (x.labels.map Label.enc)), .mk Q5l (PodSpec.enc x.spec)]
def Template.dec (v : Val) : Template × Bool := (Template.mk (dE Label.dec v Q3b).1 (dT PodSpec.dec v Q5l).1, isM v && (dE Label.dec v Q3b).2 && (dT PodSpec.dec v Q5l).2)
def Template.sm (x : Template) : Prop := LSm Label.sm x.labels ∧ PodSpec.sm x.spec ∧ True
theorem Template.Q1i {x : Template} (h : Template.sm x) : Val.Sm sB (Template.enc x) := Q8w (Nat.le_of_ble_eq_true rfl) (List.forall_mem_cons.2 ⟨Q2a (fun _ h => Label.Q1i h) h.1, List.forall_mem_cons.2 ⟨PodSpec.Q1i h.2.1, fun _ h => by cases h⟩⟩)
end Go.Proofs.YtiflaadeikaghaaGreat
end

