/- Texts of the claim, merged by a program; what the statement does not reach is left out. -/
import Derived.Test.YtbagpdebihicnaaBWorkcodecLimits2
import Derived.KernelRfl
import Derived.OpenShut
import Derived.ChangeArms
import Derived.ChangeSlices
import Derived.ChangeOld
import Derived.Carry
import GoSem.ClaimJoined

section
/-
  Small words and hints' lemmas for walks that a program prints.
-/
namespace Go.Pv
def bE (b : Bool) : Eff := ⟨.bool b, [], []⟩
def vE (v : PV) : Eff := ⟨v, [], []⟩
def w64 (n : Int) : Int := IntKind.i64.wrap n
def mx (x y : Int) : Int := if y > x then y else x
def sEq (a b : ByteArray) : Bool := a.toList == b.toList
def sLt (a b : ByteArray) : Bool := Op.bytesLess a.toList b.toList
theorem dec (c v : Bool) (h : c = v) : some (bE c) = some (bE v) := by rw [h]
theorem toldOf {G : Nat → Option Fun} {e : En} {r r' : Rs} (h : Q7 G e r) (hr : r = r') : Q7 G e r' := hr ▸ h
theorem Qf {α : Type} {f : α → List PV} {l : List α} {i : Nat} {x : α} (h : l[i]? = some x) : (l.map f)[i]? = some (f x) := by
 rw [List.getElem?_map, h]
 rfl
def ixE (sz : Nat) (l : List (List PV)) (i : Int) : Option Eff := (opP (fun _ => .un) (.iaddr sz (.c (.sl l)) (.c (.int .i64 i)))).bind fun v => some ⟨v, [], []⟩
theorem Q1x (sz : Nat) (l : List (List PV)) (i : Nat) (r : List PV) (h : l[i]? = some r) (hs : r.length = sz) : ixE sz l (i : Int) = some (vE (.rf r)) := by
 unfold ixE
 simp only [opP, Opd.ev, asNat]
 have h0 : decide (0 ≤ (i : Int)) = true := by simp
 rw [h0]
 simp only [cond_true, Option.bind_some, Int.toNat_natCast]
 rw [h]
 subst hs
 simp [vE]
theorem Qyo (sz : Nat) (l : List (List PV)) (i : Int) (r : List PV) (h0 : 0 ≤ i) (h : l[i.toNat]? = some r) (hs : r.length = sz) : ixE sz l i = some (vE (.rf r)) := by
 have := Q1x sz l i.toNat r h hs
 rw [show ((i.toNat : Nat) : Int) = i by omega] at this
 exact this
def lenE (l : List (List PV)) : Option Eff := some ⟨.int .i64 (l.length : Int), [], []⟩
theorem Qs (l : List (List PV)) (n : Nat) (h : l.length = n) : lenE l = some (vE (.int .i64 (n : Int))) := by
 unfold lenE
 rw [h]
 rfl
theorem Qml {n : Int} (h : -9223372036854775808 ≤ n ∧ n ≤ 9223372036854775807) : w64 n = n := by
 unfold w64 IntKind.wrap
 simp [IntKind.signed, IntKind.bits]
 omega
def addE (a b : Int) : Option Eff := some ⟨.int .i64 (IntKind.i64.wrap (a + b)), [], []⟩
theorem Q1o (i : Nat) (h : i < 9223372036854775807) : addE (i : Int) 1 = some (vE (.int .i64 ((i + 1 : Nat) : Int))) := by
 unfold addE
 have : IntKind.i64.wrap ((i : Int) + 1) = ((i + 1 : Nat) : Int) := by
  have := Qml (n := (i : Int) + 1) (by omega)
  unfold w64 at this
  rw [this]
  rfl
 rw [this]
 rfl
theorem Qyk {ob : Ob} {k : Nat} (h : ob.cells.length = k) : apC ob k = some ob.cells := by
 unfold apC
 rw [h, Nat.beq_refl]
 rfl
def apE (id lid fr sz bytes ro lro : Nat) (lgr : Bool) (rows : List (List PV)) (r : List PV) (n : Nat) : Option Eff :=
 Q2g (look [(id, ⟨sz, ro, true, rows.flatten⟩), (lid, ⟨sz, lro, lgr, r⟩)]) fr sz bytes (.ms id sz 0 n) (.ms lid sz 0 1)
theorem Q6y (id lid fr sz bytes ro lro : Nat) (lgr : Bool) (rows rows' : List (List PV)) (r : List PV) (n n' : Nat) (hne : Nat.beq id lid = false) (hn : n = rows.length) (hn' : n' = rows'.length) (hr' : rows' = rows ++ [r])
  (hs : ∀ r ∈ rows, r.length = sz) (hr : r.length = sz) (hb : (n + 1) * bytes ≤ 140737488355328) :
  apE id lid fr sz bytes ro lro lgr rows r n = some ⟨.ms fr sz 0 n', [(id, none), (fr, some ⟨sz, ro, true, rows'.flatten⟩)], [id, lid]⟩ := by
 subst hn hn' hr'
 unfold apE Q2g
 have h1 : look [(id, (⟨sz, ro, true, rows.flatten⟩ : Ob)), (lid, ⟨sz, lro, lgr, r⟩)] lid = some ⟨sz, lro, lgr, r⟩ := by simp [look, hne]
 have h2 : look [(id, (⟨sz, ro, true, rows.flatten⟩ : Ob)), (lid, ⟨sz, lro, lgr, r⟩)] id = some ⟨sz, ro, true, rows.flatten⟩ := by simp [look]
 have hsrc : source (look [(id, (⟨sz, ro, true, rows.flatten⟩ : Ob)), (lid, ⟨sz, lro, lgr, r⟩)]) sz (.ms lid sz 0 1) = some (1, r, [lid]) := by
  simp only [source, h1, Option.bind_some]
  subst hr
  have : Nat.ble r.length r.length = true := Nat.ble_eq_true_of_le (Nat.le_refl _)
  simp [this]
 rw [hsrc, Option.bind_some]
 simp only [h2, Option.bind_some]
 have hc : (true && Nat.beq sz sz && Nat.beq sz sz && Nat.beq 0 0 && Nat.ble ((rows.length + 1) * bytes) 140737488355328) = true := by
  simp only [Nat.beq_refl, Bool.and_true, Bool.true_and]
  exact Nat.ble_eq_true_of_le hb
 rw [hc, Qyk (ob := ⟨sz, ro, true, rows.flatten⟩) (Q3c sz rows hs)]
 simp
end Go.Pv
namespace Go.Pv
theorem VOK.cons {H : Nat → Option Ob} {vw : Views} {id : Nat} {rows : List (List PV)} (h : Seen (H id) rows) (hv : VOK H vw) : VOK H ((id, rows) :: vw) := by
 intro k rs hl
 simp only [look] at hl
 cases c : Nat.beq id k with
 | true =>
  have := Nat.eq_of_beq_eq_true c
  subst this
  rw [c] at hl
  simp only [cond_true, Option.some.injEq] at hl
  subst hl
  exact h
 | false =>
  rw [c] at hl
  exact hv k rs hl
theorem Q19 {α : Type} {l : List α} {i : Nat} {x : α} {r : List α} (h : l.drop i = x :: r) : l[i]? = some x ∧ i < l.length ∧ l.drop (i + 1) = r := by
 have h1 : l[i]? = some x := by
  have := congrArg (fun q => q[0]?) h
  simpa [List.getElem?_drop] using this
 have h2 : i < l.length := (List.getElem?_eq_some_iff.1 h1).1
 refine ⟨h1, h2, ?_⟩
 rw [← List.tail_drop, h]
 rfl
theorem Q1d {α : Type} {l : List α} {i : Nat} (h : l.drop i = []) : l.length ≤ i := by
 simpa using h
theorem Q29 {α : Type} {l : List α} {i : Nat} {x : α} (h : l[i]? = some x) : x ∈ l := List.mem_of_getElem? h
theorem Qp1 (a b : ByteArray) (h : a.size + b.size ≤ 9223372036854775807) : ((sbin .add a b).bind fun v => some (⟨v, [], []⟩ : Eff)) = some (vE (.str (a ++ b))) := by
 simp only [sbin, Nat.ble_eq_true_of_le h, cond_true, Option.bind_some]
 rfl
def Qg (l : List ByteArray) : List (List PV) := l.map fun n => [.str n]
theorem Q1h (l : List ByteArray) : (Qg l).length = l.length := by simp [Qg]
theorem Q6i {l : List ByteArray} {i : Nat} {x : ByteArray} (h : l[i]? = some x) : (Qg l)[i]? = some [.str x] := Qf (f := fun n => [.str n]) h
theorem Qnm (l : List ByteArray) (x : ByteArray) : Qg (l ++ [x]) = Qg l ++ [[.str x]] := by simp [Qg]
theorem Q2w {α : Type} {f : α → List PV} {n : Nat} (h : ∀ x, (f x).length = n) (l : List α) : ∀ r ∈ l.map f, r.length = n := fun r hr => by
 obtain ⟨x, _, rfl⟩ := List.mem_map.1 hr
 exact h x
theorem Q28 {α : Type} {f : α → List PV} (h : ∀ x, (f x).all plain = true) (l : List α) : ∀ r ∈ l.map f, ∀ p ∈ r, plain p = true := fun r hr p hp => by
 obtain ⟨x, _, rfl⟩ := List.mem_map.1 hr
 exact List.all_eq_true.1 (h x) p hp
theorem Qd5 (l : List ByteArray) : ∀ r ∈ Qg l, r.length = 1 := Q2w (f := fun n => [.str n]) (fun _ => rfl) l
theorem Q4f (l : List ByteArray) (sz : Nat) (h : sz = 1) : ViewOK sz (Qg l).flatten (Qg l) := by subst h; exact ⟨rfl, Qd5 l, Q28 (f := fun n => [.str n]) (fun _ => rfl) l⟩
end Go.Pv
namespace Go.Pv
def zoF (l : List (Nat × List PV)) (j : Nat) : List PV := (look l j).getD []
end Go.Pv
namespace Go.Pv
def optI : Option Int → Option Opd
 | none => none
 | some n => some (.c (.int .i64 n))
theorem Qma {l : List (List PV)} {sz : Nat} (hs : ∀ r ∈ l, r.length = sz) : Q48 l sz = true := by
 unfold Q48
 rw [List.all_eq_true]
 intro r hr
 rw [hs r hr]
 exact Nat.beq_refl sz
end Go.Pv
namespace Go.Pv
def ixmE (id sz off len : Nat) (i : Int) : Option Eff := (opP (fun _ => .un) (.iaddr sz (.c (.ms id sz off len)) (.c (.int .i64 i)))).bind fun v => some ⟨v, [], []⟩
theorem Q12e (id sz off len : Nat) (i : Int) (k at_ : Nat) (h : i = (k : Int)) (hk : k < len) (ha : at_ = (off + k) * sz) : ixmE id sz off len i = some (vE (.bx id at_)) := by
 subst h ha
 unfold ixmE
 simp only [opP, Opd.ev, asNat]
 have h0 : decide (0 ≤ (k : Int)) = true := by simp
 rw [h0]
 simp only [cond_true, Option.bind_some, Int.toNat_natCast]
 have h1 : (Nat.beq sz sz && Nat.blt k len) = true := by
  rw [Nat.beq_refl, Bool.true_and]
  exact Nat.ble_eq_true_of_le hk
 rw [h1]
 rfl
end Go.Pv
namespace Go.Pv
theorem Q2n (id sz len : Nat) (i : Int) (k : Nat) (hk : k = i.toNat) (h0 : 0 ≤ i) (h1 : i < (len : Int)) : ixmE id sz 0 len i = some (vE (.bx id (k * sz))) :=
 Q12e id sz 0 len i k (k * sz) (by omega) (by omega) (by rw [Nat.zero_add])
theorem Q61 (sz : Nat) : ∀ (rows : List (List PV)) (k : Nat), (∀ r ∈ rows, r.length = sz) → rows.flatten.drop (k * sz) = (rows.drop k).flatten
 | [], k, _ => by simp
 | r :: rs, 0, _ => by simp
 | r :: rs, k + 1, h => by
  have h0 := h r List.mem_cons_self
  rw [List.flatten_cons, List.drop_succ_cons, ← Q61 sz rs k (fun q hq => h q (List.mem_cons_of_mem _ hq)), Nat.add_mul, Nat.one_mul, Nat.add_comm, ← List.drop_drop, List.drop_left' h0]
theorem Qr5 {sz : Nat} {rows : List (List PV)} {k : Nat} {r : List PV} {off n : Nat} (hr : rows[k]? = some r) (hs : ∀ r ∈ rows, r.length = sz) (hn : off + n ≤ sz) : (rows.flatten.drop (k * sz + off)).take n = (r.drop off).take n ∧ k * sz + off + n ≤ rows.flatten.length := by
  have hk : k < rows.length := (List.getElem?_eq_some_iff.1 hr).1
  have hd : rows.drop k = r :: rows.drop (k + 1) := by
    rw [List.drop_eq_getElem_cons hk]
    congr 1
    exact (List.getElem?_eq_some_iff.1 hr).2
  have hl := hs r (List.mem_of_getElem? hr)
  refine ⟨?_, ?_⟩
  · rw [← List.drop_drop, Q61 sz rows k hs, hd, List.flatten_cons]
    rw [List.drop_append_of_le_length (by omega), List.take_append_of_le_length (by rw [List.length_drop]; omega)]
  · rw [Q3c sz rows hs]
    have : (k + 1) * sz ≤ rows.length * sz := Nat.mul_le_mul_right _ hk
    rw [Nat.add_mul] at this
    omega
def ldE (id sz ro : Nat) (gr : Bool) (cells : List PV) (n : Nat) (ag : Bool) (at_ : Nat) : Option Eff := Qcv (look [(id, ⟨sz, ro, gr, cells⟩)]) n ag (.bx id at_)
theorem Q6k (id sz ro : Nat) (gr : Bool) (cells : List PV) (rows : List (List PV)) (n : Nat) (ag : Bool) (k off at_ : Nat) (r : List PV) (v : PV) (hc : cells = rows.flatten) (ha : at_ = k * sz + off) (hr : rows[k]? = some r) (hs : ∀ r ∈ rows, r.length = sz) (hn : off + n ≤ sz) (hv : shape ag ((r.drop off).take n) = some v) :
  ldE id sz ro gr cells n ag at_ = some ⟨v, [], [id]⟩ := by
 subst hc ha
 obtain ⟨h1, h2⟩ := Qr5 hr hs hn
 unfold ldE Qcv reads
 simp only [look, Nat.beq_refl, cond_true, Option.bind_some]
 rw [Nat.ble_eq_true_of_le h2]
 simp only [cond_true, Option.bind_some]
 rw [h1, hv, Option.bind_some]
theorem Q2u {α : Type} (l : List α) (k : Nat) (d : α) (h : k < l.length) : l[k]? = some (l.getD k d) := by
 rw [List.getD_eq_getElem?_getD, List.getElem?_eq_getElem h]
 rfl
end Go.Pv
namespace Go.Pv
end Go.Pv
namespace Go.Pv
end Go.Pv
end

section
/- More of single operations: sums that don't run over; shifts of indexes; stores into a slice of one's own that is known by its rows. -/
namespace Go.Pv
def wE (n : Int) : Option Eff := some ⟨.int .i64 (IntKind.i64.wrap n), [], []⟩
theorem w_ok (n : Int) (h : -9223372036854775808 ≤ n ∧ n ≤ 9223372036854775807) : wE n = some (vE (.int .i64 n)) := by
 unfold wE
 have := Qml h
 unfold w64 at this
 rw [this]
 rfl
def sCmp (a b : ByteArray) : Int := cmpL a.toList b.toList
theorem Qck {sz : Nat} : ∀ (rows : List (List PV)) (k : Nat) (r vals : List PV) (off n : Nat), rows[k]? = some r → (∀ q ∈ rows, q.length = sz) → off + n ≤ sz → vals.length = n →
  rows.flatten.take (k * sz + off) ++ (vals ++ rows.flatten.drop (k * sz + off + n)) = (rows.set k (r.take off ++ (vals ++ r.drop (off + n)))).flatten ∧ k * sz + off + n ≤ rows.flatten.length
 | [], _, _, _, _, _, h, _, _, _ => by simp at h
 | q :: rs, 0, r, vals, off, n, h, hs, hn, hv => by
  have hq := hs q List.mem_cons_self
  simp only [List.getElem?_cons_zero, Option.some.injEq] at h
  subst h
  simp only [Nat.zero_mul, Nat.zero_add, List.flatten_cons, List.set_cons_zero, List.length_append]
  refine ⟨?_, by omega⟩
  rw [List.take_append_of_le_length (by omega), List.drop_append_of_le_length (by omega)]
  simp only [List.append_assoc]
 | q :: rs, k + 1, r, vals, off, n, h, hs, hn, hv => by
  have hq := hs q List.mem_cons_self
  simp only [List.getElem?_cons_succ] at h
  obtain ⟨h1, h2⟩ := Qck rs k r vals off n h (fun q hq => hs q (List.mem_cons_of_mem _ hq)) hn hv
  have e1 : (k + 1) * sz + off = q.length + (k * sz + off) := by rw [hq, Nat.add_mul]; omega
  have e2 : (k + 1) * sz + off + n = q.length + (k * sz + off + n) := by rw [hq, Nat.add_mul]; omega
  simp only [List.flatten_cons, List.set_cons_succ, List.length_append]
  refine ⟨?_, by omega⟩
  rw [e2, e1, List.take_length_add_append, List.drop_length_add_append, ← h1]
  simp only [List.append_assoc]
def stE (id sz ro : Nat) (gr : Bool) (cells : List PV) (n : Nat) (at_ : Nat) (x : PV) : Option Eff := Q73 (look [(id, ⟨sz, ro, gr, cells⟩)]) n (.bx id at_) x
theorem Qvm (id sz : Nat) (gr : Bool) (cells : List PV) (rows rows' : List (List PV)) (n k off at_ : Nat) (r : List PV) (x : PV) (hc : cells = rows.flatten) (ha : at_ = k * sz + off) (hr : rows[k]? = some r) (hs : ∀ r ∈ rows, r.length = sz) (hn : off + n ≤ sz) (hx : x.cs.length = n) (hf : x.fits = true) (hrows : rows' = rows.set k (r.take off ++ (x.cs ++ r.drop (off + n)))) :
  stE id sz 0 gr cells n at_ x = some ⟨.un, [(id, some ⟨sz, 0, gr, rows'.flatten⟩)], [id]⟩ := by
 subst hc ha hrows
 obtain ⟨h1, h2⟩ := Qck rows k r x.cs off n hr hs hn hx
 unfold stE Q73
 simp only [look, Nat.beq_refl, cond_true, Option.bind_some]
 rw [hx, hf, Nat.beq_refl, Nat.ble_eq_true_of_le h2, Nat.ble_eq_true_of_le (Nat.zero_le _), h1]
 rfl
theorem Q2k {α : Type} (f : α → List PV) (l : List α) (k : Nat) (x : α) : (l.set k x).map f = (l.map f).set k (f x) := List.map_set
theorem Q38 {α : Type} {l : List α} {n : Nat} (h : l.length = n) (k : Nat) (x : α) : (l.set k x).length = n := by rw [List.length_set, h]
end Go.Pv
end

section
/- A walk's hints and answers, each with its proof. -/
namespace Go.Pv
structure It where
  hint : Option (Nat × (Eff × Views))
  p : Prop
  pf : p
def hsOf : List It → Q4i
 | [] => []
 | x :: r => (match x.hint with | some h => h :: hsOf r | none => hsOf r)
def owOf : List It → List Prop
 | [] => []
 | x :: r => x.p :: owOf r
theorem Qxn : ∀ l : List It, Met (owOf l)
 | [] => Met.nil
 | x :: r => Met.cons x.pf (Qxn r)
structure An (G : Nat → Option Fun) where
  e : En
  r : Rs
  vw : Views
  pf : Q7 G e r
def asOf {G : Nat → Option Fun} : List (An G) → List Ans
 | [] => []
 | x :: r => ⟨x.r, x.vw⟩ :: asOf r
def akOf {G : Nat → Option Fun} : List (An G) → Q6s
 | [] => []
 | x :: r => (x.e, x.r) :: akOf r
theorem Qqq {G : Nat → Option Fun} : ∀ l : List (An G), Told G (akOf l)
 | [] => Told.nil
 | x :: r => Told.cons x.pf (Qqq r)
def hB {c v : Bool} (n : Nat) (h : c = v) : It := ⟨some (n, (bE v, [])), some (bE c) = some (bE v), dec c v h⟩
def hP {x : Option Eff} {y : Eff} (n : Nat) (h : x = some y) : It := ⟨some (n, (y, [])), x = some y, h⟩
def hV {x : Option Eff} {y : Eff} (n : Nat) (vw : Views) (h : x = some y) : It := ⟨some (n, (y, vw)), x = some y, h⟩
def hQ {p : Prop} (h : p) : It := ⟨none, p, h⟩
def aN {G : Nat → Option Fun} {e : En} {r : Rs} (h : Q7 G e r) : An G := ⟨e, r, [], h⟩
def aV {G : Nat → Option Fun} {e : En} {r : Rs} (vw : Views) (h : Q7 G e r) : An G := ⟨e, r, vw, h⟩
def aB {G : Nat → Option Fun} {e : En} {c v : Bool} (h : Q7 G e (.ret (.bool c) [])) (hc : c = v) : An G := ⟨e, .ret (.bool v) [], [], hc ▸ h⟩
theorem vk1 {sz ro : Nat} {gr : Bool} {cells : List PV} {rows : List (List PV)} (h : ViewOK sz cells rows) : VOK (look (number 0 [⟨sz, ro, gr, cells⟩])) [(0, rows)] := VOK.cons (show Seen _ _ from Q3n (ob := ⟨sz, ro, gr, cells⟩) h) VOK.nil
theorem Qa {G : Nat → Option Fun} {f : Nat} {fn : IFn} (hG : G f = some (.ir fn)) {args : List PV} {h : List Ob} {vw : Views} (hv : VOK (look (number 0 h)) vw) {r : Rs} (l : List It) (q : List (An G)) (ht : Qzk fn args h vw (hsOf l) (asOf q) = some (r, owOf l, akOf q)) : Q7 G (.call f args h) r := Q105 hG hv (Qxn l) (Qqq q) ht
theorem Qn {G : Nat → Option Fun} {m : Nat} {live : List Nat} {b : IR} {env : List PV} {h : List Ob} {vw : Views} (hv : VOK (look (number 0 h)) vw) {y : List PV × List Ob} {r : Rs} (l : List It) (q : List (An G)) (ht : Qzv m live b env h vw (hsOf l) (asOf q) = some (y, owOf l, akOf q)) (hr : Q7 G (.loop m live b y.1 y.2) r) : Q7 G (.loop m live b env h) r := Qnn hv (Qxn l) (Qqq q) ht hr
theorem Qm {G : Nat → Option Fun} {m : Nat} {live : List Nat} {b : IR} {env : List PV} {h : List Ob} {vw : Views} (hv : VOK (look (number 0 h)) vw) {x : Ex × St} (l : List It) (q : List (An G)) (ht : Qu2 m b env h vw (hsOf l) (asOf q) = some (x, owOf l, akOf q)) : Q7 G (.loop m live b env h) (.st x.1 x.2) := Qs5 hv (Qxn l) (Qqq q) ht
end Go.Pv
namespace Go.Pv
def hS {sz : Nat} {cells : List PV} {rows : List (List PV)} (ro : Nat) (gr : Bool) (h : ViewOK sz cells rows) : It := hQ (Q3n (ob := ⟨sz, ro, gr, cells⟩) h)
end Go.Pv
end

section
/-
  What a law is handed, as plain Lean values.
-/
namespace Go.Pv
def okI (k : IntKind) (n : Int) : Prop := (Lit.int k n).wf = true
def Q3p (n : Int) : Prop := -9223372036854775808 ≤ n ∧ n ≤ 9223372036854775807
def okU8 (n : Int) : Prop := 0 ≤ n ∧ n ≤ 255
theorem okI.i64 {n : Int} (h : okI .i64 n) : Q3p n := by
 unfold okI at h
 simp [Lit.wf, IntKind.min, IntKind.max, IntKind.signed, IntKind.bits] at h
 exact h
theorem okI.u8 {n : Int} (h : okI .u8 n) : okU8 n := by
 unfold okI at h
 simp [Lit.wf, IntKind.min, IntKind.max, IntKind.signed, IntKind.bits] at h
 unfold okU8
 omega
def okS (s : ByteArray) : Prop := s.size ≤ 140737488351232
def okL {α : Type} (bytes : Nat) (ok : α → Prop) (l : List α) : Prop := l.length * bytes ≤ 140737488351232 ∧ ∀ x ∈ l, ok x
section
variable {Γ : Nat → Option Ty}
theorem OfL.Q18 {f : Ty} {fs : List Ty} {c : List PV} (h : OfL Γ (f :: fs) c) : ∃ a b, c = a ++ b ∧ Of Γ f a ∧ OfL Γ fs b := by
 cases h with
 | cons _ _ a b h1 h2 => exact ⟨a, b, rfl, h1, h2⟩
theorem OfL.empty {c : List PV} (h : OfL Γ [] c) : c = [] := by cases h; rfl
theorem Of.str1 {c : List PV} (h : Of Γ .str c) : ∃ s, c = [.str s] ∧ okS s := by
 cases h with
 | str s h => exact ⟨s, rfl, h⟩
theorem Of.Q150 {c : List PV} (h : Of Γ .bool c) : ∃ b, c = [.bool b] := by
 cases h with
 | bool b => exact ⟨b, rfl⟩
theorem Of.bool2 {c : List PV} (h : Of Γ .bool c) : ∃ b, c = [.bool b] ∧ True := by
 obtain ⟨b, hb⟩ := h.Q150
 exact ⟨b, hb, trivial⟩
theorem Of.int1 {k : IntKind} {c : List PV} (h : Of Γ (.int k) c) : ∃ n, c = [.int k n] ∧ okI k n := by
 cases h with
 | int _ n h => exact ⟨n, rfl, h⟩
theorem Of.i64 {c : List PV} (h : Of Γ (.int .i64) c) : ∃ n, c = [.int .i64 n] ∧ Q3p n := by
 obtain ⟨n, h1, h2⟩ := h.int1
 exact ⟨n, h1, h2.i64⟩
theorem Of.u8 {c : List PV} (h : Of Γ (.int .u8) c) : ∃ n, c = [.int .u8 n] ∧ okU8 n := by
 obtain ⟨n, h1, h2⟩ := h.int1
 exact ⟨n, h1, h2.u8⟩
theorem Of.st1 {fs : List Ty} {c : List PV} (h : Of Γ (.st fs) c) : OfL Γ fs c := by
 cases h with
 | st _ _ h => exact h
theorem Qcc {α : Type} {f : α → List PV} {ok : α → Prop} : ∀ (l : List (List PV)), (∀ r ∈ l, ∃ x, r = f x ∧ ok x) → ∃ xs : List α, l = xs.map f ∧ ∀ x ∈ xs, ok x
  | [], _ => ⟨[], rfl, fun _ h => absurd h List.not_mem_nil⟩
  | r :: rs, h => by
    obtain ⟨x, hx, hok⟩ := h r List.mem_cons_self
    obtain ⟨xs, hxs, hoks⟩ := Qcc rs (fun q hq => h q (List.mem_cons_of_mem _ hq))
    refine ⟨x :: xs, by rw [hx, hxs]; rfl, fun y hy => ?_⟩
    rcases List.mem_cons.1 hy with rfl | hy
    · exact hok
    · exact hoks y hy
theorem Of.sl1 {bytes : Nat} {e : Ty} {c : List PV} {α : Type} {f : α → List PV} {ok : α → Prop} (h : Of Γ (.sl bytes e) c) (he : ∀ r, Of Γ e r → ∃ x, r = f x ∧ ok x) : ∃ xs : List α, c = [.sl (xs.map f)] ∧ okL bytes ok xs := by
 cases h with
 | sl _ _ l h hl =>
  obtain ⟨xs, rfl, hok⟩ := Qcc l (fun r hr => he r (hl r hr))
  exact ⟨xs, rfl, by simpa using h, hok⟩
theorem Arg.one {ty : Ty} {p : PV} (h : Arg Γ ty p) (hs : ty.isSt Γ = false) : Of Γ ty [p] := by
 obtain ⟨c, hc, hp⟩ := h
 rw [hs] at hp
 have hp : c = [p] := hp
 subst hp
 exact hc
theorem Arg.agg {ty : Ty} {p : PV} (h : Arg Γ ty p) (hs : ty.isSt Γ = true) : ∃ c, p = .agg c ∧ Of Γ ty c := by
 obtain ⟨c, hc, hp⟩ := h
 rw [hs] at hp
 exact ⟨c, hp, hc⟩
end
end Go.Pv
end

section
/-
  Strings: equality and order.
-/
namespace Go.Pv
theorem Qno (b : ByteArray) : ∀ (n i : Nat) (acc : List UInt8), b.size - i = n → ByteArray.toList.loop b i acc = acc.reverse ++ b.data.toList.drop i := by
 intro n
 induction n with
 | zero =>
  intro i acc h
  unfold ByteArray.toList.loop
  have h1 : ¬ i < b.size := by omega
  rw [if_neg h1]
  have : b.data.toList.drop i = [] := by
   rw [List.drop_eq_nil_iff]
   have : b.data.toList.length = b.size := Array.length_toList
   omega
  rw [this, List.append_nil]
 | succ n ih =>
  intro i acc h
  unfold ByteArray.toList.loop
  have h1 : i < b.size := by omega
  rw [if_pos h1, ih (i + 1) _ (by omega)]
  have hl : i < b.data.toList.length := by rw [show b.data.toList.length = b.size from Array.length_toList]; exact h1
  rw [List.drop_eq_getElem_cons hl, List.reverse_cons, List.append_assoc]
  congr 1
  simp only [List.singleton_append, List.cons.injEq, and_true]
  have : b.data.size = b.size := rfl
  simp [ByteArray.get!, h1, this]
theorem toList_data (b : ByteArray) : b.toList = b.data.toList := by
 unfold ByteArray.toList
 rw [Qno b _ 0 [] rfl]
 simp
theorem toList_inj {a b : ByteArray} (h : a.toList = b.toList) : a = b := by
 rw [toList_data, toList_data] at h
 cases a
 cases b
 simp at h
 rw [h]
theorem Q2l {a b : ByteArray} : sEq a b = true ↔ a = b := by
 unfold sEq
 rw [beq_iff_eq]
 exact ⟨toList_inj, fun h => by rw [h]⟩
mutual
inductive Val where
 | mk (kind n : Int) (s : ByteArray) (list : List Val) (fields : List Fld)
inductive Fld where
 | mk (name : ByteArray) (v : Val)
end
def Val.kind : Val → Int
 | .mk k _ _ _ _ => k
def Val.n : Val → Int
 | .mk _ n _ _ _ => n
def Val.s : Val → ByteArray
 | .mk _ _ s _ _ => s
def Val.list : Val → List Val
 | .mk _ _ _ l _ => l
def Val.fields : Val → List Fld
 | .mk _ _ _ _ f => f
def Fld.name : Fld → ByteArray
 | .mk n _ => n
def Fld.v : Fld → Val
 | .mk _ v => v
mutual
def Val.cs : Val → List PV
 | .mk k n s l f => [.int .i64 k, .int .i64 n, .str s, .sl (Val.css l), .sl (Fld.css f)]
def Val.css : List Val → List (List PV)
 | [] => []
 | v :: r => v.cs :: Val.css r
def Fld.css : List Fld → List (List PV)
 | [] => []
 | f :: r => f.cs :: Fld.css r
def Fld.cs : Fld → List PV
 | .mk n v => .str n :: v.cs
end
def Val.rows (l : List Val) : List (List PV) := Val.css l
def Fld.rows (l : List Fld) : List (List PV) := Fld.css l
def Val.cells (v : Val) : List PV := [.int .i64 v.kind, .int .i64 v.n, .str v.s, .sl (Val.rows v.list), .sl (Fld.rows v.fields)]
def Fld.cells (f : Fld) : List PV := [.str f.name, .int .i64 f.v.kind, .int .i64 f.v.n, .str f.v.s, .sl (Val.rows f.v.list), .sl (Fld.rows f.v.fields)]
theorem Val.Qzl (v : Val) : v.cs = v.cells := by cases v; rfl
theorem Fld.Qzl (f : Fld) : f.cs = f.cells := by
 cases f with
 | mk n v => cases v; rfl
theorem Val.Q1f : Val.rows [] = [] := rfl
theorem Fld.Q1f : Fld.rows [] = [] := rfl
theorem Val.Q14 (v : Val) (l : List Val) : Val.rows (v :: l) = v.cells :: Val.rows l := by
 rw [← Val.Qzl]
 rfl
theorem Fld.Q14 (v : Fld) (l : List Fld) : Fld.rows (v :: l) = v.cells :: Fld.rows l := by
 rw [← Fld.Qzl]
 rfl
theorem Val.Q22 : ∀ l : List Val, Val.rows l = l.map Val.cells
 | [] => rfl
 | v :: r => by rw [Val.Q14, Val.Q22 r]; rfl
theorem Fld.Q22 : ∀ l : List Fld, Fld.rows l = l.map Fld.cells
 | [] => rfl
 | v :: r => by rw [Fld.Q14, Fld.Q22 r]; rfl
theorem Val.Q8 (l : List Val) : (Val.rows l).length = l.length := by simp [Val.Q22]
theorem Fld.Q8 (l : List Fld) : (Fld.rows l).length = l.length := by simp [Fld.Q22]
theorem Val.Qf {l : List Val} {i : Nat} {x : Val} (h : l[i]? = some x) : (Val.rows l)[i]? = some (Val.cells x) := by rw [Val.Q22]; exact Go.Pv.Qf h
theorem Fld.Qf {l : List Fld} {i : Nat} {x : Fld} (h : l[i]? = some x) : (Fld.rows l)[i]? = some (Fld.cells x) := by rw [Fld.Q22]; exact Go.Pv.Qf h
theorem Val.Q1g (l : List Val) (x : Val) : Val.rows (l ++ [x]) = Val.rows l ++ [Val.cells x] := by simp [Val.Q22]
theorem Fld.Q1g (l : List Fld) (x : Fld) : Fld.rows (l ++ [x]) = Fld.rows l ++ [Fld.cells x] := by simp [Fld.Q22]
theorem Val.Q23 (l : List Val) (n : Nat) : Val.rows (l.take n) = (Val.rows l).take n := by simp [Val.Q22, List.map_take]
theorem Fld.Q23 (l : List Fld) (n : Nat) : Fld.rows (l.take n) = (Fld.rows l).take n := by simp [Fld.Q22, List.map_take]
theorem Val.Q2a (l : List Val) (n : Nat) : Val.rows (l.drop n) = (Val.rows l).drop n := by simp [Val.Q22, List.map_drop]
theorem Fld.Q2a (l : List Fld) (n : Nat) : Fld.rows (l.drop n) = (Fld.rows l).drop n := by simp [Fld.Q22, List.map_drop]
theorem Val.Q30 (l m : List Val) : Val.rows (l ++ m) = Val.rows l ++ Val.rows m := by simp [Val.Q22]
theorem Fld.Q30 (l m : List Fld) : Fld.rows (l ++ m) = Fld.rows l ++ Fld.rows m := by simp [Fld.Q22]
theorem Val.Qh (l : List Val) : ∀ r ∈ Val.rows l, r.length = 5 := by rw [Val.Q22]; exact Q2w (f := Val.cells) (fun _ => rfl) l
theorem Fld.Qh (l : List Fld) : ∀ r ∈ Fld.rows l, r.length = 6 := by rw [Fld.Q22]; exact Q2w (f := Fld.cells) (fun _ => rfl) l
theorem Val.Qb (l : List Val) (sz : Nat) (h : sz = 5) : ViewOK sz (Val.rows l).flatten (Val.rows l) := by subst h; exact ⟨rfl, Val.Qh l, by rw [Val.Q22]; exact Q28 (f := Val.cells) (fun _ => rfl) l⟩
theorem Fld.Qb (l : List Fld) (sz : Nat) (h : sz = 6) : ViewOK sz (Fld.rows l).flatten (Fld.rows l) := by subst h; exact ⟨rfl, Fld.Qh l, by rw [Fld.Q22]; exact Q28 (f := Fld.cells) (fun _ => rfl) l⟩
theorem Val.Qnb (v : Val) : SizeOf.sizeOf v.list < SizeOf.sizeOf v := by
 cases v with
 | mk k n s l f => simp only [Val.list, Val.mk.sizeOf_spec]; omega
theorem Val.Qct (v : Val) : SizeOf.sizeOf v.fields < SizeOf.sizeOf v := by
 cases v with
 | mk k n s l f => simp only [Val.fields, Val.mk.sizeOf_spec]; omega
theorem Fld.lt_v (f : Fld) : SizeOf.sizeOf f.v < SizeOf.sizeOf f := by
 cases f with
 | mk n v => simp only [Fld.v, Fld.mk.sizeOf_spec]; omega
theorem szL {v x : Val} {i : Nat} (h : v.list[i]? = some x) : SizeOf.sizeOf x < SizeOf.sizeOf v :=
 Nat.lt_trans (List.sizeOf_lt_of_mem (Q29 h)) v.Qnb
theorem szF {v : Val} {x : Fld} {i : Nat} (h : v.fields[i]? = some x) : SizeOf.sizeOf x.v < SizeOf.sizeOf v :=
 Nat.lt_trans x.lt_v (Nat.lt_trans (List.sizeOf_lt_of_mem (Q29 h)) v.Qct)
inductive Val.Sm (B : Nat) : Val → Prop
  | mk (v : Val) (hl : v.list.length ≤ B) (hf : v.fields.length ≤ B) (sl : ∀ x ∈ v.list, Val.Sm B x) (sf : ∀ x ∈ v.fields, Val.Sm B x.v) : Val.Sm B v
theorem Val.Sm.all {B : Nat} {v : Val} (h : Val.Sm B v) : v.list.length ≤ B ∧ v.fields.length ≤ B ∧ (∀ x ∈ v.list, Val.Sm B x) ∧ (∀ x ∈ v.fields, Val.Sm B x.v) := by
 cases h with
 | mk _ h1 h2 h3 h4 => exact ⟨h1, h2, h3, h4⟩
theorem Val.Sm.mono {B C : Nat} (hb : B ≤ C) {v : Val} (h : Val.Sm B v) : Val.Sm C v := by
 induction h with
 | mk v h1 h2 _ _ i1 i2 => exact .mk v (by omega) (by omega) i1 i2
theorem Val.Sm.leaf {B : Nat} (k n : Int) (s : ByteArray) : Val.Sm B (.mk k n s [] []) := .mk _ (Nat.zero_le _) (Nat.zero_le _) (fun _ h => by cases h) (fun _ h => by cases h)
theorem Val.Sm.getD {B : Nat} {l : List Val} (h : ∀ x ∈ l, Val.Sm B x) (i : Nat) (k n : Int) (s : ByteArray) : Val.Sm B (l.getD i (.mk k n s [] [])) := by
  by_cases c : i < l.length
  · have := Q2u l i (.mk k n s [] []) c
    exact h _ (Q29 this)
  · rw [List.getD_eq_getElem?_getD, List.getElem?_eq_none (by omega)]
    exact .leaf k n s
inductive Q7n : Val → Prop
  | mk (v : Val) (h1 : Q3p v.kind) (h2 : Q3p v.n) (h3 : okS v.s) (hl : v.list.length * 80 ≤ 140737488351232) (hf : v.fields.length * 96 ≤ 140737488351232) (sl : ∀ x ∈ v.list, Q7n x) (sn : ∀ x ∈ v.fields, okS x.name) (sf : ∀ x ∈ v.fields, Q7n x.v) : Q7n v
theorem Q7n.all {v : Val} (h : Q7n v) : Q3p v.kind ∧ Q3p v.n ∧ okS v.s ∧ v.list.length * 80 ≤ 140737488351232 ∧ v.fields.length * 96 ≤ 140737488351232 ∧ (∀ x ∈ v.list, Q7n x) ∧ (∀ x ∈ v.fields, okS x.name ∧ Q7n x.v) := by
 cases h with
 | mk _ a b c d e f n g => exact ⟨a, b, c, d, e, f, fun x hx => ⟨n x hx, g x hx⟩⟩
theorem Q7n.sm {v : Val} (h : Q7n v) : Val.Sm 4611686018427387904 v := by
 induction h with
 | mk v _ _ _ hl hf _ _ _ i1 i2 => exact .mk v (by omega) (by omega) i1 i2
def Qoy (t : Nat) : Ty := .st [.int .i64, .int .i64, .str, .sl 80 (.nm t), .sl 96 (.st [.str, .nm t])]
theorem Qna {α : Type} [SizeOf α] (x : α) (r : List α) : SizeOf.sizeOf x < SizeOf.sizeOf (x :: r) := by
 simp only [List.cons.sizeOf_spec]
 omega
theorem Qu8 {α : Type} [SizeOf α] (x : α) (r : List α) : SizeOf.sizeOf r < SizeOf.sizeOf (x :: r) := by
 simp only [List.cons.sizeOf_spec]
 omega
theorem Qq9 (x : Fld) (r : List Fld) : SizeOf.sizeOf x.v < SizeOf.sizeOf (x :: r) := Nat.lt_trans x.lt_v (Qna x r)
def gam (t : Nat) : Nat → Option Ty := fun k => bif Nat.beq k t then some (Qoy t) else none
theorem gam_tab {P : Program} {t : Nat} (h : Q70 P (gam t) (Qoy t) t = true) : TabOK P (gam t) := by
 intro k ty hk
 unfold gam at hk
 cases c : Nat.beq k t with
 | false => rw [c] at hk; cases hk
 | true =>
  rw [c] at hk
  simp only [cond_true, Option.some.injEq] at hk
  subst hk
  rw [Nat.eq_of_beq_eq_true c]
  exact ⟨rfl, h⟩
end Go.Pv
namespace Go.Pv
theorem Q6n {G : Nat → Option Fun} {e e' : En} {r : Rs} (h : Q7 G e r) (he : e = e') : Q7 G e' r := he ▸ h
end Go.Pv
end

section
/- Strings byte by byte; rows that are cloned. -/
namespace Go.Pv
theorem Qg4 : ∀ p, plain p = true → bare p = true := fun p h => by cases p <;> first | rfl | (cases h)
theorem Q5i {G : Nat → Option Fun} {f sz bytes : Nat} (hG : G f = some (.ax (Qcd sz bytes))) {rows : List (List PV)} {n : Nat} (hn : rows.length = n) (hv : ViewOK sz rows.flatten rows) (hb : n * bytes ≤ 140737488355328) :
  Q7 G (.call f [.sl rows] []) (.ret (.ms 0 sz 0 n) [⟨sz, 0, true, rows.flatten⟩]) := by
 refine ⟨1, ?_⟩
 subst hn
 simp only [runs, phi, hG, Qcd]
 have h1 : Q48 rows sz = true := Qma hv.size
 have h2 : rows.flatten.all bare = true := List.all_eq_true.2 fun p hp => Qg4 p (hv.all p hp)
 rw [h1, h2, Nat.ble_eq_true_of_le hb]
 rfl
theorem Q4p {G : Nat → Option Fun} {f sz bytes : Nat} (hG : G f = some (.ax (Qce sz bytes))) {rows : List (List PV)} {n : Nat} (hn : rows.length = n) (hv : ViewOK sz rows.flatten rows) (hb : n * bytes ≤ 140737488355328) :
  Q7 G (.call f [.sl rows] []) (.ret (.sl rows) []) := by
 refine ⟨1, ?_⟩
 subst hn
 simp only [runs, phi, hG, Qce]
 have h1 : Q48 rows sz = true := Qma hv.size
 have h2 : rows.flatten.all bare = true := List.all_eq_true.2 fun p hp => Qg4 p (hv.all p hp)
 rw [h1, h2, Nat.ble_eq_true_of_le hb]
 rfl
end Go.Pv
namespace Go.Pv
theorem szM {v x : Val} (h : x ∈ v.list) : SizeOf.sizeOf x < SizeOf.sizeOf v := Nat.lt_trans (List.sizeOf_lt_of_mem h) v.Qnb
theorem szN {v : Val} {x : Fld} (h : x ∈ v.fields) : SizeOf.sizeOf x.v < SizeOf.sizeOf v := Nat.lt_trans x.lt_v (Nat.lt_trans (List.sizeOf_lt_of_mem h) v.Qct)
end Go.Pv
end

section
/- Arrays of bools, asked at an index of a loop. -/
namespace Go.Pv
def zr (z : Nat → PV) (i : Nat) : Nat → List PV
 | 0 => []
 | k + 1 => z i :: zr z (i + 1) k
end Go.Pv
end

section
/-
  What a law is handed, where its bulk is bounded: nothing within is longer.
-/
namespace Go.Pv
open Go.RowKit
inductive Cap (N : Nat) : PV → Prop
  | bool (b : Bool) : Cap N (.bool b)
  | int (k : IntKind) (n : Int) : Cap N (.int k n)
  | str (s : ByteArray) (h : s.size ≤ N) : Cap N (.str s)
  | sl (l : List (List PV)) (h : l.length ≤ N) (hl : ∀ r ∈ l, ∀ p ∈ r, Cap N p) : Cap N (.sl l)
def CapL (N : Nat) (c : List PV) : Prop := ∀ p ∈ c, Cap N p
theorem CapL.one {N : Nat} {p : PV} (h : Cap N p) : CapL N [p] := fun q hq => by
 rw [List.mem_singleton] at hq
 subst hq
 exact h
inductive CapD {H : Type} (N : Nat) : DataW H → Prop
  | lit (l : Lit) (h : ∀ b, l = .string b → b.length ≤ N) : CapD N (.lit l)
  | agg (parts : List (DataW H)) (h : ∀ d ∈ parts, CapD N d) : CapD N (.agg parts)
  | slice (elems spare : List (DataW H)) (h : elems.length ≤ N) (hl : ∀ d ∈ elems, CapD N d) : CapD N (.slice elems spare)
  | nil : CapD N .nil
  | ptr (d : DataW H) : CapD N (.ptr d)
  | iface (t : String) (d : DataW H) : CapD N (.iface t d)
  | map (e : List (Lit × DataW H)) : CapD N (.map e)
  | held (h : H) : CapD N (.held h)
def ArgB (Γ : Nat → Option Ty) (N : Nat) (ty : Ty) (p : PV) : Prop := ∃ c, Of Γ ty c ∧ CapL N c ∧ (bif ty.isSt Γ then p = .agg c else c = [p])
def Qsp (Γ : Nat → Option Ty) (N : Nat) : List Ty → List PV → Prop
 | [], [] => True
 | t :: ts, p :: ps => ArgB Γ N t p ∧ Qsp Γ N ts ps
 | _, _ => False
section
variable {H : Type} {enc : TypeId × Value → H} {P : Program} {w : World} {base : Nat} {sp : Nat → Bool} {held : Bool} {Γ : Nat → Option Ty} {N : Nat}
theorem Q93 {n : Nat} {cs : List Value} (ih : ∀ (ty : Ty) (t : TypeId) (cs : List Value) (x : DataW H × List MemPlace), Q70 P Γ ty t = true → DataW.trod enc P w base sp held n t cs = some x → Light P t x.1 → CapD N x.1 → ∃ c, RepN w NoM NoD cs c ∧ Of Γ ty c ∧ CapL N c) :
  ∀ (fs : List Ty) (gs : List Field) (off : Nat) (ys : List (DataW H × List MemPlace)), Ql3 P Γ fs gs off cs.length = true → ys.length = gs.length → (∀ (j : Nat) g, gs[j]? = some g → DataW.trod enc P w base sp held n g.type ((cs.drop g.offset).take (P.cellsOf g.type)) = ys[j]?) →
   (∀ (j : Nat) g y, gs[j]? = some g → ys[j]? = some y → Light P g.type y.1 ∧ CapD N y.1) → ∃ c, RepN w NoM NoD (cs.drop off) c ∧ OfL Γ fs c ∧ CapL N c
 | [], [], off, ys, hc, _, _, _ => by
  simp only [Ql3] at hc
  have := Nat.eq_of_beq_eq_true hc
  refine ⟨[], ?_, .nil, fun p hp => absurd hp List.not_mem_nil⟩
  rw [this, List.drop_length]
  exact ⟨rfl, fun i v p h => by simp at h⟩
 | [], _ :: _, off, ys, hc, _, _, _ => by cases hc
 | _ :: _, [], off, ys, hc, _, _, _ => by cases hc
 | f :: fs, g :: gs, off, [], hc, hl, _, _ => by simp at hl
 | f :: fs, g :: gs, off, y :: ys, hc, hl, ht, hw => by
  simp only [Ql3, Bool.and_eq_true] at hc
  have ho := Nat.eq_of_beq_eq_true hc.1.1
  have h0 := ht 0 g rfl
  simp only [List.getElem?_cons_zero] at h0
  obtain ⟨a, ha, hoa, hca⟩ := ih f g.type _ y hc.1.2 h0 (hw 0 g y rfl rfl).1 (hw 0 g y rfl rfl).2
  obtain ⟨b, hb, hob, hcb⟩ := Q93 ih fs gs (off + P.cellsOf g.type) ys hc.2 (by simpa using hl) (fun j g' hj => by have := ht (j + 1) g' (by simpa using hj); simpa using this) (fun j g' y' h1 h2 => hw (j + 1) g' y' (by simpa using h1) (by simpa using h2))
  refine ⟨a ++ b, ?_, .cons f fs a b hoa hob, fun p hp => (List.mem_append.1 hp).elim (hca p) (hcb p)⟩
  have : cs.drop off = (cs.drop off).take (P.cellsOf g.type) ++ cs.drop (off + P.cellsOf g.type) := by
   rw [← List.drop_drop]
   exact (List.take_append_drop _ _).symm
  rw [this]
  rw [ho] at ha
  exact ha.app hb
theorem Qxp (hΓ : TabOK P Γ) : ∀ (fuel : Nat) (ty : Ty) (t : TypeId) (cs : List Value) (x : DataW H × List MemPlace), Q70 P Γ ty t = true → DataW.trod enc P w base sp held fuel t cs = some x → Light P t x.1 → CapD N x.1 → ∃ c, RepN w NoM NoD cs c ∧ Of Γ ty c ∧ CapL N c := by
  intro fuel
  induction fuel with
  | zero => intro ty t cs x _ h; simp [DataW.trod] at h
  | succ n ih =>
    have core : ∀ (ty : Ty) (t : TypeId) (cs : List Value) (x : DataW H × List MemPlace), ty.named = false → Q70 P Γ ty t = true → DataW.trod enc P w base sp held (n + 1) t cs = some x → Light P t x.1 → CapD N x.1 → ∃ c, RepN w NoM NoD cs c ∧ Of Γ ty c ∧ CapL N c := by
      intro ty t cs x hn hc h hw hcd
      cases ty with
      | nm t' => cases hn
      | bool =>
        simp only [Q70] at hc
        obtain ⟨b, rfl, rfl⟩ := DataW.trod_bool (Q7t hc) h
        exact ⟨_, .one rfl (.bool _ _), .bool b, CapL.one (.bool b)⟩
      | int k =>
        simp only [Q70] at hc
        obtain ⟨m, rfl, rfl, hwf⟩ := DataW.trod_int (Qfv hc) h
        exact ⟨_, .one rfl (.int _ _ _), .int k m hwf, CapL.one (.int k m)⟩
      | str =>
        simp only [Q70] at hc
        obtain ⟨s, rfl, rfl, hs⟩ := DataW.trod_string (Q4j hc) h
        refine ⟨_, .one rfl (.str _ _), .str s ?_, CapL.one (.str s (by cases hcd with | lit _ h => simpa using h _ rfl))⟩
        simp only [Light, DataW.weights, List.all_cons, Bool.and_eq_true, decide_eq_true_eq] at hw
        have := hw.1
        unfold reachBytes at this
        simpa using this
      | sl bytes e =>
        simp only [Q70] at hc
        split at hc
        · rename_i te hu
          rw [Bool.and_eq_true, Bool.and_eq_true] at hc
          have hby := Nat.eq_of_beq_eq_true hc.1.1
          have hsz := Nat.le_of_ble_eq_true hc.1.2
          rcases DataW.trod_slice hu h with ⟨rfl, rfl⟩ | ⟨a, len, cap, elems, rest, n', hn', rfl, rfl, hb, hl, hm, hlen, hel, _, _⟩
          · refine ⟨[.sl []], .one rfl (.sl _ _ _ _ 0 [] 0 0 (fun _ _ => default) rfl (Nat.le_refl _) (Nat.zero_le _) (fun r hr => absurd hr List.not_mem_nil) (fun h => by omega) (fun j r hj => by simp at hj) (fun j r hj => by simp at hj)), .sl _ _ [] (by simp) (fun r hr => absurd hr List.not_mem_nil), CapL.one (.sl [] (Nat.zero_le _) (fun r hr => absurd hr List.not_mem_nil))⟩
          · have hnn : n' = n := by omega
            subst hnn
            simp only [Light, DataW.weights, hu, List.all_cons, List.all_append, Bool.and_eq_true, decide_eq_true_eq, List.length_map] at hw
            obtain ⟨hw1, hw2, _⟩ := hw
            have hlight := Qu3 hw2
            have hcap : elems.length ≤ N ∧ ∀ z ∈ elems, CapD N z.1 := by
              cases hcd with
              | slice _ _ h1 h2 => exact ⟨by simpa using h1, fun z hz => h2 _ (List.mem_map.2 ⟨z, hz, rfl⟩)⟩
            have each : ∀ i, i < len → ∃ r, (∃ ys, w.cells? base (a.add (i * P.cellsOf te)) (P.cellsOf te) = some ys ∧ RepN w NoM NoD ys r) ∧ Of Γ e r ∧ CapL N r := by
              intro i hi
              have h1 := hel i hi
              have hi' : i < elems.length := by omega
              rw [List.getElem?_eq_getElem hi'] at h1
              obtain ⟨ys, hy1, hy2⟩ := Option.bind_eq_some_iff.1 h1
              obtain ⟨r, hr, hor⟩ := ih e te ys _ hc.2 hy2 (hlight _ (List.mem_map.2 ⟨_, List.getElem_mem hi', rfl⟩)) (hcap.2 _ (List.getElem_mem hi'))
              exact ⟨r, ⟨ys, hy1, hr⟩, hor⟩
            obtain ⟨l, hll, hlq⟩ := Qcb len each
            have hcellsz : ∀ i ys, i < len → w.cells? base (a.add (i * P.cellsOf te)) (P.cellsOf te) = some ys → ys.length = P.cellsOf te ∧ ∀ j, j < P.cellsOf te → w.cell? ((a.add (i * P.cellsOf te)).add j) = ys[j]? := by
              intro i ys _ hy
              have := World.cells?_some hy
              exact ⟨this.2.1, this.2.2⟩
            have hspot : 0 < len → a = ⟨a.block, a.off, none⟩ := by
              intro hpos
              obtain ⟨r, ⟨ys, hy, hr⟩, _⟩ := each 0 hpos
              obtain ⟨hyl, hyc⟩ := hcellsz 0 ys hpos hy
              have h0 := hyc 0 (by omega)
              rw [List.getElem?_eq_getElem (by omega)] at h0
              simp only [Nat.zero_mul, Addr.add, if_true] at h0
              obtain ⟨b, o, s⟩ := a
              cases s with
              | none => rfl
              | some s =>
                simp only [World.cell?] at h0
                split at h0 <;> simp at h0
            have hadd : ∀ i j, 0 < len → (a.add (i * P.cellsOf te)).add j = ⟨a.block, a.off + i * P.cellsOf te + j, none⟩ := by
              intro i j hpos
              rw [hspot hpos]
              unfold Addr.add
              by_cases h1 : i * P.cellsOf te = 0 <;> by_cases h2 : j = 0 <;> simp [h1, h2]
            refine ⟨[.sl l], .one rfl (.sl _ (some a) len cap (P.cellsOf te) l a.block a.off (fun j i => (w.cell? ⟨a.block, a.off + j * P.cellsOf te + i, none⟩).getD default) hll hl hm ?_ (fun hp => congrArg some (hspot hp)) ?_ ?_), .sl bytes e l ?_ ?_, CapL.one (.sl l (by rw [hll]; omega) (fun r hr => by
              obtain ⟨i, hi⟩ := List.getElem?_of_mem hr
              exact (hlq i r hi).2.2))⟩
            · intro r hr
              obtain ⟨i, hi⟩ := List.getElem?_of_mem hr
              have hil := (List.getElem?_eq_some_iff.1 hi).1
              obtain ⟨⟨ys, hy, hrn⟩, _⟩ := hlq i r hi
              rw [← hrn.1]
              exact (hcellsz i ys (by omega) hy).1
            · intro j r hj i p hi
              have hjl := (List.getElem?_eq_some_iff.1 hj).1
              have hil := (List.getElem?_eq_some_iff.1 hi).1
              obtain ⟨⟨ys, hy, hrn⟩, _⟩ := hlq j r hj
              obtain ⟨hyl, hyc⟩ := hcellsz j ys (by omega) hy
              have hiy : i < ys.length := by rw [hrn.1]; exact hil
              have := hyc i (by omega)
              rw [hadd j i (by omega), List.getElem?_eq_getElem hiy] at this
              refine ⟨fun h => h, by rw [this]; rfl, ?_⟩
              rw [this]
              exact (hrn.2 i _ p (List.getElem?_eq_getElem hiy) hi).1
            · intro j r hj i p hi
              have hjl := (List.getElem?_eq_some_iff.1 hj).1
              have hil := (List.getElem?_eq_some_iff.1 hi).1
              obtain ⟨⟨ys, hy, hrn⟩, _⟩ := hlq j r hj
              obtain ⟨hyl, hyc⟩ := hcellsz j ys (by omega) hy
              have hiy : i < ys.length := by rw [hrn.1]; exact hil
              have := hyc i (by omega)
              rw [hadd j i (by omega), List.getElem?_eq_getElem hiy] at this
              rw [this]
              exact (hrn.2 i _ p (List.getElem?_eq_getElem hiy) hi).2
            · rw [← hby, hll]
              unfold reachBytes at hw1
              have : len * P.bytesOf te ≤ (elems.length + rest.length) * P.bytesOf te := Nat.mul_le_mul_right _ (by omega)
              omega
            · intro r hr
              obtain ⟨i, hi⟩ := List.getElem?_of_mem hr
              exact (hlq i r hi).2.1
        · cases hc
      | st fs =>
        simp only [Q70] at hc
        split at hc
        · rename_i gs hu
          obtain ⟨xs, n', hn', rfl, hl, hxl, hx⟩ := DataW.trod_struct hu h
          have hnn : n' = n := by omega
          subst hnn
          rw [← hl] at hc
          simp only [Light, DataW.weights, hu] at hw
          have hlight := Qrb hw
          have hcap : ∀ z ∈ xs, CapD N z.1 := by
            cases hcd with
            | agg _ h => exact fun z hz => h _ (List.mem_map.2 ⟨z, hz, rfl⟩)
          obtain ⟨c, hr, ho, hcc⟩ := Q93 ih fs gs.toList 0 xs hc (by simpa using hxl) (fun j g hj => hx j g (by simpa using hj)) (fun j g y hj hy => ⟨hlight j g.type y.1 (by simp [hj]) (by simp [hy]), hcap y (List.mem_of_getElem? hy)⟩)
          exact ⟨c, by simpa using hr, .st fs c ho, hcc⟩
        · cases hc
    intro ty t cs x hc h hw hcd
    cases hty : ty.named with
    | false => exact core ty t cs x hty hc h hw hcd
    | true =>
      cases ty with
      | nm t' =>
        simp only [Q70, Bool.and_eq_true] at hc
        have := Nat.eq_of_beq_eq_true hc.1
        subst this
        obtain ⟨ty', hty'⟩ := Option.isSome_iff_exists.1 hc.2
        obtain ⟨h1, h2⟩ := hΓ _ _ hty'
        obtain ⟨c, hr, ho, hcc⟩ := core ty' t' cs x h1 h2 h hw hcd
        exact ⟨c, hr, .nm t' ty' c hty' ho, hcc⟩
      | _ => cases hty
theorem Qv4 (hΓ : TabOK P Γ) {ty : Ty} {t : TypeId} (hc : Q70 P Γ ty t = true) (hs : (match P.underlying t with | some (.struct _) => ty.isSt Γ | some (.array _ _) => false | _ => !(ty.isSt Γ)) = true) {r : Reach} {b0 : Nat} {v : Value} {d : DataW H} {ps : List MemPlace} (hval : Value.okWide P w r b0 t v) (h : DataW.Trod enc P w base sp held t v d ps) (hw : Light P t d) (hcd : CapD N d) :
    ∃ p, Rep w NoM NoD v p ∧ ArgB Γ N ty p := by
  obtain ⟨fuel, hf⟩ := h
  obtain ⟨c, hr, ho, hcc⟩ := Qxp hΓ fuel ty t _ _ hc hf hw hcd
  unfold Value.okWide at hval
  split at hs
  · rename_i fs hu
    rw [hu] at hval
    obtain ⟨cs, rfl, _, _⟩ := hval
    refine ⟨.agg c, .agg _ cs c (by simpa [Value.cells] using hr.1) (fun i v p hv hp => (hr.2 i v p (by simpa [Value.cells] using hv) hp).1) (fun i v p hv hp => (hr.2 i v p (by simpa [Value.cells] using hv) hp).2), c, ho, hcc, ?_⟩
    rw [hs]
    rfl
  · cases hs
  · rename_i hn1 hn2
    have hcell : Cell.okWide P w r b0 t v := by
      split at hval
      · rename_i fs hu; exact absurd hu (hn1 fs)
      · rename_i k e hu; exact absurd hu (hn2 k e)
      · exact hval
    have hone : v.oneCell' = true := by
      cases v with
      | agg cs => unfold Cell.okWide Cell.ok at hcell; split at hcell <;> simp_all
      | tuple cs => unfold Cell.okWide Cell.ok at hcell; split at hcell <;> simp_all
      | _ => rfl
    have hcs : v.cells.toList = [v] := by cases v <;> first | rfl | (cases hone)
    rw [hcs] at hr
    have hlen := hr.1
    cases c with
    | nil => simp at hlen
    | cons p rest =>
      have : rest = [] := List.eq_nil_of_length_eq_zero (by simpa using hlen.symm)
      subst this
      refine ⟨p, (hr.2 0 v p rfl rfl).2, [p], ho, hcc, ?_⟩
      have : ty.isSt Γ = false := by simpa using hs
      rw [this]
      rfl
theorem open_args2 (hΓ : TabOK P Γ) {r : Reach} {b0 : Nat} : ∀ {tys : List Ty} {ts : List TypeId} {vs : List Value} {ds : List (DataW H)} {ps : List MemPlace}, chkArgs P Γ tys ts = true → (∀ (j : Nat) t v, ts[j]? = some t → vs[j]? = some v → Value.okWide P w r b0 t v) → DataW.TrodAll enc P w base sp held ts vs ds ps →
    (DataW.weightsEach P ts ds).all (· ≤ reachBytes) = true → (∀ d ∈ ds, CapD N d) → ∃ qs, RepL w NoM NoD vs qs ∧ Qsp Γ N tys qs
  | [], [], vs, ds, ps, _, _, h, _, _ => by
    obtain ⟨rfl, rfl, rfl⟩ := ChangeShapes.trodAll_nil h
    exact ⟨[], RepL.nil _ _ _, trivial⟩
  | [], _ :: _, _, _, _, hc, _, _, _, _ => by cases hc
  | _ :: _, [], _, _, _, hc, _, _, _, _ => by cases hc
  | ty :: tys, t :: ts, vs, ds, ps, hc, hv, h, hw, hcd => by
    simp only [chkArgs, Bool.and_eq_true] at hc
    obtain ⟨v, vs', d, ds', p, q, rfl, rfl, rfl, h1, h2⟩ := ChangeShapes.trodAll_cons h
    simp only [DataW.weightsEach, List.all_append, Bool.and_eq_true] at hw
    obtain ⟨x, hx, hax⟩ := Qv4 hΓ hc.1.1.1.1 hc.1.1.1.2 (hv 0 t v rfl rfl) h1 hw.1 (hcd _ List.mem_cons_self)
    obtain ⟨qs, hq, haq⟩ := open_args2 hΓ hc.2 (fun j t' v' h1 h2 => hv (j + 1) t' v' (by simpa using h1) (by simpa using h2)) h2 hw.2 (fun d' hd' => hcd d' (List.mem_cons_of_mem _ hd'))
    exact ⟨x :: qs, RepL.cons hx hq, hax, haq⟩
end
theorem ArgB.one {Γ : Nat → Option Ty} {N : Nat} {ty : Ty} {p : PV} (h : ArgB Γ N ty p) (hs : ty.isSt Γ = false) : Of Γ ty [p] ∧ CapL N [p] := by
 obtain ⟨c, hc, hb, hp⟩ := h
 rw [hs] at hp
 have hp : c = [p] := hp
 subst hp
 exact ⟨hc, hb⟩
theorem ArgB.agg {Γ : Nat → Option Ty} {N : Nat} {ty : Ty} {p : PV} (h : ArgB Γ N ty p) (hs : ty.isSt Γ = true) : ∃ c, p = .agg c ∧ Of Γ ty c ∧ CapL N c := by
 obtain ⟨c, hc, hb, hp⟩ := h
 rw [hs] at hp
 exact ⟨c, hp, hc, hb⟩
theorem Cap.strI {N : Nat} {s : ByteArray} (h : Cap N (.str s)) : s.size ≤ N := by
 cases h with
 | str _ h => exact h
theorem Cap.slI {N : Nat} {l : List (List PV)} (h : Cap N (.sl l)) : l.length ≤ N ∧ ∀ r ∈ l, CapL N r := by
 cases h with
 | sl _ h hl => exact ⟨h, hl⟩
theorem Cap.Qdh {N : Nat} {α : Type} {f : α → List PV} {l : List α} (h : Cap N (.sl (l.map f))) : l.length ≤ N ∧ ∀ x ∈ l, CapL N (f x) := by
 obtain ⟨h1, h2⟩ := h.slI
 exact ⟨by simpa using h1, fun x hx => h2 _ (List.mem_map.2 ⟨x, hx, rfl⟩)⟩
theorem law_callsB {P : Program} {G : Nat → Option Fun} (hm : P.follows .mixedOrders = true) (hT : Tie P G) {Γ : Nat → Option Ty} {N : Nat} {tys : List Ty} {f : Nat} (hpure : ∀ qs, Qsp Γ N tys qs → ∃ n, runs G n (.call f qs []) = some (.ret (.bool true) []))
    {W : World} {args : Array Value} (h : ∃ qs, RepL W NoM NoD args.toList qs ∧ Qsp Γ N tys qs) : Calls P f args W fun e W' => e = .returned (.bool true) ∧ Below W.heap.size W W' := by
  obtain ⟨qs, hq, ha⟩ := h
  obtain ⟨n, hn⟩ := hpure qs ha
  obtain ⟨_, hok⟩ := (Qg8 hm hT n).1 f qs [] _ _ hn
  have hnoM : ∀ b o, Mut NoD (hF []) NoM b o → NoM b o := by
    rintro b o (h | ⟨id, ob, h1, _⟩)
    · exact h
    · simp [hF] at h1
  refine (hok W NoD NoM args ⟨fun b o h => h.elim, Nat.le_refl _, fun id b h => (by cases h), fun id ob h => (by simp [hF] at h), fun i j a b k h => (by simp [hF] at h), fun id ob b o h => (by simp [hF] at h)⟩ (fun _ _ => rfl) (hq.mono fun v p h => h.to (fun b o _ h => hnoM b o h) (fun _ _ h => h))).mono ?_
  rintro e W' ⟨v, D', rfl, _, hk, _, _, _, _, hr⟩
  cases hr with
  | bool _ _ =>
    refine ⟨rfl, (hk.mono (M1 := fun _ _ => False) ?_).below⟩
    rintro b o _ ⟨id, ob, h1, _⟩
    simp [hF] at h1
end Go.Pv
end

section
/- Comparisons that answer -1, 0 or 1; the order of strings. -/
namespace Go.Pv
def R3 (a : Int) : Prop := a = -1 ∨ a = 0 ∨ a = 1
def T3 (a b e : Int) : Prop := (a = 0 → e = b) ∧ (b = 0 → e = a) ∧ (a = b → e = a)
def lx (a b : Int) : Int := if a = 0 then b else a
def icmp (a b : Int) : Int := if a < b then -1 else if b < a then 1 else 0
theorem Q12g (a b : Int) : lx (-a) (-b) = -lx a b := by
 unfold lx
 split <;> split <;> omega
theorem Q174 {a b e a' b' e' : Int} (_ha : R3 a) (_hb : R3 b) (_he : R3 e) (t : T3 a b e) (t' : T3 a' b' e') : T3 (lx a a') (lx b b') (lx e e') := by
 unfold T3 at *
 unfold lx R3 at *
 split <;> split <;> split <;> omega
theorem Qn6 (a b : Int) : R3 (icmp a b) := by
  unfold icmp R3
  split
  · omega
  · split <;> omega
theorem Qxi (a b : Int) : icmp b a = -icmp a b := by
 unfold icmp
 split <;> split <;> first | omega | (split <;> omega) | skip
 all_goals omega
theorem Qzr (a b e : Int) : T3 (icmp a b) (icmp b e) (icmp a e) := by
 unfold T3 icmp
 split <;> split <;> split <;> (try split) <;> (try split) <;> (try split) <;> omega
theorem Qtr {a b : Int} : icmp a b = 0 ↔ a = b := by
  unfold icmp
  constructor
  · intro h
    split at h
    · omega
    · split at h <;> omega
  · intro h
    rw [if_neg (by omega), if_neg (by omega)]
theorem Qn0 : ∀ a b : List UInt8, R3 (cmpL a b)
  | [], [] => Or.inr (Or.inl rfl)
  | [], _ :: _ => Or.inl rfl
  | _ :: _, [] => Or.inr (Or.inr rfl)
  | x :: a, y :: b => by
    rw [cmpL]
    split
    · exact Or.inl rfl
    · split
      · exact Or.inr (Or.inr rfl)
      · exact Qn0 a b
theorem Q50 (x y : UInt8) (a b : List UInt8) : cmpL (x :: a) (y :: b) = lx (icmp (x.toNat : Int) (y.toNat : Int)) (cmpL a b) := by
  rw [cmpL]
  unfold lx icmp
  simp only [UInt8.lt_iff_toNat_lt]
  by_cases h1 : x.toNat < y.toNat
  · rw [if_pos h1, if_pos (show (x.toNat : Int) < (y.toNat : Int) by omega)]
    rfl
  · by_cases h2 : y.toNat < x.toNat
    · rw [if_neg h1, if_pos h2, if_neg (show ¬ (x.toNat : Int) < (y.toNat : Int) by omega), if_pos (show (y.toNat : Int) < (x.toNat : Int) by omega)]
      rfl
    · rw [if_neg h1, if_neg h2, if_neg (show ¬ (x.toNat : Int) < (y.toNat : Int) by omega), if_neg (show ¬ (y.toNat : Int) < (x.toNat : Int) by omega)]
      rfl
theorem Qi2 : ∀ a b : List UInt8, cmpL b a = -cmpL a b
 | [], [] => rfl
 | [], _ :: _ => rfl
 | _ :: _, [] => rfl
 | x :: a, y :: b => by rw [Q50, Q50, Qi2 a b, Qxi (x.toNat : Int) (y.toNat : Int), Q12g]
theorem Qtb : ∀ a b d : List UInt8, T3 (cmpL a b) (cmpL b d) (cmpL a d)
 | [], [], [] => by simp [T3, cmpL]
 | [], [], _ :: _ => by simp [T3, cmpL]
 | [], _ :: _, [] => by simp [T3, cmpL]
 | [], _ :: _, _ :: _ => by simp [T3, cmpL]
 | _ :: _, [], [] => by simp [T3, cmpL]
 | _ :: _, [], _ :: _ => by simp [T3, cmpL]
 | x :: a, y :: b, [] => by
  have h := Qn0 (x :: a) (y :: b)
  unfold R3 at h
  unfold T3
  rw [show cmpL (y :: b) [] = 1 from rfl, show cmpL (x :: a) [] = 1 from rfl]
  omega
 | x :: a, y :: b, w :: d => by
  rw [Q50, Q50, Q50]
  exact Q174 (Qn6 _ _) (Qn6 _ _) (Qn6 _ _) (Qzr _ _ _) (Qtb a b d)
theorem Ql5 : ∀ a b : List UInt8, cmpL a b = 0 → a = b
  | [], [], _ => rfl
  | [], _ :: _, h => by simp [cmpL] at h
  | _ :: _, [], h => by simp [cmpL] at h
  | x :: a, y :: b, h => by
    rw [Q50] at h
    unfold lx at h
    split at h
    · rename_i e
      have := Qtr.1 e
      rw [UInt8.toNat_inj.1 (show x.toNat = y.toNat by omega), Ql5 a b h]
    · omega
theorem Qta (a : List UInt8) : cmpL a a = 0 := by
 have := Qi2 a a
 omega
theorem Qpp : ∀ a b : List UInt8, Op.bytesLess a b = decide (cmpL a b < 0)
  | [], [] => rfl
  | [], _ :: _ => rfl
  | _ :: _, [] => rfl
  | x :: a, y :: b => by
    have ih := Qpp a b
    rw [Op.bytesLess, cmpL, ih]
    by_cases h : x < y
    · simp [h]
    · by_cases h2 : y < x
      · have h3 : ¬ x = y := fun e => h (e ▸ h2)
        simp [h, h2, h3]
      · have h3 : x = y := by
          rw [UInt8.lt_iff_toNat_lt] at h h2
          exact UInt8.toNat_inj.1 (by omega)
        simp [h3]
theorem Qnh (a b : ByteArray) : R3 (sCmp a b) := Qn0 _ _
theorem Q4o (a b : ByteArray) : sCmp b a = -sCmp a b := Qi2 _ _
theorem Q100 (a b d : ByteArray) : T3 (sCmp a b) (sCmp b d) (sCmp a d) := Qtb _ _ _
theorem Qmc {a b : ByteArray} : sCmp a b = 0 ↔ a = b := ⟨fun h => toList_inj (Ql5 _ _ h), fun h => by rw [h]; exact Qta _⟩
theorem Q101 (a b : ByteArray) : sLt a b = decide (sCmp a b < 0) := Qpp _ _
end Go.Pv
end

section
/- The library's stable sort as plain functions on lists, and what it answers: the stably sorted list. Program-free. -/
namespace Go.Pv.Srt
section
variable {α : Type} (z : α) (c : α → α → Int)
def gt (d : List α) (i : Int) : α := d.getD i.toNat z
def sw (d : List α) (i j : Int) : List α := (d.set i.toNat (gt z d j)).set j.toNat (gt z d i)
def ins1 (a : Int) : Nat → List α → Int → List α
 | 0, v, _ => v
 | k + 1, v, j => bif decide (a < j) then (bif decide (c (gt z v j) (gt z v (j - 1)) < 0) then ins1 a k (sw z v j (j - 1)) (j - 1) else v) else v
def ins0 (a b : Int) : Nat → Int → List α → List α
 | 0, _, v => v
 | k + 1, i, v => bif decide (i < b) then ins0 a b k (i + 1) (ins1 z c a (i.toNat + 1) v i) else v
def ins (d : List α) (a b : Int) : List α := ins0 z c a b ((b - (a + 1)).toNat + 1) (a + 1) d
theorem Qxg {d A C : List α} {x : α} {i : Int} (hd : d = A ++ x :: C) (hi : i = (A.length : Int)) : gt z d i = x := by
 subst hd hi
 simp [gt]
theorem Qyx {A C : List α} {x y : α} {i : Int} (hi : i = (A.length : Int)) : (A ++ x :: C).set i.toNat y = A ++ y :: C := by
 subst hi
 simp
theorem Q103 {A M C : List α} {x y : α} {i j : Int} (hi : i = (A.length : Int)) (hj : j = (A.length : Int) + 1 + (M.length : Int)) : sw z (A ++ x :: (M ++ y :: C)) j i = A ++ y :: (M ++ x :: C) := by
 have e1 : gt z (A ++ x :: (M ++ y :: C)) i = x := Qxg z rfl hi
 have e2 : gt z (A ++ x :: (M ++ y :: C)) j = y := Qxg z (A := A ++ x :: M) (C := C) (by simp) (by simp; omega)
 unfold sw
 rw [e1, e2]
 have e3 : A ++ x :: (M ++ y :: C) = (A ++ x :: M) ++ y :: C := by simp
 rw [e3, Qyx (A := A ++ x :: M) (by simp; omega)]
 have e4 : (A ++ x :: M) ++ x :: C = A ++ x :: (M ++ x :: C) := by simp
 rw [e4, Qyx hi]
def insR (x : α) : List α → List α
 | [] => [x]
 | s :: t => bif decide (c x s < 0) then s :: insR x t else x :: s :: t
def Q8k (l : List α) : List α := (l.foldl (fun r x => insR c x r) []).reverse
theorem Qlj (a : Int) (A : List α) (x : α) (ha : a = (A.length : Int)) : ∀ (R C : List α) (k : Nat) (j : Int), j = (A.length : Int) + (R.length : Int) → R.length < k → ins1 z c a k (A ++ (R.reverse ++ x :: C)) j = A ++ ((insR c x R).reverse ++ C)
 | _, _, 0, _, _, h => absurd h (Nat.not_lt_zero _)
 | [], C, k + 1, j, hj, _ => by
  rw [ins1, show decide (a < j) = false by simp at hj ⊢; omega]
  simp [insR]
 | s :: t, C, k + 1, j, hj, hk => by
  simp only [List.length_cons] at hj hk
  have e0 : A ++ ((s :: t).reverse ++ x :: C) = (A ++ t.reverse) ++ s :: ([] ++ x :: C) := by simp
  rw [ins1, show decide (a < j) = true by simp; omega, cond_true, e0]
  have e1 : gt z ((A ++ t.reverse) ++ s :: ([] ++ x :: C)) j = x := Qxg z (A := A ++ t.reverse ++ [s]) (C := C) (by simp) (by simp; omega)
  have e2 : gt z ((A ++ t.reverse) ++ s :: ([] ++ x :: C)) (j - 1) = s := Qxg z (A := A ++ t.reverse) rfl (by simp; omega)
  rw [e1, e2, insR]
  cases decide (c x s < 0) with
  | true =>
   rw [cond_true, cond_true, Q103 z (by simp; omega) (by simp; omega)]
   have e3 : (A ++ t.reverse) ++ x :: ([] ++ s :: C) = A ++ (t.reverse ++ x :: (s :: C)) := by simp
   rw [e3, Qlj a A x ha t (s :: C) k (j - 1) (by omega) (by omega)]
   simp
  | false => simp
theorem Qli (a b : Int) (A : List α) (ha : a = (A.length : Int)) : ∀ (M R C : List α) (k : Nat) (i : Int), i = (A.length : Int) + (R.length : Int) → b = i + (M.length : Int) → M.length < k →
  ins0 z c a b k i (A ++ (R.reverse ++ (M ++ C))) = A ++ ((M.foldl (fun r x => insR c x r) R).reverse ++ C)
 | _, _, _, 0, _, _, _, h => absurd h (Nat.not_lt_zero _)
 | [], R, C, k + 1, i, hi, hb, _ => by
  rw [ins0, show decide (i < b) = false by simp at hb ⊢; omega]
  simp
 | x :: M, R, C, k + 1, i, hi, hb, hk => by
  simp only [List.length_cons] at hb hk
  rw [ins0, show decide (i < b) = true by simp; omega, cond_true, List.cons_append, Qlj z c a A x ha R (M ++ C) _ i hi (by omega)]
  have hl : (insR c x R).length = R.length + 1 := by
   clear hi hb hk
   induction R with
   | nil => rfl
   | cons s t ih => rw [insR]; cases decide (c x s < 0) <;> simp [ih]
  rw [Qli a b A ha M (insR c x R) C k (i + 1) (by omega) (by omega) (by omega)]
  rfl
theorem Qi8 {d A M C : List α} {a b : Int} (hd : d = A ++ (M ++ C)) (ha : a = (A.length : Int)) (hb : b = a + (M.length : Int)) : ins z c d a b = A ++ (Q8k c M ++ C) := by
 subst hd
 unfold ins Q8k
 cases M with
 | nil =>
  simp only [List.length_nil, Int.ofNat_zero] at hb
  rw [ins0, show decide (a + 1 < b) = false by simp; omega]
  rfl
 | cons x M =>
  simp only [List.length_cons] at hb
  have e : A ++ (x :: M ++ C) = A ++ ([x].reverse ++ (M ++ C)) := by simp
  rw [e, Qli z c a b A ha M [x] C _ _ (by simp; omega) (by omega) (by omega)]
  rfl
end
end Go.Pv.Srt
end

section
/- The library's stable sort: its merging, and that it answers the stably sorted list. Program-free. -/
namespace Go.Pv.Srt
section
variable {α : Type} (z : α) (c : α → α → Int)
structure Tot : Prop where
  asym : ∀ x y, c x y < 0 → ¬ c y x < 0
  tr : ∀ x y w, ¬ c y x < 0 → ¬ c w y < 0 → ¬ c w x < 0
def le (x y : α) : Prop := ¬ c y x < 0
def Up (l : List α) : Prop := l.Pairwise (le c)
def eqv (x y : α) : Bool := decide (¬ c x y < 0) && decide (¬ c y x < 0)
def F (l r : List α) : Prop := l.length = r.length ∧ ∀ x, l.filter (eqv c x) = r.filter (eqv c x)
variable {c}
theorem F.rfl {l : List α} : F c l l := ⟨Eq.refl _, fun _ => Eq.refl _⟩
theorem F.trans {l r s : List α} (h : F c l r) (g : F c r s) : F c l s := ⟨h.1.trans g.1, fun x => (h.2 x).trans (g.2 x)⟩
theorem F.symm {l r : List α} (h : F c l r) : F c r l := ⟨h.1.symm, fun x => (h.2 x).symm⟩
theorem F.app {l r l' r' : List α} (h : F c l r) (g : F c l' r') : F c (l ++ l') (r ++ r') :=
 ⟨by rw [List.length_append, List.length_append, h.1, g.1], fun x => by rw [List.filter_append, List.filter_append, h.2 x, g.2 x]⟩
theorem Tot.refl (T : Tot c) (x : α) : ¬ c x x < 0 := fun h => T.asym x x h h
theorem F.swap (T : Tot c) {A B : List α} (h : ∀ a ∈ A, ∀ b ∈ B, c b a < 0) : F c (A ++ B) (B ++ A) := by
  refine ⟨by simp [Nat.add_comm], fun x => ?_⟩
  rw [List.filter_append, List.filter_append]
  by_cases hA : A.filter (eqv c x) = []
  · rw [hA]
    simp
  · have hB : B.filter (eqv c x) = [] := by
      obtain ⟨a, ha⟩ := List.exists_mem_of_ne_nil _ hA
      obtain ⟨ha, hxa⟩ := List.mem_filter.1 ha
      refine List.filter_eq_nil_iff.2 fun b hb hxb => ?_
      simp only [eqv, Bool.and_eq_true, decide_eq_true_eq] at hxa hxb
      exact T.tr a x b hxa.1 hxb.2 (h a ha b hb)
    rw [hB]
    simp
theorem Qpi {x y : α} : ∀ {R : List α}, y ∈ insR c x R → y = x ∨ y ∈ R
  | [], h => by simpa [insR] using h
  | s :: t, h => by
    rw [insR] at h
    cases hd : decide (c x s < 0) with
    | true =>
      rw [hd, cond_true] at h
      rcases List.mem_cons.1 h with e | e
      · exact Or.inr (by simp [e])
      · rcases Qpi e with e | e
        · exact Or.inl e
        · exact Or.inr (List.mem_cons_of_mem _ e)
    | false =>
      rw [hd, cond_false] at h
      rcases List.mem_cons.1 h with e | e
      · exact Or.inl e
      · exact Or.inr e
theorem Qts (T : Tot c) (x : α) : ∀ {R : List α}, R.Pairwise (fun a b => le c b a) → (insR c x R).Pairwise (fun a b => le c b a)
  | [], _ => by simp [insR]
  | s :: t, h => by
    have h' := List.pairwise_cons.1 h
    rw [insR]
    by_cases hd : c x s < 0
    · rw [show decide (c x s < 0) = true by simpa using hd, cond_true]
      refine List.pairwise_cons.2 ⟨fun y hy => ?_, Qts T x h'.2⟩
      rcases Qpi hy with e | e
      · subst e
        exact T.asym _ _ hd
      · exact h'.1 y e
    · rw [show decide (c x s < 0) = false by simpa using hd, cond_false]
      refine List.pairwise_cons.2 ⟨fun y hy => ?_, h⟩
      rcases List.mem_cons.1 hy with e | e
      · subst e
        exact hd
      · exact T.tr y s x (h'.1 y e) hd
theorem Qyn (T : Tot c) (x : α) : ∀ (R : List α), F c (R.reverse ++ [x]) (insR c x R).reverse
  | [] => F.rfl
  | s :: t => by
    rw [insR]
    by_cases hd : c x s < 0
    · rw [show decide (c x s < 0) = true by simpa using hd, cond_true, List.reverse_cons, List.reverse_cons, List.append_assoc]
      have h1 : F c ([s] ++ [x]) ([x] ++ [s]) := F.swap T (by simpa using hd)
      exact (F.rfl.app h1).trans (by rw [← List.append_assoc]; exact (Qyn T x t).app F.rfl)
    · rw [show decide (c x s < 0) = false by simpa using hd, cond_false, List.reverse_cons (a := x)]
      exact F.rfl
theorem Qn3 (T : Tot c) : ∀ (M R : List α), R.Pairwise (fun a b => le c b a) → (M.foldl (fun r x => insR c x r) R).Pairwise (fun a b => le c b a) ∧ F c (R.reverse ++ M) (M.foldl (fun r x => insR c x r) R).reverse
 | [], R, h => ⟨h, by simpa using F.rfl⟩
 | x :: M, R, h => by
  obtain ⟨h1, h2⟩ := Qn3 T M (insR c x R) (Qts T x h)
  refine ⟨h1, F.trans ?_ h2⟩
  have e : R.reverse ++ x :: M = (R.reverse ++ [x]) ++ M := by simp
  rw [e]
  exact (Qyn T x R).app F.rfl
theorem Qxj (T : Tot c) (l : List α) : Up c (Q8k c l) := by
 unfold Up Q8k
 rw [List.pairwise_reverse]
 exact (Qn3 T l [] List.Pairwise.nil).1
theorem Qtv (T : Tot c) (l : List α) : F c l (Q8k c l) := (Qn3 T l [] List.Pairwise.nil).2
def bs (g : Int → Bool) : Nat → Int → Int → Int
 | 0, i, _ => i
 | k + 1, i, j => bif decide (i < j) then (bif g ((i + j) / 2) then bs g k ((i + j) / 2 + 1) j else bs g k i ((i + j) / 2)) else i
end
end Go.Pv.Srt
end

section
/- The library's stable sort: symmetric merging and the sort as a whole answer the stably sorted list. Program-free. -/
namespace Go.Pv.Srt
section
variable {α : Type} (z : α) (c : α → α → Int)
def st1 (d : List α) (a m b : Int) : Int := bs (fun h => decide (c (gt z d h) (gt z d a) < 0)) ((b - m).toNat + 1) m b
variable {c}
end
end Go.Pv.Srt
end

section
/- The library's stable sort: merging in general, blocks, the whole. Program-free. -/
namespace Go.Pv.Srt
section
variable {α : Type} (z : α) {c : α → α → Int}
end
end Go.Pv.Srt
end

section
/- The library's stable sort: blocks, and the whole: it answers what insertion answers. Program-free. -/
namespace Go.Pv.Srt
section
variable {α : Type} (z : α) (c : α → α → Int)
inductive Bl (s : Nat) : List α → Prop
  | last {l : List α} : l.length ≤ s → Up c l → Bl s l
  | cons {l r : List α} : l.length = s → Up c l → Bl s r → Bl s (l ++ r)
inductive Fu (s : Nat) : List α → Prop
  | nil : Fu s []
  | snoc {p l : List α} : Fu s p → l.length = s → Up c l → Fu s (p ++ l)
variable {c}
theorem Bl.one {s : Nat} {Q : List α} (h : Bl c s Q) (hl : Q.length ≤ s) : Up c Q := by
 cases h with
 | last _ h => exact h
 | cons h1 h2 h3 =>
  rename_i l r
  rw [List.length_append] at hl
  rw [List.length_eq_zero_iff.1 (show r.length = 0 by omega), List.append_nil]
  exact h2
theorem Bl.split {s : Nat} {Q : List α} (h : Bl c s Q) (hl : s < Q.length) : ∃ l r, Q = l ++ r ∧ l.length = s ∧ Up c l ∧ Bl c s r := by
 cases h with
 | last h _ => omega
 | cons h1 h2 h3 => exact ⟨_, _, rfl, h1, h2, h3⟩
end
end Go.Pv.Srt
end

section
/- Lists of fields: strictly sorted lists are known by their members; keeping the last field of each name of a sorted list; putting a field into a sorted list. -/
namespace Go.Pv
open Srt
theorem Q80 (a : ByteArray) : sCmp a a = 0 := Qmc.2 rfl
theorem Q12q {a b : ByteArray} : sEq a b = false ↔ a ≠ b := by
 cases h : sEq a b with
 | true => simp [Q2l.1 h]
 | false => exact ⟨fun _ e => (by rw [Q2l.2 e] at h; cases h), fun _ => rfl⟩
theorem Qqk (a b : ByteArray) : sCmp a b < 0 ∨ a = b ∨ sCmp b a < 0 := by
  have h1 := Qnh a b
  have h2 := Q4o a b
  have h3 : sCmp a b = 0 → a = b := Qmc.1
  unfold R3 at h1
  by_cases e : sCmp a b = 0
  · exact .inr (.inl (h3 e))
  · omega
theorem Q84 {α : Type} (f : α → ByteArray) : Tot (fun x y : α => sCmp (f x) (f y)) := by
  refine ⟨fun x y h => ?_, fun x y w h g => ?_⟩
  · rw [Q4o]
    omega
  · have t := Q100 (f w) (f y) (f x)
    have h1 := Qnh (f w) (f y)
    have h2 := Qnh (f y) (f x)
    rw [Q4o] at h
    rw [Q4o] at g
    have h3 := Q4o (f w) (f y)
    have h4 := Q4o (f y) (f x)
    have h5 := Q4o (f y) (f w)
    have h6 := Q4o (f x) (f y)
    unfold R3 at h1 h2
    unfold T3 at t
    omega
abbrev nlt (x y : Fld) : Prop := sCmp x.name y.name < 0
def SS (l : List Fld) : Prop := l.Pairwise nlt
theorem SS.cons {x : Fld} {l : List Fld} : SS (x :: l) ↔ (∀ y ∈ l, nlt x y) ∧ SS l := List.pairwise_cons
theorem SS.nil : SS [] := List.Pairwise.nil
theorem SS.filter {l : List Fld} (h : SS l) (p : Fld → Bool) : SS (l.filter p) := h.sublist List.filter_sublist
theorem SS.inj {l : List Fld} (h : SS l) {x y : Fld} (hx : x ∈ l) (hy : y ∈ l) (e : x.name = y.name) : x = y := by
  induction l with
  | nil => cases hx
  | cons z l ih =>
    obtain ⟨hz, hl⟩ := SS.cons.1 h
    rcases List.mem_cons.1 hx with e1 | hx' <;> rcases List.mem_cons.1 hy with e2 | hy'
    · rw [e1, e2]
    · subst e1; have := hz y hy'; unfold nlt at this; rw [e, Q80] at this; omega
    · subst e2; have := hz x hx'; unfold nlt at this; rw [e, Q80] at this; omega
    · exact ih hl hx' hy'
def lastOf (l : List Fld) (f : Fld) : Prop := (l.filter fun y => decide (y.name = f.name)).getLast? = some f
theorem Qfx (f : Fld) : ¬ lastOf [] f := by simp [lastOf]
theorem Qcn (x f : Fld) (l : List Fld) : lastOf (x :: l) f ↔ lastOf l f ∨ (f = x ∧ ∀ y ∈ l, y.name ≠ x.name) := by
  unfold lastOf
  by_cases h : x.name = f.name
  · rw [List.filter_cons_of_pos (by simpa using h)]
    cases e : l.filter fun y => decide (y.name = f.name) with
    | nil =>
      have := List.filter_eq_nil_iff.1 e
      simp only [List.getLast?_singleton, Option.some.injEq, List.getLast?_nil, reduceCtorEq, false_or]
      exact ⟨fun g => ⟨g.symm, fun y hy => by have := this y hy; rw [h]; simpa using this⟩, fun g => g.1.symm⟩
    | cons a r =>
      rw [List.getLast?_cons_cons]
      refine ⟨.inl, fun g => ?_⟩
      rcases g with g | g
      · exact g
      · have : a ∈ l.filter fun y => decide (y.name = f.name) := by rw [e]; exact List.mem_cons_self
        obtain ⟨h1, h2⟩ := List.mem_filter.1 this
        exact absurd ((of_decide_eq_true h2).trans (by rw [g.1])) (g.2 a h1)
  · rw [List.filter_cons_of_neg (by simpa using h)]
    exact ⟨.inl, fun g => by
      rcases g with g | g
      · exact g
      · exact absurd (by rw [g.1]) h⟩
theorem Qra {l : List Fld} {f : Fld} (h : lastOf l f) : f ∈ l := (List.mem_filter.1 (List.mem_of_getLast? h)).1
def lasts : List Fld → List Fld
 | [] => []
 | [x] => [x]
 | x :: y :: r => bif sEq y.name x.name then lasts (y :: r) else x :: lasts (y :: r)
abbrev cNm (x y : Fld) : Int := sCmp x.name y.name
theorem Qll : ∀ (l : List Fld), Up cNm l → ∀ f, f ∈ lasts l ↔ lastOf l f
  | [], _, f => ⟨fun g => (by cases g), fun g => absurd g (Qfx f)⟩
  | [x], _, f => by
    rw [Qcn]
    simp [lasts, Qfx]
  | x :: y :: r, h, f => by
    have h' := List.pairwise_cons.1 h
    have ih := Qll (y :: r) h'.2 f
    rw [lasts, Qcn]
    cases e : sEq y.name x.name with
    | true =>
      rw [cond_true, ih]
      exact ⟨.inl, fun g => g.elim id fun g => absurd (Q2l.1 e) (g.2 y List.mem_cons_self)⟩
    | false =>
      rw [cond_false, List.mem_cons, ih]
      refine ⟨fun g => g.elim (fun g => .inr ⟨g, fun w hw hn => ?_⟩) .inl, fun g => g.elim .inr fun g => .inl g.1⟩
      have e := Q12q.1 e
      rcases List.mem_cons.1 hw with rfl | hw
      · exact e hn
      · have h1 := (List.pairwise_cons.1 h'.2).1 w hw
        have h2 := h'.1 y List.mem_cons_self
        unfold le cNm at h1 h2
        rw [hn] at h1
        rcases Qqk x.name y.name with g | g | g
        · exact h1 g
        · exact e g.symm
        · exact h2 g
theorem Qco : ∀ (l : List Fld), (lasts l).Sublist l
 | [] => List.Sublist.slnil
 | [x] => List.Sublist.refl _
 | x :: y :: r => by
  rw [lasts]
  cases sEq y.name x.name with
  | true => exact (Qco (y :: r)).cons x
  | false => exact (Qco (y :: r)).cons_cons x
theorem Q129 (x y : Fld) : Srt.eqv cNm x y = decide (y.name = x.name) := by
  unfold Srt.eqv cNm
  have h1 : (y.name = x.name) ↔ (¬ sCmp x.name y.name < 0 ∧ ¬ sCmp y.name x.name < 0) := by
    constructor
    · intro e; rw [e, Q80]; omega
    · intro ⟨g1, g2⟩
      rcases Qqk x.name y.name with g | g | g
      · exact absurd g g1
      · exact g.symm
      · exact absurd g g2
  rw [← Bool.decide_and]
  exact decide_eq_decide.2 h1.symm
theorem Qxl {l r : List Fld} (h : F cNm l r) (f : Fld) : lastOf l f ↔ lastOf r f := by
 have := h.2 f
 unfold lastOf
 rw [show (fun y : Fld => decide (y.name = f.name)) = Srt.eqv cNm f from funext fun y => (Q129 f y).symm, this]
def mapOf (l : List Fld) : List Fld := lasts (Q8k cNm l)
theorem Quf (l : List Fld) (f : Fld) : f ∈ mapOf l ↔ lastOf l f := by
 unfold mapOf
 rw [Qll _ (Qxj (Q84 Fld.name) l)]
 exact (Qxl (Qtv (Q84 Fld.name) l) f).symm
theorem Qcm {α : Type} (c : α → α → Int) (T : Tot c) (l : List α) : (Q8k c l).length = l.length := (Qtv T l).1.symm
theorem Que (l : List Fld) : (mapOf l).length ≤ l.length := Nat.le_trans (Qco _).length_le (Nat.le_of_eq (Qcm _ (Q84 Fld.name) l))
theorem Qug {l : List Fld} {f : Fld} (h : f ∈ mapOf l) : f ∈ l := Qra ((Quf l f).1 h)
end Go.Pv
end

section
/- How many values a value holds; what that bounds. -/
namespace Go.Pv
open Srt
end Go.Pv
end

section
/- Structures as values: the parts of a map, their kinds; what decodes what was encoded. No program is in sight here. -/
namespace Go.Pv
abbrev vZ : Val := .mk 0 0 (⟨#[]⟩ : ByteArray) [] []
abbrev vN (n : Int) : Val := .mk 2 n (⟨#[]⟩ : ByteArray) [] []
abbrev vS (s : ByteArray) : Val := .mk 3 0 s [] []
abbrev vB (b : Bool) : Val := .mk 1 (bif b then 1 else 0) (⟨#[]⟩ : ByteArray) [] []
abbrev vL (l : List Val) : Val := .mk 4 0 (⟨#[]⟩ : ByteArray) l []
abbrev vM (l : List Fld) : Val := .mk 5 0 (⟨#[]⟩ : ByteArray) [] l
def Qrd (n : ByteArray) : List Fld → Val
 | [] => vZ
 | x :: r => bif sEq x.name n then x.v else Qrd n r
def prt (v : Val) (n : ByteArray) : Val := bif v.kind == 5 then Qrd n v.fields else vZ
def isM (v : Val) : Bool := v.kind == 5 || v.kind == 0
def xN (x : Val) : Int × Bool := bif x.kind == 2 then (x.n, true) else (0, x.kind == 0)
def xS (x : Val) : ByteArray × Bool := bif x.kind == 3 then (x.s, true) else ((⟨#[]⟩ : ByteArray), x.kind == 0)
def xB (x : Val) : Bool × Bool := bif x.kind == 1 then (!(x.n == 0), true) else (false, x.kind == 0)
def xL (x : Val) : List Val × Bool := bif x.kind == 4 then (x.list, true) else ([], x.kind == 0)
def xE {α : Type} (f : Val → α × Bool) (x : Val) : List α × Bool := ((xL x).1.map fun y => (f y).1, (xL x).2 && (xL x).1.all fun y => (f y).2)
abbrev dN (v : Val) (n : ByteArray) : Int × Bool := xN (prt v n)
abbrev dS (v : Val) (n : ByteArray) : ByteArray × Bool := xS (prt v n)
abbrev dB (v : Val) (n : ByteArray) : Bool × Bool := xB (prt v n)
abbrev dL (v : Val) (n : ByteArray) : List Val × Bool := xL (prt v n)
abbrev dE {α : Type} (f : Val → α × Bool) (v : Val) (n : ByteArray) : List α × Bool := xE f (prt v n)
abbrev dT {α : Type} (f : Val → α × Bool) (v : Val) (n : ByteArray) : α × Bool := f (prt v n)
theorem Qzx {v : Val} (h : (v.kind == 5) = false) (n : ByteArray) : prt v n = vZ := by unfold prt; rw [h]; rfl
theorem xB_b (b : Bool) : xB (vB b) = (b, true) := by cases b <;> rfl
theorem Qmm {α : Type} {f : Val → α × Bool} {e : α → Val} (h : ∀ y, f (e y) = (y, true)) (l : List α) : xE f (vL (l.map e)) = (l, true) := by
 have h1 : ∀ l : List α, (l.map e).map (fun y => (f y).1) = l := by
  intro l
  induction l with
  | nil => rfl
  | cons y l ih => rw [List.map_cons, List.map_cons, ih, h y]
 have h2 : ∀ l : List α, ((l.map e).all fun y => (f y).2) = true := by
  intro l
  induction l with
  | nil => rfl
  | cons y l ih => rw [List.map_cons, List.all_cons, ih, h y]; rfl
 show ((l.map e).map (fun y => (f y).1), true && (l.map e).all fun y => (f y).2) = _
 rw [h1, h2]
 rfl
abbrev sB : Nat := 1000000000
theorem Q17t : Val.Sm sB vZ := Val.Sm.leaf 0 0 _
theorem Q17s {l : List Val} (h : l.length ≤ sB) (g : ∀ x ∈ l, Val.Sm sB x) : Val.Sm sB (vL l) := .mk _ h (Nat.zero_le _) g (fun _ h => by cases h)
theorem Qmh {l : List Fld} (h : l.length ≤ sB) (g : ∀ x ∈ l, Val.Sm sB x.v) : Val.Sm sB (vM l) := .mk _ (Nat.zero_le _) h (fun _ h => by cases h) g
theorem Qvl {B : Nat} (n : ByteArray) : ∀ {l : List Fld}, (∀ x ∈ l, Val.Sm B x.v) → Val.Sm B (Qrd n l)
 | [], _ => Val.Sm.leaf 0 0 _
 | x :: l, h => by
  unfold Qrd
  cases sEq x.name n with
  | true => exact h x List.mem_cons_self
  | false => exact Qvl n fun y hy => h y (List.mem_cons_of_mem _ hy)
theorem Q4e {B : Nat} {v : Val} (h : Val.Sm B v) (n : ByteArray) : Val.Sm B (prt v n) := by
 unfold prt
 cases v.kind == 5 with
 | true => exact Qvl n h.all.2.2.2
 | false => exact Val.Sm.leaf 0 0 _
def LSm {α : Type} (p : α → Prop) (l : List α) : Prop := l.length ≤ sB ∧ ∀ x ∈ l, p x
theorem LSm.leaf {α : Type} {l : List α} (h : l.length ≤ sB) : LSm (fun _ => True) l := ⟨h, fun _ _ => trivial⟩
theorem LSm.nil {α : Type} {p : α → Prop} : LSm p [] := ⟨Nat.zero_le _, fun _ h => by cases h⟩
theorem Qy4 {x : Val} (h : Val.Sm sB x) : (xL x).1.length ≤ sB ∧ ∀ y ∈ (xL x).1, Val.Sm sB y := by
 unfold xL
 cases x.kind == 4 with
 | true => exact ⟨h.all.1, h.all.2.2.1⟩
 | false => exact ⟨Nat.zero_le _, fun _ h => by cases h⟩
theorem Q4y {α : Type} {e : α → Val} {p : α → Prop} (he : ∀ x, p x → Val.Sm sB (e x)) {l : List α} (h : LSm p l) : Val.Sm sB (vL (l.map e)) :=
 Q17s (by rw [List.length_map]; exact h.1) fun z hz => by
  obtain ⟨x, hx, rfl⟩ := List.mem_map.1 hz
  exact he x (h.2 x hx)
end Go.Pv
end

section
/- Decoders that count what is of a wrong kind: counters, and when they stay. No program is in sight here. -/
namespace Go.Pv
def bw (w : Int) (n : Nat) : Int := bif n == 0 then w else w64 (w + (n : Int))
theorem Q108 (x y : Int) : w64 (w64 x + y) = w64 (x + y) := by
 unfold w64 IntKind.wrap
 simp [IntKind.signed, IntKind.bits]
 omega
theorem Qhy (w : Int) (a b : Nat) : bw (bw w a) b = bw w (a + b) := by
 unfold bw
 cases ha : (a == 0) with
 | true =>
  have := eq_of_beq ha
  subst this
  rw [Nat.zero_add]
  rfl
 | false =>
  have ha' := beq_eq_false_iff_ne.1 ha
  cases hb : (b == 0) with
  | true =>
   have := eq_of_beq hb
   subst this
   rw [Nat.add_zero, ha]
   rfl
  | false =>
   rw [show (a + b == 0) = false from beq_eq_false_iff_ne.2 (by omega), cond_false, cond_false, cond_false, Q108]
   congr 1
   omega
theorem Q126 {n : Nat} (h : n ≤ 4611686018427387904) : decide (0 < bw 0 n) = !(n == 0) := by
 unfold bw
 cases hn : (n == 0) with
 | true => rfl
 | false =>
  have := beq_eq_false_iff_ne.1 hn
  rw [cond_false, Qml (by omega)]
  simp
  omega
def nb (b : Bool) : Nat := bif b then 0 else 1
theorem nb0 (b : Bool) : (nb b == 0) = b := by cases b <;> rfl
theorem Qzu (b : Bool) : nb b ≤ 1 := by cases b <;> exact Nat.le_of_ble_eq_true rfl
theorem add0 (a b : Nat) : (a + b == 0) = (a == 0 && b == 0) := by
 cases a with
 | zero => rw [Nat.zero_add]; rfl
 | succ a => rw [show (a + 1 + b == 0) = false from beq_eq_false_iff_ne.2 (by omega)]; rfl
def cK (k : Int) (x : Val) : Nat := nb (x.kind == k || x.kind == 0)
def cM (v : Val) : Nat := cK 5 v
theorem cM0 (v : Val) : (cM v == 0) = isM v := nb0 _
def pK (k : Int) (v : Val) (n : ByteArray) : Nat := cM v + cK k (prt v n)
theorem kN (x : Val) : (cK 2 x == 0) = (xN x).2 := by unfold cK xN; rw [nb0]; cases (x.kind == 2) <;> rfl
theorem kS (x : Val) : (cK 3 x == 0) = (xS x).2 := by unfold cK xS; rw [nb0]; cases (x.kind == 3) <;> rfl
theorem kB (x : Val) : (cK 1 x == 0) = (xB x).2 := by unfold cK xB; rw [nb0]; cases (x.kind == 1) <;> rfl
theorem kL (x : Val) : (cK 4 x == 0) = (xL x).2 := by unfold cK xL; rw [nb0]; cases (x.kind == 4) <;> rfl
theorem pN0 (v : Val) (n : ByteArray) : (pK 2 v n == 0) = (isM v && (dN v n).2) := by unfold pK; rw [add0, cM0, kN]
theorem pS0 (v : Val) (n : ByteArray) : (pK 3 v n == 0) = (isM v && (dS v n).2) := by unfold pK; rw [add0, cM0, kS]
theorem pB0 (v : Val) (n : ByteArray) : (pK 1 v n == 0) = (isM v && (dB v n).2) := by unfold pK; rw [add0, cM0, kB]
theorem Qkz (k : Int) (x : Val) : cK k x ≤ 1 := Qzu _
theorem Q64 (k : Int) (v : Val) (n : ByteArray) : pK k v n ≤ 2 := by have := Qkz 5 v; have := Qkz k (prt v n); unfold pK cM; omega
def sumC (c : Val → Nat) : List Val → Nat
 | [] => 0
 | x :: r => c x + sumC c r
theorem Q12t {c : Val → Nat} {p : Val → Bool} (h : ∀ x, (c x == 0) = p x) : ∀ l : List Val, (sumC c l == 0) = l.all p
 | [] => rfl
 | x :: l => by rw [sumC, add0, h, Q12t h l, List.all_cons]
theorem Qvn {c : Val → Nat} {K B : Nat} {P : Val → Prop} (hc : ∀ x, P x → c x ≤ K) : ∀ {l : List Val}, (∀ x ∈ l, P x) → l.length ≤ B → sumC c l ≤ B * K
 | [], _, _ => Nat.zero_le _
 | x :: l, h, hl => by
  cases B with
  | zero => simp at hl
  | succ B =>
   have h1 := hc x (h x List.mem_cons_self)
   have h2 := Qvn (B := B) hc (fun y hy => h y (List.mem_cons_of_mem _ hy)) (by simp at hl; omega)
   rw [sumC, Nat.succ_mul]
   omega
def pE (c : Val → Nat) (v : Val) (n : ByteArray) : Nat := pK 4 v n + sumC c (dL v n).1
theorem pE0 {α : Type} {f : Val → α × Bool} {c : Val → Nat} (h : ∀ x, (c x == 0) = (f x).2) (v : Val) (n : ByteArray) : (pE c v n == 0) = (isM v && (dE f v n).2) := by
 unfold pE pK
 rw [add0, add0, cM0, kL, Q12t h, Bool.and_assoc]
 rfl
theorem Q13c {B : Nat} {x : Val} (h : Val.Sm B x) : (xL x).1.length ≤ B ∧ ∀ y ∈ (xL x).1, Val.Sm B y := by
 unfold xL
 cases x.kind == 4 with
 | true => exact ⟨h.all.1, h.all.2.2.1⟩
 | false => exact ⟨Nat.zero_le _, fun _ h => by cases h⟩
theorem Qv6 {c : Val → Nat} {B K : Nat} (hc : ∀ x, Val.Sm B x → c x ≤ K) {v : Val} (h : Val.Sm B v) (n : ByteArray) : pE c v n ≤ 2 + B * K := by
 have hx := Q13c (Q4e h n)
 have h1 := Qvn hc hx.2 hx.1
 have h2 := Q64 4 v n
 change pK 4 v n + sumC c (xL (prt v n)).1 ≤ _
 omega
theorem Qvh (s : ByteArray) : sLt s s = false := by rw [Q101, Q80]; rfl
theorem Qc9 {a b : Bool} (h : a = true) (k : b = true) : (a && b) = true := by rw [h, k]; rfl
theorem Q12i {a b : Bool} (h : b = true) : (a || b) = true := by rw [h, Bool.or_true]
theorem Q4v {α : Type} {G : Nat → Option Fun} {c : α → En} {r : Rs} {x y : α} (h : x = y) (t : Q7 G (c x) r) : Q7 G (c y) r := h ▸ t
def resC {α : Type} (n : Nat) (x z : α) : α × Int := bif decide (0 < bw 0 n) then (z, 6) else (x, 0)
theorem Qve {α : Type} {n : Nat} (h : n ≤ 4611686018427387904) (x z : α) : resC n x z = bif n == 0 then (x, 0) else (z, 6) := by
 unfold resC
 rw [Q126 h]
 cases (n == 0) <;> rfl
end Go.Pv
end

section
/- Small values; equality of what is the same (printed by a program). -/
namespace Go.Proofs.Ytbagpdebihicnaa
open Go.Pv
abbrev G : Nat → Option Fun := tabG Ir.table
abbrev Γ : Nat → Option Ty := gam 40
abbrev BA : Type := ByteArray
theorem Qy2 (a b : BA) : Q7 G (.call 89 [.str a, .str b] []) (.ret (.int .i64 (sCmp a b)) []) := ⟨1, by kernel_rfl⟩
inductive Qmu where
  | k0 (q0 : Int)
  | k1
mutual
def s_Ka (p0 : Val) (p1 : Int) (p2 : Int) : Int :=
 bif (decide (p1 ≤ 0)) then
  (-1)
 else
  bif (decide (p2 ≤ 0)) then
   (-1)
  else
   bif (decide (1000 < (ByteArray.size p0.s : Int))) then
    (-1)
   else
    (match (Q2v p0 p2 p0.fields 0 (Q2c p0 p2 p0.list 0 (w64 (p1 - 1)))) with
    | .k0 y4_0 => y4_0
    | .k1 => (-1))
termination_by SizeOf.sizeOf p0
decreasing_by all_goals first | exact Val.Qnb _ | exact Val.Qct _
def Q2c (p0 : Val) (p2 : Int) : List Val → Nat → Int → Int
 | [], _i0, v0_1 =>
  v0_1
 | x0 :: r0, i0, v0_1 =>
  bif (decide (0 ≤ v0_1)) then
   Q2c p0 p2 r0 (i0 + 1) (s_Ka x0 v0_1 (w64 (p2 - 1)))
  else
   v0_1
termination_by l => SizeOf.sizeOf l
decreasing_by all_goals first | exact Qna _ _ | exact Qu8 _ _ | exact Qq9 _ _
def Q2v (p0 : Val) (p2 : Int) : List Fld → Nat → Int → Qmu
 | [], _i1, v1_1 =>
  (.k0 v1_1)
 | x1 :: r1, i1, v1_1 =>
  bif (decide (0 ≤ v1_1)) then
   bif (decide (1000 < (ByteArray.size x1.name : Int))) then
    (.k1)
   else
    Q2v p0 p2 r1 (i1 + 1) (s_Ka x1.v v1_1 (w64 (p2 - 1)))
  else
   (.k0 v1_1)
termination_by l => SizeOf.sizeOf l
decreasing_by all_goals first | exact Qna _ _ | exact Qu8 _ _ | exact Qq9 _ _
end
def Qnv (_p0 : Val) (p2 : Int) (i0 : Nat) (v0_1 : Int) : List PV :=
  [.un, .int .i64 v0_1, .int .i64 p2, .bx 0 0, .un, .un, .un, .int .i64 (i0 : Int)] ++ nuns 65
def Qob (p0 : Val) (_p2 : Int) (_i0 : Nat) (_v0_1 : Int) : List Ob :=
  [⟨5, 0, true, [.int .i64 p0.kind, .int .i64 p0.n, .str p0.s, .sl (Val.rows p0.list), .sl (Fld.rows p0.fields)]⟩]
def Qai (p0 : Val) (p2 : Int) (i0 : Nat) (v0_1 : Int) : En := .loop 0 Ir.Qdo Ir.Q10e (Qnv p0 p2 i0 v0_1) (Qob p0 p2 i0 v0_1)
def Qbq (p0 : Val) (p2 : Int) (q0 : Int) (z : Nat → PV) (_zo : Nat → List PV) : St :=
  ⟨[z 0, .int .i64 q0, .int .i64 p2, .bx 0 0] ++ zr z 4 69, [(0, ⟨5, 0, true, [.int .i64 p0.kind, .int .i64 p0.n, .str p0.s, .sl (Val.rows p0.list), .sl (Fld.rows p0.fields)]⟩)], 577⟩
def Qbk (p0 : Val) (p2 : Int) (e : En) (q : Int) : Prop := ∃ z zo, Q7 G e (.st (.exit 0) (Qbq p0 p2 q z zo))
theorem Qjf (p0 : Val) (p2 : Int) {e e' : En} (h : ∀ r, Q7 G e r → Q7 G e' r) : ∀ q, Qbk p0 p2 e q → Qbk p0 p2 e' q
  | _, ⟨z, zo, hz⟩ => ⟨z, zo, h _ hz⟩
def Qnw (_p0 : Val) (p2 : Int) (i1 : Nat) (v1_1 : Int) : List PV :=
  [.un, .int .i64 v1_1, .int .i64 p2, .bx 0 0, .un, .un, .un, .un, .int .i64 (i1 : Int)] ++ nuns 64
def Qoc (p0 : Val) (_p2 : Int) (_i1 : Nat) (_v1_1 : Int) : List Ob :=
  [⟨5, 0, true, [.int .i64 p0.kind, .int .i64 p0.n, .str p0.s, .sl (Val.rows p0.list), .sl (Fld.rows p0.fields)]⟩]
def Q85 (p0 : Val) (p2 : Int) (i1 : Nat) (v1_1 : Int) : En := .loop 0 Ir.Qdp Ir.Q10f (Qnw p0 p2 i1 v1_1) (Qoc p0 p2 i1 v1_1)
def Qbr (p0 : Val) (_p2 : Int) (q0 : Int) (z : Nat → PV) (_zo : Nat → List PV) : St :=
  ⟨[z 0, .int .i64 q0] ++ zr z 2 71, [(0, ⟨5, 0, true, [.int .i64 p0.kind, .int .i64 p0.n, .str p0.s, .sl (Val.rows p0.list), .sl (Fld.rows p0.fields)]⟩)], 577⟩
def Qju (_p0 : Val) (_p2 : Int) (z : Nat → PV) (zo : Nat → List PV) : St :=
  ⟨zr z 0 6 ++ [.int .i64 (-1)] ++ zr z 7 66, [(0, ⟨5, 0, true, zo 0⟩)], 1153⟩
def Q8c (p0 : Val) (p2 : Int) (e : En) : Qmu → Prop
  | .k0 q0 => ∃ z zo, Q7 G e (.st (.exit 2) (Qbr p0 p2 q0 z zo))
  | .k1 => ∃ z zo, Q7 G e (.st .ret (Qju p0 p2 z zo))
theorem Qjg (p0 : Val) (p2 : Int) {e e' : En} (h : ∀ r, Q7 G e r → Q7 G e' r) : ∀ q, Q8c p0 p2 e q → Q8c p0 p2 e' q
  | .k0 _, ⟨z, zo, hz⟩ => ⟨z, zo, h _ hz⟩
  | .k1, ⟨z, zo, hz⟩ => ⟨z, zo, h _ hz⟩
def c_Ka (p0 : Val) (p1 : Int) (p2 : Int) : En := .call 56 [.agg (Val.cells p0), .int .i64 p1, .int .i64 p2] []
def a_Ka (p0 : Val) (p1 : Int) (p2 : Int) : Rs := .ret (.int .i64 (s_Ka p0 p1 p2)) []
abbrev H_Ka (p0 : Val) : Prop := Val.Sm 4611686018427387904 p0
def Q6o (p0 : Val) : Prop := ∀ (q : Val), SizeOf.sizeOf q < SizeOf.sizeOf p0 → ∀ (p1 : Int), ∀ (p2 : Int), H_Ka q → Q7 G (c_Ka q p1 p2) (a_Ka q p1 p2)
def Q88 (p0 : Val) (_p2 : Int) : Prop := (List.length p0.list ≤ 4611686018427387904) ∧ (∀ x0 ∈ p0.list, H_Ka x0) ∧ True
def Q6v (p0 : Val) (_p2 : Int) : Prop := (List.length p0.fields ≤ 4611686018427387904) ∧ (∀ x1 ∈ p0.fields, H_Ka x1.v) ∧ True
theorem Qtn (p0 : Val) (_p1 : Int) (p2 : Int) (H : H_Ka p0) : (Q88 p0 p2) ∧ (Q6v p0 p2) ∧ True := by
  obtain ⟨h1, h2, h3, h4⟩ := H.all
  simp only [Q88, Q6v]
  exact ⟨⟨h1, h3, trivial⟩, ⟨h2, h4, trivial⟩, trivial⟩
def Qk9 (p0 : Val) (_p2 : Int) (i0 : Nat) (_v0_1 : Int) : List PV :=
  nuns 7 ++ [.int .i64 (i0 : Int)] ++ nuns 15 ++ [.int .i64 (i0 : Int), .bx 0 3, .sl (Val.rows p0.list), .int .i64 ((List.length p0.list) : Int), .bool false, .bool false, .tup [], .tup [], .bool false]
def Qeo (_p0 : Val) (_p2 : Int) (_i0 : Nat) (_v0_1 : Int) : List (Nat × List PV) :=
  []
theorem Qvz (p0 : Val) (p2 : Int) (_H : Q88 p0 p2) (_rec : Q6o p0) (i0 : Nat) (v0_1 : Int) (hc0 : (decide ((i0 : Int) < ((List.length p0.list) : Int))) = false) : Qbk p0 p2 (Qai p0 p2 i0 v0_1) v0_1 := by
 exact ⟨(envF (Qk9 p0 p2 i0 v0_1)), (zoF (Qeo p0 p2 i0 v0_1)), Qm VOK.nil (x := ((.exit 0), Qbq p0 p2 v0_1 (envF (Qk9 p0 p2 i0 v0_1)) (zoF (Qeo p0 p2 i0 v0_1)))) [hP 3 (Qs (Val.rows p0.list) (List.length p0.list) (Val.Q8 p0.list)), hB 0 hc0] [] (by kernel_rfl)⟩
theorem Qul (p0 : Val) (p2 : Int) (H : Q88 p0 p2) (rec : Q6o p0) (x0 : Val) (i0 : Nat) (v0_1 : Int) (hx0 : p0.list[i0]? = some x0) (hi0 : i0 < List.length p0.list) (hc0 : (decide ((i0 : Int) < ((List.length p0.list) : Int))) = true) (h0 : (decide (0 ≤ v0_1)) = true) {r : Rs} (hr : Q7 G (Qai p0 p2 (i0 + 1) (s_Ka x0 v0_1 (w64 (p2 - 1)))) r) : Q7 G (Qai p0 p2 i0 v0_1) r := by
 have hB0 := H.1; have e0 := of_decide_eq_true h0
 exact Qn VOK.nil (y := (Qnv p0 p2 (i0 + 1) (s_Ka x0 v0_1 (w64 (p2 - 1))), Qob p0 p2 (i0 + 1) (s_Ka x0 v0_1 (w64 (p2 - 1))))) [hP 3 (Qs (Val.rows p0.list) (List.length p0.list) (Val.Q8 p0.list)), hB 0 hc0, hB 2 h0, hP 4 (Q1x 5 (Val.rows p0.list) i0 _ (Val.Qf hx0) rfl), hP 7 (Q1o i0 (by omega))] [aN (rec x0 (szL hx0) v0_1 (w64 (p2 - 1)) (H.2.1 x0 (Q29 hx0)))] (by kernel_rfl) hr
def Qka (p0 : Val) (_p2 : Int) (i0 : Nat) (v0_1 : Int) (_x0 : Val) : List PV :=
  nuns 7 ++ [.int .i64 (i0 : Int)] ++ nuns 15 ++ [.int .i64 (i0 : Int), .bx 0 3, .sl (Val.rows p0.list), .int .i64 ((List.length p0.list) : Int), .bool true, .bool true, .int .i64 v0_1, .bool false, .bool false]
def Qep (_p0 : Val) (_p2 : Int) (_i0 : Nat) (_v0_1 : Int) (_x0 : Val) : List (Nat × List PV) :=
  []
theorem Qw0 (p0 : Val) (p2 : Int) (_H : Q88 p0 p2) (_rec : Q6o p0) (x0 : Val) (i0 : Nat) (v0_1 : Int) (_hx0 : p0.list[i0]? = some x0) (_hi0 : i0 < List.length p0.list) (hc0 : (decide ((i0 : Int) < ((List.length p0.list) : Int))) = true) (h0 : (decide (0 ≤ v0_1)) = false) : Qbk p0 p2 (Qai p0 p2 i0 v0_1) v0_1 := by
 exact ⟨(envF (Qka p0 p2 i0 v0_1 x0)), (zoF (Qep p0 p2 i0 v0_1 x0)), Qm VOK.nil (x := ((.exit 0), Qbq p0 p2 v0_1 (envF (Qka p0 p2 i0 v0_1 x0)) (zoF (Qep p0 p2 i0 v0_1 x0)))) [hP 3 (Qs (Val.rows p0.list) (List.length p0.list) (Val.Q8 p0.list)), hB 0 hc0, hB 2 h0] [] (by kernel_rfl)⟩
theorem Qpw (p0 : Val) (p2 : Int) (H : Q88 p0 p2) (rec : Q6o p0) : ∀ (r0 : List Val) (i0 : Nat) (v0_1 : Int), List.drop i0 p0.list = r0 → Qbk p0 p2 (Qai p0 p2 i0 v0_1) (Q2c p0 p2 r0 i0 v0_1)
 | [], i0, v0_1, hd => by
  have hc0 : (decide ((i0 : Int) < ((List.length p0.list) : Int))) = false := by have := Q1d hd; simp; omega
  rw [Q2c]
  exact Qvz p0 p2 H rec i0 v0_1 hc0
 | x0 :: r0, i0, v0_1, hd => by
  obtain ⟨hx0, hi0, hd'⟩ := Q19 hd
  have hc0 : (decide ((i0 : Int) < ((List.length p0.list) : Int))) = true := by simp; omega
  rw [Q2c]
  cases h0 : (decide (0 ≤ v0_1)) with
  | true =>
   exact Qjf p0 p2 (fun r hr => Qul p0 p2 H rec x0 i0 v0_1 hx0 hi0 hc0 h0 hr) _ (Qpw p0 p2 H rec r0 (i0 + 1) (s_Ka x0 v0_1 (w64 (p2 - 1))) hd')
  | false =>
   exact Qw0 p0 p2 H rec x0 i0 v0_1 hx0 hi0 hc0 h0
def Qkb (p0 : Val) (p2 : Int) (i1 : Nat) (_v1_1 : Int) : List PV :=
  [.un, .un, .int .i64 p2, .bx 0 0, .un, .un, .un, .un, .int .i64 (i1 : Int)] ++ nuns 34 ++ [.int .i64 (i1 : Int), .bx 0 4, .sl (Fld.rows p0.fields), .int .i64 ((List.length p0.fields) : Int), .bool false, .bool false, .tup [], .tup [], .bool false]
def Qeq (_p0 : Val) (_p2 : Int) (_i1 : Nat) (_v1_1 : Int) : List (Nat × List PV) :=
  []
theorem Qw1 (p0 : Val) (p2 : Int) (_H : Q6v p0 p2) (_rec : Q6o p0) (i1 : Nat) (v1_1 : Int) (hc1 : (decide ((i1 : Int) < ((List.length p0.fields) : Int))) = false) : Q8c p0 p2 (Q85 p0 p2 i1 v1_1) (.k0 v1_1) := by
 exact ⟨(envF (Qkb p0 p2 i1 v1_1)), (zoF (Qeq p0 p2 i1 v1_1)), Qm VOK.nil (x := ((.exit 2), Qbr p0 p2 v1_1 (envF (Qkb p0 p2 i1 v1_1)) (zoF (Qeq p0 p2 i1 v1_1)))) [hP 3 (Qs (Fld.rows p0.fields) (List.length p0.fields) (Fld.Q8 p0.fields)), hB 0 hc1] [] (by kernel_rfl)⟩
def Qkc (p0 : Val) (p2 : Int) (i1 : Nat) (v1_1 : Int) (x1 : Fld) : List PV :=
  [.un, .int .i64 v1_1, .int .i64 p2, .bx 0 0, .un, .un, .un, .un, .int .i64 (i1 : Int)] ++ nuns 34 ++ [.int .i64 (i1 : Int), .bx 0 4, .sl (Fld.rows p0.fields), .int .i64 ((List.length p0.fields) : Int), .bool true, .bool true, .int .i64 v1_1, .bool true, .bool true, .un, .un, .bx 0 4, .sl (Fld.rows p0.fields), .int .i64 (i1 : Int), .rf [.str x1.name, .int .i64 x1.v.kind, .int .i64 x1.v.n, .str x1.v.s, .sl (Val.rows x1.v.list), .sl (Fld.rows x1.v.fields)], .rf [.str x1.name, .int .i64 x1.v.kind, .int .i64 x1.v.n, .str x1.v.s, .sl (Val.rows x1.v.list), .sl (Fld.rows x1.v.fields)], .str x1.name, .int .i64 (ByteArray.size x1.name : Int), .bool true]
def Qer (p0 : Val) (_p2 : Int) (_i1 : Nat) (_v1_1 : Int) (_x1 : Fld) : List (Nat × List PV) :=
  [(0, [.int .i64 p0.kind, .int .i64 p0.n, .str p0.s, .sl (Val.rows p0.list), .sl (Fld.rows p0.fields)])]
theorem Qw2 (p0 : Val) (p2 : Int) (_H : Q6v p0 p2) (_rec : Q6o p0) (x1 : Fld) (i1 : Nat) (v1_1 : Int) (hx1 : p0.fields[i1]? = some x1) (_hi1 : i1 < List.length p0.fields) (hc1 : (decide ((i1 : Int) < ((List.length p0.fields) : Int))) = true) (h0 : (decide (0 ≤ v1_1)) = true) (h1 : (decide (1000 < (ByteArray.size x1.name : Int))) = true) : Q8c p0 p2 (Q85 p0 p2 i1 v1_1) (.k1) := by
 exact ⟨(envF (Qkc p0 p2 i1 v1_1 x1)), (zoF (Qer p0 p2 i1 v1_1 x1)), Qm VOK.nil (x := (.ret, Qju p0 p2 (envF (Qkc p0 p2 i1 v1_1 x1)) (zoF (Qer p0 p2 i1 v1_1 x1)))) [hP 3 (Qs (Fld.rows p0.fields) (List.length p0.fields) (Fld.Q8 p0.fields)), hB 0 hc1, hB 2 h0, hP 4 (Q1x 6 (Fld.rows p0.fields) i1 _ (Fld.Qf hx1) rfl), hB 3 h1] [] (by kernel_rfl)⟩
theorem Qum (p0 : Val) (p2 : Int) (H : Q6v p0 p2) (rec : Q6o p0) (x1 : Fld) (i1 : Nat) (v1_1 : Int) (hx1 : p0.fields[i1]? = some x1) (hi1 : i1 < List.length p0.fields) (hc1 : (decide ((i1 : Int) < ((List.length p0.fields) : Int))) = true) (h0 : (decide (0 ≤ v1_1)) = true) (h1 : (decide (1000 < (ByteArray.size x1.name : Int))) = false) {r : Rs} (hr : Q7 G (Q85 p0 p2 (i1 + 1) (s_Ka x1.v v1_1 (w64 (p2 - 1)))) r) : Q7 G (Q85 p0 p2 i1 v1_1) r := by
 have hB0 := H.1; have e0 := of_decide_eq_true h0; have e1 := of_decide_eq_false h1
 exact Qn VOK.nil (y := (Qnw p0 p2 (i1 + 1) (s_Ka x1.v v1_1 (w64 (p2 - 1))), Qoc p0 p2 (i1 + 1) (s_Ka x1.v v1_1 (w64 (p2 - 1))))) [hP 3 (Qs (Fld.rows p0.fields) (List.length p0.fields) (Fld.Q8 p0.fields)), hB 0 hc1, hB 2 h0, hP 4 (Q1x 6 (Fld.rows p0.fields) i1 _ (Fld.Qf hx1) rfl), hB 3 h1, hP 3 (Q1x 6 (Fld.rows p0.fields) i1 _ (Fld.Qf hx1) rfl), hP 8 (Q1o i1 (by omega))] [aN (rec x1.v (szF hx1) v1_1 (w64 (p2 - 1)) (H.2.1 x1 (Q29 hx1)))] (by kernel_rfl) hr
def Qkd (p0 : Val) (p2 : Int) (i1 : Nat) (v1_1 : Int) (_x1 : Fld) : List PV :=
  [.un, .un, .int .i64 p2, .bx 0 0, .un, .un, .un, .un, .int .i64 (i1 : Int)] ++ nuns 34 ++ [.int .i64 (i1 : Int), .bx 0 4, .sl (Fld.rows p0.fields), .int .i64 ((List.length p0.fields) : Int), .bool true, .bool true, .int .i64 v1_1, .bool false, .bool false]
def Qes (_p0 : Val) (_p2 : Int) (_i1 : Nat) (_v1_1 : Int) (_x1 : Fld) : List (Nat × List PV) :=
  []
theorem Qw3 (p0 : Val) (p2 : Int) (_H : Q6v p0 p2) (_rec : Q6o p0) (x1 : Fld) (i1 : Nat) (v1_1 : Int) (_hx1 : p0.fields[i1]? = some x1) (_hi1 : i1 < List.length p0.fields) (hc1 : (decide ((i1 : Int) < ((List.length p0.fields) : Int))) = true) (h0 : (decide (0 ≤ v1_1)) = false) : Q8c p0 p2 (Q85 p0 p2 i1 v1_1) (.k0 v1_1) := by
 exact ⟨(envF (Qkd p0 p2 i1 v1_1 x1)), (zoF (Qes p0 p2 i1 v1_1 x1)), Qm VOK.nil (x := ((.exit 2), Qbr p0 p2 v1_1 (envF (Qkd p0 p2 i1 v1_1 x1)) (zoF (Qes p0 p2 i1 v1_1 x1)))) [hP 3 (Qs (Fld.rows p0.fields) (List.length p0.fields) (Fld.Q8 p0.fields)), hB 0 hc1, hB 2 h0] [] (by kernel_rfl)⟩
theorem Qpx (p0 : Val) (p2 : Int) (H : Q6v p0 p2) (rec : Q6o p0) : ∀ (r1 : List Fld) (i1 : Nat) (v1_1 : Int), List.drop i1 p0.fields = r1 → Q8c p0 p2 (Q85 p0 p2 i1 v1_1) (Q2v p0 p2 r1 i1 v1_1)
 | [], i1, v1_1, hd => by
  have hc1 : (decide ((i1 : Int) < ((List.length p0.fields) : Int))) = false := by have := Q1d hd; simp; omega
  rw [Q2v]
  exact Qw1 p0 p2 H rec i1 v1_1 hc1
 | x1 :: r1, i1, v1_1, hd => by
  obtain ⟨hx1, hi1, hd'⟩ := Q19 hd
  have hc1 : (decide ((i1 : Int) < ((List.length p0.fields) : Int))) = true := by simp; omega
  rw [Q2v]
  cases h0 : (decide (0 ≤ v1_1)) with
  | true =>
   cases h1 : (decide (1000 < (ByteArray.size x1.name : Int))) with
   | true =>
    exact Qw2 p0 p2 H rec x1 i1 v1_1 hx1 hi1 hc1 h0 h1
   | false =>
    exact Qjg p0 p2 (fun r hr => Qum p0 p2 H rec x1 i1 v1_1 hx1 hi1 hc1 h0 h1 hr) _ (Qpx p0 p2 H rec r1 (i1 + 1) (s_Ka x1.v v1_1 (w64 (p2 - 1))) hd')
  | false =>
   exact Qw3 p0 p2 H rec x1 i1 v1_1 hx1 hi1 hc1 h0
theorem r_Ka (p0 : Val) (p1 : Int) (p2 : Int) (H : H_Ka p0) (rec : Q6o p0) : Q7 G (c_Ka p0 p1 p2) (a_Ka p0 p1 p2) := by
  unfold a_Ka
  rw [s_Ka]
  cases h0 : (decide (p1 ≤ 0)) with
  | true =>
   exact Qa (fn := Ir.Ka) rfl VOK.nil [hB 3 h0] [] (by kernel_rfl)
  | false =>
   cases h1 : (decide (p2 ≤ 0)) with
   | true =>
    exact Qa (fn := Ir.Ka) rfl VOK.nil [hB 3 h0, hB 2 h1] [] (by kernel_rfl)
   | false =>
    cases h2 : (decide (1000 < (ByteArray.size p0.s : Int))) with
    | true =>
     exact Qa (fn := Ir.Ka) rfl VOK.nil [hB 3 h0, hB 2 h1, hB 5 h2] [] (by kernel_rfl)
    | false =>
     have hl3 := Qpw p0 p2 ((Qtn p0 p1 p2 H).1) rec p0.list 0 (w64 (p1 - 1)) (by simp)
     obtain ⟨z3, zo3, hl3⟩ := hl3
     have hl4 := Qpx p0 p2 ((Qtn p0 p1 p2 H).2.1) rec p0.fields 0 (Q2c p0 p2 p0.list 0 (w64 (p1 - 1))) (by simp)
     cases hr4 : (Q2v p0 p2 p0.fields 0 (Q2c p0 p2 p0.list 0 (w64 (p1 - 1)))) with
     | k0 y4_0 =>
       rw [hr4] at hl4
       obtain ⟨z4, zo4, hl4⟩ := hl4
       exact Qa (fn := Ir.Ka) rfl VOK.nil [hB 3 h0, hB 2 h1, hB 5 h2] [aN hl3, aN hl4] (by kernel_rfl)
     | k1 =>
       rw [hr4] at hl4
       obtain ⟨z4, zo4, hl4⟩ := hl4
       exact Qa (fn := Ir.Ka) rfl VOK.nil [hB 3 h0, hB 2 h1, hB 5 h2] [aN hl3, aN hl4] (by kernel_rfl)
theorem i_Ka : ∀ (k : Nat) (p0 : Val), SizeOf.sizeOf p0 < k → ∀ (p1 : Int), ∀ (p2 : Int), H_Ka p0 → Q7 G (c_Ka p0 p1 p2) (a_Ka p0 p1 p2)
  | 0, _, h, _, _, _ => absurd h (Nat.not_lt_zero _)
  | k + 1, p0, h, p1, p2, H => r_Ka p0 p1 p2 H (fun q hq p1 p2 hH => i_Ka k q (by omega) p1 p2 hH)
theorem t_Ka (p0 : Val) (p1 : Int) (p2 : Int) (H : H_Ka p0) : Q7 G (c_Ka p0 p1 p2) (a_Ka p0 p1 p2) := i_Ka _ p0 (Nat.lt_succ_self _) p1 p2 H
def s_K9 (p0 : Val) (p1 : Int) : Bool :=
 (decide (0 ≤ (s_Ka p0 p1 p1)))
def c_K9 (p0 : Val) (p1 : Int) : En := .call 18 [.agg (Val.cells p0), .int .i64 p1] []
def a_K9 (p0 : Val) (p1 : Int) : Rs := .ret (.bool (s_K9 p0 p1)) []
def H_K9 (p0 : Val) (_p1 : Int) : Prop := (H_Ka p0) ∧ True
theorem t_K9 (p0 : Val) (p1 : Int) (H : H_K9 p0 p1) : Q7 G (c_K9 p0 p1) (a_K9 p0 p1) := by
 unfold a_K9 s_K9
 exact Qa (fn := Ir.K9) rfl VOK.nil [] [aN (t_Ka p0 p1 p1 H.1)] (by kernel_rfl)
def s_Kb (p0 : Bool) (p1 : Bool) : Int :=
 bif p0 then
  bif p1 then
   (-1)
  else
   (-1)
 else
  bif p1 then
   1
  else
   0
def c_Kb (p0 : Bool) (p1 : Bool) : En := .call 96 [.bool p0, .bool p1] []
def a_Kb (p0 : Bool) (p1 : Bool) : Rs := .ret (.int .i64 (s_Kb p0 p1)) []
theorem t_Kb (p0 : Bool) (p1 : Bool) : Q7 G (c_Kb p0 p1) (a_Kb p0 p1) := by
 unfold a_Kb s_Kb
 cases h0 : p0 with
 | true =>
  cases h1 : p1 with
  | true =>
   exact Qa (fn := Ir.Kb) rfl VOK.nil [] [] (by kernel_rfl)
  | false =>
   exact Qa (fn := Ir.Kb) rfl VOK.nil [] [] (by kernel_rfl)
 | false =>
  cases h1 : p1 with
  | true =>
   exact Qa (fn := Ir.Kb) rfl VOK.nil [] [] (by kernel_rfl)
  | false =>
   exact Qa (fn := Ir.Kb) rfl VOK.nil [] [] (by kernel_rfl)
def s_K3 (_ : Val) : Int := 0
def Qtw (p0 : Val) : List Val → Nat → Unit
 | [], _i0 =>
  ()
 | _x0 :: r0, i0 =>
  Qtw p0 r0 (i0 + 1)
def Qnt (_p0 : Val) (i0 : Nat) : List PV :=
  [.un, .un, .bx 0 0, .bx 1 0, .un, .int .i64 0, .int .i64 (i0 : Int)] ++ nuns 162
def Qo9 (p0 : Val) (_i0 : Nat) : List Ob :=
  [⟨5, 0, true, [.int .i64 p0.kind, .int .i64 p0.n, .str p0.s, .sl (Val.rows p0.list), .sl (Fld.rows p0.fields)]⟩, ⟨5, 0, true, [.int .i64 p0.kind, .int .i64 p0.n, .str p0.s, .sl (Val.rows p0.list), .sl (Fld.rows p0.fields)]⟩]
def Qgd (p0 : Val) (i0 : Nat) : En := .loop 0 Ir.Qdm Ir.Q10c (Qnt p0 i0) (Qo9 p0 i0)
def Qjs (p0 : Val) (z : Nat → PV) (_zo : Nat → List PV) : St :=
  ⟨[z 0, z 1, .bx 0 0, .bx 1 0, z 4, .int .i64 0] ++ zr z 6 163, [(0, ⟨5, 0, true, [.int .i64 p0.kind, .int .i64 p0.n, .str p0.s, .sl (Val.rows p0.list), .sl (Fld.rows p0.fields)]⟩), (1, ⟨5, 0, true, [.int .i64 p0.kind, .int .i64 p0.n, .str p0.s, .sl (Val.rows p0.list), .sl (Fld.rows p0.fields)]⟩)], 1026⟩
def Q8a (p0 : Val) (e : En) (_q : Unit) : Prop := ∃ z zo, Q7 G e (.st (.exit 0) (Qjs p0 z zo))
theorem Qjd (p0 : Val) {e e' : En} (h : ∀ r, Q7 G e r → Q7 G e' r) : ∀ q, Q8a p0 e q → Q8a p0 e' q
  | _, ⟨z, zo, hz⟩ => ⟨z, zo, h _ hz⟩
def Qtx (p0 : Val) : List Fld → Nat → Unit
 | [], _i1 =>
  ()
 | _x1 :: r1, i1 =>
  Qtx p0 r1 (i1 + 1)
def Qnu (_p0 : Val) (i1 : Nat) : List PV :=
  [.un, .un, .bx 0 0, .bx 1 0, .un, .int .i64 0, .un, .int .i64 (i1 : Int)] ++ nuns 161
def Qoa (p0 : Val) (_i1 : Nat) : List Ob :=
  [⟨5, 0, true, [.int .i64 p0.kind, .int .i64 p0.n, .str p0.s, .sl (Val.rows p0.list), .sl (Fld.rows p0.fields)]⟩, ⟨5, 0, true, [.int .i64 p0.kind, .int .i64 p0.n, .str p0.s, .sl (Val.rows p0.list), .sl (Fld.rows p0.fields)]⟩]
def Qge (p0 : Val) (i1 : Nat) : En := .loop 0 Ir.Qdn Ir.Q10d (Qnu p0 i1) (Qoa p0 i1)
def Qjt (p0 : Val) (z : Nat → PV) (_zo : Nat → List PV) : St :=
  ⟨[z 0, z 1, .bx 0 0, .bx 1 0, z 4, .int .i64 0] ++ zr z 6 163, [(0, ⟨5, 0, true, [.int .i64 p0.kind, .int .i64 p0.n, .str p0.s, .sl (Val.rows p0.list), .sl (Fld.rows p0.fields)]⟩), (1, ⟨5, 0, true, [.int .i64 p0.kind, .int .i64 p0.n, .str p0.s, .sl (Val.rows p0.list), .sl (Fld.rows p0.fields)]⟩)], 1026⟩
def Q8b (p0 : Val) (e : En) (_q : Unit) : Prop := ∃ z zo, Q7 G e (.st (.exit 2) (Qjt p0 z zo))
theorem Qje (p0 : Val) {e e' : En} (h : ∀ r, Q7 G e r → Q7 G e' r) : ∀ q, Q8b p0 e q → Q8b p0 e' q
  | _, ⟨z, zo, hz⟩ => ⟨z, zo, h _ hz⟩
theorem e_K3 (p0 : Val) : s_K3 p0 = (0) := by
  rfl
def c_K3 (p0 : Val) : En := .call 83 [.agg (Val.cells p0), .agg (Val.cells p0)] []
def a_K3 (p0 : Val) : Rs := .ret (.int .i64 (s_K3 p0)) []
abbrev H_K3 (p0 : Val) : Prop := Val.Sm 4611686018427387904 p0
def Qbn (p0 : Val) : Prop := ∀ (q : Val), SizeOf.sizeOf q < SizeOf.sizeOf p0 → H_K3 q → Q7 G (c_K3 q) (a_K3 q)
def Qb0 (p0 : Val) : Prop := (List.length p0.list ≤ 4611686018427387904) ∧ (∀ x0 ∈ p0.list, H_K3 x0) ∧ True
def Qb1 (p0 : Val) : Prop := (List.length p0.fields ≤ 4611686018427387904) ∧ (∀ x1 ∈ p0.fields, H_K3 x1.v) ∧ True
theorem Qtm (p0 : Val) (H : H_K3 p0) : (Qb0 p0) ∧ (Qb1 p0) ∧ True := by
  obtain ⟨h1, h2, h3, h4⟩ := H.all
  simp only [Qb0, Qb1]
  exact ⟨⟨h1, h3, trivial⟩, ⟨h2, h4, trivial⟩, trivial⟩
def Qk7 (p0 : Val) (i0 : Nat) : List PV :=
  nuns 6 ++ [.int .i64 (i0 : Int)] ++ nuns 38 ++ [.int .i64 (i0 : Int), .bx 0 3, .sl (Val.rows p0.list), .int .i64 ((List.length p0.list) : Int), .bool false, .bool false, .tup [], .tup [], .tup [], .tup [], .tup [], .bool false, .bool false, .tup [], .tup [], .bool false]
def Qem (_p0 : Val) (_i0 : Nat) : List (Nat × List PV) :=
  []
theorem Qvx (p0 : Val) (_H : Qb0 p0) (_rec : Qbn p0) (i0 : Nat) (hc0 : (decide ((i0 : Int) < ((List.length p0.list) : Int))) = false) : Q8a p0 (Qgd p0 i0) () := by
 exact ⟨(envF (Qk7 p0 i0)), (zoF (Qem p0 i0)), Qm VOK.nil (x := ((.exit 0), Qjs p0 (envF (Qk7 p0 i0)) (zoF (Qem p0 i0)))) [hP 3 (Qs (Val.rows p0.list) (List.length p0.list) (Val.Q8 p0.list)), hB 0 hc0] [] (by kernel_rfl)⟩
theorem Quj (p0 : Val) (H : Qb0 p0) (rec : Qbn p0) (x0 : Val) (i0 : Nat) (hx0 : p0.list[i0]? = some x0) (hi0 : i0 < List.length p0.list) (hc0 : (decide ((i0 : Int) < ((List.length p0.list) : Int))) = true) {r : Rs} (hr : Q7 G (Qgd p0 (i0 + 1)) r) : Q7 G (Qgd p0 i0) r := by
 have hB0 := H.1
 exact Qn VOK.nil (y := (Qnt p0 (i0 + 1), Qo9 p0 (i0 + 1))) [hP 3 (Qs (Val.rows p0.list) (List.length p0.list) (Val.Q8 p0.list)), hB 0 hc0, hP 4 (Qs (Val.rows p0.list) (List.length p0.list) (Val.Q8 p0.list)), hB 0 hc0, hP 8 (Q1x 5 (Val.rows p0.list) i0 _ (Val.Qf hx0) rfl), hP 4 (Q1x 5 (Val.rows p0.list) i0 _ (Val.Qf hx0) rfl), hP 4 (Q1o i0 (by omega))] [aN (rec x0 (szL hx0) (H.2.1 x0 (Q29 hx0)))] (by kernel_rfl) hr
theorem Qpu (p0 : Val) (H : Qb0 p0) (rec : Qbn p0) : ∀ (r0 : List Val) (i0 : Nat), List.drop i0 p0.list = r0 → Q8a p0 (Qgd p0 i0) (Qtw p0 r0 i0)
 | [], i0, hd => by
  have hc0 : (decide ((i0 : Int) < ((List.length p0.list) : Int))) = false := by have := Q1d hd; simp; omega
  show Q8a p0 _ ()
  exact Qvx p0 H rec i0 hc0
 | x0 :: r0, i0, hd => by
  obtain ⟨hx0, hi0, hd'⟩ := Q19 hd
  have hc0 : (decide ((i0 : Int) < ((List.length p0.list) : Int))) = true := by simp; omega
  show Q8a p0 _ ()
  exact Qjd p0 (fun r hr => Quj p0 H rec x0 i0 hx0 hi0 hc0 hr) _ (Qpu p0 H rec r0 (i0 + 1) hd')
def Qk8 (p0 : Val) (i1 : Nat) : List PV :=
  nuns 7 ++ [.int .i64 (i1 : Int)] ++ nuns 83 ++ [.int .i64 (i1 : Int), .bx 0 4, .sl (Fld.rows p0.fields), .int .i64 ((List.length p0.fields) : Int), .bool false, .bool false, .tup [], .tup [], .tup [], .tup [], .tup [], .bool false, .bool false, .tup [], .tup [], .bool false]
def Qen (_p0 : Val) (_i1 : Nat) : List (Nat × List PV) :=
  []
theorem Qvy (p0 : Val) (_H : Qb1 p0) (_rec : Qbn p0) (i1 : Nat) (hc1 : (decide ((i1 : Int) < ((List.length p0.fields) : Int))) = false) : Q8b p0 (Qge p0 i1) () := by
 exact ⟨(envF (Qk8 p0 i1)), (zoF (Qen p0 i1)), Qm VOK.nil (x := ((.exit 2), Qjt p0 (envF (Qk8 p0 i1)) (zoF (Qen p0 i1)))) [hP 3 (Qs (Fld.rows p0.fields) (List.length p0.fields) (Fld.Q8 p0.fields)), hB 0 hc1] [] (by kernel_rfl)⟩
theorem Quk (p0 : Val) (H : Qb1 p0) (rec : Qbn p0) (x1 : Fld) (i1 : Nat) (hx1 : p0.fields[i1]? = some x1) (hi1 : i1 < List.length p0.fields) (hc1 : (decide ((i1 : Int) < ((List.length p0.fields) : Int))) = true) {r : Rs} (hr : Q7 G (Qge p0 (i1 + 1)) r) : Q7 G (Qge p0 i1) r := by
 have hB0 := H.1
 exact Qn VOK.nil (y := (Qnu p0 (i1 + 1), Qoa p0 (i1 + 1))) [hP 3 (Qs (Fld.rows p0.fields) (List.length p0.fields) (Fld.Q8 p0.fields)), hB 0 hc1, hP 4 (Qs (Fld.rows p0.fields) (List.length p0.fields) (Fld.Q8 p0.fields)), hB 0 hc1, hP 8 (Q1x 6 (Fld.rows p0.fields) i1 _ (Fld.Qf hx1) rfl), hP 5 (Q1x 6 (Fld.rows p0.fields) i1 _ (Fld.Qf hx1) rfl), hP 2 (dec (sLt x1.name x1.name) false (Qvh _)), hP 3 (Q1x 6 (Fld.rows p0.fields) i1 _ (Fld.Qf hx1) rfl), hP 5 (Q1x 6 (Fld.rows p0.fields) i1 _ (Fld.Qf hx1) rfl), hP 2 (dec (!((sLt x1.name x1.name) || (sEq x1.name x1.name))) false (by rw [(Q12i (Q2l.2 rfl))]; rfl)), hP 7 (Q1x 6 (Fld.rows p0.fields) i1 _ (Fld.Qf hx1) rfl), hP 5 (Q1x 6 (Fld.rows p0.fields) i1 _ (Fld.Qf hx1) rfl), hP 5 (Q1o i1 (by omega))] [aN (t_Kb false false), aN (rec x1.v (szF hx1) (H.2.1 x1 (Q29 hx1)))] (by kernel_rfl) hr
theorem Qpv (p0 : Val) (H : Qb1 p0) (rec : Qbn p0) : ∀ (r1 : List Fld) (i1 : Nat), List.drop i1 p0.fields = r1 → Q8b p0 (Qge p0 i1) (Qtx p0 r1 i1)
 | [], i1, hd => by
  have hc1 : (decide ((i1 : Int) < ((List.length p0.fields) : Int))) = false := by have := Q1d hd; simp; omega
  show Q8b p0 _ ()
  exact Qvy p0 H rec i1 hc1
 | x1 :: r1, i1, hd => by
  obtain ⟨hx1, hi1, hd'⟩ := Q19 hd
  have hc1 : (decide ((i1 : Int) < ((List.length p0.fields) : Int))) = true := by simp; omega
  show Q8b p0 _ ()
  exact Qje p0 (fun r hr => Quk p0 H rec x1 i1 hx1 hi1 hc1 hr) _ (Qpv p0 H rec r1 (i1 + 1) hd')
theorem r_K3 (p0 : Val) (H : H_K3 p0) (rec : Qbn p0) : Q7 G (c_K3 p0) (a_K3 p0) := by
  unfold a_K3
  rw [e_K3]
  have hl0 := Qpu p0 ((Qtm p0 H).1) rec p0.list 0 (by simp)
  obtain ⟨z0, zo0, hl0⟩ := hl0
  have hl1 := Qpv p0 ((Qtm p0 H).2.1) rec p0.fields 0 (by simp)
  obtain ⟨z1, zo1, hl1⟩ := hl1
  exact Qa (fn := Ir.K3) rfl VOK.nil [hP 7 (dec (decide (p0.kind < p0.kind)) false (decide_eq_false (Int.lt_irrefl _))), hP 4 (dec (decide (p0.kind < p0.kind)) false (decide_eq_false (Int.lt_irrefl _))), hP 8 (dec (decide (p0.n < p0.n)) false (decide_eq_false (Int.lt_irrefl _))), hP 4 (dec (decide (p0.n < p0.n)) false (decide_eq_false (Int.lt_irrefl _))), hP 8 (dec (sLt p0.s p0.s) false (Qvh _)), hP 4 (dec (!((sLt p0.s p0.s) || (sEq p0.s p0.s))) false (by rw [(Q12i (Q2l.2 rfl))]; rfl)), hP 7 (Qs (Val.rows p0.list) (List.length p0.list) (Val.Q8 p0.list)), hP 2 (Qs (Val.rows p0.list) (List.length p0.list) (Val.Q8 p0.list)), hP 0 (dec (decide (((List.length p0.list) : Int) < ((List.length p0.list) : Int))) false (decide_eq_false (Int.lt_irrefl _))), hP 2 (Qs (Val.rows p0.list) (List.length p0.list) (Val.Q8 p0.list)), hP 2 (Qs (Val.rows p0.list) (List.length p0.list) (Val.Q8 p0.list)), hP 0 (dec (decide (((List.length p0.list) : Int) < ((List.length p0.list) : Int))) false (decide_eq_false (Int.lt_irrefl _))), hP 7 (Qs (Fld.rows p0.fields) (List.length p0.fields) (Fld.Q8 p0.fields)), hP 2 (Qs (Fld.rows p0.fields) (List.length p0.fields) (Fld.Q8 p0.fields)), hP 0 (dec (decide (((List.length p0.fields) : Int) < ((List.length p0.fields) : Int))) false (decide_eq_false (Int.lt_irrefl _))), hP 2 (Qs (Fld.rows p0.fields) (List.length p0.fields) (Fld.Q8 p0.fields)), hP 2 (Qs (Fld.rows p0.fields) (List.length p0.fields) (Fld.Q8 p0.fields)), hP 0 (dec (decide (((List.length p0.fields) : Int) < ((List.length p0.fields) : Int))) false (decide_eq_false (Int.lt_irrefl _)))] [aN (t_Kb false false), aN (t_Kb false false), aN (t_Kb false false), aN hl0, aN (t_Kb false false), aN hl1, aN (t_Kb false false)] (by kernel_rfl)
theorem i_K3 : ∀ (k : Nat) (p0 : Val), SizeOf.sizeOf p0 < k → H_K3 p0 → Q7 G (c_K3 p0) (a_K3 p0)
  | 0, _, h, _ => absurd h (Nat.not_lt_zero _)
  | k + 1, p0, h, H => r_K3 p0 H (fun q hq hH => i_K3 k q (by omega) hH)
theorem t_K3 (p0 : Val) (H : H_K3 p0) : Q7 G (c_K3 p0) (a_K3 p0) := i_K3 _ p0 (Nat.lt_succ_self _) H
def s_K5 (_p0 : Val) : Bool :=
 true
def c_K5 (p0 : Val) : En := .call 49 [.agg (Val.cells p0), .agg (Val.cells p0)] []
def a_K5 (p0 : Val) : Rs := .ret (.bool (s_K5 p0)) []
def H_K5 (p0 : Val) : Prop := (H_K3 p0) ∧ True
theorem t_K5 (p0 : Val) (H : H_K5 p0) : Q7 G (c_K5 p0) (a_K5 p0) := by
 unfold a_K5 s_K5
 exact Qa (fn := Ir.K5) rfl VOK.nil [] [aN (Q4v (c := fun y => .call 83 [.agg (Val.cells p0), .agg (Val.cells y)] []) rfl (t_K3 p0 H.1))] (by kernel_rfl)
def Qu1 (p0 : List ByteArray) : List ByteArray → Nat → Unit
 | [], _i0 =>
  ()
 | _x0 :: r0, i0 =>
  Qu1 p0 r0 (i0 + 1)
def Qo0 (p0 : List ByteArray) (i0 : Nat) : List PV :=
  [.sl (Qg p0), .sl (Qg p0), .un, .un, .un, .int .i64 (i0 : Int)] ++ nuns 20
def Qog (_p0 : List ByteArray) (_i0 : Nat) : List Ob :=
  []
def Qgi (p0 : List ByteArray) (i0 : Nat) : En := .loop 0 Ir.Qdt Ir.Q10j (Qo0 p0 i0) (Qog p0 i0)
def Qjy (_p0 : List ByteArray) (z : Nat → PV) (_zo : Nat → List PV) : St :=
  ⟨zr z 0 26, [], 256⟩
def Q8g (p0 : List ByteArray) (e : En) (_q : Unit) : Prop := ∃ z zo, Q7 G e (.st (.exit 0) (Qjy p0 z zo))
theorem Qjk (p0 : List ByteArray) {e e' : En} (h : ∀ r, Q7 G e r → Q7 G e' r) : ∀ q, Q8g p0 e q → Q8g p0 e' q
  | _, ⟨z, zo, hz⟩ => ⟨z, zo, h _ hz⟩
def Qh2 (p0 : List ByteArray) : Prop := (List.length p0 ≤ 4611686018427387904) ∧ True
def Qkh (p0 : List ByteArray) (i0 : Nat) : List PV :=
  [.sl (Qg p0), .sl (Qg p0), .un, .un, .un, .int .i64 (i0 : Int)] ++ nuns 5 ++ [.int .i64 (i0 : Int), .sl (Qg p0), .int .i64 ((List.length p0) : Int), .bool false]
def Qew (_p0 : List ByteArray) (_i0 : Nat) : List (Nat × List PV) :=
  []
theorem Qw7 (p0 : List ByteArray) (_H : Qh2 p0) (i0 : Nat) (hc0 : (decide ((i0 : Int) < ((List.length p0) : Int))) = false) : Q8g p0 (Qgi p0 i0) () := by
 exact ⟨(envF (Qkh p0 i0)), (zoF (Qew p0 i0)), Qm VOK.nil (x := ((.exit 0), Qjy p0 (envF (Qkh p0 i0)) (zoF (Qew p0 i0)))) [hP 2 (Qs (Qg p0) (List.length p0) (Q1h p0)), hB 0 hc0] [] (by kernel_rfl)⟩
theorem Quq (p0 : List ByteArray) (H : Qh2 p0) (x0 : BA) (i0 : Nat) (hx0 : p0[i0]? = some x0) (hi0 : i0 < List.length p0) (hc0 : (decide ((i0 : Int) < ((List.length p0) : Int))) = true) {r : Rs} (hr : Q7 G (Qgi p0 (i0 + 1)) r) : Q7 G (Qgi p0 i0) r := by
 have hB0 := H.1
 exact Qn VOK.nil (y := (Qo0 p0 (i0 + 1), Qog p0 (i0 + 1))) [hP 2 (Qs (Qg p0) (List.length p0) (Q1h p0)), hB 0 hc0, hP 2 (Q1x 1 (Qg p0) i0 _ (Q6i hx0) rfl), hP 3 (Q1x 1 (Qg p0) i0 _ (Q6i hx0) rfl), hP 1 (dec (!(sEq x0 x0)) false (by rw [(Q2l.2 rfl)]; rfl)), hP 1 (Q1o i0 (by omega))] [] (by kernel_rfl) hr
theorem Qq1 (p0 : List ByteArray) (H : Qh2 p0) : ∀ (r0 : List ByteArray) (i0 : Nat), List.drop i0 p0 = r0 → Q8g p0 (Qgi p0 i0) (Qu1 p0 r0 i0)
 | [], i0, hd => by
  have hc0 : (decide ((i0 : Int) < ((List.length p0) : Int))) = false := by have := Q1d hd; simp; omega
  show Q8g p0 _ ()
  exact Qw7 p0 H i0 hc0
 | x0 :: r0, i0, hd => by
  obtain ⟨hx0, hi0, hd'⟩ := Q19 hd
  have hc0 : (decide ((i0 : Int) < ((List.length p0) : Int))) = true := by simp; omega
  show Q8g p0 _ ()
  exact Qjk p0 (fun r hr => Quq p0 H x0 i0 hx0 hi0 hc0 hr) _ (Qq1 p0 H r0 (i0 + 1) hd')
def s_Kh (_p0 : List ByteArray) : Bool :=
 true
def c_Kh (p0 : List ByteArray) : En := .call 82 [.sl (Qg p0), .sl (Qg p0)] []
def a_Kh (p0 : List ByteArray) : Rs := .ret (.bool (s_Kh p0)) []
def H_Kh (p0 : List ByteArray) : Prop := (Qh2 p0) ∧ True
theorem t_Kh (p0 : List ByteArray) (H : H_Kh p0) : Q7 G (c_Kh p0) (a_Kh p0) := by
 unfold a_Kh s_Kh
 have hl0 := Qq1 p0 (H.1) p0 0 (by simp)
 obtain ⟨z0, zo0, hl0⟩ := hl0
 exact Qa (fn := Ir.Kh) rfl VOK.nil [hP 2 (Qs (Qg p0) (List.length p0) (Q1h p0)), hP 1 (Qs (Qg p0) (List.length p0) (Q1h p0)), hP 0 (dec (!(((List.length p0) : Int) == ((List.length p0) : Int))) false (by rw [(beq_self_eq_true _)]; rfl))] [aN hl0] (by kernel_rfl)
end Go.Proofs.Ytbagpdebihicnaa
end

section
/- Parts of a slice of one's own, and appends of them. -/
namespace Go.Pv
def slmE (id sz n : Nat) (lo hi : Option Int) : Option Eff := (opP (fun _ => .un) (.slice sz (.c (.ms id sz 0 n)) (optI lo) (optI hi) none)).bind fun v => some ⟨v, [], []⟩
theorem Qqo (id sz n : Nat) (k : Int) (h0 : 0 ≤ k) (h1 : k ≤ (n : Int)) : slmE id sz n none (some k) = some (vE (.ms id sz 0 k.toNat)) := by
 unfold slmE
 simp only [opP, optI, Opd.ev, Q3a, asNat, Option.bind_some]
 have e0 : decide (0 ≤ k) = true := by simpa using h0
 rw [e0]
 simp only [cond_true, Option.bind_some]
 have e1 : (Nat.beq sz sz && Nat.ble 0 k.toNat && Nat.ble k.toNat n) = true := by
  rw [Nat.ble_eq_true_of_le (Nat.zero_le _), Nat.ble_eq_true_of_le (show k.toNat ≤ n by omega), Nat.beq_refl]
  rfl
 rw [e1]
 simp [vE]
theorem Qp5 (id sz n : Nat) (k : Int) (h0 : 0 ≤ k) (h1 : k ≤ (n : Int)) : slmE id sz n (some k) none = some (vE (.ms id sz k.toNat (n - k.toNat))) := by
 unfold slmE
 simp only [opP, optI, Opd.ev, Q3a, asNat, Option.bind_some]
 have e0 : decide (0 ≤ k) = true := by simpa using h0
 rw [e0]
 simp only [cond_true, Option.bind_some]
 have e1 : (Nat.beq sz sz && Nat.ble k.toNat n && Nat.ble n n) = true := by
  rw [Nat.ble_eq_true_of_le (show k.toNat ≤ n by omega), Nat.ble_eq_true_of_le (Nat.le_refl n), Nat.beq_refl]
  rfl
 rw [e1]
 simp [vE]
theorem Qcw {sz : Nat} {rows : List (List PV)} (hs : ∀ r ∈ rows, r.length = sz) (off len : Nat) (h : off + len ≤ rows.length) :
  (rows.flatten.drop (off * sz)).take (len * sz) = ((rows.drop off).take len).flatten ∧ Nat.ble ((off + len) * sz) rows.flatten.length = true := by
 have hs' : ∀ r ∈ rows.drop off, r.length = sz := fun r hr => hs r (List.mem_of_mem_drop hr)
 have e : ∀ (l : List (List PV)) (k : Nat), (∀ r ∈ l, r.length = sz) → l.flatten.take (k * sz) = (l.take k).flatten := by
  intro l
  induction l with
  | nil => simp
  | cons q l ih =>
   intro k hl
   cases k with
   | zero => simp
   | succ k =>
    have hq := hl q List.mem_cons_self
    rw [List.flatten_cons, List.take_succ_cons, List.flatten_cons, ← ih k (fun r hr => hl r (List.mem_cons_of_mem _ hr)), show (k + 1) * sz = q.length + k * sz by rw [hq, Nat.add_mul]; omega, List.take_length_add_append]
 refine ⟨by rw [Q61 sz rows off hs, e _ _ hs'], Nat.ble_eq_true_of_le ?_⟩
 rw [Q3c sz rows hs]
 exact Nat.mul_le_mul_right _ h
def appE (id fr sz bytes ro : Nat) (gr : Bool) (rows : List (List PV)) (off len : Nat) : Option Eff := Q2g (look [(id, ⟨sz, ro, gr, rows.flatten⟩)]) fr sz bytes (.ns sz) (.ms id sz off len)
theorem Qwt (id fr sz bytes ro : Nat) (gr : Bool) (rows : List (List PV)) (off len : Nat) (hs : ∀ r ∈ rows, r.length = sz) (h : off + len ≤ rows.length) (h0 : len = 0) : appE id fr sz bytes ro gr rows off len = some ⟨.ns sz, [], [id]⟩ := by
 subst h0
 obtain ⟨_, h2⟩ := Qcw hs off 0 h
 unfold appE Q2g
 simp only [source, look, Nat.beq_refl, cond_true, Option.bind_some, Bool.true_and]
 rw [h2]
 simp
 rfl
theorem Q124 (id fr sz bytes ro : Nat) (gr : Bool) (rows rows' : List (List PV)) (off len n' : Nat) (hs : ∀ r ∈ rows, r.length = sz) (h : off + len ≤ rows.length) (h0 : len ≠ 0) (hr : rows' = (rows.drop off).take len) (hn : n' = len) (hb : len * bytes ≤ 140737488355328) :
  appE id fr sz bytes ro gr rows off len = some ⟨.ms fr sz 0 n', [(fr, some ⟨sz, 0, true, rows'.flatten⟩)], [id]⟩ := by
 subst hr hn
 obtain ⟨h1, h2⟩ := Qcw hs off n' h
 unfold appE Q2g
 simp only [source, look, Nat.beq_refl, cond_true, Option.bind_some, Bool.true_and]
 rw [h2]
 simp only [cond_true, Option.bind_some]
 rw [Nat.ble_eq_true_of_le hb, h1]
 cases n' with
 | zero => exact absurd rfl h0
 | succ n => rfl
def Q122 (id yid fr sz bytes ro : Nat) (cells : List PV) (yro : Nat) (ygr : Bool) (yrows : List (List PV)) (n off len : Nat) : Option Eff := Q2g (look [(id, ⟨sz, ro, true, cells⟩), (yid, ⟨sz, yro, ygr, yrows.flatten⟩)]) fr sz bytes (.ms id sz 0 n) (.ms yid sz off len)
theorem Qt0 (id yid fr sz bytes ro : Nat) (cells : List PV) (rows0 : List (List PV)) (yro : Nat) (ygr : Bool) (yrows rows' : List (List PV)) (n off len n' : Nat) (hne : Nat.beq id yid = false) (hc : cells = rows0.flatten) (hn : n = rows0.length) (hn' : n' = rows'.length) (hr' : rows' = rows0 ++ (yrows.drop off).take len)
  (hs0 : ∀ r ∈ rows0, r.length = sz) (hs : ∀ r ∈ yrows, r.length = sz) (h : off + len ≤ yrows.length) (hb : (n + len) * bytes ≤ 140737488355328) :
  Q122 id yid fr sz bytes ro cells yro ygr yrows n off len = some ⟨.ms fr sz 0 n', [(id, none), (fr, some ⟨sz, ro, true, rows'.flatten⟩)], [id, yid]⟩ := by
 subst hc hn hn' hr'
 obtain ⟨h1, h2⟩ := Qcw hs off len h
 unfold Q122 Q2g
 simp only [source, look, hne, Nat.beq_refl, cond_true, cond_false, Option.bind_some, Bool.true_and]
 rw [h2]
 simp only [cond_true, Option.bind_some]
 rw [Nat.ble_eq_true_of_le hb, h1, cond_true, Qyk (ob := ⟨sz, ro, true, rows0.flatten⟩) (Q3c sz rows0 hs0)]
 have hl : ((yrows.drop off).take len).length = len := by simp; omega
 simp [hl]
end Go.Pv
end

section
/- Slices that are made with a length: their rows. -/
namespace Go.Pv
end Go.Pv
end

section
/- Rows of one's own: cleared behind a place, appended to from a place on. -/
namespace Go.Pv
theorem Val.Q2k (l : List Val) (k : Nat) (x : Val) : Val.rows (l.set k x) = (Val.rows l).set k (Val.cells x) := by simp [Val.Q22, List.map_set]
theorem Fld.Q2k (l : List Fld) (k : Nat) (x : Fld) : Fld.rows (l.set k x) = (Fld.rows l).set k (Fld.cells x) := by simp [Fld.Q22, List.map_set]
theorem Qnk {l : List (List PV)} {k : Nat} {r : List PV} (h : l[k]? = some r) : l = l.set k r := by
  apply List.ext_getElem?
  intro i
  rw [List.getElem?_set]
  by_cases e : k = i
  · subst e
    rw [if_pos rfl, h, if_pos (List.getElem?_eq_some_iff.1 h).1]
  · rw [if_neg e]
end Go.Pv
end

section
/- What copying values computes (printed by a program). -/
namespace Go.Proofs.Ytbagpdebihicnaa
open Go.Pv
def Q12r (p0 : Val) : Val := p0
def Qpm (p0 : Val) : List Val → Nat → Unit
 | [], _i0 =>
  ()
 | _x0 :: r0, i0 =>
  Qpm p0 r0 (i0 + 1)
def Qiu (p0 : Val) (i0 : Nat) : List PV :=
  [.un, .bx 0 0, .bx 1 0] ++ nuns 9 ++ [.ms 2 5 0 (List.length p0.list), .int .i64 ((List.length p0.list) : Int), .int .i64 (i0 : Int)] ++ nuns 33
abbrev eB : ByteArray := ⟨#[]⟩
def Qak (p0 : Val) (_i0 : Nat) : List Ob :=
  [⟨5, 0, true, [.int .i64 p0.kind, .int .i64 p0.n, .str p0.s, .ms 2 5 0 (List.length p0.list), .sl (Fld.rows p0.fields)]⟩, ⟨5, 0, true, [.int .i64 0, .int .i64 0, .str eB, .ms 3 5 0 0, .ms 4 6 0 0]⟩, ⟨5, 0, true, (Val.rows p0.list).flatten⟩, ⟨5, 0, true, []⟩, ⟨6, 0, true, []⟩]
def Q9d (p0 : Val) (i0 : Nat) : En := .loop 0 Ir.Qb7 Ir.Qy9 (Qiu p0 i0) (Qak p0 i0)
def Qe9 (p0 : Val) (z : Nat → PV) (_zo : Nat → List PV) : St :=
  ⟨[z 0, .bx 0 0, .bx 1 0] ++ zr z 3 45, [(0, ⟨5, 0, true, [.int .i64 p0.kind, .int .i64 p0.n, .str p0.s, .ms 2 5 0 (List.length p0.list), .sl (Fld.rows p0.fields)]⟩), (1, ⟨5, 0, true, [.int .i64 0, .int .i64 0, .str eB, .ms 3 5 0 0, .ms 4 6 0 0]⟩), (2, ⟨5, 0, true, (Val.rows p0.list).flatten⟩), (3, ⟨5, 0, true, []⟩), (4, ⟨6, 0, true, []⟩)], 69⟩
theorem Qon (p0 : Val) (i0 : Nat) : VOK (Go.Pv.look (number 0 (Qak p0 i0))) [(2, Val.rows p0.list)] := (VOK.cons (show Seen _ _ from Q3n (ob := ⟨5, 0, true, (Val.rows p0.list).flatten⟩) (Val.Qb p0.list 5 rfl)) VOK.nil)
def Q6c (p0 : Val) (e : En) (_q : Unit) : Prop := ∃ z zo, Q7 G e (.st (.exit 0) (Qe9 p0 z zo))
theorem Qhe (p0 : Val) {e e' : En} (h : ∀ r, Q7 G e r → Q7 G e' r) : ∀ q, Q6c p0 e q → Q6c p0 e' q
  | _, ⟨z, zo, hz⟩ => ⟨z, zo, h _ hz⟩
def Qpn (p0 : Val) : List Fld → Nat → Unit
 | [], _i1 =>
  ()
 | _x1 :: r1, i1 =>
  Qpn p0 r1 (i1 + 1)
def Qiv (p0 : Val) (i1 : Nat) : List PV :=
  [.un, .bx 0 0, .bx 1 0] ++ nuns 28 ++ [.ms 2 6 0 (List.length p0.fields), .int .i64 ((List.length p0.fields) : Int), .int .i64 (i1 : Int)] ++ nuns 14
def Qal (p0 : Val) (_i1 : Nat) : List Ob :=
  [⟨5, 0, true, [.int .i64 p0.kind, .int .i64 p0.n, .str p0.s, .ms 3 5 0 (List.length p0.list), .ms 2 6 0 (List.length p0.fields)]⟩, ⟨5, 0, true, [.int .i64 0, .int .i64 0, .str eB, .ms 4 5 0 0, .ms 5 6 0 0]⟩, ⟨6, 0, true, (Fld.rows p0.fields).flatten⟩, ⟨5, 0, true, (Val.rows p0.list).flatten⟩, ⟨5, 0, true, []⟩, ⟨6, 0, true, []⟩]
def Q9e (p0 : Val) (i1 : Nat) : En := .loop 0 Ir.Qb8 Ir.Qya (Qiv p0 i1) (Qal p0 i1)
def Qea (p0 : Val) (z : Nat → PV) (_zo : Nat → List PV) : St :=
  ⟨[z 0, .bx 0 0, .bx 1 0] ++ zr z 3 45, [(0, ⟨5, 0, true, [.int .i64 p0.kind, .int .i64 p0.n, .str p0.s, .ms 3 5 0 (List.length p0.list), .ms 2 6 0 (List.length p0.fields)]⟩), (1, ⟨5, 0, true, [.int .i64 0, .int .i64 0, .str eB, .ms 4 5 0 0, .ms 5 6 0 0]⟩), (2, ⟨6, 0, true, (Fld.rows p0.fields).flatten⟩), (3, ⟨5, 0, true, (Val.rows p0.list).flatten⟩), (4, ⟨5, 0, true, []⟩), (5, ⟨6, 0, true, []⟩)], 70⟩
theorem Qoo (p0 : Val) (i1 : Nat) : VOK (Go.Pv.look (number 0 (Qal p0 i1))) [(2, Fld.rows p0.fields), (3, Val.rows p0.list)] := (VOK.cons (show Seen _ _ from Q3n (ob := ⟨6, 0, true, (Fld.rows p0.fields).flatten⟩) (Fld.Qb p0.fields 6 rfl)) (VOK.cons (show Seen _ _ from Q3n (ob := ⟨5, 0, true, (Val.rows p0.list).flatten⟩) (Val.Qb p0.list 5 rfl)) VOK.nil))
def Q6d (p0 : Val) (e : En) (_q : Unit) : Prop := ∃ z zo, Q7 G e (.st (.exit 2) (Qea p0 z zo))
theorem Qhf (p0 : Val) {e e' : En} (h : ∀ r, Q7 G e r → Q7 G e' r) : ∀ q, Q6d p0 e q → Q6d p0 e' q
  | _, ⟨z, zo, hz⟩ => ⟨z, zo, h _ hz⟩
theorem Q167 (p0 : Val) : Q12r p0 = (p0) := by
  rfl
def Qww (p0 : Val) : En := .call 75 [.agg (Val.cells p0)] []
def Qsz (p0 : Val) : Rs := .ret (.agg (Val.cells (Q12r p0))) []
abbrev Qgw (p0 : Val) : Prop := Val.Sm 1000000000 p0
def Q6w (p0 : Val) : Prop := ∀ (q : Val), SizeOf.sizeOf q < SizeOf.sizeOf p0 → Qgw q → Q7 G (Qww q) (Qsz q)
def Q9p (p0 : Val) : Prop := (List.length p0.list ≤ 4611686018427387904) ∧ (∀ x0 ∈ p0.list, Qgw x0) ∧ True
def Q9q (p0 : Val) : Prop := (List.length p0.fields ≤ 4611686018427387904) ∧ (∀ x1 ∈ p0.fields, Qgw x1.v) ∧ True
theorem Qaa (p0 : Val) (H : Qgw p0) : (List.length p0.list * 80 ≤ 140737488355328) ∧ (Q9p p0) ∧ (List.length p0.fields * 96 ≤ 140737488355328) ∧ (Q9q p0) ∧ True := by
  obtain ⟨h1, h2, h3, h4⟩ := H.all
  exact ⟨by omega, ⟨by omega, h3, trivial⟩, by omega, ⟨by omega, h4, trivial⟩, trivial⟩
def Qfc (p0 : Val) (i0 : Nat) : List PV :=
  nuns 12 ++ [.ms 2 5 0 (List.length p0.list), .int .i64 ((List.length p0.list) : Int), .int .i64 (i0 : Int), .bool false]
def Qby (_p0 : Val) (_i0 : Nat) : List (Nat × List PV) :=
  []
theorem Qse (p0 : Val) (_H : Q9p p0) (_rec : Q6w p0) (i0 : Nat) (hc0 : (decide ((i0 : Int) < ((List.length p0.list) : Int))) = false) : Q6c p0 (Q9d p0 i0) () := by
 exact ⟨(envF (Qfc p0 i0)), (zoF (Qby p0 i0)), Qm (Qon p0 i0) (x := ((.exit 0), Qe9 p0 (envF (Qfc p0 i0)) (zoF (Qby p0 i0)))) [hB 0 hc0] [] (by kernel_rfl)⟩
theorem Qrk (p0 : Val) (H : Q9p p0) (rec : Q6w p0) (x0 : Val) (i0 : Nat) (hx0 : p0.list[i0]? = some x0) (hi0 : i0 < List.length p0.list) (hc0 : (decide ((i0 : Int) < ((List.length p0.list) : Int))) = true) {r : Rs} (hr : Q7 G (Q9d p0 (i0 + 1)) r) : Q7 G (Q9d p0 i0) r := by
 have hB0 := H.1
 exact Qn (Qon p0 i0) (y := (Qiu p0 (i0 + 1), Qak p0 (i0 + 1))) [hB 0 hc0, hP 1 (Q2n 2 5 (List.length p0.list) (i0 : Int) i0 (by omega) (by omega) (by omega)), hP 0 (Q6k 2 5 0 true ((Val.rows p0.list).flatten) (Val.rows p0.list) 5 true i0 0 (i0 * 5) (Val.cells x0) (.agg [.int .i64 x0.kind, .int .i64 x0.n, .str x0.s, .sl (Val.rows x0.list), .sl (Fld.rows x0.fields)]) rfl rfl (Val.Qf hx0) (Val.Qh p0.list) (by decide) rfl), hP 8 (Q2n 2 5 (List.length p0.list) (i0 : Int) i0 (by omega) (by omega) (by omega)), hV 0 [(2, Val.rows p0.list)] (Qvm 2 5 true ((Val.rows p0.list).flatten) (Val.rows p0.list) (Val.rows p0.list) 5 i0 0 (i0 * 5) _ (.agg [.int .i64 x0.kind, .int .i64 x0.n, .str x0.s, .sl (Val.rows x0.list), .sl (Fld.rows x0.fields)]) rfl rfl (Val.Qf hx0) (Val.Qh p0.list) (by decide) rfl rfl (Qnk (Val.Qf hx0))), hS 0 true (Val.Qb p0.list 5 rfl), hP 0 (Q1o i0 (by omega))] [aN (rec x0 (szL hx0) (H.2.1 x0 (Q29 hx0)))] (by kernel_rfl) hr
theorem Qlq (p0 : Val) (H : Q9p p0) (rec : Q6w p0) : ∀ (r0 : List Val) (i0 : Nat), List.drop i0 p0.list = r0 → Q6c p0 (Q9d p0 i0) (Qpm p0 r0 i0)
 | [], i0, hd => by
  have hc0 : (decide ((i0 : Int) < ((List.length p0.list) : Int))) = false := by have := Q1d hd; simp; omega
  show Q6c p0 _ ()
  exact Qse p0 H rec i0 hc0
 | x0 :: r0, i0, hd => by
  obtain ⟨hx0, hi0, hd'⟩ := Q19 hd
  have hc0 : (decide ((i0 : Int) < ((List.length p0.list) : Int))) = true := by simp; omega
  show Q6c p0 _ ()
  exact Qhe p0 (fun r hr => Qrk p0 H rec x0 i0 hx0 hi0 hc0 hr) _ (Qlq p0 H rec r0 (i0 + 1) hd')
def Qfd (p0 : Val) (i1 : Nat) : List PV :=
  nuns 31 ++ [.ms 2 6 0 (List.length p0.fields), .int .i64 ((List.length p0.fields) : Int), .int .i64 (i1 : Int), .bool false]
def Qbz (_p0 : Val) (_i1 : Nat) : List (Nat × List PV) :=
  []
theorem Qsf (p0 : Val) (_H : Q9q p0) (_rec : Q6w p0) (i1 : Nat) (hc1 : (decide ((i1 : Int) < ((List.length p0.fields) : Int))) = false) : Q6d p0 (Q9e p0 i1) () := by
 exact ⟨(envF (Qfd p0 i1)), (zoF (Qbz p0 i1)), Qm (Qoo p0 i1) (x := ((.exit 2), Qea p0 (envF (Qfd p0 i1)) (zoF (Qbz p0 i1)))) [hB 0 hc1] [] (by kernel_rfl)⟩
theorem Qrl (p0 : Val) (H : Q9q p0) (rec : Q6w p0) (x1 : Fld) (i1 : Nat) (hx1 : p0.fields[i1]? = some x1) (hi1 : i1 < List.length p0.fields) (hc1 : (decide ((i1 : Int) < ((List.length p0.fields) : Int))) = true) {r : Rs} (hr : Q7 G (Q9e p0 (i1 + 1)) r) : Q7 G (Q9e p0 i1) r := by
 have hB0 := H.1
 exact Qn (Qoo p0 i1) (y := (Qiv p0 (i1 + 1), Qal p0 (i1 + 1))) [hB 0 hc1, hP 1 (Q2n 2 6 (List.length p0.fields) (i1 : Int) i1 (by omega) (by omega) (by omega)), hP 0 (Q6k 2 6 0 true ((Fld.rows p0.fields).flatten) (Fld.rows p0.fields) 6 true i1 0 (i1 * 6) (Fld.cells x1) (.agg [.str x1.name, .int .i64 x1.v.kind, .int .i64 x1.v.n, .str x1.v.s, .sl (Val.rows x1.v.list), .sl (Fld.rows x1.v.fields)]) rfl rfl (Fld.Qf hx1) (Fld.Qh p0.fields) (by decide) rfl), hP 9 (Q2n 2 6 (List.length p0.fields) (i1 : Int) i1 (by omega) (by omega) (by omega)), hV 1 [(2, Fld.rows p0.fields)] (Qvm 2 6 true ((Fld.rows p0.fields).flatten) (Fld.rows p0.fields) (Fld.rows p0.fields) 5 i1 1 (i1 * 6 + 1) _ (.agg [.int .i64 x1.v.kind, .int .i64 x1.v.n, .str x1.v.s, .sl (Val.rows x1.v.list), .sl (Fld.rows x1.v.fields)]) rfl rfl (Fld.Qf hx1) (Fld.Qh p0.fields) (by decide) rfl rfl (Qnk (Fld.Qf hx1))), hS 0 true (Fld.Qb p0.fields 6 rfl), hP 0 (Q1o i1 (by omega))] [aN (rec x1.v (szF hx1) (H.2.1 x1 (Q29 hx1)))] (by kernel_rfl) hr
theorem Qlr (p0 : Val) (H : Q9q p0) (rec : Q6w p0) : ∀ (r1 : List Fld) (i1 : Nat), List.drop i1 p0.fields = r1 → Q6d p0 (Q9e p0 i1) (Qpn p0 r1 i1)
 | [], i1, hd => by
  have hc1 : (decide ((i1 : Int) < ((List.length p0.fields) : Int))) = false := by have := Q1d hd; simp; omega
  show Q6d p0 _ ()
  exact Qsf p0 H rec i1 hc1
 | x1 :: r1, i1, hd => by
  obtain ⟨hx1, hi1, hd'⟩ := Q19 hd
  have hc1 : (decide ((i1 : Int) < ((List.length p0.fields) : Int))) = true := by simp; omega
  show Q6d p0 _ ()
  exact Qhf p0 (fun r hr => Qrl p0 H rec x1 i1 hx1 hi1 hc1 hr) _ (Qlr p0 H rec r1 (i1 + 1) hd')
theorem Q178 (p0 : Val) (H : Qgw p0) (rec : Q6w p0) : Q7 G (Qww p0) (Qsz p0) := by
  unfold Qsz
  rw [Q167]
  have hl0 := Qlq p0 ((Qaa p0 H).2.1) rec p0.list 0 (by simp)
  obtain ⟨z0, zo0, hl0⟩ := hl0
  have hl1 := Qlr p0 ((Qaa p0 H).2.2.2.1) rec p0.fields 0 (by simp)
  obtain ⟨z1, zo1, hl1⟩ := hl1
  exact Qa (fn := Ir.K18) rfl VOK.nil [hQ (Val.Qb p0.list 5 rfl), hS 0 true (Val.Qb p0.list 5 rfl), hQ (Fld.Qb p0.fields 6 rfl), hS 0 true (Fld.Qb p0.fields 6 rfl), hS 0 true (Val.Qb p0.list 5 rfl), hQ (Val.Q8 p0.list).symm, hQ (Fld.Q8 p0.fields).symm] [aV [(0, Val.rows p0.list)] (Q5i (G := G) (f := 90) (sz := 5) (bytes := 80) rfl (Val.Q8 p0.list) (Val.Qb p0.list 5 rfl) (Qaa p0 H).1), aV [(2, Val.rows p0.list)] hl0, aV [(0, Fld.rows p0.fields)] (Q5i (G := G) (f := 71) (sz := 6) (bytes := 96) rfl (Fld.Q8 p0.fields) (Fld.Qb p0.fields 6 rfl) (Qaa p0 H).2.2.1), aV [(2, Fld.rows p0.fields), (3, Val.rows p0.list)] hl1] (by kernel_rfl)
theorem Q12a : ∀ (k : Nat) (p0 : Val), SizeOf.sizeOf p0 < k → Qgw p0 → Q7 G (Qww p0) (Qsz p0)
  | 0, _, h, _ => absurd h (Nat.not_lt_zero _)
  | k + 1, p0, h, H => Q178 p0 H (fun q hq hH => Q12a k q (by omega) hH)
theorem Q12w (p0 : Val) (H : Qgw p0) : Q7 G (Qww p0) (Qsz p0) := Q12a _ p0 (Nat.lt_succ_self _) H
inductive Qol where
  | k0
  | k1 (q0 : Val)
def Q4k (p0 : Val) (p1 : BA) : List Fld → Nat → Qol
 | [], _i0 =>
  (.k0)
 | x0 :: r0, i0 =>
  bif (sEq x0.name p1) then
   (.k1 x0.v)
  else
   Q4k p0 p1 r0 (i0 + 1)
def Qit (p0 : Val) (p1 : BA) (i0 : Nat) : List PV :=
  [.un, .str p1, .un, .un, .bx 0 0] ++ nuns 7 ++ [.sl (Fld.rows p0.fields), .int .i64 ((List.length p0.fields) : Int), .int .i64 (i0 : Int)] ++ nuns 12
def Qj6 (_p0 : Val) (_p1 : BA) (_i0 : Nat) : List Ob :=
  [⟨5, 0, true, [.int .i64 0, .int .i64 0, .str eB, .ms 1 5 0 0, .ms 2 6 0 0]⟩, ⟨5, 0, true, []⟩, ⟨6, 0, true, []⟩]
def Q7c (p0 : Val) (p1 : BA) (i0 : Nat) : En := .loop 0 Ir.Qb5 Ir.Qy7 (Qit p0 p1 i0) (Qj6 p0 p1 i0)
def Qe6 (_p0 : Val) (_p1 : BA) (z : Nat → PV) (_zo : Nat → List PV) : St :=
  ⟨[z 0, z 1, z 2, z 3, .bx 0 0] ++ zr z 5 22, [(0, ⟨5, 0, true, [.int .i64 0, .int .i64 0, .str eB, .ms 1 5 0 0, .ms 2 6 0 0]⟩), (1, ⟨5, 0, true, []⟩), (2, ⟨6, 0, true, []⟩)], 67⟩
def Qe7 (_p0 : Val) (_p1 : BA) (q0 : Val) (z : Nat → PV) (zo : Nat → List PV) : St :=
  ⟨[z 0, z 1, z 2, z 3, .bx 0 0, .bool true] ++ zr z 6 21, [(0, ⟨5, 0, true, [.int .i64 q0.kind, .int .i64 q0.n, .str q0.s, .sl (Val.rows q0.list), .sl (Fld.rows q0.fields)]⟩), (1, ⟨5, 0, true, zo 1⟩), (2, ⟨6, 0, true, zo 2⟩), (195, ⟨6, 0, true, zo 195⟩)], 899⟩
def Q7k (p0 : Val) (p1 : BA) (e : En) : Qol → Prop
  | .k0 => ∃ z zo, Q7 G e (.st (.exit 0) (Qe6 p0 p1 z zo))
  | .k1 q0 => ∃ z zo, Q7 G e (.st .ret (Qe7 p0 p1 q0 z zo))
theorem Qhd (p0 : Val) (p1 : BA) {e e' : En} (h : ∀ r, Q7 G e r → Q7 G e' r) : ∀ q, Q7k p0 p1 e q → Q7k p0 p1 e' q
  | .k0, ⟨z, zo, hz⟩ => ⟨z, zo, h _ hz⟩
  | .k1 _, ⟨z, zo, hz⟩ => ⟨z, zo, h _ hz⟩
def Q7e (p0 : Val) (_p1 : BA) : Prop := (List.length p0.fields ≤ 4611686018427387904) ∧ (∀ x0 ∈ p0.fields, Qgw x0.v) ∧ True
def Qf9 (p0 : Val) (p1 : BA) (i0 : Nat) : List PV :=
  [.un, .str p1] ++ nuns 10 ++ [.sl (Fld.rows p0.fields), .int .i64 ((List.length p0.fields) : Int), .int .i64 (i0 : Int), .bool false]
def Qbv (_p0 : Val) (_p1 : BA) (_i0 : Nat) : List (Nat × List PV) :=
  []
theorem Qsb (p0 : Val) (p1 : BA) (_H : Q7e p0 p1) (i0 : Nat) (hc0 : (decide ((i0 : Int) < ((List.length p0.fields) : Int))) = false) : Q7k p0 p1 (Q7c p0 p1 i0) (.k0) := by
 exact ⟨(envF (Qf9 p0 p1 i0)), (zoF (Qbv p0 p1 i0)), Qm VOK.nil (x := ((.exit 0), Qe6 p0 p1 (envF (Qf9 p0 p1 i0)) (zoF (Qbv p0 p1 i0)))) [hB 0 hc0] [] (by kernel_rfl)⟩
def Qfa (p0 : Val) (p1 : BA) (i0 : Nat) (x0 : Fld) : List PV :=
  [.un, .str p1] ++ nuns 5 ++ [.bx 195 0, .un, .un, .un, .un, .sl (Fld.rows p0.fields), .int .i64 ((List.length p0.fields) : Int), .int .i64 (i0 : Int), .bool true, .rf [.str x0.name, .int .i64 x0.v.kind, .int .i64 x0.v.n, .str x0.v.s, .sl (Val.rows x0.v.list), .sl (Fld.rows x0.v.fields)], .agg [.str x0.name, .int .i64 x0.v.kind, .int .i64 x0.v.n, .str x0.v.s, .sl (Val.rows x0.v.list), .sl (Fld.rows x0.v.fields)], .bx 195 0, .str x0.name, .str p1, .bool true, .bx 195 1, .agg [.int .i64 x0.v.kind, .int .i64 x0.v.n, .str x0.v.s, .sl (Val.rows x0.v.list), .sl (Fld.rows x0.v.fields)], .agg [.int .i64 x0.v.kind, .int .i64 x0.v.n, .str x0.v.s, .sl (Val.rows x0.v.list), .sl (Fld.rows x0.v.fields)]]
def Qbw (_p0 : Val) (_p1 : BA) (_i0 : Nat) (x0 : Fld) : List (Nat × List PV) :=
  [(1, []), (2, []), (195, [.str x0.name, .int .i64 x0.v.kind, .int .i64 x0.v.n, .str x0.v.s, .sl (Val.rows x0.v.list), .sl (Fld.rows x0.v.fields)])]
theorem Qsc (p0 : Val) (p1 : BA) (H : Q7e p0 p1) (x0 : Fld) (i0 : Nat) (hx0 : p0.fields[i0]? = some x0) (_hi0 : i0 < List.length p0.fields) (hc0 : (decide ((i0 : Int) < ((List.length p0.fields) : Int))) = true) (h0 : (sEq x0.name p1) = true) : Q7k p0 p1 (Q7c p0 p1 i0) (.k1 x0.v) := by
 exact ⟨(envF (Qfa p0 p1 i0 x0)), (zoF (Qbw p0 p1 i0 x0)), Qm VOK.nil (x := (.ret, Qe7 p0 p1 x0.v (envF (Qfa p0 p1 i0 x0)) (zoF (Qbw p0 p1 i0 x0)))) [hB 0 hc0, hP 0 (Q1x 6 (Fld.rows p0.fields) i0 _ (Fld.Qf hx0) rfl), hB 6 h0] [aN (Q12w x0.v (H.2.1 x0 (Q29 hx0)))] (by kernel_rfl)⟩
theorem Qrg (p0 : Val) (p1 : BA) (H : Q7e p0 p1) (x0 : Fld) (i0 : Nat) (hx0 : p0.fields[i0]? = some x0) (hi0 : i0 < List.length p0.fields) (hc0 : (decide ((i0 : Int) < ((List.length p0.fields) : Int))) = true) (h0 : (sEq x0.name p1) = false) {r : Rs} (hr : Q7 G (Q7c p0 p1 (i0 + 1)) r) : Q7 G (Q7c p0 p1 i0) r := by
 have hB0 := H.1
 exact Qn VOK.nil (y := (Qit p0 p1 (i0 + 1), Qj6 p0 p1 (i0 + 1))) [hB 0 hc0, hP 0 (Q1x 6 (Fld.rows p0.fields) i0 _ (Fld.Qf hx0) rfl), hB 6 h0, hP 0 (Q1o i0 (by omega))] [] (by kernel_rfl) hr
theorem Qlp (p0 : Val) (p1 : BA) (H : Q7e p0 p1) : ∀ (r0 : List Fld) (i0 : Nat), List.drop i0 p0.fields = r0 → Q7k p0 p1 (Q7c p0 p1 i0) (Q4k p0 p1 r0 i0)
 | [], i0, hd => by
  have hc0 : (decide ((i0 : Int) < ((List.length p0.fields) : Int))) = false := by have := Q1d hd; simp; omega
  rw [Q4k]
  exact Qsb p0 p1 H i0 hc0
 | x0 :: r0, i0, hd => by
  obtain ⟨hx0, hi0, hd'⟩ := Q19 hd
  have hc0 : (decide ((i0 : Int) < ((List.length p0.fields) : Int))) = true := by simp; omega
  rw [Q4k]
  cases h0 : (sEq x0.name p1) with
  | true =>
   exact Qsc p0 p1 H x0 i0 hx0 hi0 hc0 h0
  | false =>
   exact Qhd p0 p1 (fun r hr => Qrg p0 p1 H x0 i0 hx0 hi0 hc0 h0 hr) _ (Qlp p0 p1 H r0 (i0 + 1) hd')
def Qs2 (p0 : Val) (p1 : BA) : Val × Bool :=
 bif (p0.kind == 5) then
  (match (Q4k p0 p1 p0.fields 0) with
  | .k0 => ((Val.mk 0 0 eB [] []), false)
  | .k1 y1_0 => (y1_0, true))
 else
  ((Val.mk 0 0 eB [] []), false)
def Q153 (p0 : Val) (p1 : BA) : En := .call 80 [.agg (Val.cells p0), .str p1] []
def Q10y (p0 : Val) (p1 : BA) : Rs := .ret (.tup [.agg (Val.cells (Qs2 p0 p1).1), .bool (Qs2 p0 p1).2]) []
def Qyz (p0 : Val) (p1 : BA) : Prop := (Q7e p0 p1) ∧ True
theorem Q17w (p0 : Val) (p1 : BA) (H : Qyz p0 p1) : Q7 G (Q153 p0 p1) (Q10y p0 p1) := by
 unfold Q10y Qs2
 cases h0 : (p0.kind == 5) with
 | true =>
  have hl1 := Qlp p0 p1 (H.1) p0.fields 0 (by simp)
  cases hr1 : (Q4k p0 p1 p0.fields 0) with
  | k0 =>
   rw [hr1] at hl1
   obtain ⟨z1, zo1, hl1⟩ := hl1
   exact Qa (fn := Ir.K13) rfl VOK.nil [hB 5 h0, hP 2 (Qs (Fld.rows p0.fields) (List.length p0.fields) (Fld.Q8 p0.fields))] [aN hl1] (by kernel_rfl)
  | k1 y1_0 =>
   rw [hr1] at hl1
   obtain ⟨z1, zo1, hl1⟩ := hl1
   exact Qa (fn := Ir.K13) rfl VOK.nil [hB 5 h0, hP 2 (Qs (Fld.rows p0.fields) (List.length p0.fields) (Fld.Q8 p0.fields))] [aN hl1] (by kernel_rfl)
 | false =>
  exact Qa (fn := Ir.K13) rfl VOK.nil [hB 5 h0] [] (by kernel_rfl)
end Go.Proofs.Ytbagpdebihicnaa
end

section
/- What building a map computes (printed by a program). -/
namespace Go.Proofs.Ytbagpdebihicnaa
open Go.Pv
def Q102 (p0 : BA) (p1 : BA) : Int :=
 (sCmp p0 p1)
def Q151 (p0 : BA) (p1 : BA) : En := .call 74 [.str p0, .str p1] []
def Q10w (p0 : BA) (p1 : BA) : Rs := .ret (.int .i64 (Q102 p0 p1)) []
theorem Q17u (p0 : BA) (p1 : BA) : Q7 G (Q151 p0 p1) (Q10w p0 p1) := by
 unfold Q10w Q102
 exact Qa (fn := Ir.K11) rfl VOK.nil [] [aN (Qy2 p0 p1)] (by kernel_rfl)
def Qmd (p0 : Fld) (p1 : Fld) : Int :=
 (Q102 p0.name p1.name)
def Q155 (p0 : Fld) (p1 : Fld) : En := .call 73 [.agg (Fld.cells p0), .agg (Fld.cells p1)] []
def Q111 (p0 : Fld) (p1 : Fld) : Rs := .ret (.int .i64 (Qmd p0 p1)) []
theorem Q12u (p0 : Fld) (p1 : Fld) : Q7 G (Q155 p0 p1) (Q111 p0 p1) := by
 unfold Q111 Qmd
 exact Qa (fn := Ir.K16) rfl VOK.nil [] [aN (Q17u p0.name p1.name)] (by kernel_rfl)
abbrev zF : Fld := (Fld.mk eB (Val.mk 0 0 eB [] []))
def Q2d (n0 : Nat) (p1 : Int) (p2 : Int) (v0_0 : Int) : Nat → (List Fld) → Int → List Fld
 | 0, v1_0, _v1_1 => v1_0
 | k1 + 1, v1_0, v1_1 =>
  bif (decide (p1 < v1_1)) then
   bif (decide ((Qmd (List.getD v1_0 (Int.toNat v1_1) zF) (List.getD v1_0 (Int.toNat (v1_1 - 1)) zF)) < 0)) then
    Q2d n0 p1 p2 v0_0 k1 (List.set (List.set v1_0 (Int.toNat v1_1) (List.getD v1_0 (Int.toNat (v1_1 - 1)) zF)) (Int.toNat (v1_1 - 1)) (List.getD v1_0 (Int.toNat v1_1) zF)) (v1_1 - 1)
   else
    v1_0
  else
   v1_0
def Qo7 (n0 : Nat) (p1 : Int) (p2 : Int) (v0_0 : Int) (_v1_0 : List Fld) (v1_1 : Int) : List PV :=
  [.ms 0 6 0 n0, .int .i64 p1, .int .i64 p2, .fn 73 [] [], .un, .un, .un, .un, .int .i64 v0_0, .int .i64 v1_1] ++ nuns 43
def Qgv (_n0 : Nat) (_p1 : Int) (_p2 : Int) (_v0_0 : Int) (v1_0 : List Fld) (_v1_1 : Int) : List Ob :=
  [⟨6, 0, false, (Fld.rows v1_0).flatten⟩]
def Q87 (n0 : Nat) (p1 : Int) (p2 : Int) (v0_0 : Int) (v1_0 : List Fld) (v1_1 : Int) : En := .loop 1 Ir.Qe1 Ir.Q10r (Qo7 n0 p1 p2 v0_0 v1_0 v1_1) (Qgv n0 p1 p2 v0_0 v1_0 v1_1)
def Q7m (n0 : Nat) (p1 : Int) (p2 : Int) (v0_0 : Int) (q0 : List Fld) (z : Nat → PV) (_zo : Nat → List PV) : St :=
  ⟨[.ms 0 6 0 n0, .int .i64 p1, .int .i64 p2, .fn 73 [] [], z 4, z 5, z 6, z 7, .int .i64 v0_0] ++ zr z 9 44, [(0, ⟨6, 0, false, (Fld.rows q0).flatten⟩)], 1089⟩
theorem Qmx (n0 : Nat) (p1 : Int) (p2 : Int) (v0_0 : Int) (v1_0 : List Fld) (v1_1 : Int) : VOK (Go.Pv.look (number 0 (Qgv n0 p1 p2 v0_0 v1_0 v1_1))) [(0, Fld.rows v1_0)] := (VOK.cons (show Seen _ _ from Q3n (ob := ⟨6, 0, false, (Fld.rows v1_0).flatten⟩) (Fld.Qb v1_0 6 rfl)) VOK.nil)
def Qbm (n0 : Nat) (p1 : Int) (p2 : Int) (v0_0 : Int) (e : En) (q : List Fld) : Prop := ∃ z zo, Q7 G e (.st (.exit 2) (Q7m n0 p1 p2 v0_0 q z zo))
theorem Qjr (n0 : Nat) (p1 : Int) (p2 : Int) (v0_0 : Int) {e e' : En} (h : ∀ r, Q7 G e r → Q7 G e' r) : ∀ q, Qbm n0 p1 p2 v0_0 e q → Qbm n0 p1 p2 v0_0 e' q
  | _, ⟨z, zo, hz⟩ => ⟨z, zo, h _ hz⟩
theorem Quz (n0 : Nat) (p1 : Int) (p2 : Int) (v0_0 : Int) (v1_0 : List Fld) (v1_1 : Int) (ho1_0 : 0 ≤ p1) (_ho1_1 : p1 ≤ v1_1) (ho1_2 : v1_1 < n0) (ho1_3 : (n0 : Int) ≤ 20) (ho1_4 : List.length v1_0 = n0) (h0 : (decide (p1 < v1_1)) = true) (h1 : (decide ((Qmd (List.getD v1_0 (Int.toNat v1_1) zF) (List.getD v1_0 (Int.toNat (v1_1 - 1)) zF)) < 0)) = true) {r : Rs} (hr : Q7 G (Q87 n0 p1 p2 v0_0 (List.set (List.set v1_0 (Int.toNat v1_1) (List.getD v1_0 (Int.toNat (v1_1 - 1)) zF)) (Int.toNat (v1_1 - 1)) (List.getD v1_0 (Int.toNat v1_1) zF)) (v1_1 - 1)) r) : Q7 G (Q87 n0 p1 p2 v0_0 v1_0 v1_1) r := by
 have e0 := of_decide_eq_true h0; have e1 := of_decide_eq_true h1
 exact Qn (Qmx n0 p1 p2 v0_0 v1_0 v1_1) (y := (Qo7 n0 p1 p2 v0_0 (List.set (List.set v1_0 (Int.toNat v1_1) (List.getD v1_0 (Int.toNat (v1_1 - 1)) zF)) (Int.toNat (v1_1 - 1)) (List.getD v1_0 (Int.toNat v1_1) zF)) (v1_1 - 1), Qgv n0 p1 p2 v0_0 (List.set (List.set v1_0 (Int.toNat v1_1) (List.getD v1_0 (Int.toNat (v1_1 - 1)) zF)) (Int.toNat (v1_1 - 1)) (List.getD v1_0 (Int.toNat v1_1) zF)) (v1_1 - 1))) [hB 2 h0, hP 4 (Q2n 0 6 n0 v1_1 (Int.toNat v1_1) rfl (by omega) (by omega)), hP 0 (Q6k 0 6 0 false ((Fld.rows v1_0).flatten) (Fld.rows v1_0) 6 true (Int.toNat v1_1) 0 ((Int.toNat v1_1) * 6) (Fld.cells (List.getD v1_0 (Int.toNat v1_1) zF)) (.agg [.str (List.getD v1_0 (Int.toNat v1_1) zF).name, .int .i64 (List.getD v1_0 (Int.toNat v1_1) zF).v.kind, .int .i64 (List.getD v1_0 (Int.toNat v1_1) zF).v.n, .str (List.getD v1_0 (Int.toNat v1_1) zF).v.s, .sl (Val.rows (List.getD v1_0 (Int.toNat v1_1) zF).v.list), .sl (Fld.rows (List.getD v1_0 (Int.toNat v1_1) zF).v.fields)]) rfl rfl (Fld.Qf (Q2u v1_0 (Int.toNat v1_1) zF (by omega))) (Fld.Qh v1_0) (by decide) rfl), hP 2 (w_ok (v1_1 - 1) (by omega)), hP 0 (Q2n 0 6 n0 (v1_1 - 1) (Int.toNat (v1_1 - 1)) rfl (by omega) (by omega)), hP 0 (Q6k 0 6 0 false ((Fld.rows v1_0).flatten) (Fld.rows v1_0) 6 true (Int.toNat (v1_1 - 1)) 0 ((Int.toNat (v1_1 - 1)) * 6) (Fld.cells (List.getD v1_0 (Int.toNat (v1_1 - 1)) zF)) (.agg [.str (List.getD v1_0 (Int.toNat (v1_1 - 1)) zF).name, .int .i64 (List.getD v1_0 (Int.toNat (v1_1 - 1)) zF).v.kind, .int .i64 (List.getD v1_0 (Int.toNat (v1_1 - 1)) zF).v.n, .str (List.getD v1_0 (Int.toNat (v1_1 - 1)) zF).v.s, .sl (Val.rows (List.getD v1_0 (Int.toNat (v1_1 - 1)) zF).v.list), .sl (Fld.rows (List.getD v1_0 (Int.toNat (v1_1 - 1)) zF).v.fields)]) rfl rfl (Fld.Qf (Q2u v1_0 (Int.toNat (v1_1 - 1)) zF (by omega))) (Fld.Qh v1_0) (by decide) rfl), hB 1 h1, hP 5 (w_ok (v1_1 - 1) (by omega)), hP 2 (w_ok (v1_1 - 1) (by omega)), hP 0 (Q2n 0 6 n0 (v1_1 - 1) (Int.toNat (v1_1 - 1)) rfl (by omega) (by omega)), hP 0 (Q6k 0 6 0 false ((Fld.rows v1_0).flatten) (Fld.rows v1_0) 6 true (Int.toNat (v1_1 - 1)) 0 ((Int.toNat (v1_1 - 1)) * 6) (Fld.cells (List.getD v1_0 (Int.toNat (v1_1 - 1)) zF)) (.agg [.str (List.getD v1_0 (Int.toNat (v1_1 - 1)) zF).name, .int .i64 (List.getD v1_0 (Int.toNat (v1_1 - 1)) zF).v.kind, .int .i64 (List.getD v1_0 (Int.toNat (v1_1 - 1)) zF).v.n, .str (List.getD v1_0 (Int.toNat (v1_1 - 1)) zF).v.s, .sl (Val.rows (List.getD v1_0 (Int.toNat (v1_1 - 1)) zF).v.list), .sl (Fld.rows (List.getD v1_0 (Int.toNat (v1_1 - 1)) zF).v.fields)]) rfl rfl (Fld.Qf (Q2u v1_0 (Int.toNat (v1_1 - 1)) zF (by omega))) (Fld.Qh v1_0) (by decide) rfl), hP 2 (Q2n 0 6 n0 v1_1 (Int.toNat v1_1) rfl (by omega) (by omega)), hP 0 (Q6k 0 6 0 false ((Fld.rows v1_0).flatten) (Fld.rows v1_0) 6 true (Int.toNat v1_1) 0 ((Int.toNat v1_1) * 6) (Fld.cells (List.getD v1_0 (Int.toNat v1_1) zF)) (.agg [.str (List.getD v1_0 (Int.toNat v1_1) zF).name, .int .i64 (List.getD v1_0 (Int.toNat v1_1) zF).v.kind, .int .i64 (List.getD v1_0 (Int.toNat v1_1) zF).v.n, .str (List.getD v1_0 (Int.toNat v1_1) zF).v.s, .sl (Val.rows (List.getD v1_0 (Int.toNat v1_1) zF).v.list), .sl (Fld.rows (List.getD v1_0 (Int.toNat v1_1) zF).v.fields)]) rfl rfl (Fld.Qf (Q2u v1_0 (Int.toNat v1_1) zF (by omega))) (Fld.Qh v1_0) (by decide) rfl), hP 0 (Q2n 0 6 n0 v1_1 (Int.toNat v1_1) rfl (by omega) (by omega)), hV 0 [(0, Fld.rows (List.set v1_0 (Int.toNat v1_1) (List.getD v1_0 (Int.toNat (v1_1 - 1)) zF)))] (Qvm 0 6 false ((Fld.rows v1_0).flatten) (Fld.rows v1_0) (Fld.rows (List.set v1_0 (Int.toNat v1_1) (List.getD v1_0 (Int.toNat (v1_1 - 1)) zF))) 6 (Int.toNat v1_1) 0 ((Int.toNat v1_1) * 6) _ (.agg [.str (List.getD v1_0 (Int.toNat (v1_1 - 1)) zF).name, .int .i64 (List.getD v1_0 (Int.toNat (v1_1 - 1)) zF).v.kind, .int .i64 (List.getD v1_0 (Int.toNat (v1_1 - 1)) zF).v.n, .str (List.getD v1_0 (Int.toNat (v1_1 - 1)) zF).v.s, .sl (Val.rows (List.getD v1_0 (Int.toNat (v1_1 - 1)) zF).v.list), .sl (Fld.rows (List.getD v1_0 (Int.toNat (v1_1 - 1)) zF).v.fields)]) rfl rfl (Fld.Qf (Q2u v1_0 (Int.toNat v1_1) zF (by omega))) (Fld.Qh v1_0) (by decide) rfl rfl (Fld.Q2k v1_0 (Int.toNat v1_1) (List.getD v1_0 (Int.toNat (v1_1 - 1)) zF))), hS 0 false (Fld.Qb (List.set v1_0 (Int.toNat v1_1) (List.getD v1_0 (Int.toNat (v1_1 - 1)) zF)) 6 rfl), hP 0 (Q2n 0 6 n0 (v1_1 - 1) (Int.toNat (v1_1 - 1)) rfl (by have f0 := (Q38 ho1_4 (Int.toNat v1_1) (List.getD v1_0 (Int.toNat (v1_1 - 1)) zF)); omega) (by have f0 := (Q38 ho1_4 (Int.toNat v1_1) (List.getD v1_0 (Int.toNat (v1_1 - 1)) zF)); omega)), hV 0 [(0, Fld.rows (List.set (List.set v1_0 (Int.toNat v1_1) (List.getD v1_0 (Int.toNat (v1_1 - 1)) zF)) (Int.toNat (v1_1 - 1)) (List.getD v1_0 (Int.toNat v1_1) zF)))] (Qvm 0 6 false ((Fld.rows (List.set v1_0 (Int.toNat v1_1) (List.getD v1_0 (Int.toNat (v1_1 - 1)) zF))).flatten) (Fld.rows (List.set v1_0 (Int.toNat v1_1) (List.getD v1_0 (Int.toNat (v1_1 - 1)) zF))) (Fld.rows (List.set (List.set v1_0 (Int.toNat v1_1) (List.getD v1_0 (Int.toNat (v1_1 - 1)) zF)) (Int.toNat (v1_1 - 1)) (List.getD v1_0 (Int.toNat v1_1) zF))) 6 (Int.toNat (v1_1 - 1)) 0 ((Int.toNat (v1_1 - 1)) * 6) _ (.agg [.str (List.getD v1_0 (Int.toNat v1_1) zF).name, .int .i64 (List.getD v1_0 (Int.toNat v1_1) zF).v.kind, .int .i64 (List.getD v1_0 (Int.toNat v1_1) zF).v.n, .str (List.getD v1_0 (Int.toNat v1_1) zF).v.s, .sl (Val.rows (List.getD v1_0 (Int.toNat v1_1) zF).v.list), .sl (Fld.rows (List.getD v1_0 (Int.toNat v1_1) zF).v.fields)]) rfl rfl (Fld.Qf (Q2u (List.set v1_0 (Int.toNat v1_1) (List.getD v1_0 (Int.toNat (v1_1 - 1)) zF)) (Int.toNat (v1_1 - 1)) zF (by have f0 := (Q38 ho1_4 (Int.toNat v1_1) (List.getD v1_0 (Int.toNat (v1_1 - 1)) zF)); try simp only [List.length_set]; omega))) (Fld.Qh (List.set v1_0 (Int.toNat v1_1) (List.getD v1_0 (Int.toNat (v1_1 - 1)) zF))) (by decide) rfl rfl (Fld.Q2k (List.set v1_0 (Int.toNat v1_1) (List.getD v1_0 (Int.toNat (v1_1 - 1)) zF)) (Int.toNat (v1_1 - 1)) (List.getD v1_0 (Int.toNat v1_1) zF))), hS 0 false (Fld.Qb (List.set (List.set v1_0 (Int.toNat v1_1) (List.getD v1_0 (Int.toNat (v1_1 - 1)) zF)) (Int.toNat (v1_1 - 1)) (List.getD v1_0 (Int.toNat v1_1) zF)) 6 rfl), hP 1 (w_ok (v1_1 - 1) (by have f0 := (Q38 (Q38 ho1_4 (Int.toNat v1_1) (List.getD v1_0 (Int.toNat (v1_1 - 1)) zF)) (Int.toNat (v1_1 - 1)) (List.getD v1_0 (Int.toNat v1_1) zF)); omega))] [aN (Q12u (List.getD v1_0 (Int.toNat v1_1) zF) (List.getD v1_0 (Int.toNat (v1_1 - 1)) zF))] (by kernel_rfl) hr
def Qkq (n0 : Nat) (p1 : Int) (_p2 : Int) (_v0_0 : Int) (v1_0 : List Fld) (v1_1 : Int) : List PV :=
  nuns 9 ++ [.int .i64 v1_1] ++ nuns 8 ++ [.int .i64 v1_1, .int .i64 p1, .bool true, .bool true, .fn 73 [] [], .ms 0 6 0 n0, .int .i64 v1_1, .bx 0 ((Int.toNat v1_1) * 6), .agg [.str (List.getD v1_0 (Int.toNat v1_1) zF).name, .int .i64 (List.getD v1_0 (Int.toNat v1_1) zF).v.kind, .int .i64 (List.getD v1_0 (Int.toNat v1_1) zF).v.n, .str (List.getD v1_0 (Int.toNat v1_1) zF).v.s, .sl (Val.rows (List.getD v1_0 (Int.toNat v1_1) zF).v.list), .sl (Fld.rows (List.getD v1_0 (Int.toNat v1_1) zF).v.fields)], .ms 0 6 0 n0, .int .i64 v1_1, .int .i64 (v1_1 - 1), .bx 0 ((Int.toNat (v1_1 - 1)) * 6), .agg [.str (List.getD v1_0 (Int.toNat (v1_1 - 1)) zF).name, .int .i64 (List.getD v1_0 (Int.toNat (v1_1 - 1)) zF).v.kind, .int .i64 (List.getD v1_0 (Int.toNat (v1_1 - 1)) zF).v.n, .str (List.getD v1_0 (Int.toNat (v1_1 - 1)) zF).v.s, .sl (Val.rows (List.getD v1_0 (Int.toNat (v1_1 - 1)) zF).v.list), .sl (Fld.rows (List.getD v1_0 (Int.toNat (v1_1 - 1)) zF).v.fields)], .int .i64 (Qmd (List.getD v1_0 (Int.toNat v1_1) zF) (List.getD v1_0 (Int.toNat (v1_1 - 1)) zF)), .bool false, .bool false]
def Qf5 (_n0 : Nat) (_p1 : Int) (_p2 : Int) (_v0_0 : Int) (_v1_0 : List Fld) (_v1_1 : Int) : List (Nat × List PV) :=
  []
theorem Qwg (n0 : Nat) (p1 : Int) (p2 : Int) (v0_0 : Int) (v1_0 : List Fld) (v1_1 : Int) (ho1_0 : 0 ≤ p1) (_ho1_1 : p1 ≤ v1_1) (ho1_2 : v1_1 < n0) (ho1_3 : (n0 : Int) ≤ 20) (ho1_4 : List.length v1_0 = n0) (h0 : (decide (p1 < v1_1)) = true) (h1 : (decide ((Qmd (List.getD v1_0 (Int.toNat v1_1) zF) (List.getD v1_0 (Int.toNat (v1_1 - 1)) zF)) < 0)) = false) : Qbm n0 p1 p2 v0_0 (Q87 n0 p1 p2 v0_0 v1_0 v1_1) v1_0 := by
 have e0 := of_decide_eq_true h0; have e1 := of_decide_eq_false h1
 exact ⟨(envF (Qkq n0 p1 p2 v0_0 v1_0 v1_1)), (zoF (Qf5 n0 p1 p2 v0_0 v1_0 v1_1)), Qm (Qmx n0 p1 p2 v0_0 v1_0 v1_1) (x := ((.exit 2), Q7m n0 p1 p2 v0_0 v1_0 (envF (Qkq n0 p1 p2 v0_0 v1_0 v1_1)) (zoF (Qf5 n0 p1 p2 v0_0 v1_0 v1_1)))) [hB 2 h0, hP 4 (Q2n 0 6 n0 v1_1 (Int.toNat v1_1) rfl (by omega) (by omega)), hP 0 (Q6k 0 6 0 false ((Fld.rows v1_0).flatten) (Fld.rows v1_0) 6 true (Int.toNat v1_1) 0 ((Int.toNat v1_1) * 6) (Fld.cells (List.getD v1_0 (Int.toNat v1_1) zF)) (.agg [.str (List.getD v1_0 (Int.toNat v1_1) zF).name, .int .i64 (List.getD v1_0 (Int.toNat v1_1) zF).v.kind, .int .i64 (List.getD v1_0 (Int.toNat v1_1) zF).v.n, .str (List.getD v1_0 (Int.toNat v1_1) zF).v.s, .sl (Val.rows (List.getD v1_0 (Int.toNat v1_1) zF).v.list), .sl (Fld.rows (List.getD v1_0 (Int.toNat v1_1) zF).v.fields)]) rfl rfl (Fld.Qf (Q2u v1_0 (Int.toNat v1_1) zF (by omega))) (Fld.Qh v1_0) (by decide) rfl), hP 2 (w_ok (v1_1 - 1) (by omega)), hP 0 (Q2n 0 6 n0 (v1_1 - 1) (Int.toNat (v1_1 - 1)) rfl (by omega) (by omega)), hP 0 (Q6k 0 6 0 false ((Fld.rows v1_0).flatten) (Fld.rows v1_0) 6 true (Int.toNat (v1_1 - 1)) 0 ((Int.toNat (v1_1 - 1)) * 6) (Fld.cells (List.getD v1_0 (Int.toNat (v1_1 - 1)) zF)) (.agg [.str (List.getD v1_0 (Int.toNat (v1_1 - 1)) zF).name, .int .i64 (List.getD v1_0 (Int.toNat (v1_1 - 1)) zF).v.kind, .int .i64 (List.getD v1_0 (Int.toNat (v1_1 - 1)) zF).v.n, .str (List.getD v1_0 (Int.toNat (v1_1 - 1)) zF).v.s, .sl (Val.rows (List.getD v1_0 (Int.toNat (v1_1 - 1)) zF).v.list), .sl (Fld.rows (List.getD v1_0 (Int.toNat (v1_1 - 1)) zF).v.fields)]) rfl rfl (Fld.Qf (Q2u v1_0 (Int.toNat (v1_1 - 1)) zF (by omega))) (Fld.Qh v1_0) (by decide) rfl), hB 1 h1] [aN (Q12u (List.getD v1_0 (Int.toNat v1_1) zF) (List.getD v1_0 (Int.toNat (v1_1 - 1)) zF))] (by kernel_rfl)⟩
def Qkr (_n0 : Nat) (p1 : Int) (_p2 : Int) (_v0_0 : Int) (_v1_0 : List Fld) (v1_1 : Int) : List PV :=
  nuns 9 ++ [.int .i64 v1_1] ++ nuns 8 ++ [.int .i64 v1_1, .int .i64 p1, .bool false, .bool false, .tup [], .tup [], .tup [], .tup [], .tup [], .tup [], .tup [], .tup [], .tup [], .tup [], .tup [], .tup [], .bool false]
def Qf6 (_n0 : Nat) (_p1 : Int) (_p2 : Int) (_v0_0 : Int) (_v1_0 : List Fld) (_v1_1 : Int) : List (Nat × List PV) :=
  []
theorem Qwh (n0 : Nat) (p1 : Int) (p2 : Int) (v0_0 : Int) (v1_0 : List Fld) (v1_1 : Int) (_ho1_0 : 0 ≤ p1) (_ho1_1 : p1 ≤ v1_1) (_ho1_2 : v1_1 < n0) (_ho1_3 : (n0 : Int) ≤ 20) (_ho1_4 : List.length v1_0 = n0) (h0 : (decide (p1 < v1_1)) = false) : Qbm n0 p1 p2 v0_0 (Q87 n0 p1 p2 v0_0 v1_0 v1_1) v1_0 := by
 exact ⟨(envF (Qkr n0 p1 p2 v0_0 v1_0 v1_1)), (zoF (Qf6 n0 p1 p2 v0_0 v1_0 v1_1)), Qm (Qmx n0 p1 p2 v0_0 v1_0 v1_1) (x := ((.exit 2), Q7m n0 p1 p2 v0_0 v1_0 (envF (Qkr n0 p1 p2 v0_0 v1_0 v1_1)) (zoF (Qf6 n0 p1 p2 v0_0 v1_0 v1_1)))) [hB 2 h0] [] (by kernel_rfl)⟩
theorem Qq8 (n0 : Nat) (p1 : Int) (p2 : Int) (v0_0 : Int) : ∀ (k1 : Nat) (v1_0 : List Fld) (v1_1 : Int), 0 ≤ p1 → p1 ≤ v1_1 → v1_1 < n0 → (n0 : Int) ≤ 20 → List.length v1_0 = n0 → Int.toNat v1_1 < k1 → Qbm n0 p1 p2 v0_0 (Q87 n0 p1 p2 v0_0 v1_0 v1_1) (Q2d n0 p1 p2 v0_0 k1 v1_0 v1_1)
 | 0, v1_0, v1_1, _, _, _, _, _, hm => absurd hm (Nat.not_lt_zero _)
 | k1 + 1, v1_0, v1_1, ho1_0, ho1_1, ho1_2, ho1_3, ho1_4, hm => by
  rw [Q2d]
  cases h0 : (decide (p1 < v1_1)) with
  | true =>
   have e0 := of_decide_eq_true h0
   cases h1 : (decide ((Qmd (List.getD v1_0 (Int.toNat v1_1) zF) (List.getD v1_0 (Int.toNat (v1_1 - 1)) zF)) < 0)) with
   | true =>
    have e1 := of_decide_eq_true h1
    exact Qjr n0 p1 p2 v0_0 (fun r hr => Quz n0 p1 p2 v0_0 v1_0 v1_1 ho1_0 ho1_1 ho1_2 ho1_3 ho1_4 h0 h1 hr) _ (Qq8 n0 p1 p2 v0_0 k1 (List.set (List.set v1_0 (Int.toNat v1_1) (List.getD v1_0 (Int.toNat (v1_1 - 1)) zF)) (Int.toNat (v1_1 - 1)) (List.getD v1_0 (Int.toNat v1_1) zF)) (v1_1 - 1) (by have f0 := (Q38 (Q38 ho1_4 (Int.toNat v1_1) (List.getD v1_0 (Int.toNat (v1_1 - 1)) zF)) (Int.toNat (v1_1 - 1)) (List.getD v1_0 (Int.toNat v1_1) zF)); omega) (by have f0 := (Q38 (Q38 ho1_4 (Int.toNat v1_1) (List.getD v1_0 (Int.toNat (v1_1 - 1)) zF)) (Int.toNat (v1_1 - 1)) (List.getD v1_0 (Int.toNat v1_1) zF)); omega) (by have f0 := (Q38 (Q38 ho1_4 (Int.toNat v1_1) (List.getD v1_0 (Int.toNat (v1_1 - 1)) zF)) (Int.toNat (v1_1 - 1)) (List.getD v1_0 (Int.toNat v1_1) zF)); omega) (by have f0 := (Q38 (Q38 ho1_4 (Int.toNat v1_1) (List.getD v1_0 (Int.toNat (v1_1 - 1)) zF)) (Int.toNat (v1_1 - 1)) (List.getD v1_0 (Int.toNat v1_1) zF)); omega) (Q38 (Q38 ho1_4 (Int.toNat v1_1) (List.getD v1_0 (Int.toNat (v1_1 - 1)) zF)) (Int.toNat (v1_1 - 1)) (List.getD v1_0 (Int.toNat v1_1) zF)) (by have f0 := (Q38 (Q38 ho1_4 (Int.toNat v1_1) (List.getD v1_0 (Int.toNat (v1_1 - 1)) zF)) (Int.toNat (v1_1 - 1)) (List.getD v1_0 (Int.toNat v1_1) zF)); omega))
   | false =>
    exact Qwg n0 p1 p2 v0_0 v1_0 v1_1 ho1_0 ho1_1 ho1_2 ho1_3 ho1_4 h0 h1
  | false =>
   exact Qwh n0 p1 p2 v0_0 v1_0 v1_1 ho1_0 ho1_1 ho1_2 ho1_3 ho1_4 h0
theorem Q2f (n0 : Nat) (p1 : Int) (p2 : Int) (v0_0 : Int) : ∀ (k1 : Nat) (v1_0 : List Fld) (v1_1 : Int), List.length v1_0 = n0 → List.length (Q2d n0 p1 p2 v0_0 k1 v1_0 v1_1) = n0
 | 0, v1_0, v1_1, ho1_4 => by rw [Q2d]; exact ho1_4
 | k1 + 1, v1_0, v1_1, ho1_4 => by
  rw [Q2d]
  cases h0 : (decide (p1 < v1_1)) with
  | true =>
   cases h1 : (decide ((Qmd (List.getD v1_0 (Int.toNat v1_1) zF) (List.getD v1_0 (Int.toNat (v1_1 - 1)) zF)) < 0)) with
   | true =>
    exact Q2f n0 p1 p2 v0_0 k1 (List.set (List.set v1_0 (Int.toNat v1_1) (List.getD v1_0 (Int.toNat (v1_1 - 1)) zF)) (Int.toNat (v1_1 - 1)) (List.getD v1_0 (Int.toNat v1_1) zF)) (v1_1 - 1) (Q38 (Q38 ho1_4 (Int.toNat v1_1) (List.getD v1_0 (Int.toNat (v1_1 - 1)) zF)) (Int.toNat (v1_1 - 1)) (List.getD v1_0 (Int.toNat v1_1) zF))
   | false =>
    exact ho1_4
  | false =>
   exact ho1_4
def Q3f (n0 : Nat) (p1 : Int) (p2 : Int) : Nat → Int → (List Fld) → List Fld
 | 0, _v0_0, v0_1 => v0_1
 | k0 + 1, v0_0, v0_1 =>
  bif (decide (v0_0 < p2)) then
   Q3f n0 p1 p2 k0 (v0_0 + 1) (Q2d n0 p1 p2 v0_0 ((Int.toNat v0_0) + 1) v0_1 v0_0)
  else
   v0_1
def Qo6 (n0 : Nat) (p1 : Int) (p2 : Int) (v0_0 : Int) (_v0_1 : List Fld) : List PV :=
  [.ms 0 6 0 n0, .int .i64 p1, .int .i64 p2, .fn 73 [] [], .un, .un, .un, .un, .int .i64 v0_0] ++ nuns 44
def Qgu (_n0 : Nat) (_p1 : Int) (_p2 : Int) (_v0_0 : Int) (v0_1 : List Fld) : List Ob :=
  [⟨6, 0, false, (Fld.rows v0_1).flatten⟩]
def Qgn (n0 : Nat) (p1 : Int) (p2 : Int) (v0_0 : Int) (v0_1 : List Fld) : En := .loop 1 Ir.Qe0 Ir.Q10q (Qo6 n0 p1 p2 v0_0 v0_1) (Qgu n0 p1 p2 v0_0 v0_1)
def Qk4 (_n0 : Nat) (_p1 : Int) (_p2 : Int) (q0 : List Fld) (z : Nat → PV) (_zo : Nat → List PV) : St :=
  ⟨zr z 0 53, [(0, ⟨6, 0, false, (Fld.rows q0).flatten⟩)], 193⟩
theorem Qsw (n0 : Nat) (p1 : Int) (p2 : Int) (v0_0 : Int) (v0_1 : List Fld) : VOK (Go.Pv.look (number 0 (Qgu n0 p1 p2 v0_0 v0_1))) [(0, Fld.rows v0_1)] := (VOK.cons (show Seen _ _ from Q3n (ob := ⟨6, 0, false, (Fld.rows v0_1).flatten⟩) (Fld.Qb v0_1 6 rfl)) VOK.nil)
def Qhu (n0 : Nat) (p1 : Int) (p2 : Int) (e : En) (q : List Fld) : Prop := ∃ z zo, Q7 G e (.st (.exit 0) (Qk4 n0 p1 p2 q z zo))
theorem Qjq (n0 : Nat) (p1 : Int) (p2 : Int) {e e' : En} (h : ∀ r, Q7 G e r → Q7 G e' r) : ∀ q, Qhu n0 p1 p2 e q → Qhu n0 p1 p2 e' q
  | _, ⟨z, zo, hz⟩ => ⟨z, zo, h _ hz⟩
theorem Quy (n0 : Nat) (p1 : Int) (p2 : Int) (v0_0 : Int) (v0_1 : List Fld) (ho0_0 : 0 ≤ p1) (ho0_1 : p1 < v0_0) (ho0_2 : p2 ≤ n0) (ho0_3 : (n0 : Int) ≤ 20) (ho0_4 : List.length v0_1 = n0) (h0 : (decide (v0_0 < p2)) = true) (z1 : Nat → PV) (zo1 : Nat → List PV) (hl1 : Q7 G (Q87 n0 p1 p2 v0_0 v0_1 v0_0) (.st (.exit 2) (Q7m n0 p1 p2 v0_0 (Q2d n0 p1 p2 v0_0 ((Int.toNat v0_0) + 1) v0_1 v0_0) z1 zo1))) {r : Rs} (hr : Q7 G (Qgn n0 p1 p2 (v0_0 + 1) (Q2d n0 p1 p2 v0_0 ((Int.toNat v0_0) + 1) v0_1 v0_0)) r) : Q7 G (Qgn n0 p1 p2 v0_0 v0_1) r := by
 have e0 := of_decide_eq_true h0
 exact Qn (Qsw n0 p1 p2 v0_0 v0_1) (y := (Qo6 n0 p1 p2 (v0_0 + 1) (Q2d n0 p1 p2 v0_0 ((Int.toNat v0_0) + 1) v0_1 v0_0), Qgu n0 p1 p2 (v0_0 + 1) (Q2d n0 p1 p2 v0_0 ((Int.toNat v0_0) + 1) v0_1 v0_0))) [hB 2 h0, hS 0 false (Fld.Qb (Q2d n0 p1 p2 v0_0 ((Int.toNat v0_0) + 1) v0_1 v0_0) 6 rfl), hP 3 (w_ok (v0_0 + 1) (by have f0 := (Q2f n0 p1 p2 v0_0 ((Int.toNat v0_0) + 1) v0_1 v0_0 ho0_4); omega))] [aV [(0, Fld.rows (Q2d n0 p1 p2 v0_0 ((Int.toNat v0_0) + 1) v0_1 v0_0))] hl1] (by kernel_rfl) hr
def Qkp (n0 : Nat) (p1 : Int) (p2 : Int) (v0_0 : Int) (_v0_1 : List Fld) : List PV :=
  [.ms 0 6 0 n0, .int .i64 p1, .int .i64 p2, .fn 73 [] [], .un, .un, .un, .un, .int .i64 v0_0, .un, .un, .un, .int .i64 v0_0, .int .i64 p2, .bool false]
def Qf4 (_n0 : Nat) (_p1 : Int) (_p2 : Int) (_v0_0 : Int) (_v0_1 : List Fld) : List (Nat × List PV) :=
  []
theorem Qwf (n0 : Nat) (p1 : Int) (p2 : Int) (v0_0 : Int) (v0_1 : List Fld) (_ho0_0 : 0 ≤ p1) (_ho0_1 : p1 < v0_0) (_ho0_2 : p2 ≤ n0) (_ho0_3 : (n0 : Int) ≤ 20) (_ho0_4 : List.length v0_1 = n0) (h0 : (decide (v0_0 < p2)) = false) : Qhu n0 p1 p2 (Qgn n0 p1 p2 v0_0 v0_1) v0_1 := by
 exact ⟨(envF (Qkp n0 p1 p2 v0_0 v0_1)), (zoF (Qf4 n0 p1 p2 v0_0 v0_1)), Qm (Qsw n0 p1 p2 v0_0 v0_1) (x := ((.exit 0), Qk4 n0 p1 p2 v0_1 (envF (Qkp n0 p1 p2 v0_0 v0_1)) (zoF (Qf4 n0 p1 p2 v0_0 v0_1)))) [hB 2 h0] [] (by kernel_rfl)⟩
theorem Qq7 (n0 : Nat) (p1 : Int) (p2 : Int) : ∀ (k0 : Nat) (v0_0 : Int) (v0_1 : List Fld), 0 ≤ p1 → p1 < v0_0 → p2 ≤ n0 → (n0 : Int) ≤ 20 → List.length v0_1 = n0 → Int.toNat (p2 - v0_0) < k0 → Qhu n0 p1 p2 (Qgn n0 p1 p2 v0_0 v0_1) (Q3f n0 p1 p2 k0 v0_0 v0_1)
 | 0, v0_0, v0_1, _, _, _, _, _, hm => absurd hm (Nat.not_lt_zero _)
 | k0 + 1, v0_0, v0_1, ho0_0, ho0_1, ho0_2, ho0_3, ho0_4, hm => by
  rw [Q3f]
  cases h0 : (decide (v0_0 < p2)) with
  | true =>
   have e0 := of_decide_eq_true h0
   have hl1 := Qq8 n0 p1 p2 v0_0 ((Int.toNat v0_0) + 1) v0_1 v0_0 (by omega) (by omega) (by omega) (by omega) ho0_4 (by omega)
   obtain ⟨z1, zo1, hl1⟩ := hl1
   exact Qjq n0 p1 p2 (fun r hr => Quy n0 p1 p2 v0_0 v0_1 ho0_0 ho0_1 ho0_2 ho0_3 ho0_4 h0 z1 zo1 hl1 hr) _ (Qq7 n0 p1 p2 k0 (v0_0 + 1) (Q2d n0 p1 p2 v0_0 ((Int.toNat v0_0) + 1) v0_1 v0_0) (by have f0 := (Q2f n0 p1 p2 v0_0 ((Int.toNat v0_0) + 1) v0_1 v0_0 ho0_4); omega) (by have f0 := (Q2f n0 p1 p2 v0_0 ((Int.toNat v0_0) + 1) v0_1 v0_0 ho0_4); omega) (by have f0 := (Q2f n0 p1 p2 v0_0 ((Int.toNat v0_0) + 1) v0_1 v0_0 ho0_4); omega) (by have f0 := (Q2f n0 p1 p2 v0_0 ((Int.toNat v0_0) + 1) v0_1 v0_0 ho0_4); omega) (Q2f n0 p1 p2 v0_0 ((Int.toNat v0_0) + 1) v0_1 v0_0 ho0_4) (by have f0 := (Q2f n0 p1 p2 v0_0 ((Int.toNat v0_0) + 1) v0_1 v0_0 ho0_4); omega))
  | false =>
   exact Qwf n0 p1 p2 v0_0 v0_1 ho0_0 ho0_1 ho0_2 ho0_3 ho0_4 h0
theorem Q8m (n0 : Nat) (p1 : Int) (p2 : Int) : ∀ (k0 : Nat) (v0_0 : Int) (v0_1 : List Fld), List.length v0_1 = n0 → List.length (Q3f n0 p1 p2 k0 v0_0 v0_1) = n0
 | 0, v0_0, v0_1, ho0_4 => by rw [Q3f]; exact ho0_4
 | k0 + 1, v0_0, v0_1, ho0_4 => by
  rw [Q3f]
  cases h0 : (decide (v0_0 < p2)) with
  | true =>
   exact Q8m n0 p1 p2 k0 (v0_0 + 1) (Q2d n0 p1 p2 v0_0 ((Int.toNat v0_0) + 1) v0_1 v0_0) (Q2f n0 p1 p2 v0_0 ((Int.toNat v0_0) + 1) v0_1 v0_0 ho0_4)
  | false =>
   exact ho0_4
def Q1l (n0 : Nat) (p0 : List Fld) (p1 : Int) (p2 : Int) : List Fld :=
 (Q3f n0 p1 p2 ((Int.toNat (p2 - (p1 + 1))) + 1) (p1 + 1) p0)
def Qwy (n0 : Nat) (p0 : List Fld) (p1 : Int) (p2 : Int) : En := .call 98 [.ms 0 6 0 n0, .int .i64 p1, .int .i64 p2, .fn 73 [] []] [⟨6, 0, false, (Fld.rows p0).flatten⟩]
def Qp0 (n0 : Nat) (p0 : List Fld) (p1 : Int) (p2 : Int) : Rs := .ret (.tup []) [⟨6, 0, false, (Fld.rows (Q1l n0 p0 p1 p2)).flatten⟩]
theorem Q16 (n0 : Nat) (p0 : List Fld) (p1 : Int) (p2 : Int) (hn : List.length p0 = n0) : List.length (Q1l n0 p0 p1 p2) = n0 := by
 unfold Q1l
 have hz0_0 : List.length (Q3f n0 p1 p2 ((Int.toNat (p2 - (p1 + 1))) + 1) (p1 + 1) p0) = n0 := Q8m n0 p1 p2 ((Int.toNat (p2 - (p1 + 1))) + 1) (p1 + 1) p0 hn
 obtain ⟨R0, eR0⟩ : ∃ R, (Q3f n0 p1 p2 ((Int.toNat (p2 - (p1 + 1))) + 1) (p1 + 1) p0) = R := ⟨_, rfl⟩
 rw [eR0] at hz0_0 ⊢
 exact hz0_0
theorem Qqn (n0 : Nat) (p0 : List Fld) (p1 : Int) (p2 : Int) (hn : List.length p0 = n0) (hq0 : 0 ≤ p1 ∧ p1 ≤ p2 ∧ p2 ≤ n0 ∧ (n0 : Int) ≤ 20) : Q7 G (Qwy n0 p0 p1 p2) (Qp0 n0 p0 p1 p2) := by
 unfold Qp0 Q1l
 have hl0 := Qq7 n0 p1 p2 ((Int.toNat (p2 - (p1 + 1))) + 1) (p1 + 1) p0 (by omega) (by omega) (by omega) (by omega) hn (by omega)
 have hz0_0 : List.length (Q3f n0 p1 p2 ((Int.toNat (p2 - (p1 + 1))) + 1) (p1 + 1) p0) = n0 := Q8m n0 p1 p2 ((Int.toNat (p2 - (p1 + 1))) + 1) (p1 + 1) p0 hn
 obtain ⟨R0, eR0⟩ : ∃ R, (Q3f n0 p1 p2 ((Int.toNat (p2 - (p1 + 1))) + 1) (p1 + 1) p0) = R := ⟨_, rfl⟩
 rw [eR0] at hz0_0 hl0 ⊢
 obtain ⟨z0, zo0, hl0⟩ := hl0
 exact Qa (fn := Ir.Kz) rfl (vk1 (Fld.Qb p0 6 rfl)) [hP 1 (w_ok (p1 + 1) (by omega)), hS 0 false (Fld.Qb R0 6 rfl)] [aV [(0, Fld.rows R0)] hl0] (by kernel_rfl)
def Q1r (n0 : Nat) (p1 : Int) : Nat → (List Fld) → Int → Int → (List Fld) × Int
 | 0, v0_0, v0_1, _v0_2 => (v0_0, v0_1)
 | k0 + 1, v0_0, v0_1, v0_2 =>
  bif (decide (v0_2 ≤ p1)) then
   Q1r n0 p1 k0 (Q1l n0 v0_0 v0_1 v0_2) v0_2 (v0_2 + 20)
  else
   (v0_0, v0_1)
def Qis (n0 : Nat) (p1 : Int) (_v0_0 : List Fld) (v0_1 : Int) (v0_2 : Int) : List PV :=
  [.ms 0 6 0 n0, .int .i64 p1, .fn 73 [] [], .un, .un, .un, .int .i64 20, .int .i64 v0_1, .int .i64 v0_2] ++ nuns 54
def Qaj (_n0 : Nat) (_p1 : Int) (v0_0 : List Fld) (_v0_1 : Int) (_v0_2 : Int) : List Ob :=
  [⟨6, 0, false, (Fld.rows v0_0).flatten⟩]
def Q9c (n0 : Nat) (p1 : Int) (v0_0 : List Fld) (v0_1 : Int) (v0_2 : Int) : En := .loop 1 Ir.Qb3 Ir.Qy5 (Qis n0 p1 v0_0 v0_1 v0_2) (Qaj n0 p1 v0_0 v0_1 v0_2)
def Qe4 (n0 : Nat) (p1 : Int) (q0 : List Fld) (q1 : Int) (z : Nat → PV) (_zo : Nat → List PV) : St :=
  ⟨[.ms 0 6 0 n0, .int .i64 p1, .fn 73 [] [], z 3, z 4, z 5, .int .i64 20, .int .i64 q1] ++ zr z 8 55, [(0, ⟨6, 0, false, (Fld.rows q0).flatten⟩)], 193⟩
theorem Qom (n0 : Nat) (p1 : Int) (v0_0 : List Fld) (v0_1 : Int) (v0_2 : Int) : VOK (Go.Pv.look (number 0 (Qaj n0 p1 v0_0 v0_1 v0_2))) [(0, Fld.rows v0_0)] := (VOK.cons (show Seen _ _ from Q3n (ob := ⟨6, 0, false, (Fld.rows v0_0).flatten⟩) (Fld.Qb v0_0 6 rfl)) VOK.nil)
def Q9w (n0 : Nat) (p1 : Int) (e : En) (q : (List Fld) × Int) : Prop := ∃ z zo, Q7 G e (.st (.exit 0) (Qe4 n0 p1 q.1 q.2 z zo))
theorem Qhc (n0 : Nat) (p1 : Int) {e e' : En} (h : ∀ r, Q7 G e r → Q7 G e' r) : ∀ q, Q9w n0 p1 e q → Q9w n0 p1 e' q
  | _, ⟨z, zo, hz⟩ => ⟨z, zo, h _ hz⟩
theorem Qrf (n0 : Nat) (p1 : Int) (v0_0 : List Fld) (v0_1 : Int) (v0_2 : Int) (ho0_0 : 0 ≤ v0_1) (_ho0_1 : v0_1 ≤ n0) (ho0_2 : v0_1 + 20 = v0_2) (ho0_3 : p1 = n0) (ho0_4 : (n0 : Int) ≤ 20) (ho0_5 : List.length v0_0 = n0) (h0 : (decide (v0_2 ≤ p1)) = true) {r : Rs} (hr : Q7 G (Q9c n0 p1 (Q1l n0 v0_0 v0_1 v0_2) v0_2 (v0_2 + 20)) r) : Q7 G (Q9c n0 p1 v0_0 v0_1 v0_2) r := by
 have e0 := of_decide_eq_true h0
 exact Qn (Qom n0 p1 v0_0 v0_1 v0_2) (y := (Qis n0 p1 (Q1l n0 v0_0 v0_1 v0_2) v0_2 (v0_2 + 20), Qaj n0 p1 (Q1l n0 v0_0 v0_1 v0_2) v0_2 (v0_2 + 20))) [hB 2 h0, hQ (Fld.Qb (Q1l n0 v0_0 v0_1 v0_2) 6 rfl), hP 9 (w_ok (v0_2 + 20) (by have f0 := (Q16 n0 v0_0 v0_1 v0_2 ho0_5); omega))] [aV [(0, Fld.rows (Q1l n0 v0_0 v0_1 v0_2))] (Qqn n0 v0_0 v0_1 v0_2 ho0_5 (by omega))] (by kernel_rfl) hr
def Qf7 (_n0 : Nat) (p1 : Int) (_v0_0 : List Fld) (_v0_1 : Int) (v0_2 : Int) : List PV :=
  nuns 8 ++ [.int .i64 v0_2, .un, .un, .int .i64 v0_2, .int .i64 p1, .bool false]
def Qbt (_n0 : Nat) (_p1 : Int) (_v0_0 : List Fld) (_v0_1 : Int) (_v0_2 : Int) : List (Nat × List PV) :=
  []
theorem Qs9 (n0 : Nat) (p1 : Int) (v0_0 : List Fld) (v0_1 : Int) (v0_2 : Int) (_ho0_0 : 0 ≤ v0_1) (_ho0_1 : v0_1 ≤ n0) (_ho0_2 : v0_1 + 20 = v0_2) (_ho0_3 : p1 = n0) (_ho0_4 : (n0 : Int) ≤ 20) (_ho0_5 : List.length v0_0 = n0) (h0 : (decide (v0_2 ≤ p1)) = false) : Q9w n0 p1 (Q9c n0 p1 v0_0 v0_1 v0_2) (v0_0, v0_1) := by
 exact ⟨(envF (Qf7 n0 p1 v0_0 v0_1 v0_2)), (zoF (Qbt n0 p1 v0_0 v0_1 v0_2)), Qm (Qom n0 p1 v0_0 v0_1 v0_2) (x := ((.exit 0), Qe4 n0 p1 v0_0 v0_1 (envF (Qf7 n0 p1 v0_0 v0_1 v0_2)) (zoF (Qbt n0 p1 v0_0 v0_1 v0_2)))) [hB 2 h0] [] (by kernel_rfl)⟩
theorem Qlo (n0 : Nat) (p1 : Int) : ∀ (k0 : Nat) (v0_0 : List Fld) (v0_1 : Int) (v0_2 : Int), 0 ≤ v0_1 → v0_1 ≤ n0 → v0_1 + 20 = v0_2 → p1 = n0 → (n0 : Int) ≤ 20 → List.length v0_0 = n0 → Int.toNat (p1 + 20 - v0_2) < k0 → Q9w n0 p1 (Q9c n0 p1 v0_0 v0_1 v0_2) (Q1r n0 p1 k0 v0_0 v0_1 v0_2)
 | 0, v0_0, v0_1, v0_2, _, _, _, _, _, _, hm => absurd hm (Nat.not_lt_zero _)
 | k0 + 1, v0_0, v0_1, v0_2, ho0_0, ho0_1, ho0_2, ho0_3, ho0_4, ho0_5, hm => by
  rw [Q1r]
  cases h0 : (decide (v0_2 ≤ p1)) with
  | true =>
   have e0 := of_decide_eq_true h0
   exact Qhc n0 p1 (fun r hr => Qrf n0 p1 v0_0 v0_1 v0_2 ho0_0 ho0_1 ho0_2 ho0_3 ho0_4 ho0_5 h0 hr) _ (Qlo n0 p1 k0 (Q1l n0 v0_0 v0_1 v0_2) v0_2 (v0_2 + 20) (by have f0 := (Q16 n0 v0_0 v0_1 v0_2 ho0_5); omega) (by have f0 := (Q16 n0 v0_0 v0_1 v0_2 ho0_5); omega) (by have f0 := (Q16 n0 v0_0 v0_1 v0_2 ho0_5); omega) (by have f0 := (Q16 n0 v0_0 v0_1 v0_2 ho0_5); omega) (by have f0 := (Q16 n0 v0_0 v0_1 v0_2 ho0_5); omega) (Q16 n0 v0_0 v0_1 v0_2 ho0_5) (by have f0 := (Q16 n0 v0_0 v0_1 v0_2 ho0_5); omega))
  | false =>
   exact Qs9 n0 p1 v0_0 v0_1 v0_2 ho0_0 ho0_1 ho0_2 ho0_3 ho0_4 ho0_5 h0
theorem Q72 (n0 : Nat) (p1 : Int) : ∀ (k0 : Nat) (v0_0 : List Fld) (v0_1 : Int) (v0_2 : Int), List.length v0_0 = n0 → List.length (Q1r n0 p1 k0 v0_0 v0_1 v0_2).1 = n0
 | 0, v0_0, v0_1, v0_2, ho0_5 => by rw [Q1r]; exact ho0_5
 | k0 + 1, v0_0, v0_1, v0_2, ho0_5 => by
  rw [Q1r]
  cases h0 : (decide (v0_2 ≤ p1)) with
  | true =>
   exact Q72 n0 p1 k0 (Q1l n0 v0_0 v0_1 v0_2) v0_2 (v0_2 + 20) (Q16 n0 v0_0 v0_1 v0_2 ho0_5)
  | false =>
   exact ho0_5
theorem Qm6 (n0 : Nat) (p1 : Int) : ∀ (k0 : Nat) (v0_0 : List Fld) (v0_1 : Int) (v0_2 : Int), 0 ≤ v0_1 → v0_1 ≤ n0 → v0_1 + 20 = v0_2 → p1 = n0 → (n0 : Int) ≤ 20 → List.length v0_0 = n0 → Int.toNat (p1 + 20 - v0_2) < k0 → 0 ≤ (Q1r n0 p1 k0 v0_0 v0_1 v0_2).2 ∧ (Q1r n0 p1 k0 v0_0 v0_1 v0_2).2 ≤ n0
 | 0, v0_0, v0_1, v0_2, _, _, _, _, _, _, hm => absurd hm (Nat.not_lt_zero _)
 | k0 + 1, v0_0, v0_1, v0_2, ho0_0, ho0_1, ho0_2, ho0_3, ho0_4, ho0_5, hm => by
  rw [Q1r]
  cases h0 : (decide (v0_2 ≤ p1)) with
  | true =>
   have e0 := of_decide_eq_true h0
   exact Qm6 n0 p1 k0 (Q1l n0 v0_0 v0_1 v0_2) v0_2 (v0_2 + 20) (by have f0 := (Q16 n0 v0_0 v0_1 v0_2 ho0_5); omega) (by have f0 := (Q16 n0 v0_0 v0_1 v0_2 ho0_5); omega) (by have f0 := (Q16 n0 v0_0 v0_1 v0_2 ho0_5); omega) (by have f0 := (Q16 n0 v0_0 v0_1 v0_2 ho0_5); omega) (by have f0 := (Q16 n0 v0_0 v0_1 v0_2 ho0_5); omega) (Q16 n0 v0_0 v0_1 v0_2 ho0_5) (by have f0 := (Q16 n0 v0_0 v0_1 v0_2 ho0_5); omega)
  | false =>
   have e0 := of_decide_eq_false h0
   exact (show 0 ≤ v0_1 ∧ v0_1 ≤ n0 from ⟨(by omega), (by omega)⟩)
def Q33 (_n0 : Nat) (_p1 : Int) : Nat → (List Fld) → List Fld
 | 0, v1_0 => v1_0
 | _k1 + 1, v1_0 =>
  v1_0
def Qsq (n0 : Nat) (p1 : Int) (_v1_0 : List Fld) : List PV :=
  [.ms 0 6 0 n0, .int .i64 p1, .fn 73 [] [], .un, .un, .un, .int .i64 20] ++ nuns 56
def Qj5 (_n0 : Nat) (_p1 : Int) (v1_0 : List Fld) : List Ob :=
  [⟨6, 0, false, (Fld.rows v1_0).flatten⟩]
def Qnr (n0 : Nat) (p1 : Int) (v1_0 : List Fld) : En := .loop 1 Ir.Qb4 Ir.Qy6 (Qsq n0 p1 v1_0) (Qj5 n0 p1 v1_0)
def Qe5 (_n0 : Nat) (_p1 : Int) (q0 : List Fld) (z : Nat → PV) (_zo : Nat → List PV) : St :=
  ⟨zr z 0 63, [(0, ⟨6, 0, false, (Fld.rows q0).flatten⟩)], 193⟩
theorem Qwr (n0 : Nat) (p1 : Int) (v1_0 : List Fld) : VOK (Go.Pv.look (number 0 (Qj5 n0 p1 v1_0))) [(0, Fld.rows v1_0)] := (VOK.cons (show Seen _ _ from Q3n (ob := ⟨6, 0, false, (Fld.rows v1_0).flatten⟩) (Fld.Qb v1_0 6 rfl)) VOK.nil)
def Qoj (n0 : Nat) (p1 : Int) (e : En) (q : List Fld) : Prop := ∃ z zo, Q7 G e (.st (.exit 2) (Qe5 n0 p1 q z zo))
def Qf8 (n0 : Nat) (p1 : Int) (_v1_0 : List Fld) : List PV :=
  [.ms 0 6 0 n0, .int .i64 p1, .fn 73 [] [], .un, .un, .un, .int .i64 20] ++ nuns 21 ++ [.int .i64 20, .int .i64 p1, .bool false]
def Qbu (_n0 : Nat) (_p1 : Int) (_v1_0 : List Fld) : List (Nat × List PV) :=
  []
theorem Qsa (n0 : Nat) (p1 : Int) (v1_0 : List Fld) (ho1_0 : p1 = n0) (ho1_1 : (n0 : Int) ≤ 20) (ho1_2 : List.length v1_0 = n0) : Qoj n0 p1 (Qnr n0 p1 v1_0) v1_0 := by
 exact ⟨(envF (Qf8 n0 p1 v1_0)), (zoF (Qbu n0 p1 v1_0)), Qm (Qwr n0 p1 v1_0) (x := ((.exit 2), Qe5 n0 p1 v1_0 (envF (Qf8 n0 p1 v1_0)) (zoF (Qbu n0 p1 v1_0)))) [hP 2 (dec (decide (20 < p1)) false (decide_eq_false (by omega)))] [] (by kernel_rfl)⟩
theorem Qu7 (n0 : Nat) (p1 : Int) : ∀ (k1 : Nat) (v1_0 : List Fld), p1 = n0 → (n0 : Int) ≤ 20 → List.length v1_0 = n0 → 0 < k1 → Qoj n0 p1 (Qnr n0 p1 v1_0) (Q33 n0 p1 k1 v1_0)
 | 0, v1_0, _, _, _, hm => absurd hm (Nat.not_lt_zero _)
 | k1 + 1, v1_0, ho1_0, ho1_1, ho1_2, hm => by
  rw [Q33]
  exact Qsa n0 p1 v1_0 ho1_0 ho1_1 ho1_2
theorem Qcq (n0 : Nat) (p1 : Int) : ∀ (k1 : Nat) (v1_0 : List Fld), List.length v1_0 = n0 → List.length (Q33 n0 p1 k1 v1_0) = n0
 | 0, v1_0, ho1_2 => by rw [Q33]; exact ho1_2
 | k1 + 1, v1_0, ho1_2 => by
  rw [Q33]
  exact ho1_2
def Q3l (n0 : Nat) (p0 : List Fld) (p1 : Int) : List Fld :=
 (Q33 n0 p1 (0 + 1) (Q1l n0 (Q1r n0 p1 ((Int.toNat (p1 + 20 - 20)) + 1) p0 0 20).1 (Q1r n0 p1 ((Int.toNat (p1 + 20 - 20)) + 1) p0 0 20).2 p1))
def Qt2 (n0 : Nat) (p0 : List Fld) (p1 : Int) : En := .call 88 [.ms 0 6 0 n0, .int .i64 p1, .fn 73 [] []] [⟨6, 0, false, (Fld.rows p0).flatten⟩]
def Qks (n0 : Nat) (p0 : List Fld) (p1 : Int) : Rs := .ret (.tup []) [⟨6, 0, false, (Fld.rows (Q3l n0 p0 p1)).flatten⟩]
theorem Qln (n0 : Nat) (p0 : List Fld) (p1 : Int) (hn : List.length p0 = n0) : List.length (Q3l n0 p0 p1) = n0 := by
 unfold Q3l
 have hz0_0 : List.length (Q1r n0 p1 ((Int.toNat (p1 + 20 - 20)) + 1) p0 0 20).1 = n0 := Q72 n0 p1 ((Int.toNat (p1 + 20 - 20)) + 1) p0 0 20 hn
 obtain ⟨R1, eR1⟩ : ∃ R, (Q1r n0 p1 ((Int.toNat (p1 + 20 - 20)) + 1) p0 0 20) = R := ⟨_, rfl⟩
 rw [eR1] at hz0_0 ⊢
 have hz1_0 : List.length (Q33 n0 p1 (0 + 1) (Q1l n0 R1.1 R1.2 p1)) = n0 := Qcq n0 p1 (0 + 1) (Q1l n0 R1.1 R1.2 p1) (Q16 n0 R1.1 R1.2 p1 hz0_0)
 obtain ⟨R2, eR2⟩ : ∃ R, (Q33 n0 p1 (0 + 1) (Q1l n0 R1.1 R1.2 p1)) = R := ⟨_, rfl⟩
 rw [eR2] at hz1_0 ⊢
 exact hz1_0
theorem Qvo (n0 : Nat) (p0 : List Fld) (p1 : Int) (hn : List.length p0 = n0) (hq0 : 0 ≤ p1 ∧ p1 = n0 ∧ (n0 : Int) ≤ 20) : Q7 G (Qt2 n0 p0 p1) (Qks n0 p0 p1) := by
 unfold Qks Q3l
 have hl0 := Qlo n0 p1 ((Int.toNat (p1 + 20 - 20)) + 1) p0 0 20 (by omega) (by omega) (by omega) (by omega) (by omega) hn (by omega)
 have hz0_0 : List.length (Q1r n0 p1 ((Int.toNat (p1 + 20 - 20)) + 1) p0 0 20).1 = n0 := Q72 n0 p1 ((Int.toNat (p1 + 20 - 20)) + 1) p0 0 20 hn
 have hy0 : 0 ≤ (Q1r n0 p1 ((Int.toNat (p1 + 20 - 20)) + 1) p0 0 20).2 ∧ (Q1r n0 p1 ((Int.toNat (p1 + 20 - 20)) + 1) p0 0 20).2 ≤ n0 := Qm6 n0 p1 ((Int.toNat (p1 + 20 - 20)) + 1) p0 0 20 (by omega) (by omega) (by omega) (by omega) (by omega) hn (by omega)
 obtain ⟨R1, eR1⟩ : ∃ R, (Q1r n0 p1 ((Int.toNat (p1 + 20 - 20)) + 1) p0 0 20) = R := ⟨_, rfl⟩
 rw [eR1] at hz0_0 hy0 hl0 ⊢
 obtain ⟨z0, zo0, hl0⟩ := hl0
 have hl1 := Qu7 n0 p1 (0 + 1) (Q1l n0 R1.1 R1.2 p1) (by have f0 := (Q16 n0 R1.1 R1.2 p1 hz0_0); have g0 := hy0; omega) (by have f0 := (Q16 n0 R1.1 R1.2 p1 hz0_0); have g0 := hy0; omega) (Q16 n0 R1.1 R1.2 p1 hz0_0) (by omega)
 have hz1_0 : List.length (Q33 n0 p1 (0 + 1) (Q1l n0 R1.1 R1.2 p1)) = n0 := Qcq n0 p1 (0 + 1) (Q1l n0 R1.1 R1.2 p1) (Q16 n0 R1.1 R1.2 p1 hz0_0)
 obtain ⟨R2, eR2⟩ : ∃ R, (Q33 n0 p1 (0 + 1) (Q1l n0 R1.1 R1.2 p1)) = R := ⟨_, rfl⟩
 rw [eR2] at hz1_0 hl1 ⊢
 obtain ⟨z1, zo1, hl1⟩ := hl1
 exact Qa (fn := Ir.K10) rfl (vk1 (Fld.Qb p0 6 rfl)) [hS 0 false (Fld.Qb R1.1 6 rfl), hQ (Fld.Qb (Q1l n0 R1.1 R1.2 p1) 6 rfl), hS 0 false (Fld.Qb R2 6 rfl)] [aV [(0, Fld.rows R1.1)] hl0, aV [(0, Fld.rows (Q1l n0 R1.1 R1.2 p1))] (Qqn n0 R1.1 R1.2 p1 hz0_0 (by have g0 := hy0; omega)), aV [(0, Fld.rows R2)] hl1] (by kernel_rfl)
def Qo (n0 : Nat) (p0 : List Fld) : List Fld :=
 (Q3l n0 p0 (n0 : Int))
def Qwx (n0 : Nat) (p0 : List Fld) : En := .call 72 [.ms 0 6 0 n0, .fn 73 [] []] [⟨6, 0, false, (Fld.rows p0).flatten⟩]
def Qoz (n0 : Nat) (p0 : List Fld) : Rs := .ret (.tup []) [⟨6, 0, false, (Fld.rows (Qo n0 p0)).flatten⟩]
theorem Q1m (n0 : Nat) (p0 : List Fld) (hn : List.length p0 = n0) : List.length (Qo n0 p0) = n0 := by
 unfold Qo
 exact (Qln n0 p0 (n0 : Int) hn)
theorem Qy1 (n0 : Nat) (p0 : List Fld) (hn : List.length p0 = n0) (hq0 : (n0 : Int) ≤ 20) : Q7 G (Qwx n0 p0) (Qoz n0 p0) := by
 unfold Qoz Qo
 exact Qa (fn := Ir.Ky) rfl (vk1 (Fld.Qb p0 6 rfl)) [hQ (Fld.Qb (Q3l n0 p0 (n0 : Int)) 6 rfl)] [aV [(0, Fld.rows (Q3l n0 p0 (n0 : Int)))] (Qvo n0 p0 (n0 : Int) hn (by omega))] (by kernel_rfl)
def Q1v (p0 : List Fld) : List Fld → Nat → (List Fld) → List Fld
 | [], _i0, v0_1 =>
  v0_1
 | x0 :: r0, i0, v0_1 =>
  bif (((i0 + 1 : Nat) : Int) == ((List.length p0) : Int)) then
   Q1v p0 r0 (i0 + 1) (v0_1 ++ [x0])
  else
   bif (sEq (List.getD (Qo (List.length p0) p0) (Int.toNat ((i0 + 1 : Nat) : Int)) zF).name x0.name) then
    Q1v p0 r0 (i0 + 1) v0_1
   else
    Q1v p0 r0 (i0 + 1) (v0_1 ++ [x0])
def Q7d (p0 : List Fld) (i0 : Nat) (_v0_1 : List Fld) : List PV :=
  [.un, .un, .bx 0 0, .ms 1 6 0 (List.length p0), .bx 2 0] ++ nuns 7 ++ [.ms 1 6 0 (List.length p0), .int .i64 ((List.length p0) : Int), .int .i64 (i0 : Int)] ++ nuns 29
def Q5n (p0 : List Fld) (_i0 : Nat) (v0_1 : List Fld) : List Ob :=
  [⟨5, 0, true, [.int .i64 0, .int .i64 0, .str eB, .ms 3 5 0 0, .ms 4 6 0 0]⟩, ⟨6, 0, false, (Fld.rows (Qo (List.length p0) p0)).flatten⟩, ⟨5, 0, true, [.int .i64 5, .int .i64 0, .str eB, .ms 5 5 0 0, .ms 6 6 0 (List.length v0_1)]⟩, ⟨5, 0, true, []⟩, ⟨6, 0, true, []⟩, ⟨5, 0, true, []⟩, ⟨6, 0, true, (Fld.rows v0_1).flatten⟩]
def Q4h (p0 : List Fld) (i0 : Nat) (v0_1 : List Fld) : En := .loop 0 Ir.Qb6 Ir.Qy8 (Q7d p0 i0 v0_1) (Q5n p0 i0 v0_1)
def Qe8 (p0 : List Fld) (q0 : List Fld) (z : Nat → PV) (_zo : Nat → List PV) : St :=
  ⟨[z 0, z 1, .bx 0 0, z 3, .bx 2 0] ++ zr z 5 39, [(0, ⟨5, 0, true, [.int .i64 0, .int .i64 0, .str eB, .ms 3 5 0 0, .ms 4 6 0 0]⟩), (1, ⟨6, 0, false, (Fld.rows (Qo (List.length p0) p0)).flatten⟩), (2, ⟨5, 0, true, [.int .i64 5, .int .i64 0, .str eB, .ms 5 5 0 0, .ms 6 6 0 (List.length q0)]⟩), (3, ⟨5, 0, true, []⟩), (4, ⟨6, 0, true, []⟩), (5, ⟨5, 0, true, []⟩), (6, ⟨6, 0, true, (Fld.rows q0).flatten⟩)], 71⟩
theorem Qa6 (p0 : List Fld) (i0 : Nat) (v0_1 : List Fld) : VOK (Go.Pv.look (number 0 (Q5n p0 i0 v0_1))) [(1, Fld.rows (Qo (List.length p0) p0)), (6, Fld.rows v0_1)] := (VOK.cons (show Seen _ _ from Q3n (ob := ⟨6, 0, false, (Fld.rows (Qo (List.length p0) p0)).flatten⟩) (Fld.Qb (Qo (List.length p0) p0) 6 rfl)) (VOK.cons (show Seen _ _ from Q3n (ob := ⟨6, 0, true, (Fld.rows v0_1).flatten⟩) (Fld.Qb v0_1 6 rfl)) VOK.nil))
def Q9x (p0 : List Fld) (e : En) (q : List Fld) : Prop := ∃ z zo, Q7 G e (.st (.exit 0) (Qe8 p0 q z zo))
theorem Q59 (p0 : List Fld) {e e' : En} (h : ∀ r, Q7 G e r → Q7 G e' r) : ∀ q, Q9x p0 e q → Q9x p0 e' q
  | _, ⟨z, zo, hz⟩ => ⟨z, zo, h _ hz⟩
def Q6b (p0 : List Fld) : Prop := (List.length (Qo (List.length p0) p0) ≤ 137438953472) ∧ True
def Qfb (p0 : List Fld) (i0 : Nat) (_v0_1 : List Fld) : List PV :=
  [.un, .un, .un, .ms 1 6 0 (List.length p0)] ++ nuns 8 ++ [.ms 1 6 0 (List.length p0), .int .i64 ((List.length p0) : Int), .int .i64 (i0 : Int), .bool false]
def Qbx (_p0 : List Fld) (_i0 : Nat) (_v0_1 : List Fld) : List (Nat × List PV) :=
  []
theorem Qsd (p0 : List Fld) (_H : Q6b p0) (i0 : Nat) (v0_1 : List Fld) (_ho0_0 : List.length v0_1 ≤ i0) (hc0 : (decide ((i0 : Int) < ((List.length p0) : Int))) = false) : Q9x p0 (Q4h p0 i0 v0_1) v0_1 := by
 exact ⟨(envF (Qfb p0 i0 v0_1)), (zoF (Qbx p0 i0 v0_1)), Qm (Qa6 p0 i0 v0_1) (x := ((.exit 0), Qe8 p0 v0_1 (envF (Qfb p0 i0 v0_1)) (zoF (Qbx p0 i0 v0_1)))) [hB 0 hc0] [] (by kernel_rfl)⟩
theorem Qrh (p0 : List Fld) (H : Q6b p0) (x0 : Fld) (i0 : Nat) (v0_1 : List Fld) (hx0 : (Qo (List.length p0) p0)[i0]? = some x0) (hi0 : i0 < List.length (Qo (List.length p0) p0)) (ho0_0 : List.length v0_1 ≤ i0) (hc0 : (decide ((i0 : Int) < ((List.length p0) : Int))) = true) (h0 : (((i0 + 1 : Nat) : Int) == ((List.length p0) : Int)) = true) {r : Rs} (hr : Q7 G (Q4h p0 (i0 + 1) (v0_1 ++ [x0])) r) : Q7 G (Q4h p0 i0 v0_1) r := by
 have hB0 := H.1; have e0 := eq_of_beq h0
 exact Qn (Qa6 p0 i0 v0_1) (y := (Q7d p0 (i0 + 1) (v0_1 ++ [x0]), Q5n p0 (i0 + 1) (v0_1 ++ [x0]))) [hB 0 hc0, hP 1 (Q2n 1 6 (List.length p0) (i0 : Int) i0 (by omega) (by have f1 := (Q1m (List.length p0) p0 rfl); omega) (by have f1 := (Q1m (List.length p0) p0 rfl); omega)), hP 0 (Q6k 1 6 0 false ((Fld.rows (Qo (List.length p0) p0)).flatten) (Fld.rows (Qo (List.length p0) p0)) 6 true i0 0 (i0 * 6) (Fld.cells x0) (.agg [.str x0.name, .int .i64 x0.v.kind, .int .i64 x0.v.n, .str x0.v.s, .sl (Val.rows x0.v.list), .sl (Fld.rows x0.v.fields)]) rfl rfl (Fld.Qf hx0) (Fld.Qh (Qo (List.length p0) p0)) (by decide) rfl), hP 4 (Q1o i0 (by omega)), hB 2 h0, hV 15 [(1735, Fld.rows (v0_1 ++ [x0]))] (Q6y 6 1671 1735 6 96 0 0 true (Fld.rows v0_1) (Fld.rows (v0_1 ++ [x0])) (Fld.cells x0) (List.length v0_1) (List.length (v0_1 ++ [x0])) rfl (Fld.Q8 v0_1).symm (Fld.Q8 (v0_1 ++ [x0])).symm (Fld.Q1g v0_1 x0) (Fld.Qh v0_1) rfl (by omega)), hS 0 true (Fld.Qb (v0_1 ++ [x0]) 6 rfl), hP 2 (Q1o i0 (by omega))] [] (by kernel_rfl) hr
theorem Qri (p0 : List Fld) (H : Q6b p0) (x0 : Fld) (i0 : Nat) (v0_1 : List Fld) (hx0 : (Qo (List.length p0) p0)[i0]? = some x0) (hi0 : i0 < List.length (Qo (List.length p0) p0)) (_ho0_0 : List.length v0_1 ≤ i0) (hc0 : (decide ((i0 : Int) < ((List.length p0) : Int))) = true) (h0 : (((i0 + 1 : Nat) : Int) == ((List.length p0) : Int)) = false) (h1 : (sEq (List.getD (Qo (List.length p0) p0) (Int.toNat ((i0 + 1 : Nat) : Int)) zF).name x0.name) = true) {r : Rs} (hr : Q7 G (Q4h p0 (i0 + 1) v0_1) r) : Q7 G (Q4h p0 i0 v0_1) r := by
 have hB0 := H.1; have e0 := beq_eq_false_iff_ne.1 h0
 exact Qn (Qa6 p0 i0 v0_1) (y := (Q7d p0 (i0 + 1) v0_1, Q5n p0 (i0 + 1) v0_1)) [hB 0 hc0, hP 1 (Q2n 1 6 (List.length p0) (i0 : Int) i0 (by omega) (by have f1 := (Q1m (List.length p0) p0 rfl); omega) (by have f1 := (Q1m (List.length p0) p0 rfl); omega)), hP 0 (Q6k 1 6 0 false ((Fld.rows (Qo (List.length p0) p0)).flatten) (Fld.rows (Qo (List.length p0) p0)) 6 true i0 0 (i0 * 6) (Fld.cells x0) (.agg [.str x0.name, .int .i64 x0.v.kind, .int .i64 x0.v.n, .str x0.v.s, .sl (Val.rows x0.v.list), .sl (Fld.rows x0.v.fields)]) rfl rfl (Fld.Qf hx0) (Fld.Qh (Qo (List.length p0) p0)) (by decide) rfl), hP 4 (Q1o i0 (by omega)), hB 2 h0, hP 3 (Q1o i0 (by omega)), hP 0 (Q2n 1 6 (List.length p0) ((i0 + 1 : Nat) : Int) (Int.toNat ((i0 + 1 : Nat) : Int)) rfl (by have f1 := (Q1m (List.length p0) p0 rfl); omega) (by have f1 := (Q1m (List.length p0) p0 rfl); omega)), hP 1 (Q6k 1 6 0 false ((Fld.rows (Qo (List.length p0) p0)).flatten) (Fld.rows (Qo (List.length p0) p0)) 1 false (Int.toNat ((i0 + 1 : Nat) : Int)) 0 ((Int.toNat ((i0 + 1 : Nat) : Int)) * 6) (Fld.cells (List.getD (Qo (List.length p0) p0) (Int.toNat ((i0 + 1 : Nat) : Int)) zF)) (.str (List.getD (Qo (List.length p0) p0) (Int.toNat ((i0 + 1 : Nat) : Int)) zF).name) rfl rfl (Fld.Qf (Q2u (Qo (List.length p0) p0) (Int.toNat ((i0 + 1 : Nat) : Int)) zF (by have f1 := (Q1m (List.length p0) p0 rfl); omega))) (Fld.Qh (Qo (List.length p0) p0)) (by decide) rfl), hP 2 (dec (!(sEq (List.getD (Qo (List.length p0) p0) (Int.toNat ((i0 + 1 : Nat) : Int)) zF).name x0.name)) false (by rw [h1]; rfl)), hP 1 (Q1o i0 (by omega))] [] (by kernel_rfl) hr
theorem Qrj (p0 : List Fld) (H : Q6b p0) (x0 : Fld) (i0 : Nat) (v0_1 : List Fld) (hx0 : (Qo (List.length p0) p0)[i0]? = some x0) (hi0 : i0 < List.length (Qo (List.length p0) p0)) (ho0_0 : List.length v0_1 ≤ i0) (hc0 : (decide ((i0 : Int) < ((List.length p0) : Int))) = true) (h0 : (((i0 + 1 : Nat) : Int) == ((List.length p0) : Int)) = false) (h1 : (sEq (List.getD (Qo (List.length p0) p0) (Int.toNat ((i0 + 1 : Nat) : Int)) zF).name x0.name) = false) {r : Rs} (hr : Q7 G (Q4h p0 (i0 + 1) (v0_1 ++ [x0])) r) : Q7 G (Q4h p0 i0 v0_1) r := by
 have hB0 := H.1; have e0 := beq_eq_false_iff_ne.1 h0
 exact Qn (Qa6 p0 i0 v0_1) (y := (Q7d p0 (i0 + 1) (v0_1 ++ [x0]), Q5n p0 (i0 + 1) (v0_1 ++ [x0]))) [hB 0 hc0, hP 1 (Q2n 1 6 (List.length p0) (i0 : Int) i0 (by omega) (by have f1 := (Q1m (List.length p0) p0 rfl); omega) (by have f1 := (Q1m (List.length p0) p0 rfl); omega)), hP 0 (Q6k 1 6 0 false ((Fld.rows (Qo (List.length p0) p0)).flatten) (Fld.rows (Qo (List.length p0) p0)) 6 true i0 0 (i0 * 6) (Fld.cells x0) (.agg [.str x0.name, .int .i64 x0.v.kind, .int .i64 x0.v.n, .str x0.v.s, .sl (Val.rows x0.v.list), .sl (Fld.rows x0.v.fields)]) rfl rfl (Fld.Qf hx0) (Fld.Qh (Qo (List.length p0) p0)) (by decide) rfl), hP 4 (Q1o i0 (by omega)), hB 2 h0, hP 3 (Q1o i0 (by omega)), hP 0 (Q2n 1 6 (List.length p0) ((i0 + 1 : Nat) : Int) (Int.toNat ((i0 + 1 : Nat) : Int)) rfl (by have f1 := (Q1m (List.length p0) p0 rfl); omega) (by have f1 := (Q1m (List.length p0) p0 rfl); omega)), hP 1 (Q6k 1 6 0 false ((Fld.rows (Qo (List.length p0) p0)).flatten) (Fld.rows (Qo (List.length p0) p0)) 1 false (Int.toNat ((i0 + 1 : Nat) : Int)) 0 ((Int.toNat ((i0 + 1 : Nat) : Int)) * 6) (Fld.cells (List.getD (Qo (List.length p0) p0) (Int.toNat ((i0 + 1 : Nat) : Int)) zF)) (.str (List.getD (Qo (List.length p0) p0) (Int.toNat ((i0 + 1 : Nat) : Int)) zF).name) rfl rfl (Fld.Qf (Q2u (Qo (List.length p0) p0) (Int.toNat ((i0 + 1 : Nat) : Int)) zF (by have f1 := (Q1m (List.length p0) p0 rfl); omega))) (Fld.Qh (Qo (List.length p0) p0)) (by decide) rfl), hP 2 (dec (!(sEq (List.getD (Qo (List.length p0) p0) (Int.toNat ((i0 + 1 : Nat) : Int)) zF).name x0.name)) true (by rw [h1]; rfl)), hV 5 [(1735, Fld.rows (v0_1 ++ [x0]))] (Q6y 6 1671 1735 6 96 0 0 true (Fld.rows v0_1) (Fld.rows (v0_1 ++ [x0])) (Fld.cells x0) (List.length v0_1) (List.length (v0_1 ++ [x0])) rfl (Fld.Q8 v0_1).symm (Fld.Q8 (v0_1 ++ [x0])).symm (Fld.Q1g v0_1 x0) (Fld.Qh v0_1) rfl (by omega)), hS 0 true (Fld.Qb (v0_1 ++ [x0]) 6 rfl), hP 2 (Q1o i0 (by omega))] [] (by kernel_rfl) hr
theorem Q7v (p0 : List Fld) (H : Q6b p0) : ∀ (r0 : List Fld) (i0 : Nat) (v0_1 : List Fld), List.drop i0 (Qo (List.length p0) p0) = r0 → List.length v0_1 ≤ i0 → Q9x p0 (Q4h p0 i0 v0_1) (Q1v p0 r0 i0 v0_1)
 | [], i0, v0_1, hd, ho0_0 => by
  have hc0 : (decide ((i0 : Int) < ((List.length p0) : Int))) = false := by have hL := (Q1m (List.length p0) p0 rfl); have := Q1d hd; simp; omega
  rw [Q1v]
  exact Qsd p0 H i0 v0_1 ho0_0 hc0
 | x0 :: r0, i0, v0_1, hd, ho0_0 => by
  obtain ⟨hx0, hi0, hd'⟩ := Q19 hd
  have hc0 : (decide ((i0 : Int) < ((List.length p0) : Int))) = true := by have hL := (Q1m (List.length p0) p0 rfl); simp; omega
  rw [Q1v]
  cases h0 : (((i0 + 1 : Nat) : Int) == ((List.length p0) : Int)) with
  | true =>
   have e0 := eq_of_beq h0
   exact Q59 p0 (fun r hr => Qrh p0 H x0 i0 v0_1 hx0 hi0 ho0_0 hc0 h0 hr) _ (Q7v p0 H r0 (i0 + 1) (v0_1 ++ [x0]) hd' (by first | omega | (simp; omega)))
  | false =>
   have e0 := beq_eq_false_iff_ne.1 h0
   cases h1 : (sEq (List.getD (Qo (List.length p0) p0) (Int.toNat ((i0 + 1 : Nat) : Int)) zF).name x0.name) with
   | true =>
    exact Q59 p0 (fun r hr => Qri p0 H x0 i0 v0_1 hx0 hi0 ho0_0 hc0 h0 h1 hr) _ (Q7v p0 H r0 (i0 + 1) v0_1 hd' (by first | omega | (simp; omega)))
   | false =>
    exact Q59 p0 (fun r hr => Qrj p0 H x0 i0 v0_1 hx0 hi0 ho0_0 hc0 h0 h1 hr) _ (Q7v p0 H r0 (i0 + 1) (v0_1 ++ [x0]) hd' (by first | omega | (simp; omega)))
def Q4a (p0 : List Fld) : Val :=
 (Val.mk 5 0 eB [] (Q1v p0 (Qo (List.length p0) p0) 0 []))
def Qhz (p0 : List Fld) : En := .call 34 [.sl (Fld.rows p0)] []
def Q110 (p0 : List Fld) : Rs := .ret (.agg (Val.cells (Q4a p0))) []
def Qdc (p0 : List Fld) : Prop := (List.length p0 * 96 ≤ 140737488355328) ∧ (((List.length p0) : Int) ≤ 20) ∧ (Q6b p0) ∧ (Qgw (Val.mk 5 0 eB [] (Q1v p0 (Qo (List.length p0) p0) 0 []))) ∧ True
theorem Qmj (p0 : List Fld) (H : Qdc p0) : Q7 G (Qhz p0) (Q110 p0) := by
 unfold Q110 Q4a
 have hl0 := Q7v p0 (H.2.2.1) (Qo (List.length p0) p0) 0 [] (by simp) (by simp)
 obtain ⟨z0, zo0, hl0⟩ := hl0
 exact Qa (fn := Ir.K15) rfl VOK.nil [hQ (Fld.Qb p0 6 rfl), hQ (Fld.Qb (Qo (List.length p0) p0) 6 rfl), hS 0 false (Fld.Qb (Qo (List.length p0) p0) 6 rfl), hS 0 true (Fld.Qb (Q1v p0 (Qo (List.length p0) p0) 0 []) 6 rfl), hQ (Fld.Q8 (Q1v p0 (Qo (List.length p0) p0) 0 [])).symm] [aV [(0, Fld.rows p0)] (Q5i (G := G) (f := 71) (sz := 6) (bytes := 96) rfl (Fld.Q8 p0) (Fld.Qb p0 6 rfl) H.1), aV [(0, Fld.rows (Qo (List.length p0) p0))] (Qy1 (List.length p0) p0 rfl (H.2.1)), aV [(1, Fld.rows (Qo (List.length p0) p0)), (6, Fld.rows (Q1v p0 (Qo (List.length p0) p0) 0 []))] hl0, aN (Q12w (Val.mk 5 0 eB [] (Q1v p0 (Qo (List.length p0) p0) 0 [])) H.2.2.2.1)] (by kernel_rfl)
end Go.Proofs.Ytbagpdebihicnaa
end

section
/- Maps of at most 20 fields, fields of a name and equality in plain words. -/
namespace Go.Proofs.Ytbagpdebihicnaa
open Go.Pv Go.Pv.Srt
theorem vind {P : Val → Prop} (h : ∀ v : Val, (∀ x ∈ v.list, P x) → (∀ f ∈ v.fields, P f.v) → P v) : ∀ v, P v := by
  have key : ∀ (k : Nat) (v : Val), SizeOf.sizeOf v < k → P v := by
    intro k
    induction k with
    | zero => intro v hv; exact absurd hv (Nat.not_lt_zero _)
    | succ k ih => intro v hv; exact h v (fun x hx => ih x (by have := szM hx; omega)) (fun f hf => ih f.v (by have := szN hf; omega))
  exact fun v => key _ v (Nat.lt_succ_self _)
theorem vprt (v : Val) (n : BA) : (Qs2 v n).1 = prt v n := by
  unfold Qs2 prt
  cases v.kind == 5 with
  | false => rfl
  | true =>
    simp only [cond_true]
    have : ∀ (l : List Fld) (i : Nat), (match Q4k v n l i with | .k0 => (Val.mk 0 0 ⟨#[]⟩ [] [], false) | .k1 y => (y, true)).1 = Qrd n l := by
      intro l
      induction l with
      | nil => intro i; rfl
      | cons x l ih =>
        intro i
        rw [Q4k, Qrd]
        cases sEq x.name n with
        | true => rfl
        | false => exact ih (i + 1)
    exact this _ _
abbrev Qga : Fld := zF
theorem Qyw (n0 : Nat) (a b i : Int) : ∀ (k : Nat) (v : List Fld) (j : Int), Q2d n0 a b i k v j = ins1 Qga cNm a k v j
  | 0, _, _ => rfl
  | k + 1, v, j => by
    rw [Q2d, ins1, Qyw n0 a b i k]
    rfl
theorem Qyv (n0 : Nat) (a b : Int) : ∀ (k : Nat) (i : Int) (v : List Fld), Q3f n0 a b k i v = ins0 Qga cNm a b k i v
  | 0, _, _ => rfl
  | k + 1, i, v => by
    rw [Q3f, ins0, Qyv n0 a b k, Qyw]
theorem Q12n (n0 : Nat) (d : List Fld) (a b : Int) : Q1l n0 d a b = ins Qga cNm d a b := Qyv n0 a b _ _ _
theorem Qil {l : List Fld} (h : l.length ≤ 20) : Qo l.length l = Q8k cNm l := by
  unfold Qo Q3l
  have i1 : ∀ v, Q33 l.length (l.length : Int) (0 + 1) v = v := fun v => rfl
  rw [i1, Q12n, Q1r]
  by_cases c : (20 : Int) ≤ (l.length : Int)
  · rw [show decide ((20 : Int) ≤ (l.length : Int)) = true by simpa using c, cond_true, Q12n, show Int.toNat ((l.length : Int) + 20 - 20) = 19 + 1 by omega, Q1r, show decide ((20 : Int) + 20 ≤ (l.length : Int)) = false by simp; omega, cond_false]
    have e1 := Qi8 (z := Qga) (c := cNm) (d := l) (A := []) (M := l) (C := []) (a := 0) (b := 20) (by simp) rfl (by omega)
    rw [List.nil_append, List.append_nil] at e1
    rw [e1, Qi8 (z := Qga) (c := cNm) (d := Q8k cNm l) (A := Q8k cNm l) (M := []) (C := []) (by simp) (by rw [Qcm _ (Q84 Fld.name)]; omega) (by simp; omega)]
    simp [Q8k]
  · rw [show decide ((20 : Int) ≤ (l.length : Int)) = false by simpa using c, cond_false]
    have e1 := Qi8 (z := Qga) (c := cNm) (d := l) (A := []) (M := l) (C := []) (a := 0) (b := (l.length : Int)) (by simp) rfl (by omega)
    rw [List.nil_append, List.append_nil] at e1
    exact e1
theorem Q8l (p : List Fld) : (Q8k cNm p).length = p.length := Qcm _ (Q84 Fld.name) p
theorem Quh {p : List Fld} (hp : p.length ≤ 20) : ∀ (r : List Fld) (i : Nat) (a : List Fld), (Q8k cNm p).drop i = r → Q1v p r i a = a ++ lasts r
  | [], i, a, _ => by rw [Q1v, lasts]; simp
  | [x], i, a, hd => by
    have hl := Q8l p
    have h := congrArg List.length hd
    rw [List.length_drop, List.length_singleton] at h
    rw [Q1v, show (((i + 1 : Nat) : Int) == (List.length p : Int)) = true by simp; omega, cond_true, Q1v]
    rfl
  | x :: y :: r, i, a, hd => by
    have hl := Q8l p
    have h := congrArg List.length hd
    rw [List.length_drop, List.length_cons, List.length_cons] at h
    obtain ⟨_, _, hd'⟩ := Q19 hd
    obtain ⟨hy, _, _⟩ := Q19 hd'
    rw [Q1v, show (((i + 1 : Nat) : Int) == (List.length p : Int)) = false by simp; omega, cond_false, Qil hp, Int.toNat_natCast, List.getD_eq_getElem?_getD, hy, Option.getD_some, lasts]
    cases sEq y.name x.name with
    | true => rw [cond_true, cond_true, Quh hp (y :: r) (i + 1) a hd']
    | false => rw [cond_false, cond_false, Quh hp (y :: r) (i + 1) _ hd']; simp
theorem Qda {p : List Fld} (hp : p.length ≤ 20) : Q1v p (Qo p.length p) 0 [] = mapOf p := by
  rw [Quh hp _ 0 [] (by rw [Qil hp]; rfl), Qil hp]
  rfl
theorem vmap {p : List Fld} (hp : p.length ≤ 20) : Q4a p = vM (mapOf p) := by
  unfold Q4a
  rw [Qda hp]
theorem Q10t {l : List Fld} (hl : l.length ≤ 20) (h : ∀ f ∈ l, Val.Sm sB f.v) : Val.Sm sB (vM (mapOf l)) :=
  .mk _ (Nat.zero_le _) (Nat.le_trans (Que l) (by show l.length ≤ 1000000000; omega)) (fun _ g => by cases g) fun f hf => h f (Qug hf)
theorem Qj7 {l : List Fld} (hl : l.length ≤ 20) (h : ∀ f ∈ l, Val.Sm sB f.v) : Qdc l := by
  refine ⟨by omega, by omega, ⟨?_, trivial⟩, ?_, trivial⟩
  · rw [Qil hl, Q8l]
    omega
  · rw [Qda hl]
    exact Q10t hl h
theorem Q13d {v : Val} (h : Val.Sm sB v) (n : BA) : Qyz v n := ⟨⟨Nat.le_trans h.all.2.1 (Nat.le_of_ble_eq_true rfl), h.all.2.2.2, trivial⟩, trivial⟩
end Go.Proofs.Ytbagpdebihicnaa
end

section
/- Structures and kinds of objects as values, in plain words (printed by a program). -/
namespace Go.Proofs.Ytbagpdebihicnaa
open Go.Pv
structure Requirement where
  key : ByteArray
  op : Int
  values : List ByteArray
def Requirement.cells (x : Requirement) : List PV :=
  [.str x.key, .int .i64 x.op, .sl (Qg x.values)]
def Requirement.rows (l : List Requirement) : List (List PV) := l.map Requirement.cells
theorem Requirement.Q8 (l : List Requirement) : (Requirement.rows l).length = l.length := by simp [Requirement.rows]
theorem Requirement.Qf {l : List Requirement} {i : Nat} {x : Requirement} (h : l[i]? = some x) : (Requirement.rows l)[i]? = some (Requirement.cells x) := Go.Pv.Qf h
theorem Requirement.Q1g (l : List Requirement) (x : Requirement) : Requirement.rows (l ++ [x]) = Requirement.rows l ++ [Requirement.cells x] := by simp [Requirement.rows]
theorem Requirement.Q30 (l m : List Requirement) : Requirement.rows (l ++ m) = Requirement.rows l ++ Requirement.rows m := by simp [Requirement.rows]
theorem Requirement.Q2k (l : List Requirement) (k : Nat) (x : Requirement) : Requirement.rows (l.set k x) = (Requirement.rows l).set k (Requirement.cells x) := by simp [Requirement.rows, List.map_set]
theorem Requirement.Q23 (l : List Requirement) (n : Nat) : Requirement.rows (l.take n) = (Requirement.rows l).take n := by simp [Requirement.rows, List.map_take]
theorem Requirement.Q2a (l : List Requirement) (n : Nat) : Requirement.rows (l.drop n) = (Requirement.rows l).drop n := by simp [Requirement.rows, List.map_drop]
theorem Requirement.Qh (l : List Requirement) : ∀ r ∈ Requirement.rows l, r.length = 3 := Q2w (f := Requirement.cells) (fun _ => rfl) l
theorem Requirement.Qb (l : List Requirement) (sz : Nat) (h : sz = 3) : ViewOK sz (Requirement.rows l).flatten (Requirement.rows l) := by subst h; exact ⟨rfl, Requirement.Qh l, Q28 (f := Requirement.cells) (fun _ => rfl) l⟩
structure Amount where
  percent : Bool
  n : Int
def Amount.cells (x : Amount) : List PV :=
  [.bool x.percent, .int .i64 x.n]
def Amount.rows (l : List Amount) : List (List PV) := l.map Amount.cells
theorem Amount.Q8 (l : List Amount) : (Amount.rows l).length = l.length := by simp [Amount.rows]
theorem Amount.Qf {l : List Amount} {i : Nat} {x : Amount} (h : l[i]? = some x) : (Amount.rows l)[i]? = some (Amount.cells x) := Go.Pv.Qf h
theorem Amount.Q1g (l : List Amount) (x : Amount) : Amount.rows (l ++ [x]) = Amount.rows l ++ [Amount.cells x] := by simp [Amount.rows]
theorem Amount.Q30 (l m : List Amount) : Amount.rows (l ++ m) = Amount.rows l ++ Amount.rows m := by simp [Amount.rows]
theorem Amount.Q2k (l : List Amount) (k : Nat) (x : Amount) : Amount.rows (l.set k x) = (Amount.rows l).set k (Amount.cells x) := by simp [Amount.rows, List.map_set]
theorem Amount.Q23 (l : List Amount) (n : Nat) : Amount.rows (l.take n) = (Amount.rows l).take n := by simp [Amount.rows, List.map_take]
theorem Amount.Q2a (l : List Amount) (n : Nat) : Amount.rows (l.drop n) = (Amount.rows l).drop n := by simp [Amount.rows, List.map_drop]
theorem Amount.Qh (l : List Amount) : ∀ r ∈ Amount.rows l, r.length = 2 := Q2w (f := Amount.cells) (fun _ => rfl) l
theorem Amount.Qb (l : List Amount) (sz : Nat) (h : sz = 2) : ViewOK sz (Amount.rows l).flatten (Amount.rows l) := by subst h; exact ⟨rfl, Amount.Qh l, Q28 (f := Amount.cells) (fun _ => rfl) l⟩
structure WorkItem where
  key : ByteArray
  at_ : Int
def WorkItem.cells (x : WorkItem) : List PV :=
  [.str x.key, .int .i64 x.at_]
def WorkItem.rows (l : List WorkItem) : List (List PV) := l.map WorkItem.cells
theorem WorkItem.Q8 (l : List WorkItem) : (WorkItem.rows l).length = l.length := by simp [WorkItem.rows]
theorem WorkItem.Qf {l : List WorkItem} {i : Nat} {x : WorkItem} (h : l[i]? = some x) : (WorkItem.rows l)[i]? = some (WorkItem.cells x) := Go.Pv.Qf h
theorem WorkItem.Q1g (l : List WorkItem) (x : WorkItem) : WorkItem.rows (l ++ [x]) = WorkItem.rows l ++ [WorkItem.cells x] := by simp [WorkItem.rows]
theorem WorkItem.Q30 (l m : List WorkItem) : WorkItem.rows (l ++ m) = WorkItem.rows l ++ WorkItem.rows m := by simp [WorkItem.rows]
theorem WorkItem.Q2k (l : List WorkItem) (k : Nat) (x : WorkItem) : WorkItem.rows (l.set k x) = (WorkItem.rows l).set k (WorkItem.cells x) := by simp [WorkItem.rows, List.map_set]
theorem WorkItem.Q23 (l : List WorkItem) (n : Nat) : WorkItem.rows (l.take n) = (WorkItem.rows l).take n := by simp [WorkItem.rows, List.map_take]
theorem WorkItem.Q2a (l : List WorkItem) (n : Nat) : WorkItem.rows (l.drop n) = (WorkItem.rows l).drop n := by simp [WorkItem.rows, List.map_drop]
theorem WorkItem.Qh (l : List WorkItem) : ∀ r ∈ WorkItem.rows l, r.length = 2 := Q2w (f := WorkItem.cells) (fun _ => rfl) l
theorem WorkItem.Qb (l : List WorkItem) (sz : Nat) (h : sz = 2) : ViewOK sz (WorkItem.rows l).flatten (WorkItem.rows l) := by subst h; exact ⟨rfl, WorkItem.Qh l, Q28 (f := WorkItem.cells) (fun _ => rfl) l⟩
structure Resources where
  cPU : Int
  memory : Int
  disk : Int
def Resources.cells (x : Resources) : List PV :=
  [.int .i64 x.cPU, .int .i64 x.memory, .int .i64 x.disk]
def Resources.rows (l : List Resources) : List (List PV) := l.map Resources.cells
theorem Resources.Q8 (l : List Resources) : (Resources.rows l).length = l.length := by simp [Resources.rows]
theorem Resources.Qf {l : List Resources} {i : Nat} {x : Resources} (h : l[i]? = some x) : (Resources.rows l)[i]? = some (Resources.cells x) := Go.Pv.Qf h
theorem Resources.Q1g (l : List Resources) (x : Resources) : Resources.rows (l ++ [x]) = Resources.rows l ++ [Resources.cells x] := by simp [Resources.rows]
theorem Resources.Q30 (l m : List Resources) : Resources.rows (l ++ m) = Resources.rows l ++ Resources.rows m := by simp [Resources.rows]
theorem Resources.Q2k (l : List Resources) (k : Nat) (x : Resources) : Resources.rows (l.set k x) = (Resources.rows l).set k (Resources.cells x) := by simp [Resources.rows, List.map_set]
theorem Resources.Q23 (l : List Resources) (n : Nat) : Resources.rows (l.take n) = (Resources.rows l).take n := by simp [Resources.rows, List.map_take]
theorem Resources.Q2a (l : List Resources) (n : Nat) : Resources.rows (l.drop n) = (Resources.rows l).drop n := by simp [Resources.rows, List.map_drop]
theorem Resources.Qh (l : List Resources) : ∀ r ∈ Resources.rows l, r.length = 3 := Q2w (f := Resources.cells) (fun _ => rfl) l
theorem Resources.Qb (l : List Resources) (sz : Nat) (h : sz = 3) : ViewOK sz (Resources.rows l).flatten (Resources.rows l) := by subst h; exact ⟨rfl, Resources.Qh l, Q28 (f := Resources.cells) (fun _ => rfl) l⟩
structure Label where
  key : ByteArray
  value : ByteArray
def Label.cells (x : Label) : List PV :=
  [.str x.key, .str x.value]
def Label.rows (l : List Label) : List (List PV) := l.map Label.cells
theorem Label.Q8 (l : List Label) : (Label.rows l).length = l.length := by simp [Label.rows]
theorem Label.Qf {l : List Label} {i : Nat} {x : Label} (h : l[i]? = some x) : (Label.rows l)[i]? = some (Label.cells x) := Go.Pv.Qf h
theorem Label.Q1g (l : List Label) (x : Label) : Label.rows (l ++ [x]) = Label.rows l ++ [Label.cells x] := by simp [Label.rows]
theorem Label.Q30 (l m : List Label) : Label.rows (l ++ m) = Label.rows l ++ Label.rows m := by simp [Label.rows]
theorem Label.Q2k (l : List Label) (k : Nat) (x : Label) : Label.rows (l.set k x) = (Label.rows l).set k (Label.cells x) := by simp [Label.rows, List.map_set]
theorem Label.Q23 (l : List Label) (n : Nat) : Label.rows (l.take n) = (Label.rows l).take n := by simp [Label.rows, List.map_take]
theorem Label.Q2a (l : List Label) (n : Nat) : Label.rows (l.drop n) = (Label.rows l).drop n := by simp [Label.rows, List.map_drop]
theorem Label.Qh (l : List Label) : ∀ r ∈ Label.rows l, r.length = 2 := Q2w (f := Label.cells) (fun _ => rfl) l
theorem Label.Qb (l : List Label) (sz : Nat) (h : sz = 2) : ViewOK sz (Label.rows l).flatten (Label.rows l) := by subst h; exact ⟨rfl, Label.Qh l, Q28 (f := Label.cells) (fun _ => rfl) l⟩
structure Owner where
  kind : ByteArray
  name : ByteArray
  uid : Int
  controller : Bool
  block : Bool
def Owner.cells (x : Owner) : List PV :=
  [.str x.kind, .str x.name, .int .i64 x.uid, .bool x.controller, .bool x.block]
def Owner.rows (l : List Owner) : List (List PV) := l.map Owner.cells
theorem Owner.Q8 (l : List Owner) : (Owner.rows l).length = l.length := by simp [Owner.rows]
theorem Owner.Qf {l : List Owner} {i : Nat} {x : Owner} (h : l[i]? = some x) : (Owner.rows l)[i]? = some (Owner.cells x) := Go.Pv.Qf h
theorem Owner.Q1g (l : List Owner) (x : Owner) : Owner.rows (l ++ [x]) = Owner.rows l ++ [Owner.cells x] := by simp [Owner.rows]
theorem Owner.Q30 (l m : List Owner) : Owner.rows (l ++ m) = Owner.rows l ++ Owner.rows m := by simp [Owner.rows]
theorem Owner.Q2k (l : List Owner) (k : Nat) (x : Owner) : Owner.rows (l.set k x) = (Owner.rows l).set k (Owner.cells x) := by simp [Owner.rows, List.map_set]
theorem Owner.Q23 (l : List Owner) (n : Nat) : Owner.rows (l.take n) = (Owner.rows l).take n := by simp [Owner.rows, List.map_take]
theorem Owner.Q2a (l : List Owner) (n : Nat) : Owner.rows (l.drop n) = (Owner.rows l).drop n := by simp [Owner.rows, List.map_drop]
theorem Owner.Qh (l : List Owner) : ∀ r ∈ Owner.rows l, r.length = 5 := Q2w (f := Owner.cells) (fun _ => rfl) l
theorem Owner.Qb (l : List Owner) (sz : Nat) (h : sz = 5) : ViewOK sz (Owner.rows l).flatten (Owner.rows l) := by subst h; exact ⟨rfl, Owner.Qh l, Q28 (f := Owner.cells) (fun _ => rfl) l⟩
structure Manager where
  name : ByteArray
  fields : List ByteArray
def Manager.cells (x : Manager) : List PV :=
  [.str x.name, .sl (Qg x.fields)]
def Manager.rows (l : List Manager) : List (List PV) := l.map Manager.cells
theorem Manager.Q8 (l : List Manager) : (Manager.rows l).length = l.length := by simp [Manager.rows]
theorem Manager.Qf {l : List Manager} {i : Nat} {x : Manager} (h : l[i]? = some x) : (Manager.rows l)[i]? = some (Manager.cells x) := Go.Pv.Qf h
theorem Manager.Q1g (l : List Manager) (x : Manager) : Manager.rows (l ++ [x]) = Manager.rows l ++ [Manager.cells x] := by simp [Manager.rows]
theorem Manager.Q30 (l m : List Manager) : Manager.rows (l ++ m) = Manager.rows l ++ Manager.rows m := by simp [Manager.rows]
theorem Manager.Q2k (l : List Manager) (k : Nat) (x : Manager) : Manager.rows (l.set k x) = (Manager.rows l).set k (Manager.cells x) := by simp [Manager.rows, List.map_set]
theorem Manager.Q23 (l : List Manager) (n : Nat) : Manager.rows (l.take n) = (Manager.rows l).take n := by simp [Manager.rows, List.map_take]
theorem Manager.Q2a (l : List Manager) (n : Nat) : Manager.rows (l.drop n) = (Manager.rows l).drop n := by simp [Manager.rows, List.map_drop]
theorem Manager.Qh (l : List Manager) : ∀ r ∈ Manager.rows l, r.length = 2 := Q2w (f := Manager.cells) (fun _ => rfl) l
theorem Manager.Qb (l : List Manager) (sz : Nat) (h : sz = 2) : ViewOK sz (Manager.rows l).flatten (Manager.rows l) := by subst h; exact ⟨rfl, Manager.Qh l, Q28 (f := Manager.cells) (fun _ => rfl) l⟩
structure Meta where
  kind : ByteArray
  namespace_ : ByteArray
  name : ByteArray
  uid : Int
  version : Int
  generation : Int
  created : Int
  deleting : Bool
  deleteAt : Int
  labels : List Label
  owners : List Owner
  finalizers : List ByteArray
  managers : List Manager
def Meta.cells (x : Meta) : List PV :=
  [.str x.kind, .str x.namespace_, .str x.name, .int .i64 x.uid, .int .i64 x.version, .int .i64 x.generation, .int .i64 x.created, .bool x.deleting, .int .i64 x.deleteAt, .sl (Label.rows x.labels), .sl (Owner.rows x.owners), .sl (Qg x.finalizers), .sl (Manager.rows x.managers)]
def Meta.rows (l : List Meta) : List (List PV) := l.map Meta.cells
theorem Meta.Q8 (l : List Meta) : (Meta.rows l).length = l.length := by simp [Meta.rows]
theorem Meta.Qf {l : List Meta} {i : Nat} {x : Meta} (h : l[i]? = some x) : (Meta.rows l)[i]? = some (Meta.cells x) := Go.Pv.Qf h
theorem Meta.Q1g (l : List Meta) (x : Meta) : Meta.rows (l ++ [x]) = Meta.rows l ++ [Meta.cells x] := by simp [Meta.rows]
theorem Meta.Q30 (l m : List Meta) : Meta.rows (l ++ m) = Meta.rows l ++ Meta.rows m := by simp [Meta.rows]
theorem Meta.Q2k (l : List Meta) (k : Nat) (x : Meta) : Meta.rows (l.set k x) = (Meta.rows l).set k (Meta.cells x) := by simp [Meta.rows, List.map_set]
theorem Meta.Q23 (l : List Meta) (n : Nat) : Meta.rows (l.take n) = (Meta.rows l).take n := by simp [Meta.rows, List.map_take]
theorem Meta.Q2a (l : List Meta) (n : Nat) : Meta.rows (l.drop n) = (Meta.rows l).drop n := by simp [Meta.rows, List.map_drop]
theorem Meta.Qh (l : List Meta) : ∀ r ∈ Meta.rows l, r.length = 13 := Q2w (f := Meta.cells) (fun _ => rfl) l
theorem Meta.Qb (l : List Meta) (sz : Nat) (h : sz = 13) : ViewOK sz (Meta.rows l).flatten (Meta.rows l) := by subst h; exact ⟨rfl, Meta.Qh l, Q28 (f := Meta.cells) (fun _ => rfl) l⟩
structure Object where
  meta_ : Meta
  spec : Val
  status : Val
def Object.cells (x : Object) : List PV :=
  [.str x.meta_.kind, .str x.meta_.namespace_, .str x.meta_.name, .int .i64 x.meta_.uid, .int .i64 x.meta_.version, .int .i64 x.meta_.generation, .int .i64 x.meta_.created, .bool x.meta_.deleting, .int .i64 x.meta_.deleteAt, .sl (Label.rows x.meta_.labels), .sl (Owner.rows x.meta_.owners), .sl (Qg x.meta_.finalizers), .sl (Manager.rows x.meta_.managers), .int .i64 x.spec.kind, .int .i64 x.spec.n, .str x.spec.s, .sl (Val.rows x.spec.list), .sl (Fld.rows x.spec.fields), .int .i64 x.status.kind, .int .i64 x.status.n, .str x.status.s, .sl (Val.rows x.status.list), .sl (Fld.rows x.status.fields)]
def Object.rows (l : List Object) : List (List PV) := l.map Object.cells
theorem Object.Q8 (l : List Object) : (Object.rows l).length = l.length := by simp [Object.rows]
theorem Object.Qf {l : List Object} {i : Nat} {x : Object} (h : l[i]? = some x) : (Object.rows l)[i]? = some (Object.cells x) := Go.Pv.Qf h
theorem Object.Q1g (l : List Object) (x : Object) : Object.rows (l ++ [x]) = Object.rows l ++ [Object.cells x] := by simp [Object.rows]
theorem Object.Q30 (l m : List Object) : Object.rows (l ++ m) = Object.rows l ++ Object.rows m := by simp [Object.rows]
theorem Object.Q2k (l : List Object) (k : Nat) (x : Object) : Object.rows (l.set k x) = (Object.rows l).set k (Object.cells x) := by simp [Object.rows, List.map_set]
theorem Object.Q23 (l : List Object) (n : Nat) : Object.rows (l.take n) = (Object.rows l).take n := by simp [Object.rows, List.map_take]
theorem Object.Q2a (l : List Object) (n : Nat) : Object.rows (l.drop n) = (Object.rows l).drop n := by simp [Object.rows, List.map_drop]
theorem Object.Qh (l : List Object) : ∀ r ∈ Object.rows l, r.length = 23 := Q2w (f := Object.cells) (fun _ => rfl) l
theorem Object.Qb (l : List Object) (sz : Nat) (h : sz = 23) : ViewOK sz (Object.rows l).flatten (Object.rows l) := by subst h; exact ⟨rfl, Object.Qh l, Q28 (f := Object.cells) (fun _ => rfl) l⟩
structure Budget where
  meta_ : Meta
  selector : List Requirement
  minAvailable : List Amount
  maxUnavailable : List Amount
  observed : Int
  healthy : Int
  desired : Int
  expected : Int
  allowed : Int
  disrupted : List WorkItem
def Budget.cells (x : Budget) : List PV :=
  [.str x.meta_.kind, .str x.meta_.namespace_, .str x.meta_.name, .int .i64 x.meta_.uid, .int .i64 x.meta_.version, .int .i64 x.meta_.generation, .int .i64 x.meta_.created, .bool x.meta_.deleting, .int .i64 x.meta_.deleteAt, .sl (Label.rows x.meta_.labels), .sl (Owner.rows x.meta_.owners), .sl (Qg x.meta_.finalizers), .sl (Manager.rows x.meta_.managers), .sl (Requirement.rows x.selector), .sl (Amount.rows x.minAvailable), .sl (Amount.rows x.maxUnavailable), .int .i64 x.observed, .int .i64 x.healthy, .int .i64 x.desired, .int .i64 x.expected, .int .i64 x.allowed, .sl (WorkItem.rows x.disrupted)]
def Budget.rows (l : List Budget) : List (List PV) := l.map Budget.cells
theorem Budget.Q8 (l : List Budget) : (Budget.rows l).length = l.length := by simp [Budget.rows]
theorem Budget.Qf {l : List Budget} {i : Nat} {x : Budget} (h : l[i]? = some x) : (Budget.rows l)[i]? = some (Budget.cells x) := Go.Pv.Qf h
theorem Budget.Q1g (l : List Budget) (x : Budget) : Budget.rows (l ++ [x]) = Budget.rows l ++ [Budget.cells x] := by simp [Budget.rows]
theorem Budget.Q30 (l m : List Budget) : Budget.rows (l ++ m) = Budget.rows l ++ Budget.rows m := by simp [Budget.rows]
theorem Budget.Q2k (l : List Budget) (k : Nat) (x : Budget) : Budget.rows (l.set k x) = (Budget.rows l).set k (Budget.cells x) := by simp [Budget.rows, List.map_set]
theorem Budget.Q23 (l : List Budget) (n : Nat) : Budget.rows (l.take n) = (Budget.rows l).take n := by simp [Budget.rows, List.map_take]
theorem Budget.Q2a (l : List Budget) (n : Nat) : Budget.rows (l.drop n) = (Budget.rows l).drop n := by simp [Budget.rows, List.map_drop]
theorem Budget.Qh (l : List Budget) : ∀ r ∈ Budget.rows l, r.length = 22 := Q2w (f := Budget.cells) (fun _ => rfl) l
theorem Budget.Qb (l : List Budget) (sz : Nat) (h : sz = 22) : ViewOK sz (Budget.rows l).flatten (Budget.rows l) := by subst h; exact ⟨rfl, Budget.Qh l, Q28 (f := Budget.cells) (fun _ => rfl) l⟩
structure Quota where
  meta_ : Meta
  hard : Resources
  used : Resources
  pods : Int
  has : Int
def Quota.cells (x : Quota) : List PV :=
  [.str x.meta_.kind, .str x.meta_.namespace_, .str x.meta_.name, .int .i64 x.meta_.uid, .int .i64 x.meta_.version, .int .i64 x.meta_.generation, .int .i64 x.meta_.created, .bool x.meta_.deleting, .int .i64 x.meta_.deleteAt, .sl (Label.rows x.meta_.labels), .sl (Owner.rows x.meta_.owners), .sl (Qg x.meta_.finalizers), .sl (Manager.rows x.meta_.managers), .int .i64 x.hard.cPU, .int .i64 x.hard.memory, .int .i64 x.hard.disk, .int .i64 x.used.cPU, .int .i64 x.used.memory, .int .i64 x.used.disk, .int .i64 x.pods, .int .i64 x.has]
def Quota.rows (l : List Quota) : List (List PV) := l.map Quota.cells
theorem Quota.Q8 (l : List Quota) : (Quota.rows l).length = l.length := by simp [Quota.rows]
theorem Quota.Qf {l : List Quota} {i : Nat} {x : Quota} (h : l[i]? = some x) : (Quota.rows l)[i]? = some (Quota.cells x) := Go.Pv.Qf h
theorem Quota.Q1g (l : List Quota) (x : Quota) : Quota.rows (l ++ [x]) = Quota.rows l ++ [Quota.cells x] := by simp [Quota.rows]
theorem Quota.Q30 (l m : List Quota) : Quota.rows (l ++ m) = Quota.rows l ++ Quota.rows m := by simp [Quota.rows]
theorem Quota.Q2k (l : List Quota) (k : Nat) (x : Quota) : Quota.rows (l.set k x) = (Quota.rows l).set k (Quota.cells x) := by simp [Quota.rows, List.map_set]
theorem Quota.Q23 (l : List Quota) (n : Nat) : Quota.rows (l.take n) = (Quota.rows l).take n := by simp [Quota.rows, List.map_take]
theorem Quota.Q2a (l : List Quota) (n : Nat) : Quota.rows (l.drop n) = (Quota.rows l).drop n := by simp [Quota.rows, List.map_drop]
theorem Quota.Qh (l : List Quota) : ∀ r ∈ Quota.rows l, r.length = 21 := Q2w (f := Quota.cells) (fun _ => rfl) l
theorem Quota.Qb (l : List Quota) (sz : Nat) (h : sz = 21) : ViewOK sz (Quota.rows l).flatten (Quota.rows l) := by subst h; exact ⟨rfl, Quota.Qh l, Q28 (f := Quota.cells) (fun _ => rfl) l⟩
def Qk : ByteArray := ⟨#[66, 117, 100, 103, 101, 116]⟩
def Qd : ByteArray := ⟨#[81, 117, 111, 116, 97]⟩
def Q13 : ByteArray := ⟨#[97, 108, 108, 111, 119, 101, 100]⟩
def Q31 : ByteArray := ⟨#[97, 116]⟩
def Q2i : ByteArray := ⟨#[99, 112, 117]⟩
def Qw : ByteArray := ⟨#[100, 101, 115, 105, 114, 101, 100]⟩
def Q2b : ByteArray := ⟨#[100, 105, 115, 107]⟩
def Q9 : ByteArray := ⟨#[100, 105, 115, 114, 117, 112, 116, 101, 100]⟩
def Qv : ByteArray := ⟨#[101, 120, 112, 101, 99, 116, 101, 100]⟩
def Qi : ByteArray := ⟨#[104, 97, 114, 100]⟩
def Q27 : ByteArray := ⟨#[104, 97, 115]⟩
def Qp : ByteArray := ⟨#[104, 101, 97, 108, 116, 104, 121]⟩
def Q10 : ByteArray := ⟨#[107, 101, 121]⟩
def Q5 : ByteArray := ⟨#[109, 97, 120, 85, 110, 97, 118, 97, 105, 108, 97, 98, 108, 101]⟩
def Q1k : ByteArray := ⟨#[109, 101, 109, 111, 114, 121]⟩
def Q6 : ByteArray := ⟨#[109, 105, 110, 65, 118, 97, 105, 108, 97, 98, 108, 101]⟩
def kw_n : ByteArray := ⟨#[110]⟩
def Qj : ByteArray := ⟨#[111, 98, 115, 101, 114, 118, 101, 100]⟩
def Q32 : ByteArray := ⟨#[111, 112]⟩
def Q1b : ByteArray := ⟨#[112, 101, 114, 99, 101, 110, 116]⟩
def Q12 : ByteArray := ⟨#[112, 111, 100, 115]⟩
def Q17 : ByteArray := ⟨#[115, 101, 108, 101, 99, 116, 111, 114]⟩
def Q15 : ByteArray := ⟨#[117, 115, 101, 100]⟩
def Qy : ByteArray := ⟨#[118, 97, 108, 117, 101, 115]⟩
def Requirement.enc (x : Requirement) : Val := vM [.mk Q10 (vS x.key), .mk Q32 (vN x.op), .mk Qy (vL (x.values.map vS))]
def Requirement.dec (v : Val) : Requirement × Bool := (Requirement.mk (dS v Q10).1 (dN v Q32).1 (dE xS v Qy).1, isM v && (dS v Q10).2 && (dN v Q32).2 && (dE xS v Qy).2)
def Requirement.sm (x : Requirement) : Prop := LSm (fun _ : ByteArray => True) x.values ∧ True
theorem Requirement.Q42 {x : Requirement} (h : Requirement.sm x) : Val.Sm sB (Requirement.enc x) := Qmh (Nat.le_of_ble_eq_true rfl) (List.forall_mem_cons.2 ⟨Val.Sm.leaf 3 _ _, List.forall_mem_cons.2 ⟨Val.Sm.leaf 2 _ _, List.forall_mem_cons.2 ⟨Q4y (fun _ h => Val.Sm.leaf _ _ _) h.1, fun _ h => by cases h⟩⟩⟩)
theorem Requirement.Qzw (x : Requirement) : prt (Requirement.enc x) Q10 = vS x.key := by kernel_rfl
theorem Requirement.p_op (x : Requirement) : prt (Requirement.enc x) Q32 = vN x.op := by kernel_rfl
theorem Requirement.Qxr (x : Requirement) : prt (Requirement.enc x) Qy = vL (x.values.map vS) := by kernel_rfl
theorem Requirement.Q5c (x : Requirement) : Requirement.dec (Requirement.enc x) = (x, true) := by
  have h0 : dS (Requirement.enc x) Q10 = (x.key, true) := by unfold dS; rw [Requirement.Qzw]; rfl
  have h1 : dN (Requirement.enc x) Q32 = (x.op, true) := by unfold dN; rw [Requirement.p_op]; rfl
  have h2 : dE xS (Requirement.enc x) Qy = (x.values, true) := by unfold dE; rw [Requirement.Qxr]; exact Qmm (fun _ => rfl) _
  unfold Requirement.dec
  rw [h0, h1, h2]
  rfl
def Amount.enc (x : Amount) : Val := vM [.mk kw_n (vN x.n), .mk Q1b (vB x.percent)]
def Amount.dec (v : Val) : Amount × Bool := (Amount.mk (dB v Q1b).1 (dN v kw_n).1, isM v && (dN v kw_n).2 && (dB v Q1b).2)
def Amount.sm (_ : Amount) : Prop := True
theorem Amount.Q42 {x : Amount} (_ : Amount.sm x) : Val.Sm sB (Amount.enc x) := Qmh (Nat.le_of_ble_eq_true rfl) (List.forall_mem_cons.2 ⟨Val.Sm.leaf 2 _ _, List.forall_mem_cons.2 ⟨Val.Sm.leaf 1 _ _, fun _ h => by cases h⟩⟩)
theorem Amount.Qva (x : Amount) : prt (Amount.enc x) Q1b = vB x.percent := by kernel_rfl
theorem Amount.p_n (x : Amount) : prt (Amount.enc x) kw_n = vN x.n := by kernel_rfl
theorem Amount.Q5c (x : Amount) : Amount.dec (Amount.enc x) = (x, true) := by
  have h0 : dB (Amount.enc x) Q1b = (x.percent, true) := by unfold dB; rw [Amount.Qva]; exact xB_b _
  have h1 : dN (Amount.enc x) kw_n = (x.n, true) := by unfold dN; rw [Amount.p_n]; rfl
  unfold Amount.dec
  rw [h0, h1]
  rfl
def WorkItem.enc (x : WorkItem) : Val := vM [.mk Q31 (vN x.at_), .mk Q10 (vS x.key)]
def WorkItem.dec (v : Val) : WorkItem × Bool := (WorkItem.mk (dS v Q10).1 (dN v Q31).1, isM v && (dN v Q31).2 && (dS v Q10).2)
def WorkItem.sm (_ : WorkItem) : Prop := True
theorem WorkItem.Q42 {x : WorkItem} (_ : WorkItem.sm x) : Val.Sm sB (WorkItem.enc x) := Qmh (Nat.le_of_ble_eq_true rfl) (List.forall_mem_cons.2 ⟨Val.Sm.leaf 2 _ _, List.forall_mem_cons.2 ⟨Val.Sm.leaf 3 _ _, fun _ h => by cases h⟩⟩)
theorem WorkItem.Qzw (x : WorkItem) : prt (WorkItem.enc x) Q10 = vS x.key := by kernel_rfl
theorem WorkItem.Q175 (x : WorkItem) : prt (WorkItem.enc x) Q31 = vN x.at_ := by kernel_rfl
theorem WorkItem.Q5c (x : WorkItem) : WorkItem.dec (WorkItem.enc x) = (x, true) := by
  have h0 : dS (WorkItem.enc x) Q10 = (x.key, true) := by unfold dS; rw [WorkItem.Qzw]; rfl
  have h1 : dN (WorkItem.enc x) Q31 = (x.at_, true) := by unfold dN; rw [WorkItem.Q175]; rfl
  unfold WorkItem.dec
  rw [h0, h1]
  rfl
def Resources.enc (x : Resources) : Val := vM [.mk Q2i (vN x.cPU), .mk Q2b (vN x.disk), .mk Q1k (vN x.memory)]
def Resources.dec (v : Val) : Resources × Bool := (Resources.mk (dN v Q2i).1 (dN v Q1k).1 (dN v Q2b).1, isM v && (dN v Q2i).2 && (dN v Q2b).2 && (dN v Q1k).2)
def Resources.sm (_ : Resources) : Prop := True
theorem Resources.Q42 {x : Resources} (_ : Resources.sm x) : Val.Sm sB (Resources.enc x) := Qmh (Nat.le_of_ble_eq_true rfl) (List.forall_mem_cons.2 ⟨Val.Sm.leaf 2 _ _, List.forall_mem_cons.2 ⟨Val.Sm.leaf 2 _ _, List.forall_mem_cons.2 ⟨Val.Sm.leaf 2 _ _, fun _ h => by cases h⟩⟩⟩)
theorem Resources.Q176 (x : Resources) : prt (Resources.enc x) Q2i = vN x.cPU := by kernel_rfl
theorem Resources.Qxq (x : Resources) : prt (Resources.enc x) Q1k = vN x.memory := by kernel_rfl
theorem Resources.Q12j (x : Resources) : prt (Resources.enc x) Q2b = vN x.disk := by kernel_rfl
theorem Resources.Q5c (x : Resources) : Resources.dec (Resources.enc x) = (x, true) := by
  have h0 : dN (Resources.enc x) Q2i = (x.cPU, true) := by unfold dN; rw [Resources.Q176]; rfl
  have h1 : dN (Resources.enc x) Q1k = (x.memory, true) := by unfold dN; rw [Resources.Qxq]; rfl
  have h2 : dN (Resources.enc x) Q2b = (x.disk, true) := by unfold dN; rw [Resources.Q12j]; rfl
  unfold Resources.dec
  rw [h0, h1, h2]
  rfl
def Requirement.cnt (v : Val) : Nat := cM v + pK 3 v Q10 + pK 2 v Q32 + pE (cK 3) v Qy
theorem Requirement.cnt0 (v : Val) : (Requirement.cnt v == 0) = (Requirement.dec v).2 := by
  unfold Requirement.cnt Requirement.dec
  simp only [add0, cM0, pS0, pN0, pE0 kS, dN, dS, dE, Bool.and_assoc, Bool.and_left_comm, Bool.and_comm, Bool.and_self_left]
theorem Requirement.Q51 {v : Val} (h : Val.Sm 1000 v) : Requirement.cnt v ≤ 1007 := by
  have g0 := Qkz 5 v
  have g1 := Q64 3 v Q10
  have g2 := Q64 2 v Q32
  have g3 := Qv6 (c := (cK 3)) (K := 1) (fun x hx => Qkz _ _) h Qy
  unfold Requirement.cnt cM
  omega
def Amount.cnt (v : Val) : Nat := pK 1 v Q1b + pK 2 v kw_n
theorem Amount.cnt0 (v : Val) : (Amount.cnt v == 0) = (Amount.dec v).2 := by
  unfold Amount.cnt Amount.dec
  simp only [add0, pB0, pN0, dN, dB, Bool.and_assoc, Bool.and_left_comm, Bool.and_comm, Bool.and_self_left]
theorem Amount.Q51 {v : Val} (_ : Val.Sm 1000 v) : Amount.cnt v ≤ 4 := by
  have g0 := Q64 1 v Q1b
  have g1 := Q64 2 v kw_n
  unfold Amount.cnt
  omega
def WorkItem.cnt (v : Val) : Nat := pK 3 v Q10 + pK 2 v Q31
theorem WorkItem.cnt0 (v : Val) : (WorkItem.cnt v == 0) = (WorkItem.dec v).2 := by
  unfold WorkItem.cnt WorkItem.dec
  simp only [add0, pS0, pN0, dN, dS, Bool.and_assoc, Bool.and_left_comm, Bool.and_comm, Bool.and_self_left]
theorem WorkItem.Q51 {v : Val} (_ : Val.Sm 1000 v) : WorkItem.cnt v ≤ 4 := by
  have g0 := Q64 3 v Q10
  have g1 := Q64 2 v Q31
  unfold WorkItem.cnt
  omega
def Resources.cnt (v : Val) : Nat := pK 2 v Q2i + pK 2 v Q1k + pK 2 v Q2b
theorem Resources.cnt0 (v : Val) : (Resources.cnt v == 0) = (Resources.dec v).2 := by
  unfold Resources.cnt Resources.dec
  simp only [add0, pN0, dN, Bool.and_assoc, Bool.and_left_comm, Bool.and_comm, Bool.and_self_left]
theorem Resources.Q51 {v : Val} (_ : Val.Sm 1000 v) : Resources.cnt v ≤ 6 := by
  have g0 := Q64 2 v Q2i
  have g1 := Q64 2 v Q1k
  have g2 := Q64 2 v Q2b
  unfold Resources.cnt
  omega
def Budget.encS (x : Budget) : Val := vM [.mk Q5 (vL (x.maxUnavailable.map Amount.enc)), .mk Q6 (vL (x.minAvailable.map Amount.enc)), .mk Q17 (vL (x.selector.map Requirement.enc))]
def Budget.encT (x : Budget) : Val := vM [.mk Q13 (vN x.allowed), .mk Qw (vN x.desired), .mk Q9 (vL (x.disrupted.map WorkItem.enc)), .mk Qv (vN x.expected), .mk Qp (vN x.healthy), .mk Qj (vN x.observed)]
def Budget.obj (x : Budget) : Object := ⟨{ x.meta_ with kind := Qk }, Budget.encS x, Budget.encT x⟩
def Budget.of (o : Object) : Budget := Budget.mk o.meta_ (dE Requirement.dec o.spec Q17).1 (dE Amount.dec o.spec Q6).1 (dE Amount.dec o.spec Q5).1 (dN o.status Qj).1 (dN o.status Qp).1 (dN o.status Qw).1 (dN o.status Qv).1 (dN o.status Q13).1 (dE WorkItem.dec o.status Q9).1
def Budget.ok (o : Object) : Bool := sEq o.meta_.kind Qk && (isM o.spec && (isM o.status && ((dE Amount.dec o.spec Q5).2 && ((dE Amount.dec o.spec Q6).2 && ((dE Requirement.dec o.spec Q17).2 && ((dN o.status Q13).2 && ((dN o.status Qw).2 && ((dE WorkItem.dec o.status Q9).2 && ((dN o.status Qv).2 && ((dN o.status Qp).2 && (dN o.status Qj).2))))))))))
def Budget.cnt (o : Object) : Nat := nb (sEq o.meta_.kind Qk) + cM o.spec + cM o.status + pE Requirement.cnt o.spec Q17 + pE Amount.cnt o.spec Q6 + pE Amount.cnt o.spec Q5 + pK 2 o.status Qj + pK 2 o.status Qp + pK 2 o.status Qw + pK 2 o.status Qv + pK 2 o.status Q13 + pE WorkItem.cnt o.status Q9
theorem Budget.cnt0 (o : Object) : (Budget.cnt o == 0) = Budget.ok o := by
  unfold Budget.cnt Budget.ok
  simp only [add0, nb0, cM0, pE0 Requirement.cnt0, pE0 Amount.cnt0, pN0, pE0 WorkItem.cnt0, dN, dE, Bool.and_assoc, Bool.and_left_comm, Bool.and_comm, Bool.and_self_left]
theorem Budget.Q51 {o : Object} (h : Val.Sm 1000 o.spec ∧ Val.Sm 1000 o.status) : Budget.cnt o ≤ 1019021 := by
  have g0 := Qzu (sEq o.meta_.kind Qk)
  have g1 := Qkz 5 o.spec
  have g2 := Qkz 5 o.status
  have g3 := Qv6 (c := Requirement.cnt) (K := 1007) (fun x hx => Requirement.Q51 hx) h.1 Q17
  have g4 := Qv6 (c := Amount.cnt) (K := 4) (fun x hx => Amount.Q51 hx) h.1 Q6
  have g5 := Qv6 (c := Amount.cnt) (K := 4) (fun x hx => Amount.Q51 hx) h.1 Q5
  have g6 := Q64 2 o.status Qj
  have g7 := Q64 2 o.status Qp
  have g8 := Q64 2 o.status Qw
  have g9 := Q64 2 o.status Qv
  have g10 := Q64 2 o.status Q13
  have g11 := Qv6 (c := WorkItem.cnt) (K := 4) (fun x hx => WorkItem.Q51 hx) h.2 Q9
  unfold Budget.cnt cM
  omega
theorem Budget.Qry (x : Budget) : prt (Budget.encS x) Q17 = vL (x.selector.map Requirement.enc) := by kernel_rfl
theorem Budget.Qdf (x : Budget) : prt (Budget.encS x) Q6 = vL (x.minAvailable.map Amount.enc) := by kernel_rfl
theorem Budget.Q9b (x : Budget) : prt (Budget.encS x) Q5 = vL (x.maxUnavailable.map Amount.enc) := by kernel_rfl
theorem Budget.Qrx (x : Budget) : prt (Budget.encT x) Qj = vN x.observed := by kernel_rfl
theorem Budget.Qv9 (x : Budget) : prt (Budget.encT x) Qp = vN x.healthy := by kernel_rfl
theorem Budget.Qv8 (x : Budget) : prt (Budget.encT x) Qw = vN x.desired := by kernel_rfl
theorem Budget.Qrw (x : Budget) : prt (Budget.encT x) Qv = vN x.expected := by kernel_rfl
theorem Budget.Qv7 (x : Budget) : prt (Budget.encT x) Q13 = vN x.allowed := by kernel_rfl
theorem Budget.Qnd (x : Budget) : prt (Budget.encT x) Q9 = vL (x.disrupted.map WorkItem.enc) := by kernel_rfl
theorem Budget.back (x : Budget) : Budget.of (Budget.obj x) = Budget.mk { x.meta_ with kind := Qk } x.selector x.minAvailable x.maxUnavailable x.observed x.healthy x.desired x.expected x.allowed x.disrupted ∧ Budget.ok (Budget.obj x) = true := by
  have h0 : dE Requirement.dec (Budget.encS x) Q17 = (x.selector, true) := by unfold dE; rw [Budget.Qry]; exact Qmm Requirement.Q5c _
  have h1 : dE Amount.dec (Budget.encS x) Q6 = (x.minAvailable, true) := by unfold dE; rw [Budget.Qdf]; exact Qmm Amount.Q5c _
  have h2 : dE Amount.dec (Budget.encS x) Q5 = (x.maxUnavailable, true) := by unfold dE; rw [Budget.Q9b]; exact Qmm Amount.Q5c _
  have h3 : dN (Budget.encT x) Qj = (x.observed, true) := by unfold dN; rw [Budget.Qrx]; rfl
  have h4 : dN (Budget.encT x) Qp = (x.healthy, true) := by unfold dN; rw [Budget.Qv9]; rfl
  have h5 : dN (Budget.encT x) Qw = (x.desired, true) := by unfold dN; rw [Budget.Qv8]; rfl
  have h6 : dN (Budget.encT x) Qv = (x.expected, true) := by unfold dN; rw [Budget.Qrw]; rfl
  have h7 : dN (Budget.encT x) Q13 = (x.allowed, true) := by unfold dN; rw [Budget.Qv7]; rfl
  have h8 : dE WorkItem.dec (Budget.encT x) Q9 = (x.disrupted, true) := by unfold dE; rw [Budget.Qnd]; exact Qmm WorkItem.Q5c _
  refine ⟨?_, ?_⟩
  · show Budget.mk _ (dE Requirement.dec (Budget.encS x) Q17).1 (dE Amount.dec (Budget.encS x) Q6).1 (dE Amount.dec (Budget.encS x) Q5).1 (dN (Budget.encT x) Qj).1 (dN (Budget.encT x) Qp).1 (dN (Budget.encT x) Qw).1 (dN (Budget.encT x) Qv).1 (dN (Budget.encT x) Q13).1 (dE WorkItem.dec (Budget.encT x) Q9).1 = _
    rw [h0, h1, h2, h3, h4, h5, h6, h7, h8]
    all_goals rfl
  · unfold Budget.ok
    show (sEq Qk Qk && (true && (true && ((dE Amount.dec (Budget.encS x) Q5).2 && ((dE Amount.dec (Budget.encS x) Q6).2 && ((dE Requirement.dec (Budget.encS x) Q17).2 && ((dN (Budget.encT x) Q13).2 && ((dN (Budget.encT x) Qw).2 && ((dE WorkItem.dec (Budget.encT x) Q9).2 && ((dN (Budget.encT x) Qv).2 && ((dN (Budget.encT x) Qp).2 && (dN (Budget.encT x) Qj).2))))))))))) = true
    rw [h0, h1, h2, h3, h4, h5, h6, h7, h8, Q2l.2 rfl]
    all_goals rfl
def Budget.sm (x : Budget) : Prop := LSm Requirement.sm x.selector ∧ LSm Amount.sm x.minAvailable ∧ LSm Amount.sm x.maxUnavailable ∧ LSm WorkItem.sm x.disrupted ∧ True
theorem Budget.Qv1 {x : Budget} (h : Budget.sm x) : Val.Sm sB (Budget.encS x) ∧ Val.Sm sB (Budget.encT x) := ⟨Qmh (Nat.le_of_ble_eq_true rfl) (List.forall_mem_cons.2 ⟨Q4y (fun _ h => Amount.Q42 h) h.2.2.1, List.forall_mem_cons.2 ⟨Q4y (fun _ h => Amount.Q42 h) h.2.1, List.forall_mem_cons.2 ⟨Q4y (fun _ h => Requirement.Q42 h) h.1, fun _ h => by cases h⟩⟩⟩), Qmh (Nat.le_of_ble_eq_true rfl) (List.forall_mem_cons.2 ⟨Val.Sm.leaf 2 _ _, List.forall_mem_cons.2 ⟨Val.Sm.leaf 2 _ _, List.forall_mem_cons.2 ⟨Q4y (fun _ h => WorkItem.Q42 h) h.2.2.2.1, List.forall_mem_cons.2 ⟨Val.Sm.leaf 2 _ _, List.forall_mem_cons.2 ⟨Val.Sm.leaf 2 _ _, List.forall_mem_cons.2 ⟨Val.Sm.leaf 2 _ _, fun _ h => by cases h⟩⟩⟩⟩⟩⟩)⟩
def Budget.R (o : Object) : Budget × Int := bif Budget.ok o then (Budget.of o, 0) else ((Budget.mk (Meta.mk eB eB eB 0 0 0 0 false 0 [] [] [] []) [] [] [] 0 0 0 0 0 []), 6)
def Budget.at (x : Budget) : Budget := Budget.mk { x.meta_ with kind := Qk } x.selector x.minAvailable x.maxUnavailable x.observed x.healthy x.desired x.expected x.allowed x.disrupted
abbrev Budget.z : Budget := (Budget.mk (Meta.mk eB eB eB 0 0 0 0 false 0 [] [] [] []) [] [] [] 0 0 0 0 0 [])
theorem Budget.R_at (x : Budget) : Budget.R (Budget.obj x) = (Budget.at x, 0) := by
  unfold Budget.R
  rw [(Budget.back x).2, (Budget.back x).1]
  rfl
theorem Budget.rc {o : Object} (h : Val.Sm 1000 o.spec ∧ Val.Sm 1000 o.status) : resC (Budget.cnt o) (Budget.of o) Budget.z = Budget.R o := by
  rw [Qve (Nat.le_trans (Budget.Q51 h) (Nat.le_of_ble_eq_true rfl)), Budget.cnt0]
  rfl
def Quota.encS (x : Quota) : Val := vM [.mk Qi (Resources.enc x.hard), .mk Q12 (vN x.pods)]
def Quota.encT (x : Quota) : Val := vM [.mk Q27 (vN x.has), .mk Q15 (Resources.enc x.used)]
def Quota.obj (x : Quota) : Object := ⟨{ x.meta_ with kind := Qd }, Quota.encS x, Quota.encT x⟩
def Quota.of (o : Object) : Quota := Quota.mk o.meta_ (dT Resources.dec o.spec Qi).1 (dT Resources.dec o.status Q15).1 (dN o.spec Q12).1 (dN o.status Q27).1
def Quota.ok (o : Object) : Bool := sEq o.meta_.kind Qd && (isM o.spec && (isM o.status && ((dT Resources.dec o.spec Qi).2 && ((dN o.spec Q12).2 && ((dN o.status Q27).2 && (dT Resources.dec o.status Q15).2)))))
def Quota.cnt (o : Object) : Nat := nb (sEq o.meta_.kind Qd) + cM o.spec + cM o.status + (cM o.spec + Resources.cnt (prt o.spec Qi)) + pK 2 o.spec Q12 + (cM o.status + Resources.cnt (prt o.status Q15)) + pK 2 o.status Q27
theorem Quota.cnt0 (o : Object) : (Quota.cnt o == 0) = Quota.ok o := by
  unfold Quota.cnt Quota.ok
  simp only [add0, nb0, cM0, Resources.cnt0, pN0, dN, dT, Bool.and_assoc, Bool.and_left_comm, Bool.and_comm, Bool.and_self_left]
theorem Quota.Q51 {o : Object} (h : Val.Sm 1000 o.spec ∧ Val.Sm 1000 o.status) : Quota.cnt o ≤ 21 := by
  have g0 := Qzu (sEq o.meta_.kind Qd)
  have g1 := Qkz 5 o.spec
  have g2 := Qkz 5 o.status
  have g3 := Resources.Q51 (Q4e h.1 Qi)
  have g4 := Q64 2 o.spec Q12
  have g5 := Resources.Q51 (Q4e h.2 Q15)
  have g6 := Q64 2 o.status Q27
  unfold Quota.cnt cM
  omega
theorem Quota.Q12k (x : Quota) : prt (Quota.encS x) Qi = Resources.enc x.hard := by kernel_rfl
theorem Quota.Q12l (x : Quota) : prt (Quota.encS x) Q12 = vN x.pods := by kernel_rfl
theorem Quota.Q12m (x : Quota) : prt (Quota.encT x) Q15 = Resources.enc x.used := by kernel_rfl
theorem Quota.Q177 (x : Quota) : prt (Quota.encT x) Q27 = vN x.has := by kernel_rfl
theorem Quota.back (x : Quota) : Quota.of (Quota.obj x) = Quota.mk { x.meta_ with kind := Qd } x.hard x.used x.pods x.has ∧ Quota.ok (Quota.obj x) = true := by
  have h0 : dT Resources.dec (Quota.encS x) Qi = (x.hard, true) := by unfold dT; rw [Quota.Q12k]; exact Resources.Q5c _
  have h1 : dN (Quota.encS x) Q12 = (x.pods, true) := by unfold dN; rw [Quota.Q12l]; rfl
  have h2 : dT Resources.dec (Quota.encT x) Q15 = (x.used, true) := by unfold dT; rw [Quota.Q12m]; exact Resources.Q5c _
  have h3 : dN (Quota.encT x) Q27 = (x.has, true) := by unfold dN; rw [Quota.Q177]; rfl
  refine ⟨?_, ?_⟩
  · show Quota.mk _ (dT Resources.dec (Quota.encS x) Qi).1 (dT Resources.dec (Quota.encT x) Q15).1 (dN (Quota.encS x) Q12).1 (dN (Quota.encT x) Q27).1 = _
    rw [h0, h1, h2, h3]
    all_goals rfl
  · unfold Quota.ok
    show (sEq Qd Qd && (true && (true && ((dT Resources.dec (Quota.encS x) Qi).2 && ((dN (Quota.encS x) Q12).2 && ((dN (Quota.encT x) Q27).2 && (dT Resources.dec (Quota.encT x) Q15).2)))))) = true
    rw [h0, h1, h2, h3, Q2l.2 rfl]
    all_goals rfl
def Quota.sm (x : Quota) : Prop := Resources.sm x.hard ∧ Resources.sm x.used ∧ True
theorem Quota.Qv1 {x : Quota} (h : Quota.sm x) : Val.Sm sB (Quota.encS x) ∧ Val.Sm sB (Quota.encT x) := ⟨Qmh (Nat.le_of_ble_eq_true rfl) (List.forall_mem_cons.2 ⟨Resources.Q42 h.1, List.forall_mem_cons.2 ⟨Val.Sm.leaf 2 _ _, fun _ h => by cases h⟩⟩), Qmh (Nat.le_of_ble_eq_true rfl) (List.forall_mem_cons.2 ⟨Val.Sm.leaf 2 _ _, List.forall_mem_cons.2 ⟨Resources.Q42 h.2.1, fun _ h => by cases h⟩⟩)⟩
def Quota.R (o : Object) : Quota × Int := bif Quota.ok o then (Quota.of o, 0) else ((Quota.mk (Meta.mk eB eB eB 0 0 0 0 false 0 [] [] [] []) (Resources.mk 0 0 0) (Resources.mk 0 0 0) 0 0), 6)
def Quota.at (x : Quota) : Quota := Quota.mk { x.meta_ with kind := Qd } x.hard x.used x.pods x.has
abbrev Quota.z : Quota := (Quota.mk (Meta.mk eB eB eB 0 0 0 0 false 0 [] [] [] []) (Resources.mk 0 0 0) (Resources.mk 0 0 0) 0 0)
theorem Quota.R_at (x : Quota) : Quota.R (Quota.obj x) = (Quota.at x, 0) := by
  unfold Quota.R
  rw [(Quota.back x).2, (Quota.back x).1]
  rfl
theorem Quota.rc {o : Object} (h : Val.Sm 1000 o.spec ∧ Val.Sm 1000 o.status) : resC (Quota.cnt o) (Quota.of o) Quota.z = Quota.R o := by
  rw [Qve (Nat.le_trans (Quota.Q51 h) (Nat.le_of_ble_eq_true rfl)), Quota.cnt0]
  rfl
def Object.sm (x : Object) : Prop := Val.Sm sB x.spec ∧ Val.Sm sB x.status
theorem Qvd {α : Type} {n m : Nat} {x y z : α} (h : n = m) (g : x = y) : resC n x z = resC m y z := by rw [h, g]
theorem Q8t {p q : List Fld} (hp : p.length ≤ 20) (h : mapOf p = q) : Q4a p = vM q := by rw [vmap hp, h]
theorem getL (x : Val) : (bif x.kind == 4 then x else vZ).list = (xL x).1 := by
  unfold xL
  cases (x.kind == 4) <;> rfl
theorem getN (x : Val) : (bif x.kind == 2 then x else vZ).n = (xN x).1 := by
  unfold xN
  cases (x.kind == 2) <;> rfl
theorem getS (x : Val) : (bif x.kind == 3 then x else vZ).s = (xS x).1 := by
  unfold xS
  cases (x.kind == 3) <;> rfl
theorem getB (x : Val) : (!((bif x.kind == 1 then x else vZ).n == 0)) = (xB x).1 := by
  unfold xB
  cases (x.kind == 1) <;> rfl
end Go.Proofs.Ytbagpdebihicnaa
end

section
/- Metadata that are copied (printed by a program). -/
namespace Go.Proofs.Ytbagpdebihicnaa
open Go.Pv
def Qpo (p0 : Meta) : List Manager → Nat → Unit
 | [], _i0 =>
  ()
 | _x0 :: r0, i0 =>
  Qpo p0 r0 (i0 + 1)
def Qiw (p0 : Meta) (i0 : Nat) : List PV :=
  [.un, .bx 0 0, .bx 1 0] ++ nuns 19 ++ [.ms 2 2 0 (List.length p0.managers), .int .i64 ((List.length p0.managers) : Int), .int .i64 (i0 : Int)] ++ nuns 14
def Qam (p0 : Meta) (_i0 : Nat) : List Ob :=
  [⟨13, 0, true, [.str p0.kind, .str p0.namespace_, .str p0.name, .int .i64 p0.uid, .int .i64 p0.version, .int .i64 p0.generation, .int .i64 p0.created, .bool p0.deleting, .int .i64 p0.deleteAt, .sl (Label.rows p0.labels), .sl (Owner.rows p0.owners), .sl (Qg p0.finalizers), .ms 2 2 0 (List.length p0.managers)]⟩, ⟨13, 0, true, [.str eB, .str eB, .str eB, .int .i64 0, .int .i64 0, .int .i64 0, .int .i64 0, .bool false, .int .i64 0, .ms 3 2 0 0, .ms 4 5 0 0, .ms 5 1 0 0, .ms 6 2 0 0]⟩, ⟨2, 0, true, (Manager.rows p0.managers).flatten⟩, ⟨2, 0, true, []⟩, ⟨5, 0, true, []⟩, ⟨1, 0, true, []⟩, ⟨2, 0, true, []⟩]
def Q9f (p0 : Meta) (i0 : Nat) : En := .loop 0 Ir.Qb9 Ir.Qyb (Qiw p0 i0) (Qam p0 i0)
def Qeb (p0 : Meta) (z : Nat → PV) (_zo : Nat → List PV) : St :=
  ⟨[z 0, .bx 0 0, .bx 1 0] ++ zr z 3 36, [(0, ⟨13, 0, true, [.str p0.kind, .str p0.namespace_, .str p0.name, .int .i64 p0.uid, .int .i64 p0.version, .int .i64 p0.generation, .int .i64 p0.created, .bool p0.deleting, .int .i64 p0.deleteAt, .sl (Label.rows p0.labels), .sl (Owner.rows p0.owners), .sl (Qg p0.finalizers), .ms 2 2 0 (List.length p0.managers)]⟩), (1, ⟨13, 0, true, [.str eB, .str eB, .str eB, .int .i64 0, .int .i64 0, .int .i64 0, .int .i64 0, .bool false, .int .i64 0, .ms 3 2 0 0, .ms 4 5 0 0, .ms 5 1 0 0, .ms 6 2 0 0]⟩), (2, ⟨2, 0, true, (Manager.rows p0.managers).flatten⟩), (3, ⟨2, 0, true, []⟩), (4, ⟨5, 0, true, []⟩), (5, ⟨1, 0, true, []⟩), (6, ⟨2, 0, true, []⟩)], 71⟩
theorem Qop (p0 : Meta) (i0 : Nat) : VOK (Go.Pv.look (number 0 (Qam p0 i0))) [(2, Manager.rows p0.managers)] := (VOK.cons (show Seen _ _ from Q3n (ob := ⟨2, 0, true, (Manager.rows p0.managers).flatten⟩) (Manager.Qb p0.managers 2 rfl)) VOK.nil)
def Q6e (p0 : Meta) (e : En) (_q : Unit) : Prop := ∃ z zo, Q7 G e (.st (.exit 0) (Qeb p0 z zo))
theorem Qhg (p0 : Meta) {e e' : En} (h : ∀ r, Q7 G e r → Q7 G e' r) : ∀ q, Q6e p0 e q → Q6e p0 e' q
  | _, ⟨z, zo, hz⟩ => ⟨z, zo, h _ hz⟩
def Q9r (p0 : Meta) : Prop := (List.length p0.managers ≤ 4611686018427387904) ∧ (∀ x0 ∈ p0.managers, List.length x0.fields * 16 ≤ 140737488355328) ∧ True
def Qfe (p0 : Meta) (i0 : Nat) : List PV :=
  nuns 22 ++ [.ms 2 2 0 (List.length p0.managers), .int .i64 ((List.length p0.managers) : Int), .int .i64 (i0 : Int), .bool false]
def Qc0 (_p0 : Meta) (_i0 : Nat) : List (Nat × List PV) :=
  []
theorem Qsg (p0 : Meta) (_H : Q9r p0) (i0 : Nat) (hc0 : (decide ((i0 : Int) < ((List.length p0.managers) : Int))) = false) : Q6e p0 (Q9f p0 i0) () := by
 exact ⟨(envF (Qfe p0 i0)), (zoF (Qc0 p0 i0)), Qm (Qop p0 i0) (x := ((.exit 0), Qeb p0 (envF (Qfe p0 i0)) (zoF (Qc0 p0 i0)))) [hB 0 hc0] [] (by kernel_rfl)⟩
theorem Qrm (p0 : Meta) (H : Q9r p0) (x0 : Manager) (i0 : Nat) (hx0 : p0.managers[i0]? = some x0) (hi0 : i0 < List.length p0.managers) (hc0 : (decide ((i0 : Int) < ((List.length p0.managers) : Int))) = true) {r : Rs} (hr : Q7 G (Q9f p0 (i0 + 1)) r) : Q7 G (Q9f p0 i0) r := by
 have hB0 := H.1
 exact Qn (Qop p0 i0) (y := (Qiw p0 (i0 + 1), Qam p0 (i0 + 1))) [hB 0 hc0, hP 1 (Q2n 2 2 (List.length p0.managers) (i0 : Int) i0 (by omega) (by omega) (by omega)), hP 0 (Q6k 2 2 0 true ((Manager.rows p0.managers).flatten) (Manager.rows p0.managers) 2 true i0 0 (i0 * 2) (Manager.cells x0) (.agg [.str x0.name, .sl (Qg x0.fields)]) rfl rfl (Manager.Qf hx0) (Manager.Qh p0.managers) (by decide) rfl), hP 9 (Q2n 2 2 (List.length p0.managers) (i0 : Int) i0 (by omega) (by omega) (by omega)), hV 1 [(2, Manager.rows p0.managers)] (Qvm 2 2 true ((Manager.rows p0.managers).flatten) (Manager.rows p0.managers) (Manager.rows p0.managers) 1 i0 1 (i0 * 2 + 1) _ (.sl (Qg x0.fields)) rfl rfl (Manager.Qf hx0) (Manager.Qh p0.managers) (by decide) rfl rfl (Qnk (Manager.Qf hx0))), hS 0 true (Manager.Qb p0.managers 2 rfl), hP 0 (Q1o i0 (by omega))] [aN (Q4p (G := G) (f := 65) (sz := 1) (bytes := 16) rfl (Q1h x0.fields) (Q4f x0.fields 1 rfl) (H.2.1 x0 (Q29 hx0)))] (by kernel_rfl) hr
theorem Qls (p0 : Meta) (H : Q9r p0) : ∀ (r0 : List Manager) (i0 : Nat), List.drop i0 p0.managers = r0 → Q6e p0 (Q9f p0 i0) (Qpo p0 r0 i0)
 | [], i0, hd => by
  have hc0 : (decide ((i0 : Int) < ((List.length p0.managers) : Int))) = false := by have := Q1d hd; simp; omega
  show Q6e p0 _ ()
  exact Qsg p0 H i0 hc0
 | x0 :: r0, i0, hd => by
  obtain ⟨hx0, hi0, hd'⟩ := Q19 hd
  have hc0 : (decide ((i0 : Int) < ((List.length p0.managers) : Int))) = true := by simp; omega
  show Q6e p0 _ ()
  exact Qhg p0 (fun r hr => Qrm p0 H x0 i0 hx0 hi0 hc0 hr) _ (Qls p0 H r0 (i0 + 1) hd')
def Q12s (p0 : Meta) : Meta := p0
theorem Q16f (p0 : Meta) : Q12s p0 = (p0) := by
  rfl
def Q15e (p0 : Meta) : En := .call 31 [.agg (Meta.cells p0)] []
def Q11a (p0 : Meta) : Rs := .ret (.agg (Meta.cells (Q12s p0))) []
def Qgx (p0 : Meta) : Prop := (List.length p0.labels * 32 ≤ 140737488355328) ∧ (List.length p0.owners * 48 ≤ 140737488355328) ∧ (List.length p0.finalizers * 16 ≤ 140737488355328) ∧ (List.length p0.managers * 40 ≤ 140737488355328) ∧ (Q9r p0) ∧ True
theorem Q104 (p0 : Meta) (H : Qgx p0) : Q7 G (Q15e p0) (Q11a p0) := by
 unfold Q11a
 rw [Q16f]
 have hl0 := Qls p0 (H.2.2.2.2.1) p0.managers 0 (by simp)
 obtain ⟨z0, zo0, hl0⟩ := hl0
 exact Qa (fn := Ir.K1h) rfl VOK.nil [hQ (Manager.Qb p0.managers 2 rfl), hS 0 true (Manager.Qb p0.managers 2 rfl), hQ (Manager.Q8 p0.managers).symm] [aN (Q4p (G := G) (f := 63) (sz := 2) (bytes := 32) rfl (Label.Q8 p0.labels) (Label.Qb p0.labels 2 rfl) H.1), aN (Q4p (G := G) (f := 64) (sz := 5) (bytes := 48) rfl (Owner.Q8 p0.owners) (Owner.Qb p0.owners 5 rfl) H.2.1), aN (Q4p (G := G) (f := 65) (sz := 1) (bytes := 16) rfl (Q1h p0.finalizers) (Q4f p0.finalizers 1 rfl) H.2.2.1), aV [(0, Manager.rows p0.managers)] (Q5i (G := G) (f := 66) (sz := 2) (bytes := 40) rfl (Manager.Q8 p0.managers) (Manager.Qb p0.managers 2 rfl) H.2.2.2.1), aV [(2, Manager.rows p0.managers)] hl0] (by kernel_rfl)
end Go.Proofs.Ytbagpdebihicnaa
end

