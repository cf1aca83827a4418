/-
  What is made anew, appended, cleared.
-/
import Derived.Test.YtedohmdgbilicaaPvI
namespace Go.Pv
open Go.RowKit

section
variable {P : Program} {w : World} {D : Nat → Option Nat} {H : Nat → Option Ob} {F : Nat → Nat → Prop} {n0 m fr : Nat} {a : Act} {e : Nat → PV}

def litsOK : List (Nat × Operand) → List (Nat × Opd) → Bool
  | [], [] => true
  | (i, x) :: r, (j, y) :: r' => Nat.beq i j && opdOK x y && litsOK r r'
  | _, _ => false
def zElem (P : Program) (t : TypeId) (sz : Nat) (z : List PV) : Bool :=
  match sliceElem P t with
  | some e => optEq (szOf P e) sz && zeroOK P e z && Nat.beq z.length sz
  | none => false
def bElem (P : Program) (t : TypeId) (bytes : Nat) : Bool :=
  match sliceElem P t with
  | some e => (match P.info? e with | some i => Nat.beq i.bytes bytes && Nat.ble 1 bytes && (match i.zero with | some z => Nat.beq z.cells.size i.size | none => false) | none => false)
  | none => false
def appOK (P : Program) (sz bytes : Nat) (y z : Opd) : List Operand → List TypeId → Bool
  | [x, u], [t, t'] => esz P t sz && bElem P t bytes && (sliceElem P t').isSome && opdOK x y && opdOK u z
  | _, _ => false
def clrOK (P : Program) (sz : Nat) (z : List PV) (y : Opd) : List Operand → List TypeId → Bool
  | [x], [t] => zElem P t sz z && opdOK x y
  | _, _ => false

def chkH (P : Program) (op : Op) : IOp → Bool
  | .box _ y => (match op with | .box _ x => opdOK x y | _ => false)
  | .zero z => (match op with | .alloc t => zeroOK P t z | _ => false)
  | .lit sz n z ps' => (match op with | .buildSlice t len ps => Nat.beq len n && Nat.ble (n * sz) (2 ^ 24) && Nat.ble 1 sz && zElem P t sz z && litsOK ps.toList ps' | _ => false)
  | .mks sz bytes z y => (match op with | .makeSlice t l c => zElem P t sz z && bElem P t bytes && Nat.ble 1 bytes && opdOK l y && opdOK c y | _ => false)
  | .load n ag y => (match op with | .load t x => tyOK P t n ag && opdOK x y | _ => false)
  | .store n y u => (match op with | .store t x z => optEq (szOf P t) n && opdOK x y && opdOK z u | _ => false)
  | .append sz bytes y z => (match op with | .call c => isB c .append && appOK P sz bytes y z c.args.toList c.argTypes.toList | _ => false)
  | .clear sz z y => (match op with | .call c => isB c .clear && clrOK P sz z y c.args.toList c.argTypes.toList | _ => false)
  | _ => false

theorem rep_get (z : List PV) : ∀ (n i : Nat), 0 < z.length → (rep z n)[i]? = if i < n * z.length then z[i % z.length]? else none
  | 0, i, _ => by simp [rep]
  | n + 1, i, hz => by
    rw [rep]
    by_cases c1 : i < z.length
    · rw [List.getElem?_append_left c1, if_pos (by rw [Nat.add_mul]; omega), Nat.mod_eq_of_lt c1]
    · rw [List.getElem?_append_right (by omega), rep_get z n (i - z.length) hz]
      have e1 : (i - z.length) % z.length = i % z.length := by rw [← Nat.mod_eq_sub_mod (by omega)]
      rw [e1, Nat.add_mul]
      by_cases c2 : i - z.length < n * z.length
      · rw [if_pos c2, if_pos (by omega)]
      · rw [if_neg c2, if_neg (by omega)]
theorem rep_length (z : List PV) : ∀ n, (rep z n).length = n * z.length
  | 0 => by simp [rep]
  | n + 1 => by rw [rep, List.length_append, rep_length z n, Nat.add_mul]; omega

theorem made_sound {M : Nat → Nat → Prop} {v : Value} {z : List PV} {sz : Nat} (hz : RepC w M D v.cells z) (hl : z.length = sz) (n : Nat) : RepC w M D (madeCells v.cells (n * sz)) (rep z n) := by
  have hs : v.cells.size = sz := by rw [hz.1, hl]
  refine ⟨by rw [size_madeCells, rep_length, hl], fun i u p hu hp => ?_⟩
  have hi : i < n * sz := by have := (List.getElem?_eq_some_iff.1 hp).1; rw [rep_length, hl] at this; exact this
  have hsz : 0 < sz := by
    rcases Nat.eq_zero_or_pos sz with h | h
    · rw [h] at hi; omega
    · exact h
  rw [rep_get z n i (by omega), hl, if_pos hi] at hp
  refine hz.2 (i % sz) u p ?_ hp
  rw [madeCells, Array.getElem?_map, Array.getElem?_range, if_pos hi] at hu
  simp only [Option.map_some, Option.some.injEq, hs] at hu
  have hlt : i % sz < v.cells.size := by rw [hs]; exact Nat.mod_lt _ hsz
  rw [← hu, Array.getElem?_eq_getElem hlt]
  congr 1
  exact (getElem!_pos v.cells (i % sz) hlt).symm

theorem fillP_length : ∀ (z : List PV) (ps : List (Nat × Nat × PV)) (c : List PV), fillP z ps = some c → c.length = z.length
  | z, [], c, h => by simp [fillP] at h; rw [h]
  | z, (off, n, p) :: r, c, h => by
    simp only [fillP] at h
    obtain ⟨hb, h⟩ := bif_some h
    simp only [Bool.and_eq_true] at hb
    have hl := Nat.eq_of_beq_eq_true hb.1.1
    have hle := Nat.le_of_ble_eq_true hb.1.2
    rw [fillP_length _ r c h]
    simp only [List.length_append, List.length_take, List.length_drop]
    omega
theorem zElem_some {t : TypeId} {sz : Nat} {z : List PV} (h : zElem P t sz z = true) : ∃ el, P.underlying t = some (.slice el) ∧ szOf P el = some sz ∧ zeroOK P el z = true ∧ z.length = sz := by
  unfold zElem at h
  split at h
  · rename_i el he
    simp only [Bool.and_eq_true] at h
    exact ⟨el, sliceElem_some he, optEq_some h.1.1, h.1.2, Nat.eq_of_beq_eq_true h.2⟩
  · cases h
theorem bElem_some {t el : TypeId} {bytes : Nat} (h : bElem P t bytes = true) (hu : P.underlying t = some (.slice el)) : ∃ i z, P.info? el = some i ∧ i.bytes = bytes ∧ i.zero = some z ∧ z.cells.size = i.size ∧ 1 ≤ bytes := by
  unfold bElem at h
  split at h
  · rename_i el' he
    have := sliceElem_some he
    rw [hu] at this
    injection this with this
    injection this with this
    subst this
    split at h
    · rename_i i hi
      rw [Bool.and_eq_true, Bool.and_eq_true] at h
      obtain ⟨⟨h1, h3⟩, h2⟩ := h
      split at h2
      · rename_i z hz
        exact ⟨i, z, hi, Nat.eq_of_beq_eq_true h1, hz, Nat.eq_of_beq_eq_true h2, Nat.le_of_ble_eq_true h3⟩
      · cases h2
    · cases h
  · cases h

theorem fill_lits {sz : Nat} (he : EnvOK w (Mut D H F) D a e) : ∀ (ps : List (Nat × Operand)) (ps' : List (Nat × Opd)) (cells : Array Value) (z c : List PV), litsOK ps ps' = true → RepC w (Mut D H F) D cells z → fillP z (evLits e sz ps') = some c →
      ∃ xs, Instr.fill (fun i => some (i * sz, sz)) cells (ps.map fun x => (x.1, a.eval x.2)) = some xs ∧ RepC w (Mut D H F) D xs c
  | [], [], cells, z, c, _, hz, h => by
    simp [evLits, fillP] at h
    subst h
    exact ⟨cells, rfl, hz⟩
  | [], _ :: _, _, _, _, h, _, _ => by simp [litsOK] at h
  | _ :: _, [], _, _, _, h, _, _ => by simp [litsOK] at h
  | (i, x) :: r, (j, y) :: r', cells, z, c, hc, hz, h => by
    simp only [litsOK, Bool.and_eq_true] at hc
    obtain ⟨⟨h0, h1⟩, h2⟩ := hc
    obtain rfl := Nat.eq_of_beq_eq_true h0
    simp only [evLits, fillP] at h
    obtain ⟨hb, h⟩ := bif_some h
    simp only [Bool.and_eq_true] at hb
    have hl := Nat.eq_of_beq_eq_true hb.1.1
    have hle := Nat.le_of_ble_eq_true hb.1.2
    have hv := cells_sound (opd_sound he h1) hb.2
    obtain ⟨xs, hx, hr⟩ := fill_lits he r r' _ _ c h2 (lay_sound hz hv (by rw [hl]; exact hle)) (by rw [hl]; exact h)
    refine ⟨xs, ?_, hr⟩
    simp only [List.map_cons, Instr.fill]
    rw [if_neg (by have := hv.1; have := hz.1; simp; omega)]
    exact hx

/-- What makes an object. -/
theorem opA_sound (S : Sim w D H F n0 m) (hfr : D fr = none) (he : EnvOK w (Mut D H F) D a e) {o : Oper} {io : IOp} {y : PV × Ob} (hc : chkH P o.op io = true) (h : opA e fr io = some y) :
    ∃ v w' D', (execOp a.eval o).run P w = .ok (.value v) w' ∧ Step w D H F n0 m fr w' D' (upH H [(fr, some y.2)]) ∧ Rep w' (Mut D' (upH H [(fr, some y.2)]) F) D' v y.1 := by
  obtain ⟨dst, op, type, pos, after, guard⟩ := o
  simp only at hc
  have mk : ∀ (arr : Array Value) (ty : TypeId) (ob : Ob), ob.ro = 0 → RepC w (Mut D H F) D arr ob.cells → Step w D H F n0 m fr (w.alloc (.cells arr ty)) (fun id => if id = fr then some w.heap.size else D id) (upH H [(fr, some ob)]) := by
    intro arr ty ob hro hr
    exact step_new S hfr (w' := w.alloc (.cells arr ty)) rfl rfl rfl rfl (by omega) (by rw [hr.1]; exact Nat.le_refl _) (fun k p hp => by
      have hlt : k < arr.size := by rw [hr.1]; exact (List.getElem?_eq_some_iff.1 hp).1
      have := hr.2 k _ p (Array.getElem?_eq_getElem hlt) hp
      exact ⟨_, Array.getElem?_eq_getElem hlt, this.1, this.2⟩) (fun _ _ h => h)
  have msr : ∀ (arr : Array Value) (ty : TypeId) (ob : Ob) (n sz : Nat), arr.size = n * sz → n ≤ maxLen → Rep (w.alloc (.cells arr ty)) (Mut (fun id => if id = fr then some w.heap.size else D id) (upH H [(fr, some ob)]) F) (fun id => if id = fr then some w.heap.size else D id) (.slice (some ⟨w.heap.size, 0, none⟩) n n) (.ms fr sz 0 n) := by
    intro arr ty ob n sz hs hm
    refine .ms _ _ n n fr sz 0 (Nat.le_refl _) hm (.inr ⟨w.heap.size, n * sz, by simp, by simp, ?_, by simp⟩)
    unfold bsize
    have : (w.alloc (.cells arr ty)).heap[w.heap.size]? = some (.cells arr ty (0, 0)) := by
      show (w.heap.push _)[w.heap.size]? = _
      rw [Array.getElem?_push, if_pos rfl]
    rw [this, ← hs]
  cases io with
  | box n y' =>
    cases op <;> simp [chkH] at hc
    rename_i t x
    simp only [opA] at h
    obtain ⟨hb, h⟩ := bif_some h
    injection h with h
    subst h
    rw [Bool.and_eq_true] at hb
    have hr := cells_sound (opd_sound he hc) hb.2
    exact ⟨_, _, _, by simp [execOp, Instr.box, newVar, newRow], mk _ t _ rfl hr, .bx _ w.heap.size fr 0 (by simp)⟩
  | zero z =>
    cases op <;> simp [chkH] at hc
    rename_i t
    simp only [opA, Option.some.injEq] at h
    subst h
    obtain ⟨v, hv, hz⟩ := zero_sound (w := w) (M := Mut D H F) (D := D) hc
    exact ⟨_, _, _, by simp [execOp, Instr.alloc, hv, newVar, newRow], mk _ t _ rfl hz, .bx _ w.heap.size fr 0 (by simp)⟩
  | lit sz n z ps' =>
    cases op <;> simp [chkH] at hc
    rename_i t len ps
    obtain ⟨⟨⟨⟨hn, hle⟩, hsz1⟩, hz⟩, hp⟩ := hc
    subst hn
    obtain ⟨el, hu, hsz, hz, hzl⟩ := zElem_some hz
    obtain ⟨v, hv, hzr⟩ := zero_sound (w := w) (M := Mut D H F) (D := D) hz
    simp only [opA] at h
    obtain ⟨c, hcc, h⟩ := bind_some h
    injection h with h
    subst h
    have hmade := made_sound hzr hzl len
    obtain ⟨xs, hx, hr⟩ := fill_lits he ps.toList ps' _ _ c hp hmade hcc
    have hx' : Instr.fill (fun i => some (i * sz, sz)) (madeCells v.cells (len * sz)) (ps.map fun x => (x.1, a.eval x.2)).toList = some xs := by rw [← hx]; simp
    have hcl : c.length = len * sz := by
      have h1 := fillP_length _ _ _ hcc
      rw [h1, rep_length, hzl]
    refine ⟨_, _, _, ?_, mk xs el _ rfl hr, msr xs el _ len sz (by rw [hr.1, hcl]) ?_⟩
    · have hle' : ¬ (2 ^ 24 < len * sz) := by omega
      by_cases h0 : len * sz = 0
      · have hm0 : madeCells v.cells (len * sz) = (Array.range (len * sz)).map (fun i => (#[] : Array Value)[i % (#[] : Array Value).size]!) := by rw [h0]; simp [madeCells]
        rw [hm0] at hx'
        simp only [execOp, Instr.buildSlice, Sem.run_bind, run_underlying hu, run_sizeOf hsz, Result.andThen_ok, if_neg hle', if_pos h0, Sem.run_pure, hx']
        simp [newRow]
      · unfold madeCells at hx'
        simp only [execOp, Instr.buildSlice, Sem.run_bind, run_underlying hu, run_sizeOf hsz, Result.andThen_ok, if_neg hle', if_neg h0, hv, Sem.run_pure, hx']
        simp [newRow]
    · have h1 : len * 1 ≤ len * sz := Nat.mul_le_mul_left _ hsz1
      unfold maxLen
      omega
  | mks sz bytes z y' =>
    cases op <;> simp [chkH] at hc
    rename_i t l c
    obtain ⟨⟨⟨⟨hz, hbt⟩, hb1⟩, hl⟩, hcp⟩ := hc
    obtain ⟨el, hu, hsz, hz, hzl⟩ := zElem_some hz
    obtain ⟨v, hv, hzr⟩ := zero_sound (w := w) (M := Mut D H F) (D := D) hz
    obtain ⟨i, zv, hi, hib, hiz, _⟩ := bElem_some hbt hu
    simp only [opA] at h
    have rl := opd_sound he hl
    have rc := opd_sound he hcp
    split at h
    · rename_i k n hn
      obtain ⟨hb, h⟩ := bif_some h
      injection h with h
      subst h
      rw [Bool.and_eq_true] at hb
      have h0 := of_decide_eq_true hb.1
      have h47 := of_decide_eq_true hb.2
      rw [hn] at rl rc
      have vl := rep_int rl
      have vc := rep_int rc
      have hzv : v = zv := by
        have := hv w
        simp [zeroValue, typeInfo, hi, hiz] at this
        exact this.symm
      subst hzv
      have hisz : i.size = sz := by
        obtain ⟨i', hi', h⟩ := szOf_info hsz
        rw [hi] at hi'
        injection hi' with hi'
        rw [hi']; exact h
      have hmul : n * 1 ≤ n * (bytes : Int) := Int.mul_le_mul_of_nonneg_left (by omega) h0
      have run := run_make (P := P) w t el i v hu hi hiz k k n n h0 (Int.le_refl _) (by rw [hib, Int.mul_comm]; omega) (by omega)
      rw [hisz] at run
      have hmade := made_sound hzr hzl n.toNat
      refine ⟨_, _, _, ?_, mk (madeCells v.cells (n.toNat * sz)) el ⟨sz, 0, true, rep z n.toNat⟩ rfl hmade, msr _ el _ n.toNat sz (size_madeCells _ _) (by unfold maxLen; omega)⟩
      simp only [execOp, vl, vc, Sem.run_bind, run]
      rfl
    · cases h
  | _ => simp [opA] at h

end
end Go.Pv
