/-
  Reading, storing, laying anew: the machine's run of each, and what becomes of the objects.
-/
import Derived.Test.YtedohmdgbilicaaPvH
import Derived.Laws.MakeOwn
import Derived.Deep.Upon
namespace Go.Pv
open Go.RowKit

section
variable {P : Program} {w : World} {D : Nat → Option Nat} {H : Nat → Option Ob} {F : Nat → Nat → Prop} {n0 m fr : Nat} {a : Act} {e : Nat → PV}

/-- The cells of a list. -/
def RepN (w : World) (M : Nat → Nat → Prop) (D : Nat → Option Nat) (xs : List Value) (c : List PV) : Prop :=
  xs.length = c.length ∧ ∀ (i : Nat) v p, xs[i]? = some v → c[i]? = some p → v.oneCell' = true ∧ Rep w M D v p
theorem RepN.ones {M : Nat → Nat → Prop} {xs : List Value} {c : List PV} (h : RepN w M D xs c) : ∀ u ∈ xs, u.oneCell' = true := by
  intro u hu
  obtain ⟨i, hi⟩ := List.getElem?_of_mem hu
  have hlt : i < c.length := by rw [← h.1]; exact (List.getElem?_eq_some_iff.1 hi).1
  exact (h.2 i u _ hi (List.getElem?_eq_getElem hlt)).1

theorem obj_cells (S : Sim w D H F n0 m) {id b : Nat} {ob : Ob} (hob : H id = some ob) (hD : D id = some b) : ∃ carr t, w.heap[b]? = some (.cells carr t (0, 0)) ∧ ob.cells.length ≤ carr.size ∧ ob.ro ≤ ob.cells.length ∧
    ∀ (k : Nat) p, ob.cells[k]? = some p → ∃ v, carr[k]? = some v ∧ v.oneCell' = true ∧ Rep w (Mut D H F) D v p := by
  obtain ⟨h1, h2⟩ := S.ok id ob hob
  rcases h2 with ⟨_, e⟩ | ⟨b', carr, t, e1, e2, e3, _, e5⟩
  · rw [hD] at e; cases e
  · rw [hD] at e1
    injection e1 with e1
    subst e1
    exact ⟨carr, t, e2, e3, h1, e5⟩

/-- part of an object's cells, as values -/
theorem obj_part {carr : Array Value} {cells : List PV} {M : Nat → Nat → Prop} (hlen : cells.length ≤ carr.size) (h : ∀ (k : Nat) p, cells[k]? = some p → ∃ v, carr[k]? = some v ∧ v.oneCell' = true ∧ Rep w M D v p) {off n : Nat} (hle : off + n ≤ cells.length) :
    ∃ xs : List Value, RepN w M D xs ((cells.drop off).take n) ∧ xs.length = n ∧ ∀ (j : Nat) v, xs[j]? = some v → carr[off + j]? = some v := by
  refine ⟨((carr.toList.drop off).take n), ⟨?_, fun i v p hv hp => ?_⟩, ?_, fun j v hj => ?_⟩
  · simp only [List.length_take, List.length_drop, Array.length_toList]; omega
  · have hi : i < n := by have := (List.getElem?_eq_some_iff.1 hp).1; rw [List.length_take] at this; omega
    rw [List.getElem?_take, if_pos hi, List.getElem?_drop] at hv hp
    obtain ⟨u, e1, e2, e3⟩ := h _ p hp
    have : carr[off + i]? = some v := by simpa using hv
    rw [e1] at this
    injection this with this
    subst this
    exact ⟨e2, e3⟩
  · simp only [List.length_take, List.length_drop, Array.length_toList]; omega
  · have hi : j < n := by have := (List.getElem?_eq_some_iff.1 hj).1; rw [List.length_take] at this; omega
    rw [List.getElem?_take, if_pos hi, List.getElem?_drop] at hj
    simpa using hj

theorem reads_sound (S : Sim w D H F n0 m) {n : Nat} {p : PV} {c : List PV × List Nat} {v : Value} (h : reads H n p = some c) (hr : Rep w (Mut D H F) D v p) :
    ∃ b o xs, v = .pointer (some ⟨b, o, none⟩) ∧ xs.length = n ∧ w.rangeAt b o xs ∧ RepN w (Mut D H F) D xs c.1 := by
  unfold reads at h
  split at h
  · rename_i id off
    obtain ⟨ob, hob, h⟩ := bind_some h
    obtain ⟨hb, h⟩ := bif_some h
    injection h with h
    subst h
    obtain ⟨b, hD, hv⟩ := rep_bx hr
    obtain ⟨carr, t, e1, e2, e3, e4⟩ := obj_cells S hob hD
    obtain ⟨xs, h1, h2, h3⟩ := obj_part e2 e4 (Nat.le_of_ble_eq_true hb)
    exact ⟨b, off, xs, hv, h2, fun j u hu => cell_of.2 ⟨carr, t, _, e1, h3 j u hu⟩, h1⟩
  · rename_i cs
    obtain ⟨hb, h⟩ := bif_some h
    injection h with h
    subst h
    have hle := Nat.le_of_ble_eq_true hb
    cases v with
    | pointer A =>
      cases hr with
      | rf _ b o _ vs hcell hrep =>
        refine ⟨b, o, (List.range n).map vs, rfl, by simp, fun j u hu => ?_, ⟨by simp; omega, fun i u q hu hq => ?_⟩⟩
        · rw [List.getElem?_map] at hu
          obtain ⟨j', hj', rfl⟩ := Option.map_eq_some_iff.1 hu
          have hjn : j < n := by have := (List.getElem?_eq_some_iff.1 hj').1; simpa using this
          have : j' = j := by rw [List.getElem?_range hjn] at hj'; injection hj' with hj'; exact hj'.symm
          subst this
          exact (hcell j' _ (List.getElem?_eq_getElem (show j' < cs.length by omega))).2.1
        · rw [List.getElem?_map] at hu
          obtain ⟨j', hj', rfl⟩ := Option.map_eq_some_iff.1 hu
          have hjn : i < n := by have := (List.getElem?_eq_some_iff.1 hj').1; simpa using this
          have : j' = i := by rw [List.getElem?_range hjn] at hj'; injection hj' with hj'; exact hj'.symm
          subst this
          rw [List.getElem?_take, if_pos hjn] at hq
          exact ⟨(hcell j' q hq).2.2, (hrep j' q hq).to (fun _ _ _ h => h) (fun _ _ h => by cases h)⟩
    | _ => cases hr
  · cases h

/-- A load. -/
theorem load_sound (S : Sim w D H F n0 m) (he : EnvOK w (Mut D H F) D a e) {o : Oper} {t : TypeId} {x : Operand} {y : Opd} {n : Nat} {ag : Bool} (ho : o.op = .load t x) (ht : tyOK P t n ag = true) (hx : opdOK x y = true) {f : Eff} (h : opLoad H n ag (y.ev e) = some f) :
    ∃ v, (execOp a.eval o).run P w = .ok (.value v) w ∧ Rep w (Mut D H F) D v f.v ∧ f.hw = [] := by
  unfold opLoad at h
  obtain ⟨c, hc, h⟩ := bind_some h
  obtain ⟨q, hq, h⟩ := bind_some h
  injection h with h
  subst h
  obtain ⟨b, off, xs, hv, hl, hra, hrn⟩ := reads_sound S hc (opd_sound he hx)
  obtain ⟨ha, hn, h1⟩ := tyOK_spec ht
  simp only [execOp, ho, hv]
  cases ag with
  | true =>
    obtain ⟨fs, hu⟩ := rowTy_true ha
    simp only [shape, cond_true, Option.some.injEq] at hq
    subst hq
    refine ⟨.agg xs.toArray, ?_, .agg _ _ _ (by simpa using hrn.1) (fun i v p hv hp => (hrn.2 i v p (by simpa using hv) hp).1) (fun i v p hv hp => (hrn.2 i v p (by simpa using hv) hp).2), by first | rfl | trivial⟩
    obtain ⟨i, hi, his⟩ := szOf_info hn
    have := run_loadAt_mid (P := P) w b off t xs _ hra hu rfl (by rw [hi]; simp [his, hl])
    simp [this]
  | false =>
    have hn1 : n = 1 := h1 rfl
    subst hn1
    cases xs with
    | nil => simp at hl
    | cons u r =>
      have hr0 : r = [] := by cases r with | nil => rfl | cons _ _ => simp at hl
      subst hr0
      obtain ⟨c1, c2⟩ := c
      cases c1 with
      | nil => have := hrn.1; simp at this
      | cons p r =>
        have : r = [] := by cases r with | nil => rfl | cons _ _ => have := hrn.1; simp at this
        subst this
        simp only [shape, cond_false, Option.some.injEq] at hq
        subst hq
        have hcell := hra 0 u rfl
        simp only [Nat.add_zero] at hcell
        refine ⟨u, ?_, (hrn.2 0 u p rfl rfl).2, by first | rfl | trivial⟩
        simp [Instr.loadAt, Instr.sureAddr, loadVar, run_isAgg ha, hcell]

/-- A store. -/
theorem store_sound (S : Sim w D H F n0 m) (he : EnvOK w (Mut D H F) D a e) {o : Oper} {t : TypeId} {x z : Operand} {y u : Opd} {n : Nat} (ho : o.op = .store t x z) (ht : optEq (szOf P t) n = true) (hx : opdOK x y = true) (hz : opdOK z u = true) {f : Eff} (h : opStore H n (y.ev e) (u.ev e) = some f) :
    ∃ w', (execOp a.eval o).run P w = .ok .skip w' ∧ Step w D H F n0 m fr w' D (upH H f.hw) ∧ f.v = .un := by
  unfold opStore at h
  split at h
  · rename_i id off hid
    obtain ⟨ob, hob, h⟩ := bind_some h
    obtain ⟨hb, h⟩ := bif_some h
    injection h with h
    subst h
    simp only [Bool.and_eq_true] at hb
    have hl := Nat.eq_of_beq_eq_true hb.1.1.1
    have hfit := hb.1.1.2
    have hro := Nat.le_of_ble_eq_true hb.1.2
    have hle := Nat.le_of_ble_eq_true hb.2
    have rx := opd_sound he hx
    rw [hid] at rx
    obtain ⟨b, hD, hv⟩ := rep_bx rx
    obtain ⟨carr, ty, e1, e2, e3, e4⟩ := obj_cells S hob hD
    have hc := cells_sound (opd_sound he hz) hfit
    generalize hzv : a.eval z = zv at *
    generalize hcs : (u.ev e).cs = cs at *
    subst hl
    have hzl : zv.cells.toList.length = cs.length := by simpa using hc.1
    have hone : ∀ v ∈ zv.cells.toList, v.oneCell' = true := by
      intro v hv
      obtain ⟨i, hi⟩ := List.getElem?_of_mem hv
      have hlt : i < cs.length := by rw [← hzl]; exact (List.getElem?_eq_some_iff.1 hi).1
      exact (hc.2 i v _ (by simpa using hi) (List.getElem?_eq_getElem hlt)).1
    have hst := run_storeCells_cells (P := P) b off zv.cells.toList 0 w (fun j hj => by
        have : off + 0 + j < carr.size := by omega
        rw [cell_of.2 ⟨carr, ty, _, e1, Array.getElem?_eq_getElem this⟩]; rfl) (fun j hj => by simp [World.frozen?, e1]) hone
    simp only [Nat.add_zero] at hst
    obtain ⟨a1, a2, a3, a4, a5, carr', a6, a7, a8⟩ := setCells_heap b ty zv.cells.toList off w carr e1 (by omega)
    refine ⟨w.setCells b off zv.cells.toList, ?_, ?_, rfl⟩
    · have hsz : zv.cells.size = cs.length := by simpa using hzl
      simp [execOp, ho, hv, hzv, Instr.storeAt, Instr.sureAddr, storeVar, run_sizeOf (optEq_some ht), hsz, hst]
    · have := step_upd (fr := fr) (id' := id) (ob' := ⟨ob.sz, ob.ro, ob.gr, ob.cells.take off ++ (cs ++ ob.cells.drop (off + cs.length))⟩) S hob hD e1 (.inl rfl) a1 a5 a6 a7 (fun k hk => by rw [a8 k, if_neg (by omega)]) a2 a3 a4 rfl
        (by simp only [List.length_append, List.length_take, List.length_drop]; omega) (fun h => h) (by simp only [List.length_append, List.length_take, List.length_drop]; omega) (fun k p hp => by
          simp only at hp
          rw [a8 k, hzl]
          by_cases c1 : k < off
          · rw [if_neg (by omega)]
            rw [List.getElem?_append_left (by rw [List.length_take]; omega), List.getElem?_take, if_pos c1] at hp
            exact e4 k p hp
          · rw [List.getElem?_append_right (by rw [List.length_take]; omega), List.length_take, Nat.min_eq_left (by omega)] at hp
            by_cases c2 : k - off < cs.length
            · rw [if_pos (by omega)]
              rw [List.getElem?_append_left c2] at hp
              have hlt : k - off < zv.cells.toList.length := by omega
              have h0 := hc.2 (k - off) _ p (by rw [← Array.getElem?_toList]; exact List.getElem?_eq_getElem hlt) hp
              exact ⟨_, List.getElem?_eq_getElem hlt, h0.1, h0.2⟩
            · rw [if_neg (by omega)]
              rw [List.getElem?_append_right (by omega), List.getElem?_drop] at hp
              exact e4 k p (by rw [← hp]; congr 1; omega))
      have hDe : (fun j => if j = id then some b else D j) = D := by
        funext j
        by_cases e : j = id
        · rw [if_pos e, e, hD]
        · rw [if_neg e]
      have hHe : (fun j => if j = id then some (⟨ob.sz, ob.ro, ob.gr, ob.cells.take off ++ (cs ++ ob.cells.drop (off + cs.length))⟩ : Ob) else if j = id then none else H j) = upH H [(id, some ⟨ob.sz, ob.ro, ob.gr, ob.cells.take off ++ (cs ++ ob.cells.drop (off + cs.length))⟩)] := by
        funext j
        by_cases e : j = id <;> simp [upH, e]
      rw [hDe, hHe] at this
      exact this
  · cases h

end
end Go.Pv
