/-
  How a tree (PV) lies in memory (Rep), what a call's objects are in memory (Sim), and how both outlive a step.
-/
import Derived.Test.YtedohmdgbilicaaPvA
import Derived.Below
import Derived.Laws.Sem
namespace Go.Pv
open Go.RowKit

/-- w' is w, but for cells of M (and new blocks). -/
structure Keeps (M : Nat → Nat → Prop) (w w' : World) : Prop where
  os : w'.os = w.os
  tape : w'.tape = w.tape
  output : w'.output = w.output
  size : w.heap.size ≤ w'.heap.size
  block : ∀ k, k < w.heap.size → w'.heap[k]? = w.heap[k]? ∨ ∃ c c' t fr, w.heap[k]? = some (.cells c t fr) ∧ w'.heap[k]? = some (.cells c' t fr) ∧ c'.size = c.size ∧ ∀ o, ¬ M k o → c'[o]? = c[o]?

theorem Keeps.refl (M : Nat → Nat → Prop) (w : World) : Keeps M w w := ⟨rfl, rfl, rfl, Nat.le_refl _, fun _ _ => .inl rfl⟩
theorem Keeps.trans {M M1 : Nat → Nat → Prop} {w w1 w2 : World} (h : Keeps M w w1) (k : Keeps M1 w1 w2) (hm : ∀ b o, b < w.heap.size → M1 b o → M b o) : Keeps M w w2 := by
  refine ⟨k.os.trans h.os, k.tape.trans h.tape, k.output.trans h.output, Nat.le_trans h.size k.size, fun b hb => ?_⟩
  have hb1 : b < w1.heap.size := Nat.lt_of_lt_of_le hb h.size
  rcases h.block b hb with e | ⟨c, c', t, fr, e1, e2, es, ec⟩
  · rcases k.block b hb1 with e' | ⟨d, d', t, fr, f1, f2, fs, fc⟩
    · exact .inl (e'.trans e)
    · exact .inr ⟨d, d', t, fr, e ▸ f1, f2, fs, fun o ho => fc o (fun hc => ho (hm b o hb hc))⟩
  · rcases k.block b hb1 with e' | ⟨d, d', t', fr', f1, f2, fs, fc⟩
    · exact .inr ⟨c, c', t, fr, e1, e'.trans e2, es, ec⟩
    · rw [e2] at f1
      injection f1 with f1
      injection f1 with g1 g2 g3
      subst g1 g2 g3
      exact .inr ⟨c, d', t, fr, e1, f2, fs.trans es, fun o ho => (fc o (fun hc => ho (hm b o hb hc))).trans (ec o ho)⟩
theorem Keeps.mono {M M1 : Nat → Nat → Prop} {w w1 : World} (h : Keeps M w w1) (hm : ∀ b o, b < w.heap.size → M b o → M1 b o) : Keeps M1 w w1 :=
  ⟨h.os, h.tape, h.output, h.size, fun b hb => (h.block b hb).imp (fun x => x) fun ⟨c, c', t, fr, e1, e2, es, ec⟩ => ⟨c, c', t, fr, e1, e2, es, fun o ho => ec o (fun hc => ho (hm b o hb hc))⟩⟩
theorem Keeps.below {w w' : World} (h : Keeps (fun _ _ => False) w w') : Below w.heap.size w w' := by
  refine ⟨h.os, h.tape, h.output, h.size, fun k hk => ?_⟩
  rcases h.block k hk with e | ⟨c, c', t, fr, e1, e2, es, ec⟩
  · exact e
  · have : c' = c := by
      apply Array.ext_getElem?
      intro i
      exact ec i (fun h => h)
    rw [e1, e2, this]
theorem Keeps.of_below {M : Nat → Nat → Prop} {w w' : World} (h : Below w.heap.size w w') : Keeps M w w' := ⟨h.os, h.tape, h.output, h.size, fun k hk => .inl (h.block k hk)⟩
theorem cell_lt {w : World} {b o : Nat} {v : Value} (h : w.cell? ⟨b, o, none⟩ = some v) : b < w.heap.size := World.block_lt_of_cell? w ⟨b, o, none⟩ h
theorem cell_of {w : World} {b o : Nat} {v : Value} : w.cell? ⟨b, o, none⟩ = some v ↔ ∃ c t fr, w.heap[b]? = some (.cells c t fr) ∧ c[o]? = some v := by
  unfold World.cell?
  constructor
  · intro h
    cases hb : w.heap[b]? with
    | none => simp [hb] at h
    | some ob =>
      cases ob <;> simp [hb] at h
      exact ⟨_, _, _, rfl, h⟩
  · rintro ⟨c, t, fr, hb, hc⟩
    simp [hb, hc]
theorem Keeps.cell {M : Nat → Nat → Prop} {w w' : World} (h : Keeps M w w') {b o : Nat} {v : Value} (hm : ¬ M b o) (hc : w.cell? ⟨b, o, none⟩ = some v) : w'.cell? ⟨b, o, none⟩ = some v := by
  obtain ⟨c, t, fr, hb, hv⟩ := cell_of.1 hc
  rcases h.block b (cell_lt hc) with e | ⟨c1, c', t1, fr1, e1, e2, _, ec⟩
  · exact cell_of.2 ⟨c, t, fr, e.trans hb, hv⟩
  · rw [hb] at e1
    injection e1 with e1
    injection e1 with g1 g2 g3
    subst g1 g2 g3
    exact cell_of.2 ⟨c', t, fr, e2, (ec o hm).trans hv⟩
/-- how many cells a block has -/
def bsize (w : World) (b : Nat) : Option Nat :=
  match w.heap[b]? with
  | some (.cells c _ _) => some c.size
  | _ => none
theorem bsize_lt {w : World} {b n : Nat} (h : bsize w b = some n) : b < w.heap.size := by
  unfold bsize at h
  cases hb : w.heap[b]? with
  | none => simp [hb] at h
  | some ob => exact (Array.getElem?_eq_some_iff.1 hb).1
theorem Keeps.bsize {M : Nat → Nat → Prop} {w w' : World} (h : Keeps M w w') {b n : Nat} (hn : bsize w b = some n) : bsize w' b = some n := by
  rcases h.block b (bsize_lt hn) with e | ⟨c, c', t, fr, e1, e2, es, _⟩
  · unfold Pv.bsize at *
    rw [e]; exact hn
  · unfold Pv.bsize at *
    rw [e1] at hn
    rw [e2]
    simpa [es] using hn

/-- v lies in memory as the tree p says; no cell of M is met on the way to what is told of it. D: where the objects lie. -/
inductive Rep (w : World) (M : Nat → Nat → Prop) : (Nat → Option Nat) → Value → PV → Prop
  | un (D v) : Rep w M D v .un
  | bool (D b) : Rep w M D (.bool b) (.bool b)
  | int (D k n) : Rep w M D (.int k n) (.int k n)
  | str (D s) : Rep w M D (.string s) (.str s)
  | sl (D A n c sz l b o) (vs : Nat → Nat → Value) (hn : l.length = n) (hc : n ≤ c) (hm : c ≤ maxLen) (hr : ∀ r ∈ l, r.length = sz) (hA : 0 < n → A = some ⟨b, o, none⟩)
      (hcell : ∀ j r, l[j]? = some r → ∀ i p, r[i]? = some p → ¬ M b (o + j * sz + i) ∧ w.cell? ⟨b, o + j * sz + i, none⟩ = some (vs j i) ∧ (vs j i).oneCell' = true)
      (hrep : ∀ j r, l[j]? = some r → ∀ i p, r[i]? = some p → Rep w M (fun _ => none) (vs j i) p) : Rep w M D (.slice A n c) (.sl l)
  | rf (D b o c) (vs : Nat → Value) (hcell : ∀ i p, c[i]? = some p → ¬ M b (o + i) ∧ w.cell? ⟨b, o + i, none⟩ = some (vs i) ∧ (vs i).oneCell' = true)
      (hrep : ∀ i p, c[i]? = some p → Rep w M (fun _ => none) (vs i) p) : Rep w M D (.pointer (some ⟨b, o, none⟩)) (.rf c)
  | bx (D b id off) (h : D id = some b) : Rep w M D (.pointer (some ⟨b, off, none⟩)) (.bx id off)
  | ms (D A len c id sz off) (hc : len ≤ c) (hm : c ≤ maxLen) (h : (c = 0 ∧ len = 0) ∨ ∃ b n, D id = some b ∧ A = some ⟨b, off * sz, none⟩ ∧ bsize w b = some n ∧ (off + c) * sz ≤ n) : Rep w M D (.slice A len c) (.ms id sz off len)
  | ns (D A sz) : Rep w M D (.slice A 0 0) (.ns sz)
  | np (D) : Rep w M D (.pointer none) .np
  | fn (D f) (xs ys : Array Value) (a b : List PV) (ha : xs.size = a.length) (hb : ys.size = b.length) (h1 : ∀ (i : Nat) v p, xs[i]? = some v → a[i]? = some p → Rep w M D v p) (h2 : ∀ (i : Nat) v p, ys[i]? = some v → b[i]? = some p → Rep w M D v p) : Rep w M D (.func (.func f) xs ys) (.fn f a b)
  | nf (D) : Rep w M D .nilFunc .nf
  | agg (D) (xs : Array Value) (c : List PV) (hl : xs.size = c.length) (h1 : ∀ (i : Nat) v p, xs[i]? = some v → c[i]? = some p → v.oneCell' = true) (h : ∀ (i : Nat) v p, xs[i]? = some v → c[i]? = some p → Rep w M D v p) : Rep w M D (.agg xs) (.agg c)
  | tup (D) (xs : Array Value) (c : List PV) (hl : xs.size = c.length) (h : ∀ (i : Nat) v p, xs[i]? = some v → c[i]? = some p → Rep w M D v p) : Rep w M D (.tuple xs) (.tup c)

/-- A representation outlives a step. -/
theorem Rep.mono {w w' : World} {M M' W : Nat → Nat → Prop} (hk : Keeps W w w') (hW : ∀ b o, W b o → M b o) (hM : ∀ b o, b < w.heap.size → M' b o → M b o) {D : Nat → Option Nat} {v : Value} {p : PV} (h : Rep w M D v p) :
    ∀ {D' : Nat → Option Nat}, (∀ id b, D id = some b → D' id = some b) → Rep w' M' D' v p := by
  have go : ∀ b o u, (¬ M b o ∧ w.cell? ⟨b, o, none⟩ = some u ∧ u.oneCell' = true) → (¬ M' b o ∧ w'.cell? ⟨b, o, none⟩ = some u ∧ u.oneCell' = true) := fun b o u ⟨h1, h2, h3⟩ =>
    ⟨fun hc => h1 (hM b o (cell_lt h2) hc), hk.cell (fun hc => h1 (hW b o hc)) h2, h3⟩
  induction h with
  | un D v => exact fun _ => .un _ _
  | bool D b => exact fun _ => .bool _ _
  | int D k n => exact fun _ => .int _ _ _
  | str D s => exact fun _ => .str _ _
  | sl D A n c sz l b o vs hn hc hm hr hA hcell hrep ih => exact fun _ => .sl _ A n c sz l b o vs hn hc hm hr hA (fun j r hj i p hi => go _ _ _ (hcell j r hj i p hi)) (fun j r hj i p hi => ih j r hj i p hi (fun _ _ h => h))
  | rf D b o c vs hcell hrep ih => exact fun _ => .rf _ b o c vs (fun i p hi => go _ _ _ (hcell i p hi)) (fun i p hi => ih i p hi (fun _ _ h => h))
  | bx D b id off h => exact fun hD => .bx _ b id off (hD _ _ h)
  | ms D A len c id sz off hc hm h => exact fun hD => .ms _ A len c id sz off hc hm (h.imp (fun x => x) fun ⟨b, n, h1, h2, h3, h4⟩ => ⟨b, n, hD _ _ h1, h2, hk.bsize h3, h4⟩)
  | ns D A sz => exact fun _ => .ns _ A sz
  | np D => exact fun _ => .np _
  | fn D f xs ys a b ha hb h1 h2 ih1 ih2 => exact fun hD => .fn _ f xs ys a b ha hb (fun i v p hv hp => ih1 i v p hv hp hD) (fun i v p hv hp => ih2 i v p hv hp hD)
  | nf D => exact fun _ => .nf _
  | agg D xs c hl h1 h ih => exact fun hD => .agg _ xs c hl h1 (fun i v p hv hp => ih i v p hv hp hD)
  | tup D xs c hl h ih => exact fun hD => .tup _ xs c hl (fun i v p hv hp => ih i v p hv hp hD)

/-- The same world, fewer cells that may be written, other places. -/
theorem Rep.to {w : World} {M M' : Nat → Nat → Prop} {D D' : Nat → Option Nat} {v : Value} {p : PV} (h : Rep w M D v p) (hM : ∀ b o, b < w.heap.size → M' b o → M b o) (hD : ∀ id b, D id = some b → D' id = some b) : Rep w M' D' v p :=
  h.mono (W := fun _ _ => False) (Keeps.refl _ w) (fun _ _ h => h.elim) hM hD

/-- An object in memory. n0: blocks from there on are the call's own. -/
def ObOk (w : World) (M : Nat → Nat → Prop) (D : Nat → Option Nat) (n0 id : Nat) (ob : Ob) : Prop :=
  ob.ro ≤ ob.cells.length ∧
    ((ob.cells = [] ∧ D id = none) ∨
      ∃ b carr t, D id = some b ∧ w.heap[b]? = some (.cells carr t (0, 0)) ∧ ob.cells.length ≤ carr.size ∧ (ob.gr = true → n0 ≤ b) ∧
        ∀ (k : Nat) p, ob.cells[k]? = some p → ∃ v, carr[k]? = some v ∧ v.oneCell' = true ∧ Rep w M D v p)

/-- the cells that objects may write -/
def MutO (D : Nat → Option Nat) (H : Nat → Option Ob) (b o : Nat) : Prop := ∃ id ob, H id = some ob ∧ D id = some b ∧ ob.ro ≤ o
/-- .. and those that are out of bounds besides -/
def Mut (D : Nat → Option Nat) (H : Nat → Option Ob) (F : Nat → Nat → Prop) (b o : Nat) : Prop := F b o ∨ MutO D H b o

structure Sim (w : World) (D : Nat → Option Nat) (H : Nat → Option Ob) (F : Nat → Nat → Prop) (n0 m : Nat) : Prop where
  fr : ∀ b o, F b o → b < n0
  le : n0 ≤ w.heap.size
  own : ∀ id b, D id = some b → id < m ∨ n0 ≤ b
  ok : ∀ id ob, H id = some ob → ObOk w (Mut D H F) D n0 id ob
  inj : ∀ i j a b k, H i = some a → H j = some b → D i = some k → D j = some k → i = j
  dis : ∀ id ob b o, H id = some ob → D id = some b → ¬ F b o

theorem ObOk.mono {w w' : World} {M M' W : Nat → Nat → Prop} {D D' : Nat → Option Nat} {n0 id : Nat} {ob : Ob} (hk : Keeps W w w') (hW : ∀ b o, W b o → M b o) (hM : ∀ b o, b < w.heap.size → M' b o → M b o) (hD : ∀ id b, D id = some b → D' id = some b)
    (h : ObOk w M D n0 id ob) (h0 : D id = none → D' id = none) (hb : ∀ b o, D id = some b → ¬ W b o) : ObOk w' M' D' n0 id ob := by
  obtain ⟨hro, h⟩ := h
  refine ⟨hro, ?_⟩
  rcases h with ⟨h1, h2⟩ | ⟨b, carr, t, h1, h2, h3, h4, h5⟩
  · exact .inl ⟨h1, h0 h2⟩
  · refine .inr ⟨b, carr, t, hD _ _ h1, ?_, h3, h4, fun k p hp => ?_⟩
    · have hlt : b < w.heap.size := (Array.getElem?_eq_some_iff.1 h2).1
      rcases hk.block b hlt with e | ⟨c, c', t', fr, e1, e2, es, ec⟩
      · rw [e, h2]
      · rw [h2] at e1
        injection e1 with e1
        injection e1 with g1 g2 g3
        subst g1 g2 g3
        have : c' = carr := by
          apply Array.ext_getElem?
          intro i
          exact ec i (hb b i h1)
        rw [e2, this]
    · obtain ⟨v, e1, e2, e3⟩ := h5 k p hp
      exact ⟨v, e1, e2, e3.mono hk hW hM hD⟩

theorem MutO_lt {w : World} {D : Nat → Option Nat} {H : Nat → Option Ob} {F : Nat → Nat → Prop} {n0 m : Nat} (h : Sim w D H F n0 m) {b o : Nat} (hm : MutO D H b o) : b < w.heap.size := by
  obtain ⟨id, ob, h1, h2, _⟩ := hm
  rcases (h.ok id ob h1).2 with ⟨_, e⟩ | ⟨b', carr, t, e1, e2, _⟩
  · rw [h2] at e; cases e
  · rw [h2] at e1
    injection e1 with e1
    subst e1
    exact (Array.getElem?_eq_some_iff.1 e2).1

/-- What an array's cells, one by one, are. -/
def RepL (w : World) (M : Nat → Nat → Prop) (D : Nat → Option Nat) (xs : List Value) (ps : List PV) : Prop := xs.length = ps.length ∧ ∀ (i : Nat) v p, xs[i]? = some v → ps[i]? = some p → Rep w M D v p
theorem RepL.nil (w : World) (M : Nat → Nat → Prop) (D : Nat → Option Nat) : RepL w M D [] [] := ⟨rfl, fun i v p h => by simp at h⟩
theorem RepL.cons {w : World} {M : Nat → Nat → Prop} {D : Nat → Option Nat} {v : Value} {p : PV} {xs : List Value} {ps : List PV} (h : Rep w M D v p) (hr : RepL w M D xs ps) : RepL w M D (v :: xs) (p :: ps) := by
  refine ⟨by simp [hr.1], fun i u q hu hq => ?_⟩
  cases i with
  | zero => simp at hu hq; subst hu hq; exact h
  | succ i => exact hr.2 i u q (by simpa using hu) (by simpa using hq)
theorem RepL.uncons {w : World} {M : Nat → Nat → Prop} {D : Nat → Option Nat} {v : Value} {p : PV} {xs : List Value} {ps : List PV} (h : RepL w M D (v :: xs) (p :: ps)) : Rep w M D v p ∧ RepL w M D xs ps :=
  ⟨h.2 0 v p rfl rfl, by have := h.1; simpa using this, fun i u q hu hq => h.2 (i + 1) u q (by simpa using hu) (by simpa using hq)⟩
theorem RepL.append {w : World} {M : Nat → Nat → Prop} {D : Nat → Option Nat} {xs ys : List Value} {ps qs : List PV} (h : RepL w M D xs ps) (h' : RepL w M D ys qs) : RepL w M D (xs ++ ys) (ps ++ qs) := by
  induction xs generalizing ps with
  | nil =>
    have : ps = [] := by have := h.1; simp at this; exact List.eq_nil_of_length_eq_zero this.symm
    subst this
    simpa using h'
  | cons x xs ih =>
    cases ps with
    | nil => have := h.1; simp at this
    | cons p ps =>
      obtain ⟨a, b⟩ := h.uncons
      exact RepL.cons a (ih b)
theorem RepL.mono {w w' : World} {M M' : Nat → Nat → Prop} {D D' : Nat → Option Nat} {xs : List Value} {ps : List PV} (h : RepL w M D xs ps) (hi : ∀ v p, Rep w M D v p → Rep w' M' D' v p) : RepL w' M' D' xs ps := ⟨h.1, fun i v p hv hp => hi v p (h.2 i v p hv hp)⟩

end Go.Pv
