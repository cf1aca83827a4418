/-
  Operations that make, read or write objects.
-/
import Derived.Test.YtedohmdgbilicaaPvG
import Derived.Deep.AppendSrc
namespace Go.Pv
open Go.RowKit

/-- the objects behind writes, one after the other -/
def upH (H : Nat → Option Ob) : List (Nat × Option Ob) → Nat → Option Ob
  | [] => H
  | (id, o) :: r => upH (fun j => if j = id then o else H j) r

structure Step (w : World) (D : Nat → Option Nat) (H : Nat → Option Ob) (F : Nat → Nat → Prop) (n0 m fr : Nat) (w' : World) (D' : Nat → Option Nat) (H' : Nat → Option Ob) : Prop where
  sim : Sim w' D' H' F n0 m
  keeps : Keeps (MutO D H) w w'
  ext : ∀ id b, D id = some b → D' id = some b
  sub : ∀ b o, b < w.heap.size → Mut D' H' F b o → Mut D H F b o
  fresh : ∀ id, D id = none → (id < fr ∨ fr + 64 ≤ id) → D' id = none

theorem Step.rep {w : World} {D : Nat → Option Nat} {H : Nat → Option Ob} {F : Nat → Nat → Prop} {n0 m fr : Nat} {w' : World} {D' : Nat → Option Nat} {H' : Nat → Option Ob} (h : Step w D H F n0 m fr w' D' H') {v : Value} {p : PV} (hr : Rep w (Mut D H F) D v p) : Rep w' (Mut D' H' F) D' v p :=
  hr.mono h.keeps (fun _ _ h => .inr h) h.sub h.ext

section
variable {P : Program} {w : World} {D : Nat → Option Nat} {H : Nat → Option Ob} {F : Nat → Nat → Prop} {n0 m fr : Nat}

theorem Step.same (S : Sim w D H F n0 m) {w' : World} (hh : w'.heap = w.heap) (h1 : w'.os = w.os) (h2 : w'.tape = w.tape) (h3 : w'.output = w.output) : Step w D H F n0 m fr w' D H := by
  have hk : Keeps (MutO D H) w w' := ⟨h1, h2, h3, by rw [hh]; exact Nat.le_refl _, fun k _ => .inl (by rw [hh])⟩
  have hk0 : Keeps (fun _ _ => False) w w' := ⟨h1, h2, h3, by rw [hh]; exact Nat.le_refl _, fun k _ => .inl (by rw [hh])⟩
  exact ⟨⟨S.fr, by rw [hh]; exact S.le, S.own, fun id ob h => (S.ok id ob h).mono hk0 (fun _ _ h => h.elim) (fun _ _ _ h => h) (fun _ _ h => h) (fun h => h) (fun _ _ _ h => h), S.inj, S.dis⟩, hk, fun _ _ h => h, fun _ _ _ h => h, fun _ h _ => h⟩

/-- A new block is a new object. -/
theorem step_new (S : Sim w D H F n0 m) (hD : D fr = none) {w' : World} {arr : Array Value} {ty : TypeId} (hh : w'.heap = w.heap.push (.cells arr ty (0, 0))) (h1 : w'.os = w.os) (h2 : w'.tape = w.tape) (h3 : w'.output = w.output)
    {ob : Ob} (hro : ob.ro ≤ ob.cells.length) (hlen : ob.cells.length ≤ arr.size) (hc : ∀ (k : Nat) p, ob.cells[k]? = some p → ∃ v, arr[k]? = some v ∧ v.oneCell' = true ∧ Rep w (Mut D H F) D v p)
    {H0 : Nat → Option Ob} (hH0 : ∀ id ob, H0 id = some ob → H id = some ob) :
    Step w D H F n0 m fr w' (fun id => if id = fr then some w.heap.size else D id) (fun id => if id = fr then some ob else H0 id) := by
  have hsz : w'.heap.size = w.heap.size + 1 := by rw [hh]; simp
  have hold : ∀ k, k < w.heap.size → w'.heap[k]? = w.heap[k]? := fun k hk => by rw [hh, Array.getElem?_push, if_neg (by omega)]
  have hk : Keeps (MutO D H) w w' := ⟨h1, h2, h3, by omega, fun k hk => .inl (hold k hk)⟩
  have hk0 : Keeps (fun _ _ => False) w w' := ⟨h1, h2, h3, by omega, fun k hk => .inl (hold k hk)⟩
  have hext : ∀ id b, D id = some b → (fun id => if id = fr then some w.heap.size else D id) id = some b := fun id b h => by
    by_cases e : id = fr
    · subst e; rw [hD] at h; cases h
    · simp [e, h]
  have hsub : ∀ b o, b < w.heap.size → Mut (fun id => if id = fr then some w.heap.size else D id) (fun id => if id = fr then some ob else H0 id) F b o → Mut D H F b o := by
    rintro b o hb (h | ⟨id, ob', e1, e2, e3⟩)
    · exact .inl h
    · by_cases e : id = fr
      · simp [e] at e2; omega
      · simp [e] at e1 e2
        exact .inr ⟨id, ob', hH0 _ _ e1, e2, e3⟩
  refine ⟨⟨S.fr, by have := S.le; omega, fun id b h => ?_, fun id ob' h => ?_, ?_, fun id ob' b o h hd => ?_⟩, hk, hext, hsub, fun id h hid => by simp [show id ≠ fr by omega, h]⟩
  · by_cases e : id = fr
    · simp [e] at h; exact .inr (by have := S.le; omega)
    · simp [e] at h; exact S.own id b h
  · by_cases e : id = fr
    · simp [e] at h
      subst h
      refine ⟨hro, .inr ⟨w.heap.size, arr, ty, by simp [e], by rw [hh, Array.getElem?_push, if_pos rfl], hlen, fun _ => S.le, fun k p hp => ?_⟩⟩
      obtain ⟨v, e1, e2, e3⟩ := hc k p hp
      exact ⟨v, e1, e2, e3.mono hk0 (fun _ _ h => h.elim) hsub hext⟩
    · simp [e] at h
      exact (S.ok id ob' (hH0 _ _ h)).mono hk0 (fun _ _ h => h.elim) hsub hext (fun h => by simp [e, h]) (fun _ _ _ h => h)
  · intro i j a b k hi hj di dj
    have blk : ∀ (i : Nat) (a : Ob), i ≠ fr → H0 i = some a → D i = some w.heap.size → False := by
      intro i a hne hi di
      rcases (S.ok i a (hH0 _ _ hi)).2 with ⟨_, e⟩ | ⟨b', carr, t, e1, e2, _⟩
      · rw [di] at e; cases e
      · rw [di] at e1
        injection e1 with e1
        subst e1
        simp at e2
    by_cases e : i = fr <;> by_cases e' : j = fr
    · rw [e, e']
    · simp [e] at di
      simp [e'] at dj hj
      subst di
      exact (blk j b e' hj dj).elim
    · simp [e'] at dj
      simp [e] at di hi
      subst dj
      exact (blk i a e hi di).elim
    · simp [e] at hi di
      simp [e'] at hj dj
      exact S.inj i j a b k (hH0 _ _ hi) (hH0 _ _ hj) di dj
  · by_cases e : id = fr
    · simp [e] at hd
      subst hd
      intro hF
      have := S.fr _ _ hF
      have := S.le
      omega
    · simp [e] at h hd
      exact S.dis id ob' b o (hH0 _ _ h) hd

/-- An object is written; it goes on under its own number (id' = id) or a new one. -/
theorem step_upd (S : Sim w D H F n0 m) {id id' b : Nat} {ob ob' : Ob} {carr carr' : Array Value} {ty : TypeId} (hob : H id = some ob) (hD : D id = some b) (hb : w.heap[b]? = some (.cells carr ty (0, 0))) (hid : id' = id ∨ (D id' = none ∧ fr ≤ id' ∧ id' < fr + 64 ∧ ob.gr = true))
    {w' : World} (hs : w'.heap.size = w.heap.size) (hsame : ∀ k, k ≠ b → w'.heap[k]? = w.heap[k]?) (hb' : w'.heap[b]? = some (.cells carr' ty (0, 0))) (hcs : carr'.size = carr.size) (hcc : ∀ o, o < ob.ro → carr'[o]? = carr[o]?) (h1 : w'.os = w.os) (h2 : w'.tape = w.tape) (h3 : w'.output = w.output)
    (hro : ob'.ro = ob.ro) (hro2 : ob'.ro ≤ ob'.cells.length) (hgr : ob'.gr = true → ob.gr = true) (hlen : ob'.cells.length ≤ carr'.size) (hc : ∀ (k : Nat) p, ob'.cells[k]? = some p → ∃ v, carr'[k]? = some v ∧ v.oneCell' = true ∧ Rep w (Mut D H F) D v p) :
    Step w D H F n0 m fr w' (fun j => if j = id' then some b else D j) (fun j => if j = id' then some ob' else if j = id then none else H j) := by
  have hblt : b < w.heap.size := (Array.getElem?_eq_some_iff.1 hb).1
  have hk : Keeps (MutO D H) w w' := ⟨h1, h2, h3, by omega, fun k hk => by
    by_cases e : k = b
    · subst e
      refine .inr ⟨carr, carr', ty, _, hb, hb', hcs, fun o ho => hcc o ?_⟩
      rcases Nat.lt_or_ge o ob.ro with hlt | hge
      · exact hlt
      · exact absurd ⟨id, ob, hob, hD, hge⟩ ho
    · exact .inl (hsame k e)⟩
  have hext : ∀ j c, D j = some c → (fun j => if j = id' then some b else D j) j = some c := fun j c h => by
    by_cases e : j = id'
    · subst e
      rcases hid with rfl | ⟨hn, _⟩
      · rw [hD] at h; simpa using h
      · rw [hn] at h; cases h
    · simp [e, h]
  have hsub : ∀ c o, c < w.heap.size → Mut (fun j => if j = id' then some b else D j) (fun j => if j = id' then some ob' else if j = id then none else H j) F c o → Mut D H F c o := by
    rintro c o hlt (h | ⟨j, ob2, e1, e2, e3⟩)
    · exact .inl h
    · by_cases e : j = id'
      · simp [e] at e1 e2
        subst e1 e2
        exact .inr ⟨id, ob, hob, hD, by omega⟩
      · simp only [if_neg e] at e1 e2
        by_cases e' : j = id
        · simp [e'] at e1
        · simp only [if_neg e'] at e1
          exact .inr ⟨j, ob2, e1, e2, e3⟩
  refine ⟨⟨S.fr, by have := S.le; omega, fun j c h => ?_, fun j ob2 h => ?_, ?_, fun j ob2 c o h hd => ?_⟩, hk, hext, hsub, fun j h hj => ?_⟩
  · by_cases e : j = id'
    · simp [e] at h
      subst h
      rcases hid with rfl | ⟨_, _, _, hg⟩
      · rw [e]; exact S.own _ _ hD
      · rcases (S.ok id ob hob).2 with ⟨_, en⟩ | ⟨b2, _, _, e1, _, _, e4, _⟩
        · rw [hD] at en; cases en
        · rw [hD] at e1
          injection e1 with e1
          subst e1
          exact .inr (e4 hg)
    · simp [e] at h; exact S.own j c h
  · by_cases e : j = id'
    · simp [e] at h
      subst h
      refine ⟨hro2, .inr ⟨b, carr', ty, by simp [e], hb', hlen, fun hg => ?_, fun k p hp => ?_⟩⟩
      · rcases (S.ok id ob hob).2 with ⟨_, en⟩ | ⟨b2, _, _, e1, _, _, e4, _⟩
        · rw [hD] at en; cases en
        · rw [hD] at e1
          injection e1 with e1
          subst e1
          exact e4 (hgr hg)
      · obtain ⟨v, e1, e2, e3⟩ := hc k p hp
        exact ⟨v, e1, e2, e3.mono hk (fun _ _ h => .inr h) hsub hext⟩
    · simp only [if_neg e] at h
      by_cases e' : j = id
      · simp [e'] at h
      · simp only [if_neg e'] at h
        obtain ⟨q1, q2⟩ := S.ok j ob2 h
        refine ⟨q1, ?_⟩
        rcases q2 with ⟨e1, e2⟩ | ⟨c, cc, t, e1, e2, e3, e4, e5⟩
        · exact .inl ⟨e1, by simp [e, e2]⟩
        · have hcb : c ≠ b := fun hcb => e' (S.inj j id ob2 ob b h hob (hcb ▸ e1) hD)
          refine .inr ⟨c, cc, t, by simp [e, e1], by rw [hsame c hcb]; exact e2, e3, e4, fun k p hp => ?_⟩
          obtain ⟨v, f1, f2, f3⟩ := e5 k p hp
          exact ⟨v, f1, f2, f3.mono hk (fun _ _ h => .inr h) hsub hext⟩
  · intro i j a c k hi hj di dj
    by_cases e : i = id' <;> by_cases e' : j = id'
    · rw [e, e']
    · simp [e] at di
      simp only [if_neg e'] at dj hj
      by_cases e2 : j = id
      · simp [e2] at hj
      · simp only [if_neg e2] at hj
        subst di
        exact absurd (S.inj j id c ob b hj hob dj hD) e2
    · simp [e'] at dj
      simp only [if_neg e] at di hi
      by_cases e2 : i = id
      · simp [e2] at hi
      · simp only [if_neg e2] at hi
        subst dj
        exact absurd (S.inj i id a ob b hi hob di hD) e2
    · simp only [if_neg e] at hi di
      simp only [if_neg e'] at hj dj
      by_cases e2 : i = id
      · simp [e2] at hi
      · by_cases e3 : j = id
        · simp [e3] at hj
        · simp only [if_neg e2] at hi
          simp only [if_neg e3] at hj
          exact S.inj i j a c k hi hj di dj
  · by_cases e : j = id'
    · simp [e] at hd
      subst hd
      exact S.dis id ob b o hob hD
    · simp only [if_neg e] at h hd
      by_cases e' : j = id
      · simp [e'] at h
      · simp only [if_neg e'] at h
        exact S.dis j ob2 c o h hd
  · rcases hid with rfl | ⟨_, g1, g2, _⟩
    · by_cases e : j = id'
      · subst e; rw [hD] at h; cases h
      · simp [e, h]
    · simp [show j ≠ id' by omega, h]

theorem setCells_heap (b : Nat) (t : TypeId) : ∀ (vs : List Value) (o : Nat) (w : World) (carr : Array Value), w.heap[b]? = some (.cells carr t (0, 0)) → o + vs.length ≤ carr.size →
    (w.setCells b o vs).heap.size = w.heap.size ∧ (w.setCells b o vs).os = w.os ∧ (w.setCells b o vs).tape = w.tape ∧ (w.setCells b o vs).output = w.output ∧ (∀ k, k ≠ b → (w.setCells b o vs).heap[k]? = w.heap[k]?) ∧
      ∃ carr', (w.setCells b o vs).heap[b]? = some (.cells carr' t (0, 0)) ∧ carr'.size = carr.size ∧ ∀ i : Nat, carr'[i]? = if o ≤ i ∧ i < o + vs.length then vs[i - o]? else carr[i]?
  | [], o, w, carr, hb, _ => ⟨rfl, rfl, rfl, rfl, fun _ _ => rfl, carr, hb, rfl, fun i => by rw [if_neg (fun h => by have := h.2; rw [List.length_nil] at this; omega)]⟩
  | v :: r, o, w, carr, hb, hle => by
    have hb1 : (w.setCell ⟨b, o, none⟩ v).heap[b]? = some (.cells (carr.setIfInBounds o v) t (0, 0)) := by
      simp [World.setCell, Array.getElem?_modify, hb]
    obtain ⟨a1, a2, a3, a4, a5, carr', a6, a7, a8⟩ := setCells_heap b t r (o + 1) (w.setCell ⟨b, o, none⟩ v) (carr.setIfInBounds o v) hb1 (by rw [Array.size_setIfInBounds]; rw [List.length_cons] at hle; omega)
    refine ⟨by rw [World.setCells, a1]; simp [World.setCell], a2, a3, a4, fun k hk => ?_, carr', a6, by rw [a7]; simp, fun i => ?_⟩
    · rw [World.setCells, a5 k hk]
      exact Below.heap_setCell w ⟨b, o, none⟩ v k hk
    · rw [a8 i, Array.getElem?_setIfInBounds]
      simp only [List.length_cons] at hle ⊢
      by_cases c1 : o + 1 ≤ i ∧ i < o + 1 + r.length
      · rw [if_pos c1, if_pos (by omega)]
        have : i - o = (i - (o + 1)) + 1 := by omega
        rw [this, List.getElem?_cons_succ]
      · rw [if_neg c1]
        by_cases c2 : o = i
        · subst c2
          rw [if_pos rfl, if_pos (by omega), if_pos (by omega)]
          simp
        · rw [if_neg c2, if_neg (by omega)]

end
end Go.Pv
