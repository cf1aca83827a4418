/-
  What is handed over: a value told as a tree (fz), pointers by the places of their objects (pass, passObs), and back again.
-/
import Derived.Test.YtedohmdgbilicaaPvB
namespace Go.Pv
open Go.RowKit

theorem bif_some {α : Type} {c : Bool} {x : Option α} {y : α} (h : (bif c then x else none) = some y) : c = true ∧ x = some y := by
  cases c
  · cases h
  · exact ⟨rfl, h⟩
theorem bind_some {α β : Type} {x : Option α} {f : α → Option β} {y : β} (h : x.bind f = some y) : ∃ a, x = some a ∧ f a = some y := Option.bind_eq_some_iff.1 h

theorem has_iff {l : List Nat} {x : Nat} : has l x = true ↔ x ∈ l := by
  induction l with
  | nil => simp [has]
  | cons k r ih =>
    unfold has
    by_cases e : k = x
    · subst e; simp
    · have : Nat.beq k x = false := by rw [Bool.eq_false_iff]; exact fun h => e (Nat.eq_of_beq_eq_true h)
      simp [this, ih]; exact fun h => absurd h.symm e
theorem disj_iff {a b : List Nat} : disj a b = true ↔ ∀ x ∈ a, x ∉ b := by
  induction a with
  | nil => simp [disj]
  | cons k r ih =>
    unfold disj
    rw [Bool.and_eq_true, ih]
    constructor
    · rintro ⟨h1, h2⟩ x hx
      rcases List.mem_cons.1 hx with rfl | hx
      · intro hb
        rw [has_iff.2 hb] at h1
        cases h1
      · exact h2 x hx
    · intro h
      refine ⟨?_, fun x hx => h x (List.mem_cons_of_mem _ hx)⟩
      have := h k List.mem_cons_self
      rw [Bool.not_eq_true', Bool.eq_false_iff]
      exact fun hc => this (has_iff.1 hc)

theorem mapO_spec {α β : Type} {f : α → Option β} : ∀ {c : List α} {l : List β}, mapO f c = some l → l.length = c.length ∧ ∀ (i : Nat) y, l[i]? = some y → ∃ x, c[i]? = some x ∧ f x = some y
  | [], l, h => by
    simp [mapO] at h
    subst h
    exact ⟨rfl, fun i y hi => by simp at hi⟩
  | x :: r, l, h => by
    unfold mapO at h
    obtain ⟨y, hy, h⟩ := bind_some h
    obtain ⟨l', hl, h⟩ := bind_some h
    injection h with h
    subst h
    obtain ⟨h1, h2⟩ := mapO_spec hl
    refine ⟨by simp [h1], fun i z hi => ?_⟩
    cases i with
    | zero => simp at hi; subst hi; exact ⟨x, rfl, hy⟩
    | succ i =>
      obtain ⟨u, hu, hf⟩ := h2 i z (by simpa using hi)
      exact ⟨u, by simpa using hu, hf⟩
theorem mapO_at {α β : Type} {f : α → Option β} {c : List α} {l : List β} (h : mapO f c = some l) {i : Nat} {x : α} (hx : c[i]? = some x) : ∃ y, l[i]? = some y ∧ f x = some y := by
  obtain ⟨h1, h2⟩ := mapO_spec h
  have hi : i < l.length := by rw [h1]; exact (List.getElem?_eq_some_iff.1 hx).1
  obtain ⟨u, hu, hf⟩ := h2 i l[i] (List.getElem?_eq_getElem hi)
  rw [hx] at hu
  injection hu with hu
  subst hu
  exact ⟨_, List.getElem?_eq_getElem hi, hf⟩

theorem rowsOf_length (sz : Nat) : ∀ (n : Nat) (l : List PV), (rowsOf sz n l).length = n
  | 0, _ => rfl
  | n + 1, l => by simp [rowsOf, rowsOf_length sz n]
theorem rowsOf_at (sz : Nat) : ∀ (n : Nat) (l : List PV), l.length = n * sz → ∀ (j : Nat) r, (rowsOf sz n l)[j]? = some r → r.length = sz ∧ j < n ∧ ∀ (i : Nat) p, r[i]? = some p → i < sz ∧ l[j * sz + i]? = some p
  | 0, l, _, j, r, h => by simp [rowsOf] at h
  | n + 1, l, hl, j, r, h => by
    have hm : (n + 1) * sz = n * sz + sz := by rw [Nat.add_mul, Nat.one_mul]
    cases j with
    | zero =>
      simp [rowsOf] at h
      subst h
      refine ⟨by rw [List.length_take]; omega, by omega, fun i p hp => ?_⟩
      have hi : i < sz := by
        have := (List.getElem?_eq_some_iff.1 hp).1
        rw [List.length_take] at this
        omega
      refine ⟨hi, ?_⟩
      rw [List.getElem?_take, if_pos hi] at hp
      simpa using hp
    | succ j =>
      have h' : (rowsOf sz n (l.drop sz))[j]? = some r := by simpa [rowsOf] using h
      obtain ⟨h1, h2, h3⟩ := rowsOf_at sz n (l.drop sz) (by rw [List.length_drop]; omega) j r h'
      refine ⟨h1, by omega, fun i p hp => ?_⟩
      obtain ⟨h4, h5⟩ := h3 i p hp
      refine ⟨h4, ?_⟩
      rw [List.getElem?_drop] at h5
      rw [← h5]
      congr 1
      rw [Nat.add_mul]
      omega

/-- no cell that was lent is one of M -/
def LentOK (H : Nat → Option Ob) (D : Nat → Option Nat) (M : Nat → Nat → Prop) (fr : List Nat) : Prop := ∀ id ∈ fr, ∀ ob b o, H id = some ob → D id = some b → o < ob.cells.length → ¬ M b o
theorem LentOK.left {H : Nat → Option Ob} {D : Nat → Option Nat} {M : Nat → Nat → Prop} {a b : List Nat} (h : LentOK H D M (a ++ b)) : LentOK H D M a := fun id hi => h id (List.mem_append_left _ hi)
theorem LentOK.right {H : Nat → Option Ob} {D : Nat → Option Nat} {M : Nat → Nat → Prop} {a b : List Nat} (h : LentOK H D M (a ++ b)) : LentOK H D M b := fun id hi => h id (List.mem_append_right _ hi)
theorem LentOK.part {H : Nat → Option Ob} {D : Nat → Option Nat} {M : Nat → Nat → Prop} {l : List (PV × List Nat)} (h : LentOK H D M (l.map (·.2)).flatten) {i : Nat} {y : PV × List Nat} (hy : l[i]? = some y) : LentOK H D M y.2 := fun id hi => h id (List.mem_flatten.2 ⟨y.2, List.mem_map.2 ⟨y, List.mem_of_getElem? hy, rfl⟩, hi⟩)

theorem fz_sound {w : World} {D : Nat → Option Nat} {H : Nat → Option Ob} {F : Nat → Nat → Prop} {n0 m : Nat} (S : Sim w D H F n0 m) {M : Nat → Nat → Prop} (hM : ∀ b o, b < w.heap.size → M b o → Mut D H F b o) :
    ∀ (n : Nat) (v : Value) (p q : PV) (fr : List Nat), fz H n p = some (q, fr) → Rep w (Mut D H F) D v p → LentOK H D M fr → Rep w M (fun _ => none) v q := by
  intro n
  induction n with
  | zero => intro v p q fr h; simp [fz] at h
  | succ n ih =>
    have list : ∀ (xs : List Value) (c : List PV) (l : List (PV × List Nat)), mapO (fz H n) c = some l → (∀ (i : Nat) v p, xs[i]? = some v → c[i]? = some p → Rep w (Mut D H F) D v p) → LentOK H D M (l.map (·.2)).flatten →
        ∀ (i : Nat) v q, xs[i]? = some v → (l.map (·.1))[i]? = some q → Rep w M (fun _ => none) v q := by
      intro xs c l hl hr hf i v q hv hq
      rw [List.getElem?_map] at hq
      obtain ⟨y, hy, rfl⟩ := Option.map_eq_some_iff.1 hq
      obtain ⟨x, hx, hfx⟩ := (mapO_spec hl).2 i y hy
      exact ih v x y.1 y.2 hfx (hr i v x hv hx) (hf.part hy)
    intro v p q fr h hR hF
    cases p with
    | un => simp only [fz, Option.some.injEq, Prod.mk.injEq] at h; obtain ⟨rfl, rfl⟩ := h; exact .un _ _
    | bool b => simp only [fz, Option.some.injEq, Prod.mk.injEq] at h; obtain ⟨rfl, rfl⟩ := h; cases hR; exact .bool _ _
    | int k m => simp only [fz, Option.some.injEq, Prod.mk.injEq] at h; obtain ⟨rfl, rfl⟩ := h; cases hR; exact .int _ _ _
    | str s => simp only [fz, Option.some.injEq, Prod.mk.injEq] at h; obtain ⟨rfl, rfl⟩ := h; cases hR; exact .str _ _
    | np => simp only [fz, Option.some.injEq, Prod.mk.injEq] at h; obtain ⟨rfl, rfl⟩ := h; cases hR; exact .np _
    | nf => simp only [fz, Option.some.injEq, Prod.mk.injEq] at h; obtain ⟨rfl, rfl⟩ := h; cases hR; exact .nf _
    | bx id off => simp [fz] at h
    | ns sz =>
      simp only [fz, Option.some.injEq, Prod.mk.injEq] at h
      obtain ⟨rfl, rfl⟩ := h
      cases hR with
      | ns _ A _ => exact .sl _ A 0 0 0 [] 0 0 (fun _ _ => default) rfl (Nat.le_refl _) (by simp [maxLen]) (by simp) (by omega) (by simp) (by simp)
    | sl l =>
      simp only [fz, Option.some.injEq, Prod.mk.injEq] at h
      obtain ⟨rfl, rfl⟩ := h
      cases hR with
      | sl _ A n' c sz _ b o vs hn hc hm hr hA hcell hrep =>
        exact .sl _ A n' c sz l b o vs hn hc hm hr hA (fun j r hj i p hi => let ⟨h1, h2, h3⟩ := hcell j r hj i p hi; ⟨fun hx => h1 (hM _ _ (cell_lt h2) hx), h2, h3⟩) (fun j r hj i p hi => (hrep j r hj i p hi).to hM (fun _ _ h => h))
    | rf c =>
      simp only [fz, Option.some.injEq, Prod.mk.injEq] at h
      obtain ⟨rfl, rfl⟩ := h
      cases hR with
      | rf _ b o _ vs hcell hrep => exact .rf _ b o c vs (fun i p hi => let ⟨h1, h2, h3⟩ := hcell i p hi; ⟨fun hx => h1 (hM _ _ (cell_lt h2) hx), h2, h3⟩) (fun i p hi => (hrep i p hi).to hM (fun _ _ h => h))
    | agg c =>
      simp only [fz] at h
      obtain ⟨l, hl, h⟩ := bind_some h
      simp only [Option.some.injEq, Prod.mk.injEq] at h
      obtain ⟨rfl, rfl⟩ := h
      cases hR with
      | agg _ xs _ hs h1 hr =>
        have hlen := (mapO_spec hl).1
        refine .agg _ xs _ (by rw [List.length_map, hlen, hs]) (fun i v q hv hq => ?_) (fun i v q hv hq => list xs.toList c l hl (fun i v p hv hp => hr i v p (by simpa using hv) hp) hF i v q (by simpa using hv) hq)
        have hi : i < c.length := by
          have := (List.getElem?_eq_some_iff.1 hq).1
          rw [List.length_map, hlen] at this
          exact this
        exact h1 i v c[i] hv (List.getElem?_eq_getElem hi)
    | tup c =>
      simp only [fz] at h
      obtain ⟨l, hl, h⟩ := bind_some h
      simp only [Option.some.injEq, Prod.mk.injEq] at h
      obtain ⟨rfl, rfl⟩ := h
      cases hR with
      | tup _ xs _ hs hr =>
        have hlen := (mapO_spec hl).1
        exact .tup _ xs _ (by rw [List.length_map, hlen, hs]) (fun i v q hv hq => list xs.toList c l hl (fun i v p hv hp => hr i v p (by simpa using hv) hp) hF i v q (by simpa using hv) hq)
    | fn f a b =>
      simp only [fz] at h
      obtain ⟨l, hl, h⟩ := bind_some h
      obtain ⟨l2, hl2, h⟩ := bind_some h
      simp only [Option.some.injEq, Prod.mk.injEq] at h
      obtain ⟨rfl, rfl⟩ := h
      cases hR with
      | fn _ _ xs ys _ _ ha hb h1 h2 =>
        exact .fn _ f xs ys _ _ (by rw [List.length_map, (mapO_spec hl).1, ha]) (by rw [List.length_map, (mapO_spec hl2).1, hb])
          (fun i v q hv hq => list xs.toList a l hl (fun i v p hv hp => h1 i v p (by simpa using hv) hp) hF.left i v q (by simpa using hv) hq)
          (fun i v q hv hq => list ys.toList b l2 hl2 (fun i v p hv hp => h2 i v p (by simpa using hv) hp) hF.right i v q (by simpa using hv) hq)
    | ms id sz off len =>
      simp only [fz] at h
      obtain ⟨ob, hob, h⟩ := bind_some h
      obtain ⟨hc, h⟩ := bif_some h
      obtain ⟨l, hl, h⟩ := bind_some h
      simp only [Option.some.injEq, Prod.mk.injEq] at h
      obtain ⟨rfl, rfl⟩ := h
      simp only [Bool.and_eq_true] at hc
      have hle : (off + len) * sz ≤ ob.cells.length := Nat.le_of_ble_eq_true hc.2
      have hlen := (mapO_spec hl).1
      have hll : l.length = len * sz := by
        rw [hlen, List.length_take, List.length_drop]
        rw [Nat.add_mul] at hle
        omega
      have hF1 : LentOK H D M [id] := fun i hi => hF i (by simp at hi; subst hi; exact List.mem_cons_self)
      have hF2 : LentOK H D M (l.map (·.2)).flatten := fun i hi => hF i (List.mem_cons_of_mem _ hi)
      cases hR with
      | ms _ A _ c _ _ _ hc1 hm hd =>
        have hrow : ∀ r ∈ rowsOf sz len (l.map (·.1)), r.length = sz := by
          intro r hr
          obtain ⟨j, hj⟩ := List.getElem?_of_mem hr
          exact (rowsOf_at sz len _ (by rw [List.length_map, hll]) j r hj).1
        rcases Nat.eq_zero_or_pos len with h0 | h0
        · subst h0
          exact .sl _ A 0 c sz _ 0 0 (fun _ _ => default) rfl hc1 hm hrow (by omega) (fun j r hj => by simp [rowsOf] at hj) (fun j r hj => by simp [rowsOf] at hj)
        rcases hd with ⟨_, h1⟩ | ⟨b, nb, hD, rfl, hb, hcap⟩
        · omega
        · rcases (S.ok id ob hob).2 with ⟨_, e⟩ | ⟨b', carr, t, e1, e2, e3, e4, e5⟩
          · rw [hD] at e; cases e
          · rw [hD] at e1
            injection e1 with e1
            subst e1
            have key : ∀ (j : Nat) r, (rowsOf sz len (l.map (·.1)))[j]? = some r → ∀ (i : Nat) q, r[i]? = some q → ∃ p v y, off * sz + j * sz + i < ob.cells.length ∧ ob.cells[off * sz + j * sz + i]? = some p ∧ carr[off * sz + j * sz + i]? = some v ∧ v.oneCell' = true ∧ Rep w (Mut D H F) D v p ∧ l[j * sz + i]? = some y ∧ fz H n p = some y ∧ y.1 = q := by
              intro j r hj i q hi
              obtain ⟨_, _, h3⟩ := rowsOf_at sz len _ (by rw [List.length_map, hll]) j r hj
              obtain ⟨h4, h5⟩ := h3 i q hi
              rw [List.getElem?_map] at h5
              obtain ⟨y, hy, hyq⟩ := Option.map_eq_some_iff.1 h5
              obtain ⟨p, hp, hfp⟩ := (mapO_spec hl).2 _ y hy
              have hlt : j * sz + i < len * sz := by rw [← hll]; exact (List.getElem?_eq_some_iff.1 hy).1
              rw [List.getElem?_take, if_pos hlt, List.getElem?_drop, ← Nat.add_assoc] at hp
              have hlt2 := (List.getElem?_eq_some_iff.1 hp).1
              obtain ⟨v, hv, h1, hr⟩ := e5 _ p hp
              exact ⟨p, v, y, hlt2, hp, hv, h1, hr, hy, hfp, hyq⟩
            refine .sl _ _ len c sz _ b (off * sz) (fun j i => (carr[off * sz + j * sz + i]?).getD default) (rowsOf_length _ _ _) hc1 hm hrow (fun _ => rfl) (fun j r hj i q hi => ?_) (fun j r hj i q hi => ?_)
            · obtain ⟨p, v, y, h1, h2, h3, h4, h5, h6, h7, h8⟩ := key j r hj i q hi
              refine ⟨hF1 id (List.mem_singleton.2 rfl) ob b _ hob hD h1, ?_, ?_⟩
              · rw [h3]; exact cell_of.2 ⟨carr, t, (0, 0), e2, h3⟩
              · rw [h3]; exact h4
            · obtain ⟨p, v, y, h1, h2, h3, h4, h5, h6, h7, h8⟩ := key j r hj i q hi
              rw [h3]
              subst h8
              exact ih v p y.1 y.2 h7 h5 (hF2.part h6)

/-! ### places -/
theorem idxOf_some {l : List Nat} {id k : Nat} (h : idxOf l id = some k) : l[k]? = some id := by
  induction l generalizing k with
  | nil => simp [idxOf] at h
  | cons x r ih =>
    unfold idxOf at h
    by_cases e : x = id
    · subst e
      simp at h
      subst h
      rfl
    · have : Nat.beq x id = false := by rw [Bool.eq_false_iff]; exact fun h => e (Nat.eq_of_beq_eq_true h)
      simp [this] at h
      obtain ⟨k', hk, rfl⟩ := h
      simpa using ih hk
theorem idxOf_none {l : List Nat} {id : Nat} (h : idxOf l id = none) : id ∉ l := by
  induction l with
  | nil => simp
  | cons x r ih =>
    unfold idxOf at h
    by_cases e : x = id
    · subst e; simp at h
    · have : Nat.beq x id = false := by rw [Bool.eq_false_iff]; exact fun h => e (Nat.eq_of_beq_eq_true h)
      simp [this] at h
      simp [ih h]
      exact fun h => e h.symm
theorem addId_spec (ids : List Nat) (id : Nat) : ids <+: (addId ids id).2 ∧ (addId ids id).2[(addId ids id).1]? = some id ∧ (ids.Nodup → (addId ids id).2.Nodup) := by
  unfold addId
  cases h : idxOf ids id with
  | some k => exact ⟨List.prefix_refl _, idxOf_some h, fun h => h⟩
  | none =>
    refine ⟨List.prefix_append _ _, by simp, fun hn => ?_⟩
    rw [List.nodup_append]
    exact ⟨hn, by simp, fun a ha b hb => by simp at hb; subst hb; exact fun e => idxOf_none h (e ▸ ha)⟩

def Dof (D : Nat → Option Nat) (ids : List Nat) (p : Nat) : Option Nat := (ids[p]?).bind D
theorem prefix_get {a b : List Nat} (h : a <+: b) {k x : Nat} (hk : a[k]? = some x) : b[k]? = some x := by
  obtain ⟨t, rfl⟩ := h
  rw [List.getElem?_append_left (List.getElem?_eq_some_iff.1 hk).1]
  exact hk

section
variable {w : World} {D : Nat → Option Nat} {H : Nat → Option Ob} {F : Nat → Nat → Prop} {n0 m : Nat} {M : Nat → Nat → Prop}

theorem passL_sound {f : PV → List Nat → Option Pass} (hf : ∀ p ids x, f p ids = some x → ids <+: x.ids ∧ (ids.Nodup → x.ids.Nodup) ∧ ∀ v idsF, x.ids <+: idsF → LentOK H D M x.fr → Rep w (Mut D H F) D v p → Rep w M (Dof D idsF) v x.v) :
    ∀ (c : List PV) (ids : List Nat) (y : List PV × List Nat × List Nat), passL f c ids = some y → ids <+: y.2.1 ∧ (ids.Nodup → y.2.1.Nodup) ∧ y.1.length = c.length ∧
      ∀ idsF, y.2.1 <+: idsF → LentOK H D M y.2.2 → ∀ (i : Nat) v p q, c[i]? = some p → y.1[i]? = some q → Rep w (Mut D H F) D v p → Rep w M (Dof D idsF) v q
  | [], ids, y, h => by
    simp only [passL, Option.some.injEq] at h
    subst h
    exact ⟨List.prefix_refl _, fun h => h, rfl, fun _ _ _ i v p q hp => by simp at hp⟩
  | p :: r, ids, y, h => by
    simp only [passL] at h
    obtain ⟨x, hx, h⟩ := bind_some h
    obtain ⟨z, hz, h⟩ := bind_some h
    injection h with h
    subst h
    obtain ⟨a1, a2, a3⟩ := hf p ids x hx
    obtain ⟨b1, b2, b3, b4⟩ := passL_sound hf r x.ids z hz
    refine ⟨a1.trans b1, fun h => b2 (a2 h), by simp [b3], fun idsF hi hl i v p' q hp hq hr => ?_⟩
    cases i with
    | zero =>
      simp at hp hq
      subst hp hq
      exact a3 v idsF (b1.trans hi) hl.left hr
    | succ i => exact b4 idsF hi hl.right i v p' q (by simpa using hp) (by simpa using hq) hr

theorem pass_sound (S : Sim w D H F n0 m) (hM : ∀ b o, b < w.heap.size → M b o → Mut D H F b o) (byRef : Bool) :
    ∀ (n : Nat) (p : PV) (ids : List Nat) (x : Pass), pass H byRef n p ids = some x → ids <+: x.ids ∧ (ids.Nodup → x.ids.Nodup) ∧ ∀ v idsF, x.ids <+: idsF → LentOK H D M x.fr → Rep w (Mut D H F) D v p → Rep w M (Dof D idsF) v x.v := by
  intro n
  induction n with
  | zero => intro p ids x h; simp [pass] at h
  | succ n ih =>
    have froz : ∀ (p q : PV) (fr : List Nat) (v : Value) (idsF : List Nat), fz H 8 p = some (q, fr) → LentOK H D M fr → Rep w (Mut D H F) D v p → Rep w M (Dof D idsF) v q := fun p q fr v idsF h hl hr =>
      (fz_sound S hM 8 v p q fr h hr hl).to (fun _ _ _ h => h) (fun _ _ h => by cases h)
    have plain : ∀ (p : PV) (ids : List Nat) (x : Pass), fz H 8 p = some (p, []) → (some (⟨p, ids, []⟩ : Pass) = some x) → ids <+: x.ids ∧ (ids.Nodup → x.ids.Nodup) ∧ ∀ v idsF, x.ids <+: idsF → LentOK H D M x.fr → Rep w (Mut D H F) D v p → Rep w M (Dof D idsF) v x.v := by
      intro p ids x h1 h
      injection h with h
      subst h
      exact ⟨List.prefix_refl _, fun h => h, fun v idsF _ hl hr => froz p p [] v idsF h1 hl hr⟩
    intro p ids x h
    cases p with
    | un => exact plain _ _ _ rfl h
    | bool b => exact plain _ _ _ rfl h
    | int k m => exact plain _ _ _ rfl h
    | str s => exact plain _ _ _ rfl h
    | np => exact plain _ _ _ rfl h
    | nf => exact plain _ _ _ rfl h
    | sl l => exact plain _ _ _ rfl h
    | rf c => exact plain _ _ _ rfl h
    | ns sz =>
      simp only [pass, Option.some.injEq] at h
      subst h
      exact ⟨List.prefix_refl _, fun h => h, fun v idsF _ hl hr => froz (.ns sz) (.sl []) [] v idsF rfl hl hr⟩
    | bx id off =>
      simp only [pass, Option.some.injEq] at h
      subst h
      obtain ⟨a1, a2, a3⟩ := addId_spec ids id
      refine ⟨a1, a3, fun v idsF hi _ hr => ?_⟩
      cases hr with
      | bx _ b _ _ hD => exact .bx _ b _ off (by unfold Dof; rw [prefix_get hi a2]; exact hD)
    | ms id sz off len =>
      simp only [pass] at h
      cases byRef with
      | true =>
        simp only [cond_true, Option.some.injEq] at h
        subst h
        obtain ⟨a1, a2, a3⟩ := addId_spec ids id
        refine ⟨a1, a3, fun v idsF hi _ hr => ?_⟩
        cases hr with
        | ms _ A _ c _ _ _ hc hm hd => exact .ms _ A len c _ sz off hc hm (hd.imp (fun h => h) fun ⟨b, nb, h1, h2, h3, h4⟩ => ⟨b, nb, by unfold Dof; rw [prefix_get hi a2]; exact h1, h2, h3, h4⟩)
      | false =>
        simp only [cond_false] at h
        obtain ⟨y, hy, h⟩ := bind_some h
        injection h with h
        subst h
        exact ⟨List.prefix_refl _, fun h => h, fun v idsF _ hl hr => froz _ y.1 y.2 v idsF hy hl hr⟩
    | agg c =>
      simp only [pass] at h
      obtain ⟨y, hy, h⟩ := bind_some h
      injection h with h
      subst h
      obtain ⟨a1, a2, a3, a4⟩ := passL_sound (fun p ids x hx => ih p ids x hx) c ids y hy
      refine ⟨a1, a2, fun v idsF hi hl hr => ?_⟩
      cases hr with
      | agg _ xs _ hs h1 hr =>
        refine .agg _ xs _ (by rw [a3, hs]) (fun i v q hv hq => ?_) (fun i v q hv hq => ?_)
        all_goals
          have hlt : i < c.length := by rw [← a3]; exact (List.getElem?_eq_some_iff.1 hq).1
        · exact h1 i v c[i] hv (List.getElem?_eq_getElem hlt)
        · exact a4 idsF hi hl i v c[i] q (List.getElem?_eq_getElem hlt) hq (hr i v c[i] hv (List.getElem?_eq_getElem hlt))
    | tup c =>
      simp only [pass] at h
      obtain ⟨y, hy, h⟩ := bind_some h
      injection h with h
      subst h
      obtain ⟨a1, a2, a3, a4⟩ := passL_sound (fun p ids x hx => ih p ids x hx) c ids y hy
      refine ⟨a1, a2, fun v idsF hi hl hr => ?_⟩
      cases hr with
      | tup _ xs _ hs hr =>
        refine .tup _ xs _ (by rw [a3, hs]) (fun i v q hv hq => ?_)
        have hlt : i < c.length := by rw [← a3]; exact (List.getElem?_eq_some_iff.1 hq).1
        exact a4 idsF hi hl i v c[i] q (List.getElem?_eq_getElem hlt) hq (hr i v c[i] hv (List.getElem?_eq_getElem hlt))
    | fn f a b =>
      simp only [pass] at h
      obtain ⟨y, hy, h⟩ := bind_some h
      obtain ⟨z, hz, h⟩ := bind_some h
      injection h with h
      subst h
      obtain ⟨a1, a2, a3, a4⟩ := passL_sound (fun p ids x hx => ih p ids x hx) a ids y hy
      obtain ⟨b1, b2, b3, b4⟩ := passL_sound (fun p ids x hx => ih p ids x hx) b y.2.1 z hz
      refine ⟨a1.trans b1, fun h => b2 (a2 h), fun v idsF hi hl hr => ?_⟩
      cases hr with
      | fn _ _ xs ys _ _ ha hb h1 h2 =>
        refine .fn _ f xs ys _ _ (by rw [a3, ha]) (by rw [b3, hb]) (fun i v q hv hq => ?_) (fun i v q hv hq => ?_)
        · have hlt : i < a.length := by rw [← a3]; exact (List.getElem?_eq_some_iff.1 hq).1
          exact a4 idsF (b1.trans hi) hl.left i v a[i] q (List.getElem?_eq_getElem hlt) hq (h1 i v a[i] hv (List.getElem?_eq_getElem hlt))
        · have hlt : i < b.length := by rw [← b3]; exact (List.getElem?_eq_some_iff.1 hq).1
          exact b4 idsF hi hl.right i v b[i] q (List.getElem?_eq_getElem hlt) hq (h2 i v b[i] hv (List.getElem?_eq_getElem hlt))

/-- The objects that are handed over. -/
theorem passObs_sound (S : Sim w D H F n0 m) (hM : ∀ b o, b < w.heap.size → M b o → Mut D H F b o) (byRef own : Bool) :
    ∀ (n k : Nat) (ids : List Nat) (z : List Ob × List Nat × List Nat), k ≤ ids.length → passObs H byRef own n k ids = some z → ids <+: z.2.1 ∧ (ids.Nodup → z.2.1.Nodup) ∧ k + z.1.length = z.2.1.length ∧
      ∀ idsF, z.2.1 <+: idsF → LentOK H D M z.2.2 → ∀ (j : Nat) o, z.1[j]? = some o → ∃ id ob, z.2.1[k + j]? = some id ∧ H id = some ob ∧ o.sz = ob.sz ∧ o.ro = ob.ro ∧ o.gr = (ob.gr && own) ∧ o.cells.length = ob.cells.length ∧
        ∀ (i : Nat) v p q, ob.cells[i]? = some p → o.cells[i]? = some q → Rep w (Mut D H F) D v p → Rep w M (Dof D idsF) v q
  | 0, k, ids, z, _, h => by simp [passObs] at h
  | n + 1, k, ids, z, hk, h => by
    simp only [passObs] at h
    cases hid : ids[k]? with
    | none =>
      simp only [hid, Option.some.injEq] at h
      subst h
      have : ids.length ≤ k := by simpa using hid
      exact ⟨List.prefix_refl _, fun h => h, by simp; omega, fun _ _ _ j o hj => by simp at hj⟩
    | some id =>
      simp only [hid] at h
      obtain ⟨ob, hob, h⟩ := bind_some h
      obtain ⟨y, hy, h⟩ := bind_some h
      obtain ⟨z', hz, h⟩ := bind_some h
      injection h with h
      subst h
      have hk' : k < ids.length := (List.getElem?_eq_some_iff.1 hid).1
      obtain ⟨a1, a2, a3, a4⟩ := passL_sound (fun p ids x hx => pass_sound S hM byRef 8 p ids x hx) ob.cells ids y hy
      obtain ⟨b1, b2, b3, b4⟩ := passObs_sound S hM byRef own n (k + 1) y.2.1 z' (by have := a1.length_le; omega) hz
      refine ⟨a1.trans b1, fun h => b2 (a2 h), by simp; omega, fun idsF hi hl j o hj => ?_⟩
      cases j with
      | zero =>
        simp at hj
        subst hj
        exact ⟨id, ob, prefix_get (a1.trans b1) hid, hob, rfl, rfl, rfl, a3, fun i v p q hp hq hr => a4 idsF (b1.trans hi) hl.left i v p q hp hq hr⟩
      | succ j =>
        obtain ⟨id', ob', h1, h2, h3⟩ := b4 idsF hi hl.right j o (by simpa using hj)
        exact ⟨id', ob', by rw [← h1]; congr 1; omega, h2, h3⟩

/-- THE HANDOVER: objects by their places. -/
theorem handover (S : Sim w D H F n0 m) (byRef own : Bool) {n : Nat} {ids0 : List Nat} {z : List Ob × List Nat × List Nat} (hz : passObs H byRef own n 0 ids0 = some z) (hnd : ids0.Nodup) {lent : List Nat} (hlz : ∀ x ∈ z.2.2, x ∈ lent)
    {F' : Nat → Nat → Prop} (hF : ∀ b o, F' b o → Mut D H F b o) (hF2 : LentOK H D F' lent) (hdj : ∀ x ∈ lent, x ∉ z.2.1) {n' m' : Nat} (hfr : ∀ b o, F' b o → b < n') (hle : n' ≤ w.heap.size)
    (hown : ∀ p b, Dof D z.2.1 p = some b → p < m' ∨ n' ≤ b) (hdis : ∀ id ob b o, id ∈ z.2.1 → H id = some ob → D id = some b → ¬ F' b o) (hgr : ∀ id ob b, H id = some ob → (ob.gr && own) = true → D id = some b → n' ≤ b) :
    (∀ b o, Mut (Dof D z.2.1) (fun p => z.1[p]?) F' b o → Mut D H F b o) ∧ LentOK H D (Mut (Dof D z.2.1) (fun p => z.1[p]?) F') lent ∧ Sim w (Dof D z.2.1) (fun p => z.1[p]?) F' n' m' := by
  obtain ⟨a1, a2, a3, _⟩ := passObs_sound (M := Mut D H F) S (fun _ _ _ h => h) byRef own n 0 ids0 z (Nat.zero_le _) hz
  have hnod := a2 hnd
  have at_ : ∀ (j : Nat) o, z.1[j]? = some o → ∃ id ob, z.2.1[j]? = some id ∧ H id = some ob ∧ o.ro = ob.ro ∧ o.gr = (ob.gr && own) ∧ o.cells.length = ob.cells.length := by
    intro j o hj
    have hM0 : ∀ b o, b < w.heap.size → (fun _ _ => False : Nat → Nat → Prop) b o → Mut D H F b o := fun _ _ _ h => h.elim
    obtain ⟨_, _, _, c4⟩ := passObs_sound (M := fun _ _ => False) S hM0 byRef own n 0 ids0 z (Nat.zero_le _) hz
    obtain ⟨id, ob, h1, h2, _, h3, h4, h5, _⟩ := c4 z.2.1 (List.prefix_refl _) (fun _ _ _ _ _ _ _ _ h => h) j o hj
    exact ⟨id, ob, by simpa using h1, h2, h3, h4, h5⟩
  have hsub : ∀ b o, Mut (Dof D z.2.1) (fun p => z.1[p]?) F' b o → Mut D H F b o := by
    rintro b o (h | ⟨p, ob, h1, h2, h3⟩)
    · exact hF b o h
    · obtain ⟨id, ob', e1, e2, e3, _⟩ := at_ p ob h1
      refine .inr ⟨id, ob', e2, ?_, by omega⟩
      unfold Dof at h2
      rw [e1] at h2
      exact h2
  have hlent : LentOK H D (Mut (Dof D z.2.1) (fun p => z.1[p]?) F') lent := by
    rintro id hi ob b o h1 h2 h3 (h | ⟨p, ob', g1, g2, _⟩)
    · exact hF2 id hi ob b o h1 h2 h3 h
    · obtain ⟨id', ob'', e1, e2, _⟩ := at_ p ob' g1
      unfold Dof at g2
      rw [e1] at g2
      have := S.inj id id' ob ob'' b h1 e2 h2 g2
      subst this
      exact hdj id hi (List.mem_of_getElem? e1)
  refine ⟨hsub, hlent, hfr, hle, hown, fun p o hp => ?_, ?_, fun p o b c hp hD => ?_⟩
  · obtain ⟨_, _, _, c4⟩ := passObs_sound (M := Mut (Dof D z.2.1) (fun p => z.1[p]?) F') S (fun b o _ h => hsub b o h) byRef own n 0 ids0 z (Nat.zero_le _) hz
    obtain ⟨id, ob, h1, h2, _, h3, h4, h5, h6⟩ := c4 z.2.1 (List.prefix_refl _) (fun x hx => hlent x (hlz x hx)) p o hp
    rw [Nat.zero_add] at h1
    obtain ⟨q1, q2⟩ := S.ok id ob h2
    refine ⟨by omega, ?_⟩
    rcases q2 with ⟨e1, e2⟩ | ⟨b, carr, t, e1, e2, e3, e4, e5⟩
    · refine .inl ⟨List.eq_nil_of_length_eq_zero (by rw [h5, e1]; rfl), ?_⟩
      unfold Dof
      rw [h1]
      exact e2
    · refine .inr ⟨b, carr, t, ?_, e2, by omega, fun hg => hgr id ob b h2 (by rw [← h4]; exact hg) e1, fun k q hq => ?_⟩
      · unfold Dof
        rw [h1]
        exact e1
      · have hlt : k < ob.cells.length := by rw [← h5]; exact (List.getElem?_eq_some_iff.1 hq).1
        obtain ⟨v, r1, r2, r3⟩ := e5 k ob.cells[k] (List.getElem?_eq_getElem hlt)
        exact ⟨v, r1, r2, h6 k v _ q (List.getElem?_eq_getElem hlt) hq r3⟩
  · intro i j a b k hi hj di dj
    obtain ⟨id, ob, e1, e2, _⟩ := at_ i a hi
    obtain ⟨id', ob', f1, f2, _⟩ := at_ j b hj
    unfold Dof at di dj
    rw [e1] at di
    rw [f1] at dj
    have := S.inj id id' ob ob' k e2 f2 di dj
    subst this
    exact (List.getElem?_inj (List.getElem?_eq_some_iff.1 e1).1 hnod).1 (e1.trans f1.symm)
  · obtain ⟨id, ob, e1, e2, _⟩ := at_ p o hp
    unfold Dof at hD
    rw [e1] at hD
    exact hdis id ob b c (List.mem_of_getElem? e1) e2 hD
end

/-! ### back -/
theorem back_sound {w : World} {M : Nat → Nat → Prop} {D D' : Nat → Option Nat} {g : Nat → Nat} (hg : ∀ p b, D p = some b → D' (g p) = some b) :
    ∀ (n : Nat) (v : Value) (p q : PV), back g n p = some q → Rep w M D v p → Rep w M D' v q := by
  intro n
  induction n with
  | zero => intro v p q h; simp [back] at h
  | succ n ih =>
    have list : ∀ (xs : List Value) (c l : List PV), mapO (back g n) c = some l → (∀ (i : Nat) v p, xs[i]? = some v → c[i]? = some p → Rep w M D v p) → ∀ (i : Nat) v q, xs[i]? = some v → l[i]? = some q → Rep w M D' v q := by
      intro xs c l hl hr i v q hv hq
      obtain ⟨x, hx, hfx⟩ := (mapO_spec hl).2 i q hq
      exact ih v x q hfx (hr i v x hv hx)
    intro v p q h hR
    cases hR with
    | un => simp [back] at h; subst h; exact .un _ _
    | bool _ b => simp [back] at h; subst h; exact .bool _ _
    | int _ k m => simp [back] at h; subst h; exact .int _ _ _
    | str _ s => simp [back] at h; subst h; exact .str _ _
    | np => simp [back] at h; subst h; exact .np _
    | nf => simp [back] at h; subst h; exact .nf _
    | ns _ A sz => simp [back] at h; subst h; exact .ns _ A sz
    | sl _ A n' c sz l b o vs hn hc hm hr hA hcell hrep => simp [back] at h; subst h; exact .sl _ A n' c sz l b o vs hn hc hm hr hA hcell hrep
    | rf _ b o c vs hcell hrep => simp [back] at h; subst h; exact .rf _ b o c vs hcell hrep
    | bx _ b id off hD => simp [back] at h; subst h; exact .bx _ b _ off (hg _ _ hD)
    | ms _ A len c id sz off hc hm hd => simp [back] at h; subst h; exact .ms _ A len c _ sz off hc hm (hd.imp (fun h => h) fun ⟨b, nb, h1, h2, h3, h4⟩ => ⟨b, nb, hg _ _ h1, h2, h3, h4⟩)
    | agg _ xs c hs h1 hr =>
      simp only [back] at h
      obtain ⟨l, hl, h⟩ := bind_some h
      injection h with h
      subst h
      have hlen := (mapO_spec hl).1
      refine .agg _ xs _ (by rw [hlen, hs]) (fun i v q hv hq => ?_) (fun i v q hv hq => list xs.toList c l hl (fun i v p hv hp => hr i v p (by simpa using hv) hp) i v q (by simpa using hv) hq)
      have hlt : i < c.length := by rw [← hlen]; exact (List.getElem?_eq_some_iff.1 hq).1
      exact h1 i v c[i] hv (List.getElem?_eq_getElem hlt)
    | tup _ xs c hs hr =>
      simp only [back] at h
      obtain ⟨l, hl, h⟩ := bind_some h
      injection h with h
      subst h
      exact .tup _ xs _ (by rw [(mapO_spec hl).1, hs]) (fun i v q hv hq => list xs.toList c l hl (fun i v p hv hp => hr i v p (by simpa using hv) hp) i v q (by simpa using hv) hq)
    | fn _ f xs ys a b ha hb h1 h2 =>
      simp only [back] at h
      obtain ⟨l, hl, h⟩ := bind_some h
      obtain ⟨l2, hl2, h⟩ := bind_some h
      injection h with h
      subst h
      exact .fn _ f xs ys _ _ (by rw [(mapO_spec hl).1, ha]) (by rw [(mapO_spec hl2).1, hb])
        (fun i v q hv hq => list xs.toList a l hl (fun i v p hv hp => h1 i v p (by simpa using hv) hp) i v q (by simpa using hv) hq)
        (fun i v q hv hq => list ys.toList b l2 hl2 (fun i v p hv hp => h2 i v p (by simpa using hv) hp) i v q (by simpa using hv) hq)

/-- What leads to no memory is told whatever may be written. -/
theorem flat_sound {w : World} {M M' : Nat → Nat → Prop} {D : Nat → Option Nat} : ∀ (n : Nat) (v : Value) (p : PV), flat n p = true → Rep w M D v p → Rep w M' D v p := by
  intro n
  induction n with
  | zero => intro v p h; simp [flat] at h
  | succ n ih =>
    intro v p h hR
    cases hR with
    | un => exact .un _ _
    | bool _ b => exact .bool _ _
    | int _ k m => exact .int _ _ _
    | str _ s => exact .str _ _
    | np => exact .np _
    | nf => exact .nf _
    | ns _ A sz => exact .ns _ A sz
    | sl _ _ _ _ _ _ _ _ _ _ _ _ _ _ _ _ => simp [flat] at h
    | rf _ b o c vs hcell hrep => simp [flat] at h
    | bx _ b id off hD => exact .bx _ b _ off hD
    | ms _ A len c id sz off hc hm hd => exact .ms _ A len c _ sz off hc hm hd
    | agg _ xs c hs h1 hr =>
      simp only [flat, List.all_eq_true] at h
      exact .agg _ xs _ hs h1 (fun i v q hv hq => ih v q (h q (List.mem_of_getElem? hq)) (hr i v q hv hq))
    | tup _ xs c hs hr =>
      simp only [flat, List.all_eq_true] at h
      exact .tup _ xs _ hs (fun i v q hv hq => ih v q (h q (List.mem_of_getElem? hq)) (hr i v q hv hq))
    | fn _ f xs ys a b ha hb h1 h2 =>
      simp only [flat, Bool.and_eq_true, List.all_eq_true] at h
      exact .fn _ f xs ys _ _ ha hb (fun i v q hv hq => ih v q (h.1 q (List.mem_of_getElem? hq)) (h1 i v q hv hq)) (fun i v q hv hq => ih v q (h.2 q (List.mem_of_getElem? hq)) (h2 i v q hv hq))

end Go.Pv
