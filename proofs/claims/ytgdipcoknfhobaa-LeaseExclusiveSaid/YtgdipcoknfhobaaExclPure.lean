/- LeaseExclusive in plain words: who works holds the lease. -/
import Derived.Test.YtgdipcoknfhobaaExcl
namespace Go.Proofs.Ytgdipcoknfhobaa
open Go.Pv

abbrev z0 : Lease := Lease.mk (⟨#[]⟩ : ByteArray) 0 0 0
abbrev ids : List ByteArray := [(⟨#[97]⟩ : ByteArray), (⟨#[98]⟩ : ByteArray), (⟨#[99]⟩ : ByteArray), (⟨#[100]⟩ : ByteArray), (⟨#[101]⟩ : ByteArray)]
abbrev idAt (j : Nat) : ByteArray := ids.getD j (⟨#[]⟩ : ByteArray)
theorem id_ne {j : Nat} (h : j < 5) : idAt j ≠ (⟨#[]⟩ : ByteArray) := by
  match j, h with
  | 0, _ => decide
  | 1, _ => decide
  | 2, _ => decide
  | 3, _ => decide
  | 4, _ => decide
theorem id_inj {i j : Nat} (hi : i < 5) (hj : j < 5) (h : idAt i = idAt j) : i = j := by
  have key : ∀ i, i < 5 → ∀ j, j < 5 → idAt i = idAt j → i = j := by decide
  exact key i hi j hj h
structure Val1 (l : Lease) : Prop where
  r0 : 0 ≤ l.renewed
  r1 : l.renewed ≤ 1000000000000
  d0 : 0 ≤ l.duration
  d1 : l.duration ≤ 1000000000000
theorem val_of {l : Lease} (h : s_lease_Valid l = true) : Val1 l := by
  unfold s_lease_Valid s_lease_within at h
  simp only [cond_eq_ite] at h
  by_cases c1 : decide ((ByteArray.size l.holder : Int) ≤ 40) = true
  · rw [if_pos c1] at h
    by_cases c2 : decide (0 ≤ l.renewed) = true
    · simp only [c2, if_true] at h
      by_cases c3 : decide (l.renewed ≤ 1000000000000) = true
      · simp only [c3, if_true] at h
        by_cases c4 : decide (0 ≤ l.duration) = true
        · simp only [c4, if_true] at h
          by_cases c5 : decide (l.duration ≤ 1000000000000) = true
          · exact ⟨of_decide_eq_true c2, of_decide_eq_true c3, of_decide_eq_true c4, of_decide_eq_true c5⟩
          · simp [c5] at h
        · simp [c4] at h
      · simp [c3] at h
    · simp [c2] at h
  · rw [if_neg c1] at h
    cases h
theorem holds_of {l : Lease} {id : ByteArray} {t : Int} (h : s_lease_Holds l id t = true) : id ≠ (⟨#[]⟩ : ByteArray) ∧ l.holder = id ∧ t < l.renewed + l.duration := by
  unfold s_lease_Holds at h
  cases hv : s_lease_Valid l with
  | false => rw [hv] at h; cases h
  | true =>
    rw [hv, cond_true] at h
    have v := val_of hv
    have := v.r0
    have := v.r1
    have := v.d0
    have := v.d1
    cases h1 : sEq id (⟨#[]⟩ : ByteArray) with
    | true => rw [h1] at h; cases h
    | false =>
      rw [h1, cond_false] at h
      cases h2 : sEq l.holder id with
      | false => rw [h2] at h; cases h
      | true =>
        rw [h2, cond_true, w64_of (by omega)] at h
        exact ⟨(fun e => by rw [sEq_iff.2 e] at h1; cases h1), sEq_iff.1 h2, of_decide_eq_true h⟩
theorem try_of {l : Lease} {id : ByteArray} {t d : Int} (h : (s_lease_Try l id t d).2 = true) : (s_lease_Try l id t d).1.holder = id ∧ (l.holder = id ∨ l.holder = (⟨#[]⟩ : ByteArray) ∨ l.renewed + l.duration ≤ t) := by
  unfold s_lease_Try at h ⊢
  cases hv : s_lease_Valid l with
  | false => rw [hv] at h; cases h
  | true =>
    rw [hv, cond_true] at h
    rw [cond_true]
    have v := val_of hv
    have := v.r0
    have := v.r1
    have := v.d0
    have := v.d1
    cases h1 : sEq id (⟨#[]⟩ : ByteArray) with
    | true => rw [h1] at h; cases h
    | false =>
      rw [h1, cond_false] at h
      rw [cond_false]
      cases h2 : decide (40 < (ByteArray.size id : Int)) with
      | true => rw [h2] at h; cases h
      | false =>
        rw [h2, cond_false] at h
        rw [cond_false]
        cases h3 : s_lease_within t 1000000000000 with
        | false => rw [h3] at h; cases h
        | true =>
          rw [h3, cond_true] at h
          rw [cond_true]
          cases h4 : decide (d < 1) with
          | true => rw [h4] at h; cases h
          | false =>
            rw [h4, cond_false] at h
            rw [cond_false]
            cases h5 : decide (1000000000000 < d) with
            | true => rw [h5] at h; cases h
            | false =>
              rw [h5, cond_false] at h
              rw [cond_false]
              cases h6 : sEq l.holder id with
              | true => exact ⟨rfl, Or.inl (sEq_iff.1 h6)⟩
              | false =>
                rw [h6, cond_false] at h
                rw [cond_false]
                cases h7 : sEq l.holder (⟨#[]⟩ : ByteArray) with
                | true => exact ⟨rfl, Or.inr (Or.inl (sEq_iff.1 h7))⟩
                | false =>
                  rw [h7, cond_false, w64_of (by omega)] at h
                  rw [cond_false, w64_of (by omega)]
                  cases h8 : decide (t < l.renewed + l.duration) with
                  | true => rw [h8] at h; cases h
                  | false =>
                    have := of_decide_eq_false h8
                    exact ⟨rfl, Or.inr (Or.inr (by omega))⟩
theorem release_of (l : Lease) (id : ByteArray) : s_lease_Release l id = l ∨ (l.holder = id ∧ (s_lease_Release l id).holder = (⟨#[]⟩ : ByteArray)) := by
  unfold s_lease_Release
  cases s_lease_Valid l with
  | false => exact Or.inl rfl
  | true =>
    rw [cond_true]
    cases sEq id (⟨#[]⟩ : ByteArray) with
    | true => exact Or.inl rfl
    | false =>
      rw [cond_false]
      cases h : sEq l.holder id with
      | true => exact Or.inr ⟨sEq_iff.1 h, rfl⟩
      | false => exact Or.inl rfl
/-- what an instance has is none, or it is the one that counts, or it ends soon -/
def Own (now : Int) (a m : Lease) (j : Nat) : Prop := m.holder = (⟨#[]⟩ : ByteArray) ∨ (m.holder = idAt j ∧ (a = m ∨ m.renewed + m.duration ≤ now + 100))
def Inv (n : Nat) (now : Int) (mine : List Lease) (a : Lease) : Prop := mine.length = n ∧ ∀ j, j < n → Own now a (mine.getD j z0) j
theorem Own.later {now now' : Int} {a m : Lease} {j : Nat} (h : Own now a m j) (hl : now ≤ now') : Own now' a m j := by
  rcases h with h | ⟨h, g⟩
  · exact Or.inl h
  · exact Or.inr ⟨h, g.imp (fun x => x) (fun x => by omega)⟩
theorem getD_set {l : List Lease} {k j : Nat} {x : Lease} (hk : k < l.length) : (l.set k x).getD j z0 = if j = k then x else l.getD j z0 := by
  rw [List.getD_eq_getElem?_getD, List.getD_eq_getElem?_getD, List.getElem?_set]
  by_cases h : k = j
  · rw [if_pos h, if_pos h.symm]
    rw [if_pos (by omega)]
    rfl
  · rw [if_neg h, if_neg (fun e => h e.symm)]
theorem set_set (l : List Lease) (k : Nat) (x y : Lease) : (l.set k x).set k y = l.set k y := List.set_set ..
/-- releasing keeps it -/
theorem inv_release {n : Nat} {now : Int} {mine : List Lease} {a : Lease} (hn : n ≤ 5) (I : Inv n now mine a) {k : Nat} (hk : k < n) : Inv n now (mine.set k z0) (s_lease_Release a (idAt k)) := by
  refine ⟨by rw [List.length_set]; exact I.1, fun j hj => ?_⟩
  rw [getD_set (by rw [I.1]; exact hk)]
  by_cases e : j = k
  · rw [if_pos e]
    exact Or.inl rfl
  · rw [if_neg e]
    rcases I.2 j hj with h | ⟨h, g⟩
    · exact Or.inl h
    · rcases release_of a (idAt k) with r | ⟨r1, r2⟩
      · rw [r]
        exact Or.inr ⟨h, g⟩
      · rcases g with g | g
        · exfalso
          rw [g, h] at r1
          exact e (id_inj (by omega) (by omega) r1)
        · exact Or.inr ⟨h, Or.inr g⟩
theorem inv_fail {n : Nat} {now : Int} {mine : List Lease} {a : Lease} (I : Inv n now mine a) {k : Nat} (hk : k < n) : Inv n now (mine.set k z0) a := by
  refine ⟨by rw [List.length_set]; exact I.1, fun j hj => ?_⟩
  rw [getD_set (by rw [I.1]; exact hk)]
  by_cases e : j = k
  · rw [if_pos e]
    exact Or.inl rfl
  · rw [if_neg e]
    exact I.2 j hj
theorem inv_try {n : Nat} {now : Int} {mine : List Lease} {a : Lease} (hn : n ≤ 5) (I : Inv n now mine a) {k : Nat} (hk : k < n) {t d : Int} (ht : t ≤ now + 100) (h : (s_lease_Try a (idAt k) t d).2 = true) :
    Inv n now (mine.set k (s_lease_Try a (idAt k) t d).1) (s_lease_Try a (idAt k) t d).1 := by
  obtain ⟨h1, h2⟩ := try_of h
  refine ⟨by rw [List.length_set]; exact I.1, fun j hj => ?_⟩
  rw [getD_set (by rw [I.1]; exact hk)]
  by_cases e : j = k
  · subst e
    rw [if_pos rfl]
    exact Or.inr ⟨h1, Or.inl rfl⟩
  · rw [if_neg e]
    rcases I.2 j hj with g | ⟨g, g2⟩
    · exact Or.inl g
    · refine Or.inr ⟨g, Or.inr ?_⟩
      rcases g2 with g2 | g2
      · rw [← g2] at g ⊢
        rcases h2 with h2 | h2 | h2
        · exfalso
          rw [g] at h2
          exact e (id_inj (by omega) (by omega) h2)
        · exfalso
          rw [g] at h2
          exact id_ne (by omega) h2
        · omega
      · exact g2
/-- who works -/
theorem works_at {n : Nat} {now : Int} {mine : List Lease} {a : Lease} (I : Inv n now mine a) {j : Nat} (hj : j < n) {s : Int} (hs : 0 ≤ s) (h : s_lease_Holds (mine.getD j z0) (idAt j) (now + s + 100) = true) : a.holder = idAt j := by
  obtain ⟨h1, h2, h3⟩ := holds_of h
  rcases I.2 j hj with g | ⟨g, g2⟩
  · exact absurd (h2.symm.trans g) h1
  · rcases g2 with g2 | g2
    · rw [g2]
      exact g
    · omega
theorem count (p0 : List Int) (p1 : List Move) (i1 : Nat) (v : Int) (x1 : Move) {now : Int} (hnow : w64 (v + x1.wait) = now) (h0 : 0 ≤ now) (h1 : now ≤ 1000000) (mine : List Lease) (a : Lease) (hp : p0.length ≤ 5) (hs : ∀ x ∈ p0, 0 ≤ x ∧ x ≤ 100) (I : Inv p0.length now mine a) :
    ∀ (l : List Int) (i : Nat) (w : Int), p0.drop i = l → (w = 0 ∨ (w = 1 ∧ ∀ j, i ≤ j → j < p0.length → a.holder ≠ idAt j)) →
      (l_law29_LeaseExclusive_b2 p0 p1 i1 v x1 l i w mine a).1 = mine ∧ (l_law29_LeaseExclusive_b2 p0 p1 i1 v x1 l i w mine a).2.1 = a ∧ (l_law29_LeaseExclusive_b2 p0 p1 i1 v x1 l i w mine a).2.2 ≤ 1
  | [], i, w, _, hw => ⟨rfl, rfl, by show w ≤ 1; omega⟩
  | x :: l, i, w, hd, hw => by
    obtain ⟨hx, hi, hd'⟩ := drop_get hd
    have hxs := hs x (mem_get hx)
    rw [l_law29_LeaseExclusive_b2, hnow, w64_of (n := now + x) (by omega), w64_of (n := now + x + 100) (by omega)]
    cases e : s_lease_Holds (mine.getD i z0) (idAt i) (now + x + 100) with
    | true =>
      have ha := works_at I hi hxs.1 e
      rw [cond_true]
      rcases hw with hw | ⟨_, hw⟩
      · subst hw
        refine count p0 p1 i1 v x1 hnow h0 h1 mine a hp hs I l (i + 1) _ hd' (Or.inr ⟨rfl, fun j hj hj2 g => ?_⟩)
        rw [ha] at g
        have := id_inj (by omega) (by omega) g
        omega
      · exact absurd ha (hw i (Nat.le_refl _) hi)
    | false =>
      rw [cond_false]
      exact count p0 p1 i1 v x1 hnow h0 h1 mine a hp hs I l (i + 1) w hd' (hw.imp (fun h => h) (fun ⟨h, g⟩ => ⟨h, fun j hj => g j (by omega)⟩))
def good : R_law29_LeaseExclusive_b1 → Bool
  | .k2 => false
  | _ => true
theorem tmod_at {a n : Int} (ha : 0 ≤ a) (hn : 0 < n) : 0 ≤ Int.tmod a n ∧ Int.tmod a n < n := ⟨Int.tmod_nonneg _ ha, Int.tmod_lt_of_pos _ hn⟩
theorem moves (p0 : List Int) (p1 : List Move) (hp0 : 0 < p0.length) (hp : p0.length ≤ 5) (hs : ∀ x ∈ p0, 0 ≤ x ∧ x ≤ 100) : ∀ (l : List Move) (i : Nat) (now : Int) (mine : List Lease) (a : Lease), 0 ≤ now → now + 1000 * (l.length : Int) ≤ 1000000 → Inv p0.length now mine a →
    good (l_law29_LeaseExclusive_b1 p0 p1 l i now mine a) = true
  | [], _, _, _, _, _, _, _ => rfl
  | x :: l, i, now, mine, a, h0, h1, I => by
    rw [List.length_cons] at h1
    rw [l_law29_LeaseExclusive_b1]
    by_cases c1 : x.who < 0
    · rw [show decide (x.who < 0) = true by simpa using c1]; rfl
    rw [show decide (x.who < 0) = false by simpa using c1, cond_false]
    by_cases c2 : x.wait < 0
    · rw [show decide (x.wait < 0) = true by simpa using c2]; rfl
    rw [show decide (x.wait < 0) = false by simpa using c2, cond_false]
    by_cases c3 : 1000 < x.wait
    · rw [show decide (1000 < x.wait) = true by simpa using c3]; rfl
    rw [show decide (1000 < x.wait) = false by simpa using c3, cond_false]
    have hk := tmod_at (a := x.who) (n := (p0.length : Int)) (by omega) (by omega)
    have hk2 : (Int.tmod x.who (p0.length : Int)).toNat < p0.length := by omega
    generalize (Int.tmod x.who (p0.length : Int)).toNat = k at hk2 ⊢
    have hw : w64 (now + x.wait) = now + x.wait := w64_of (by omega)
    have I' : Inv p0.length (now + x.wait) mine a := ⟨I.1, fun j hj => (I.2 j hj).later (by omega)⟩
    have hsk : 0 ≤ p0.getD k 0 ∧ p0.getD k 0 ≤ 100 := by
      rw [List.getD_eq_getElem?_getD, List.getElem?_eq_getElem hk2]
      exact hs _ (List.getElem_mem hk2)
    have fin : ∀ (m : List Lease) (b : Lease), Inv p0.length (now + x.wait) m b →
        good (bif decide (1 < (l_law29_LeaseExclusive_b2 p0 p1 i now x p0 0 0 m b).2.2) then R_law29_LeaseExclusive_b1.k2
          else l_law29_LeaseExclusive_b1 p0 p1 l (i + 1) (w64 (now + x.wait)) (l_law29_LeaseExclusive_b2 p0 p1 i now x p0 0 0 m b).1 (l_law29_LeaseExclusive_b2 p0 p1 i now x p0 0 0 m b).2.1) = true := by
      intro m b J
      obtain ⟨e1, e2, e3⟩ := count p0 p1 i now x hw (by omega) (by omega) m b hp hs J p0 0 0 rfl (Or.inl rfl)
      rw [e1, e2, show decide (1 < (l_law29_LeaseExclusive_b2 p0 p1 i now x p0 0 0 m b).2.2) = false by simpa using e3, cond_false, hw]
      exact moves p0 p1 hp0 hp hs l (i + 1) _ m b (by omega) (by omega) J
    cases x.release with
    | true =>
      rw [cond_true]
      exact fin _ _ (inv_release hp I' hk2)
    | false =>
      rw [cond_false, hw, w64_of (n := now + x.wait + p0.getD k 0) (by omega)]
      cases e : (s_lease_Try a (idAt k) (now + x.wait + p0.getD k 0) x.duration).2 with
      | true =>
        rw [cond_true, set_set]
        have := fin _ _ (inv_try hp I' hk2 (by omega) e)
        rw [hw] at this
        exact this
      | false =>
        rw [cond_false]
        have := fin _ _ (inv_fail I' hk2)
        rw [hw] at this
        exact this
def kE : R_law29_LeaseExclusive_b0 → Bool | .k0 => true | .k1 => false
theorem skews (p0 : List Int) (p1 : List Move) : ∀ (l : List Int) (i : Nat), kE (l_law29_LeaseExclusive_b0 p0 p1 l i) = true → ∀ x ∈ l, 0 ≤ x ∧ x ≤ 100
  | [], _, _ => fun _ h => by cases h
  | x :: l, i, h => by
    rw [l_law29_LeaseExclusive_b0] at h
    cases c1 : decide (x < 0) with
    | true => rw [c1] at h; cases h
    | false =>
      rw [c1, cond_false] at h
      cases c2 : decide (100 < x) with
      | true => rw [c2] at h; cases h
      | false =>
        rw [c2, cond_false] at h
        have c1 := of_decide_eq_false c1
        have c2 := of_decide_eq_false c2
        intro y hy
        rcases List.mem_cons.1 hy with e | e
        · subst e
          omega
        · exact skews p0 p1 l (i + 1) h y e
theorem excl_true (p0 : List Int) (p1 : List Move) : s_law29_LeaseExclusive p0 p1 = true := by
  unfold s_law29_LeaseExclusive
  by_cases c1 : (p0.length : Int) < 1
  · rw [show decide ((p0.length : Int) < 1) = true by simpa using c1]; rfl
  rw [show decide ((p0.length : Int) < 1) = false by simpa using c1, cond_false]
  by_cases c2 : 5 < (p0.length : Int)
  · rw [show decide (5 < (p0.length : Int)) = true by simpa using c2]; rfl
  rw [show decide (5 < (p0.length : Int)) = false by simpa using c2, cond_false]
  by_cases c3 : 200 < (p1.length : Int)
  · rw [show decide (200 < (p1.length : Int)) = true by simpa using c3]; rfl
  rw [show decide (200 < (p1.length : Int)) = false by simpa using c3, cond_false]
  cases e : l_law29_LeaseExclusive_b0 p0 p1 p0 0 with
  | k1 => rfl
  | k0 =>
    have hs := skews p0 p1 p0 0 (by rw [e]; rfl)
    have h := moves p0 p1 (by omega) (by omega) hs p1 0 0 (List.replicate p0.length z0) z0 (Int.le_refl _) (by omega) ⟨List.length_replicate, fun j hj => Or.inl (by rw [List.getD_eq_getElem?_getD, List.getElem?_replicate, if_pos hj]; rfl)⟩
    simp only
    cases e2 : l_law29_LeaseExclusive_b1 p0 p1 p1 0 0 (List.replicate p0.length z0) z0 with
    | k0 _ _ => rfl
    | k1 => rfl
    | k2 => rw [e2] at h; cases h
theorem excl_holds (p0 : List Int) (p1 : List Move) : H_law29_LeaseExclusive p0 p1 ∧ s_law29_LeaseExclusive p0 p1 = true := by
  refine ⟨⟨fun a b c => ?_, fun a b c => ?_, fun a b c => ?_, trivial⟩, excl_true p0 p1⟩
  all_goals have a := of_decide_eq_false a
  all_goals have b := of_decide_eq_false b
  all_goals have c := of_decide_eq_false c
  · exact ⟨by omega, trivial⟩
  · omega
  · have hm : ∀ {x : Move}, decide (x.who < 0) = false → 0 ≤ Int.tmod x.who (p0.length : Int) ∧ Int.tmod x.who (p0.length : Int) < (p0.length : Int) := fun h => by
      have := of_decide_eq_false h
      exact tmod_at (by omega) (by omega)
    have hb2 : ∀ (i : Nat) (v : Int) (x : Move), H_law29_LeaseExclusive_b2 p0 p1 i v x := fun i v x => by
      have hx : ∀ (j : Nat) (y : Int), p0[j]? = some y → j < p0.length := fun j y h => (List.getElem?_eq_some_iff.1 h).1
      refine ⟨by omega, fun j y h => by omega, fun j y h => by have := hx j y h; omega, fun j _ v2 _ y h hl => by have := hx j y h; omega, fun j y h => by have := hx j y h; omega, fun j y h => by have := hx j y h; show j < 5; omega, trivial⟩
    refine ⟨by omega, ?_, ?_, ?_, ?_, ?_, ?_, ?_, ?_, ?_, ?_, ?_, ?_, ?_, ?_, ?_, ?_, ?_, trivial⟩
    · intro x _ h1 h2 h3; omega
    · intro x _ h1 h2 h3; exact (hm h1).1
    · intro x _ h1 h2 h3; exact (hm h1).2
    · intro i v m l x _ hl h1 h2 h3; have := hm h1; omega
    · intro x _ h1 h2 h3 h4; exact (hm h1).1
    · intro x _ h1 h2 h3 h4; have := hm h1; omega
    · intro x _ h1 h2 h3 h4; have := hm h1; show _ < 5; omega
    · intro i v m l x _ hl h1 h2 h3 h4; exact hb2 i v x
    · intro x _ h1 h2 h3 h4; exact (hm h1).1
    · intro x _ h1 h2 h3 h4; have := hm h1; omega
    · intro x _ h1 h2 h3 h4; have := hm h1; show _ < 5; omega
    · intro x _ h1 h2 h3 h4; have := hm h1; omega
    · intro i v m l x _ hl h1 h2 h3 h4 h5; exact (hm h1).1
    · intro i v m l x _ hl h1 h2 h3 h4 h5; exact (hm h1).2
    · intro i v m l x _ hl h1 h2 h3 h4 h5; have := hm h1; rw [List.length_set]; omega
    · intro i v m l x _ hl h1 h2 h3 h4 h5; exact hb2 i v x
    · intro i v m l x _ hl h1 h2 h3 h4 h5; exact hb2 i v x
end Go.Proofs.Ytgdipcoknfhobaa
