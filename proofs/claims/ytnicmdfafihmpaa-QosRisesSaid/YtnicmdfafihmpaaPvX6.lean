/- The library's stable sort: merging in general, blocks, the whole. Program-free. -/
import Derived.Test.YtnicmdfafihmpaaPvX5
namespace Go.Pv.Srt
section
variable {α : Type} (z : α) {c : α → α → Int}

theorem two (T : Tot c) (rec : List α → Int → Int → Int → List α) {A U V C d : List α} {a m b mid st : Int} (hd : d = A ++ (U ++ (V ++ C))) (ha : a = (A.length : Int)) (hm : m = a + (U.length : Int)) (hb : b = m + (V.length : Int)) (hU : Up c U) (hV : Up c V)
    (b1 : a ≤ st) (b2 : st ≤ m) (b3 : st ≤ mid) (b4 : mid + m - st ≤ b) (b5 : a < mid) (b6 : mid < b)
    (g1 : st = a ∨ mid + m - st = b ∨ ¬ c (gt z d (mid + m - st)) (gt z d (st - 1)) < 0)
    (g2 : st = m ∨ st = mid ∨ c (gt z d (mid + m - 1 - st)) (gt z d st) < 0)
    (hrec : ∀ (A U V C : List α) (a' m' b' : Int), a' = (A.length : Int) → m' = a' + (U.length : Int) → b' = m' + (V.length : Int) → 0 < U.length → 0 < V.length → Up c U → Up c V → b' - a' < b - a → ∃ W, rec (A ++ (U ++ (V ++ C))) a' m' b' = A ++ (W ++ C) ∧ Up c W ∧ F c (U ++ V) W) :
    ∃ W, sym2 z rec d a m b mid st = A ++ (W ++ C) ∧ Up c W ∧ F c (U ++ V) W := by
  have hU12 : U = U.take (st - a).toNat ++ U.drop (st - a).toNat := (List.take_append_drop _ _).symm
  have l1 : (U.take (st - a).toNat).length = (st - a).toNat := by simp; omega
  generalize U.take (st - a).toNat = U1 at hU12 l1
  generalize U.drop (st - a).toNat = U2 at hU12
  subst hU12
  have hV12 : V = V.take (mid - st).toNat ++ V.drop (mid - st).toNat := (List.take_append_drop _ _).symm
  have l2 : (V.take (mid - st).toNat).length = (mid - st).toNat := by simp; omega
  generalize V.take (mid - st).toNat = V1 at hV12 l2
  generalize V.drop (mid - st).toNat = V2 at hV12
  subst hV12
  rw [List.length_append] at hm hb
  have hu := List.pairwise_append.1 hU
  have hv := List.pairwise_append.1 hV
  have hd' : d = A ++ (U1 ++ (U2 ++ (V1 ++ (V2 ++ C)))) := by rw [hd]; simp
  clear hd
  have c1 : ∀ x ∈ U1, ∀ y ∈ V2, le c x y := by
    rcases List.eq_nil_or_concat U1 with e | ⟨L, l, e⟩
    · subst e
      intro x hx
      cases hx
    · cases V2 with
      | nil =>
        intro x _ y hy
        cases hy
      | cons w V2 =>
        subst e
        simp only [List.concat_eq_append, List.length_append, List.length_cons, List.length_nil] at *
        rcases g1 with e | e | e
        · omega
        · omega
        · rw [gt_at z (d := d) (i := st - 1) (A := A ++ L) (x := l) (C := U2 ++ (V1 ++ (w :: V2 ++ C))) (by rw [hd']; simp) (by simp; omega),
            gt_at z (d := d) (i := mid + m - st) (A := A ++ (L ++ [l]) ++ U2 ++ V1) (x := w) (C := V2 ++ C) (by rw [hd']; simp) (by simp; omega)] at e
          exact fun x hx y hy => T.tr x w y (T.tr x l w (last_le T hu.1 x hx) e) (head_le T hv.2.1 y hy)
  have c2 : ∀ x ∈ U2, ∀ y ∈ V1, c y x < 0 := by
    rcases List.eq_nil_or_concat V1 with e | ⟨L, l, e⟩
    · subst e
      intro x _ y hy
      cases hy
    · cases U2 with
      | nil =>
        intro x hx
        cases hx
      | cons w U2 =>
        subst e
        simp only [List.concat_eq_append, List.length_append, List.length_cons, List.length_nil] at *
        rcases g2 with e | e | e
        · omega
        · omega
        · rw [gt_at z (d := d) (i := st) (A := A ++ U1) (x := w) (C := U2 ++ ((L ++ [l]) ++ (V2 ++ C))) (by rw [hd']; simp) (by simp; omega),
            gt_at z (d := d) (i := mid + m - 1 - st) (A := A ++ U1 ++ (w :: U2) ++ L) (x := l) (C := V2 ++ C) (by rw [hd']; simp) (by simp; omega)] at e
          exact fun x hx y hy => lt_of_lt_le T (lt_of_le_lt T (last_le T hv.1 y hy) e) (head_le T hu.2.1 x hx)
  unfold sym2
  -- the exchange
  have hd1 : (bif decide (st < m) && decide (m < mid + m - st) then rot z d st m (mid + m - st) else d) = A ++ (U1 ++ (V1 ++ (U2 ++ (V2 ++ C)))) := by
    by_cases h : st < m ∧ m < mid + m - st
    · rw [show (decide (st < m) && decide (m < mid + m - st)) = true by simpa using h, cond_true]
      rw [rot_spec z (A := A ++ U1) (U := U2) (V := V1) (C := V2 ++ C) (by rw [hd']; simp) (by simp; omega) (by omega) (by omega) (by omega) (by omega)]
      simp
    · rw [show (decide (st < m) && decide (m < mid + m - st)) = false by rw [Bool.eq_false_iff]; simpa using h, cond_false, hd']
      by_cases h2 : U2.length = 0
      · rw [List.length_eq_zero_iff.1 h2]
        simp
      · have h3 : V1.length = 0 := by omega
        rw [List.length_eq_zero_iff.1 h3]
        simp
  simp only [hd1]
  -- the left
  have hl : ∃ W1, (bif decide (a < st) && decide (st < mid) then rec (A ++ (U1 ++ (V1 ++ (U2 ++ (V2 ++ C))))) a st mid else A ++ (U1 ++ (V1 ++ (U2 ++ (V2 ++ C))))) = A ++ (W1 ++ (U2 ++ (V2 ++ C))) ∧ Up c W1 ∧ F c (U1 ++ V1) W1 := by
    by_cases h : a < st ∧ st < mid
    · rw [show (decide (a < st) && decide (st < mid)) = true by simpa using h, cond_true]
      exact hrec A U1 V1 (U2 ++ (V2 ++ C)) a st mid ha (by omega) (by omega) (by omega) (by omega) hu.1 hv.1 (by omega)
    · rw [show (decide (a < st) && decide (st < mid)) = false by rw [Bool.eq_false_iff]; simpa using h, cond_false]
      refine ⟨U1 ++ V1, by simp, ?_, F.rfl⟩
      by_cases h2 : U1.length = 0
      · rw [List.length_eq_zero_iff.1 h2]
        exact hv.1
      · have h3 : V1.length = 0 := by omega
        rw [List.length_eq_zero_iff.1 h3, List.append_nil]
        exact hu.1
  obtain ⟨W1, e1, u1, f1⟩ := hl
  rw [e1]
  have lw : W1.length = (st - a).toNat + (mid - st).toNat := by have := f1.1; rw [List.length_append] at this; omega
  have hr : ∃ W2, (bif decide (mid < mid + m - st) && decide (mid + m - st < b) then rec (A ++ (W1 ++ (U2 ++ (V2 ++ C)))) mid (mid + m - st) b else A ++ (W1 ++ (U2 ++ (V2 ++ C)))) = A ++ (W1 ++ (W2 ++ C)) ∧ Up c W2 ∧ F c (U2 ++ V2) W2 := by
    by_cases h : mid < mid + m - st ∧ mid + m - st < b
    · rw [show (decide (mid < mid + m - st) && decide (mid + m - st < b)) = true by simpa using h, cond_true]
      obtain ⟨W2, e2, u2, f2⟩ := hrec (A ++ W1) U2 V2 C mid (mid + m - st) b (by simp; omega) (by omega) (by omega) (by omega) (by omega) hu.2.1 hv.2.1 (by omega)
      refine ⟨W2, ?_, u2, f2⟩
      rw [List.append_assoc, List.append_assoc] at e2
      exact e2
    · rw [show (decide (mid < mid + m - st) && decide (mid + m - st < b)) = false by rw [Bool.eq_false_iff]; simpa using h, cond_false]
      refine ⟨U2 ++ V2, by simp, ?_, F.rfl⟩
      by_cases h2 : U2.length = 0
      · rw [List.length_eq_zero_iff.1 h2]
        exact hv.2.1
      · have h3 : V2.length = 0 := by omega
        rw [List.length_eq_zero_iff.1 h3, List.append_nil]
        exact hu.2.1
  obtain ⟨W2, e2, u2, f2⟩ := hr
  refine ⟨W1 ++ W2, by rw [e2]; simp, List.pairwise_append.2 ⟨u1, u2, fun x hx y hy => ?_⟩, ?_⟩
  · rcases List.mem_append.1 (f1.symm.mem T hx) with hx | hx <;> rcases List.mem_append.1 (f2.symm.mem T hy) with hy | hy
    · exact hu.2.2 x hx y hy
    · exact c1 x hx y hy
    · exact T.asym _ _ (c2 y hy x hx)
    · exact hv.2.2 x hx y hy
  · have e : F c (U1 ++ (U2 ++ V1) ++ V2) (U1 ++ (V1 ++ U2) ++ V2) := (F.rfl.app (F.swap T c2)).app F.rfl
    have e' := f1.app f2
    refine F.trans (r := U1 ++ (V1 ++ U2) ++ V2) ?_ (F.trans (r := (U1 ++ V1) ++ (U2 ++ V2)) (by simpa using F.rfl) e')
    simpa using e
theorem sym_spec (T : Tot c) : ∀ (k : Nat) (A U V C : List α) (a m b : Int), a = (A.length : Int) → m = a + (U.length : Int) → b = m + (V.length : Int) → 0 < U.length → 0 < V.length → Up c U → Up c V → (b - a).toNat < k →
    ∃ W, sym z c k (A ++ (U ++ (V ++ C))) a m b = A ++ (W ++ C) ∧ Up c W ∧ F c (U ++ V) W
  | 0, _, _, _, _, _, _, _, _, _, _, _, _, _, _, h => absurd h (Nat.not_lt_zero _)
  | k + 1, A, U, V, C, a, m, b, ha, hm, hb, lU, lV, hU, hV, hk => by
    rw [sym]
    by_cases h1 : m - a = 1
    · rw [show (m - a == 1) = true by simpa using h1, cond_true]
      obtain ⟨x, rfl⟩ := List.length_eq_one_iff.1 (show U.length = 1 by omega)
      exact one1 z T ha (by omega) hb hV
    · rw [show (m - a == 1) = false by simpa using h1, cond_false]
      by_cases h2 : b - m = 1
      · rw [show (b - m == 1) = true by simpa using h2, cond_true]
        obtain ⟨y, rfl⟩ := List.length_eq_one_iff.1 (show V.length = 1 by omega)
        exact one3 z T ha hm hU
      · rw [show (b - m == 1) = false by simpa using h2, cond_false]
        have hs : a ≤ sst z c (A ++ (U ++ (V ++ C))) a m b ∧ sst z c (A ++ (U ++ (V ++ C))) a m b ≤ m ∧ sst z c (A ++ (U ++ (V ++ C))) a m b ≤ (a + b) / 2 ∧ (a + b) / 2 + m - sst z c (A ++ (U ++ (V ++ C))) a m b ≤ b ∧
            (sst z c (A ++ (U ++ (V ++ C))) a m b = a ∨ (a + b) / 2 + m - sst z c (A ++ (U ++ (V ++ C))) a m b = b ∨ sg z c (A ++ (U ++ (V ++ C))) ((a + b) / 2 + m - 1) (sst z c (A ++ (U ++ (V ++ C))) a m b - 1) = true) ∧
            (sst z c (A ++ (U ++ (V ++ C))) a m b = m ∨ sst z c (A ++ (U ++ (V ++ C))) a m b = (a + b) / 2 ∨ sg z c (A ++ (U ++ (V ++ C))) ((a + b) / 2 + m - 1) (sst z c (A ++ (U ++ (V ++ C))) a m b) = false) := by
          unfold sst
          by_cases h3 : (a + b) / 2 < m
          · rw [show decide ((a + b) / 2 < m) = true by simpa using h3]
            simp only [cond_true]
            obtain ⟨q1, q2, q3, q4⟩ := bs_spec (sg z c (A ++ (U ++ (V ++ C))) ((a + b) / 2 + m - 1)) (((a + b) / 2 - ((a + b) / 2 + m - b)).toNat + 1) ((a + b) / 2 + m - b) ((a + b) / 2) (by omega) (by omega)
            refine ⟨by omega, by omega, q2, by omega, ?_, ?_⟩
            · rcases q3 with e | e
              · exact Or.inr (Or.inl (by omega))
              · exact Or.inr (Or.inr e)
            · rcases q4 with e | e
              · exact Or.inr (Or.inl e)
              · exact Or.inr (Or.inr e)
          · rw [show decide ((a + b) / 2 < m) = false by simpa using h3]
            simp only [cond_false]
            obtain ⟨q1, q2, q3, q4⟩ := bs_spec (sg z c (A ++ (U ++ (V ++ C))) ((a + b) / 2 + m - 1)) ((m - a).toNat + 1) a m (by omega) (by omega)
            refine ⟨q1, q2, by omega, by omega, ?_, ?_⟩
            · rcases q3 with e | e
              · exact Or.inl e
              · exact Or.inr (Or.inr e)
            · rcases q4 with e | e
              · exact Or.inl e
              · exact Or.inr (Or.inr e)
        generalize sst z c (A ++ (U ++ (V ++ C))) a m b = st at hs
        obtain ⟨s1, s2, s3, s4, s5, s6⟩ := hs
        refine two z T (sym z c k) rfl ha hm hb hU hV s1 s2 s3 s4 (by omega) (by omega) ?_ ?_ (fun A U V C a' m' b' p1 p2 p3 p4 p5 p6 p7 p8 => sym_spec T k A U V C a' m' b' p1 p2 p3 p4 p5 p6 p7 (by omega))
        · rcases s5 with e | e | e
          · exact Or.inl e
          · exact Or.inr (Or.inl e)
          · refine Or.inr (Or.inr ?_)
            unfold sg at e
            rw [show (a + b) / 2 + m - 1 - (st - 1) = (a + b) / 2 + m - st by omega] at e
            simpa using e
        · rcases s6 with e | e | e
          · exact Or.inl e
          · exact Or.inr (Or.inl e)
          · refine Or.inr (Or.inr ?_)
            unfold sg at e
            simpa using e
end
end Go.Pv.Srt
