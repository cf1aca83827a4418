/- The library's stable sort: its merging, and that it answers the stably sorted list. Program-free. -/
import Derived.Test.YtnicmdfafihmpaaPvX3
namespace Go.Pv.Srt
section
variable {α : Type} (z : α) (c : α → α → Int)

/-! ### orders -/
structure Tot : Prop where
  asym : ∀ x y, c x y < 0 → ¬ c y x < 0
  tr : ∀ x y w, ¬ c y x < 0 → ¬ c w y < 0 → ¬ c w x < 0
def le (x y : α) : Prop := ¬ c y x < 0
def Up (l : List α) : Prop := l.Pairwise (le c)
def eqv (x y : α) : Bool := decide (¬ c x y < 0) && decide (¬ c y x < 0)
/-- as long, and equals stand in the same order -/
def F (l r : List α) : Prop := l.length = r.length ∧ ∀ x, l.filter (eqv c x) = r.filter (eqv c x)
variable {c}
theorem F.rfl {l : List α} : F c l l := ⟨Eq.refl _, fun _ => Eq.refl _⟩
theorem F.trans {l r s : List α} (h : F c l r) (g : F c r s) : F c l s := ⟨h.1.trans g.1, fun x => (h.2 x).trans (g.2 x)⟩
theorem F.symm {l r : List α} (h : F c l r) : F c r l := ⟨h.1.symm, fun x => (h.2 x).symm⟩
theorem F.app {l r l' r' : List α} (h : F c l r) (g : F c l' r') : F c (l ++ l') (r ++ r') :=
  ⟨by rw [List.length_append, List.length_append, h.1, g.1], fun x => by rw [List.filter_append, List.filter_append, h.2 x, g.2 x]⟩
theorem Tot.refl (T : Tot c) (x : α) : ¬ c x x < 0 := fun h => T.asym x x h h
theorem eqv_self (T : Tot c) (x : α) : eqv c x x = true := by simpa [eqv] using T.refl x
theorem F.mem (T : Tot c) {l r : List α} (h : F c l r) {x : α} (hx : x ∈ l) : x ∈ r := by
  have h1 : x ∈ l.filter (eqv c x) := List.mem_filter.2 ⟨hx, eqv_self T x⟩
  rw [h.2 x] at h1
  exact (List.mem_filter.1 h1).1
theorem F.swap (T : Tot c) {A B : List α} (h : ∀ a ∈ A, ∀ b ∈ B, c b a < 0) : F c (A ++ B) (B ++ A) := by
  refine ⟨by simp [Nat.add_comm], fun x => ?_⟩
  rw [List.filter_append, List.filter_append]
  by_cases hA : A.filter (eqv c x) = []
  · rw [hA]
    simp
  · have hB : B.filter (eqv c x) = [] := by
      obtain ⟨a, ha⟩ := List.exists_mem_of_ne_nil _ hA
      obtain ⟨ha, hxa⟩ := List.mem_filter.1 ha
      refine List.filter_eq_nil_iff.2 fun b hb hxb => ?_
      simp only [eqv, Bool.and_eq_true, decide_eq_true_eq] at hxa hxb
      exact T.tr a x b hxa.1 hxb.2 (h a ha b hb)
    rw [hB]
    simp
theorem uniq (T : Tot c) : ∀ {l r : List α}, Up c l → Up c r → F c l r → l = r
  | [], [], _, _, _ => rfl
  | [], _ :: _, _, _, h => by simp [F] at h
  | _ :: _, [], _, _, h => by simp [F] at h
  | a :: l, b :: r, hl, hr, h => by
    have hl' := List.pairwise_cons.1 hl
    have hr' := List.pairwise_cons.1 hr
    have h1 : ¬ c b a < 0 := by
      rcases List.mem_cons.1 (h.symm.mem T (x := b) List.mem_cons_self) with e | e
      · subst e
        exact T.refl _
      · exact hl'.1 b e
    have h2 : ¬ c a b < 0 := by
      rcases List.mem_cons.1 (h.mem T (x := a) List.mem_cons_self) with e | e
      · subst e
        exact T.refl _
      · exact hr'.1 a e
    have e1 : eqv c a b = true := by simp only [eqv, Bool.and_eq_true, decide_eq_true_eq]; exact ⟨h2, h1⟩
    have e := h.2 a
    rw [List.filter_cons_of_pos (eqv_self T a), List.filter_cons_of_pos e1] at e
    injection e with e _
    subst e
    refine congrArg _ (uniq T hl'.2 hr'.2 ⟨by have := h.1; simpa using this, fun x => ?_⟩)
    have e := h.2 x
    simp only [List.filter_cons] at e
    cases hx : eqv c x a with
    | true => rw [hx] at e; simpa using e
    | false => rw [hx] at e; simpa using e

/-! ### insertion -/
theorem insR_mem {x y : α} : ∀ {R : List α}, y ∈ insR c x R → y = x ∨ y ∈ R
  | [], h => by simpa [insR] using h
  | s :: t, h => by
    rw [insR] at h
    cases hd : decide (c x s < 0) with
    | true =>
      rw [hd, cond_true] at h
      rcases List.mem_cons.1 h with e | e
      · exact Or.inr (by simp [e])
      · rcases insR_mem e with e | e
        · exact Or.inl e
        · exact Or.inr (List.mem_cons_of_mem _ e)
    | false =>
      rw [hd, cond_false] at h
      rcases List.mem_cons.1 h with e | e
      · exact Or.inl e
      · exact Or.inr e
theorem insR_up (T : Tot c) (x : α) : ∀ {R : List α}, R.Pairwise (fun a b => le c b a) → (insR c x R).Pairwise (fun a b => le c b a)
  | [], _ => by simp [insR]
  | s :: t, h => by
    have h' := List.pairwise_cons.1 h
    rw [insR]
    by_cases hd : c x s < 0
    · rw [show decide (c x s < 0) = true by simpa using hd, cond_true]
      refine List.pairwise_cons.2 ⟨fun y hy => ?_, insR_up T x h'.2⟩
      rcases insR_mem hy with e | e
      · subst e
        exact T.asym _ _ hd
      · exact h'.1 y e
    · rw [show decide (c x s < 0) = false by simpa using hd, cond_false]
      refine List.pairwise_cons.2 ⟨fun y hy => ?_, h⟩
      rcases List.mem_cons.1 hy with e | e
      · subst e
        exact hd
      · exact T.tr y s x (h'.1 y e) hd
theorem insR_F (T : Tot c) (x : α) : ∀ (R : List α), F c (R.reverse ++ [x]) (insR c x R).reverse
  | [] => F.rfl
  | s :: t => by
    rw [insR]
    by_cases hd : c x s < 0
    · rw [show decide (c x s < 0) = true by simpa using hd, cond_true, List.reverse_cons, List.reverse_cons, List.append_assoc]
      have h1 : F c ([s] ++ [x]) ([x] ++ [s]) := F.swap T (by simpa using hd)
      exact (F.rfl.app h1).trans (by rw [← List.append_assoc]; exact (insR_F T x t).app F.rfl)
    · rw [show decide (c x s < 0) = false by simpa using hd, cond_false, List.reverse_cons (a := x)]
      exact F.rfl
theorem fold_ok (T : Tot c) : ∀ (M R : List α), R.Pairwise (fun a b => le c b a) → (M.foldl (fun r x => insR c x r) R).Pairwise (fun a b => le c b a) ∧ F c (R.reverse ++ M) (M.foldl (fun r x => insR c x r) R).reverse
  | [], R, h => ⟨h, by simpa using F.rfl⟩
  | x :: M, R, h => by
    obtain ⟨h1, h2⟩ := fold_ok T M (insR c x R) (insR_up T x h)
    refine ⟨h1, F.trans ?_ h2⟩
    have e : R.reverse ++ x :: M = (R.reverse ++ [x]) ++ M := by simp
    rw [e]
    exact (insR_F T x R).app F.rfl
theorem isort_up (T : Tot c) (l : List α) : Up c (isort c l) := by
  unfold Up isort
  rw [List.pairwise_reverse]
  exact (fold_ok T l [] List.Pairwise.nil).1
theorem isort_F (T : Tot c) (l : List α) : F c l (isort c l) := (fold_ok T l [] List.Pairwise.nil).2

/-! ### search -/
def bs (g : Int → Bool) : Nat → Int → Int → Int
  | 0, i, _ => i
  | k + 1, i, j => bif decide (i < j) then (bif g ((i + j) / 2) then bs g k ((i + j) / 2 + 1) j else bs g k i ((i + j) / 2)) else i
theorem bs_spec (g : Int → Bool) : ∀ (k : Nat) (i j : Int), i ≤ j → (j - i).toNat < k → i ≤ bs g k i j ∧ bs g k i j ≤ j ∧ (bs g k i j = i ∨ g (bs g k i j - 1) = true) ∧ (bs g k i j = j ∨ g (bs g k i j) = false)
  | 0, _, _, _, h => absurd h (Nat.not_lt_zero _)
  | k + 1, i, j, h, hk => by
    rw [bs]
    by_cases hij : i < j
    · rw [show decide (i < j) = true by simpa using hij, cond_true]
      cases hg : g ((i + j) / 2) with
      | true =>
        rw [cond_true]
        obtain ⟨h1, h2, h3, h4⟩ := bs_spec g k ((i + j) / 2 + 1) j (by omega) (by omega)
        refine ⟨by omega, h2, Or.inr ?_, h4⟩
        rcases h3 with e | e
        · rw [e, show (i + j) / 2 + 1 - 1 = (i + j) / 2 by omega]
          exact hg
        · exact e
      | false =>
        rw [cond_false]
        obtain ⟨h1, h2, h3, h4⟩ := bs_spec g k i ((i + j) / 2) (by omega) (by omega)
        refine ⟨h1, by omega, h3, Or.inr ?_⟩
        rcases h4 with e | e
        · rw [e]
          exact hg
        · exact e
    · rw [show decide (i < j) = false by simpa using hij, cond_false]
      exact ⟨Int.le_refl _, h, Or.inl rfl, Or.inl (by omega)⟩
def mv1 : Nat → Int → List α → Int → List α
  | 0, _, v, _ => v
  | k + 1, t, v, i => bif decide (i < t - 1) then mv1 k t (sw z v i (i + 1)) (i + 1) else v
def mv3 : Nat → Int → List α → Int → List α
  | 0, _, v, _ => v
  | k + 1, t, v, i => bif decide (t < i) then mv3 k t (sw z v i (i - 1)) (i - 1) else v
theorem mv1_spec (x : α) (C : List α) (t : Int) : ∀ (V A : List α) (k : Nat) (i : Int), i = (A.length : Int) → t - 1 = i + (V.length : Int) → V.length < k → mv1 z k t (A ++ x :: (V ++ C)) i = A ++ (V ++ x :: C)
  | _, _, 0, _, _, _, h => absurd h (Nat.not_lt_zero _)
  | [], A, k + 1, i, hi, ht, _ => by
    rw [mv1, show decide (i < t - 1) = false by simp at ht ⊢; omega]
    rfl
  | y :: V, A, k + 1, i, hi, ht, hk => by
    simp only [List.length_cons] at ht hk
    rw [mv1, show decide (i < t - 1) = true by simp; omega, cond_true]
    have e : A ++ x :: (y :: V ++ C) = A ++ x :: ([] ++ y :: (V ++ C)) := by simp
    rw [e, sw_up z hi (by simp; omega)]
    have e2 : A ++ y :: ([] ++ x :: (V ++ C)) = (A ++ [y]) ++ x :: (V ++ C) := by simp
    rw [e2, mv1_spec x C t V (A ++ [y]) k (i + 1) (by simp; omega) (by omega) (by omega)]
    simp
theorem mv3_spec (y : α) (A : List α) (t : Int) (ht : t = (A.length : Int)) : ∀ (R C : List α) (k : Nat) (i : Int), i = (A.length : Int) + (R.length : Int) → R.length < k → mv3 z k t (A ++ (R.reverse ++ y :: C)) i = A ++ y :: (R.reverse ++ C)
  | _, _, 0, _, _, h => absurd h (Nat.not_lt_zero _)
  | [], C, k + 1, i, hi, _ => by
    rw [mv3, show decide (t < i) = false by simp at hi ⊢; omega]
    rfl
  | u :: R, C, k + 1, i, hi, hk => by
    simp only [List.length_cons] at hi hk
    rw [mv3, show decide (t < i) = true by simp; omega, cond_true]
    have e : A ++ ((u :: R).reverse ++ y :: C) = (A ++ R.reverse) ++ u :: ([] ++ y :: C) := by simp
    rw [e, sw_down z (by simp; omega) (by simp; omega)]
    have e2 : (A ++ R.reverse) ++ y :: ([] ++ u :: C) = A ++ (R.reverse ++ y :: (u :: C)) := by simp
    rw [e2, mv3_spec y A t ht R (u :: C) k (i - 1) (by omega) (by omega)]
    simp
end
end Go.Pv.Srt
