/- The reference's order is insertion, too. -/
import Derived.Test.YtnicmdfafihmpaaOrd
import Derived.Test.YtnicmdfafihmpaaRank
namespace Go.Proofs.Ytnicmdfafihmpaa
open Go.Pv Go.Pv.Srt

theorem insR_while {α : Type} (c : α → α → Int) (x : α) : ∀ R : List α, insR c x R = R.takeWhile (fun s => decide (c x s < 0)) ++ x :: R.dropWhile (fun s => decide (c x s < 0))
  | [] => rfl
  | s :: t => by
    rw [insR, List.takeWhile_cons, List.dropWhile_cons, insR_while c x t]
    cases decide (c x s < 0) <;> rfl
theorem order1 (p0 : List Pod) (p1 : List Int) (i0 : Nat) : ∀ (R T : List Int) (k : Nat), R.length < k → l_ref51_order_b1 p0 p1 i0 (R.reverse ++ T) k (R.length : Int) = ((R.dropWhile (fun s => s_ref51_before p0 p1 (i0 : Int) s)).length : Int)
  | _, _, 0, h => absurd h (Nat.not_lt_zero _)
  | [], T, k + 1, _ => by
    rw [l_ref51_order_b1]
    rfl
  | s :: t, T, k + 1, h => by
    simp only [List.length_cons] at h
    have e0 : (s :: t).reverse ++ T = t.reverse ++ (s :: T) := by simp
    have e1 : (((s :: t).length : Nat) : Int) - 1 = (t.length : Int) := by simp
    have e2 : List.getD (t.reverse ++ (s :: T)) (Int.toNat (t.length : Int)) 0 = s := by simp [List.getD_eq_getElem?_getD]
    rw [l_ref51_order_b1, show decide (0 < (((s :: t).length : Nat) : Int)) = true by simp, cond_true, e0, e1, e2, List.dropWhile_cons]
    cases s_ref51_before p0 p1 (i0 : Int) s with
    | true =>
      rw [cond_true, order1 p0 p1 i0 t (s :: T) k (by omega)]
      rfl
    | false => rfl
/-- the reference's comparison of pods, as a comparison -/
def cb (p0 : List Pod) (p1 : List Int) (i k : Int) : Int := bif s_ref51_before p0 p1 i k then -1 else 0
theorem cb_lt (p0 : List Pod) (p1 : List Int) (i k : Int) : decide (cb p0 p1 i k < 0) = s_ref51_before p0 p1 i k := by
  unfold cb
  cases s_ref51_before p0 p1 i k <;> rfl
theorem order0 (p0 : List Pod) (p1 : List Int) : ∀ (l : List Pod) (i0 : Nat) (R : List Int), l_ref51_order_b0 p0 p1 l i0 R.reverse = (((List.range' i0 l.length).map fun (n : Nat) => (n : Int)).foldl (fun r x => insR (cb p0 p1) x r) R).reverse
  | [], _, _ => rfl
  | x :: l, i0, R => by
    have h1 := order1 p0 p1 i0 R [] (R.length + 1) (by omega)
    rw [List.append_nil] at h1
    have hl : (List.length R.reverse) = R.length := List.length_reverse
    have e : (fun s => decide (cb p0 p1 (i0 : Int) s < 0)) = fun s => s_ref51_before p0 p1 (i0 : Int) s := by funext s; exact cb_lt p0 p1 _ s
    have hR : insR (cb p0 p1) (i0 : Int) R = R.takeWhile (fun s => s_ref51_before p0 p1 (i0 : Int) s) ++ (i0 : Int) :: R.dropWhile (fun s => s_ref51_before p0 p1 (i0 : Int) s) := by rw [insR_while, e]
    rw [l_ref51_order_b0, hl, Int.toNat_natCast, h1, Int.toNat_natCast]
    have h2 : R = R.takeWhile (fun s => s_ref51_before p0 p1 (i0 : Int) s) ++ R.dropWhile (fun s => s_ref51_before p0 p1 (i0 : Int) s) := List.takeWhile_append_dropWhile.symm
    generalize hA : R.takeWhile (fun s => s_ref51_before p0 p1 (i0 : Int) s) = A at h2 hR
    generalize hB : R.dropWhile (fun s => s_ref51_before p0 p1 (i0 : Int) s) = B at h2 hR
    have k1 : List.take B.length R.reverse = B.reverse := by rw [h2, List.reverse_append]; exact List.take_left' (by simp)
    have k2 : List.drop B.length R.reverse = A.reverse := by rw [h2, List.reverse_append]; exact List.drop_left' (by simp)
    have k3 : List.take (R.length - B.length) A.reverse = A.reverse := by rw [List.take_of_length_le]; rw [h2]; simp
    rw [k1, k2, k3, List.length_cons, List.range'_succ, List.map_cons, List.foldl_cons, hR, ← order0 p0 p1 l (i0 + 1)]
    by_cases h3 : B.length = 0
    · rw [show (B.length == 0) = true by simpa using h3, cond_true, List.length_eq_zero_iff.1 h3]
      simp
    · rw [show (B.length == 0) = false by simpa using h3, cond_false]
      simp
theorem order_isort (p0 : List Pod) (p1 : List Int) : s_ref51_order p0 p1 = isort (cb p0 p1) ((List.range' 0 p0.length).map fun (n : Nat) => (n : Int)) := order0 p0 p1 p0 0 []
theorem insR_map {α β : Type} (f : α → β) (c : α → α → Int) (d : β → β → Int) (x : α) : ∀ R : List α, (∀ s ∈ R, decide (c x s < 0) = decide (d (f x) (f s) < 0)) → (insR c x R).map f = insR d (f x) (R.map f)
  | [], _ => rfl
  | s :: t, h => by
    rw [insR, List.map_cons, insR, ← h s List.mem_cons_self]
    cases decide (c x s < 0) with
    | true => rw [cond_true, cond_true, List.map_cons, insR_map f c d x t (fun q hq => h q (List.mem_cons_of_mem _ hq))]
    | false => rfl
theorem fold_map {α β : Type} (f : α → β) (c : α → α → Int) (d : β → β → Int) (S : α → Prop) (h : ∀ x y, S x → S y → decide (c x y < 0) = decide (d (f x) (f y) < 0)) : ∀ (l R : List α), (∀ x ∈ l, S x) → (∀ x ∈ R, S x) →
    (l.foldl (fun r x => insR c x r) R).map f = (l.map f).foldl (fun r x => insR d x r) (R.map f)
  | [], _, _, _ => rfl
  | x :: l, R, hl, hR => by
    rw [List.foldl_cons, List.map_cons, List.foldl_cons, ← insR_map f c d x R (fun s hs => h x s (hl x List.mem_cons_self) (hR s hs))]
    refine fold_map f c d S h l _ (fun y hy => hl y (List.mem_cons_of_mem _ hy)) (fun y hy => ?_)
    rcases insR_mem hy with e | e
    · rw [e]
      exact hl x List.mem_cons_self
    · exact hR y e
theorem isort_map {α β : Type} (f : α → β) (c : α → α → Int) (d : β → β → Int) (S : α → Prop) (h : ∀ x y, S x → S y → decide (c x y < 0) = decide (d (f x) (f y) < 0)) (l : List α) (hl : ∀ x ∈ l, S x) : (isort c l).map f = isort d (l.map f) := by
  unfold isort
  rw [List.map_reverse, fold_map f c d S h l [] hl (fun _ hx => by cases hx)]
  rfl
end Go.Proofs.Ytnicmdfafihmpaa
