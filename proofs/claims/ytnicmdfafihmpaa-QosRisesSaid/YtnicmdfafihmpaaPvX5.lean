/- The library's stable sort: symmetric merging and the sort as a whole answer the stably sorted list. Program-free. -/
import Derived.Test.YtnicmdfafihmpaaPvX4
namespace Go.Pv.Srt
section
variable {α : Type} (z : α) (c : α → α → Int)

def sym2 (rec : List α → Int → Int → Int → List α) (d : List α) (a m b mid st : Int) : List α :=
  let d1 := bif decide (st < m) && decide (m < mid + m - st) then rot z d st m (mid + m - st) else d
  let d2 := bif decide (a < st) && decide (st < mid) then rec d1 a st mid else d1
  bif decide (mid < mid + m - st) && decide (mid + m - st < b) then rec d2 mid (mid + m - st) b else d2
def sg (d : List α) (p s : Int) : Bool := !decide (c (gt z d (p - s)) (gt z d s) < 0)
def sst (d : List α) (a m b : Int) : Int :=
  bif decide ((a + b) / 2 < m) then bs (sg z c d ((a + b) / 2 + m - 1)) (((a + b) / 2 - ((a + b) / 2 + m - b)).toNat + 1) ((a + b) / 2 + m - b) ((a + b) / 2)
  else bs (sg z c d ((a + b) / 2 + m - 1)) ((m - a).toNat + 1) a m
def st1 (d : List α) (a m b : Int) : Int := bs (fun h => decide (c (gt z d h) (gt z d a) < 0)) ((b - m).toNat + 1) m b
def st3 (d : List α) (a m : Int) : Int := bs (fun h => !decide (c (gt z d m) (gt z d h) < 0)) ((m - a).toNat + 1) a m
def sym : Nat → List α → Int → Int → Int → List α
  | 0, d, _, _, _ => d
  | k + 1, d, a, m, b =>
    bif m - a == 1 then mv1 z ((st1 z c d a m b - a).toNat + 1) (st1 z c d a m b) d a
    else bif b - m == 1 then mv3 z ((m - st3 z c d a m).toNat + 1) (st3 z c d a m) d m
    else sym2 z (sym k) d a m b ((a + b) / 2) (sst z c d a m b)
variable {c}
theorem lt_of_le_lt (T : Tot c) {y l x : α} (h : le c y l) (g : c l x < 0) : c y x < 0 := by
  by_cases e : c y x < 0
  · exact e
  · exact absurd g (T.tr x y l e h)
theorem lt_of_lt_le (T : Tot c) {l x w : α} (g : c l x < 0) (h : le c x w) : c l w < 0 := by
  by_cases e : c l w < 0
  · exact e
  · exact absurd g (T.tr x w l h e)
theorem last_le (T : Tot c) {V : List α} {l : α} (h : Up c (V ++ [l])) : ∀ y ∈ V ++ [l], le c y l := by
  intro y hy
  rcases List.mem_append.1 hy with e | e
  · exact (List.pairwise_append.1 h).2.2 y e l (by simp)
  · rw [List.mem_singleton.1 e]
    exact T.refl l
theorem head_le (T : Tot c) {V : List α} {l : α} (h : Up c (l :: V)) : ∀ y ∈ l :: V, le c l y := by
  intro y hy
  rcases List.mem_cons.1 hy with e | e
  · rw [e]
    exact T.refl l
  · exact (List.pairwise_cons.1 h).1 y e
theorem one1 (T : Tot c) {A V C : List α} {x : α} {a m b : Int} (ha : a = (A.length : Int)) (hm : m = a + 1) (hb : b = m + (V.length : Int)) (hV : Up c V) :
    ∃ W, mv1 z ((st1 z c (A ++ x :: (V ++ C)) a m b - a).toNat + 1) (st1 z c (A ++ x :: (V ++ C)) a m b) (A ++ x :: (V ++ C)) a = A ++ (W ++ C) ∧ Up c W ∧ F c ([x] ++ V) W := by
  obtain ⟨h1, h2, h3, h4⟩ := bs_spec (fun h => decide (c (gt z (A ++ x :: (V ++ C)) h) (gt z (A ++ x :: (V ++ C)) a) < 0)) ((b - m).toNat + 1) m b (by omega) (by omega)
  change m ≤ st1 z c (A ++ x :: (V ++ C)) a m b at h1
  change st1 z c (A ++ x :: (V ++ C)) a m b ≤ b at h2
  change st1 z c (A ++ x :: (V ++ C)) a m b = m ∨ decide (c (gt z _ (st1 z c (A ++ x :: (V ++ C)) a m b - 1)) _ < 0) = true at h3
  change st1 z c (A ++ x :: (V ++ C)) a m b = b ∨ decide (c (gt z _ (st1 z c (A ++ x :: (V ++ C)) a m b)) _ < 0) = false at h4
  generalize st1 z c (A ++ x :: (V ++ C)) a m b = t at h1 h2 h3 h4
  rw [gt_at z (A := A) (C := V ++ C) (x := x) rfl ha] at h3 h4
  have hV12 : V = V.take (t - m).toNat ++ V.drop (t - m).toNat := (List.take_append_drop _ _).symm
  have l1 : (V.take (t - m).toNat).length = (t - m).toNat := by simp; omega
  generalize V.take (t - m).toNat = V1 at hV12 l1
  generalize V.drop (t - m).toNat = V2 at hV12
  subst hV12
  rw [List.length_append] at hb
  have hu := List.pairwise_append.1 hV
  have k1 : ∀ y ∈ V1, c y x < 0 := by
    rcases List.eq_nil_or_concat V1 with e | ⟨L, l, e⟩
    · subst e
      intro y hy
      cases hy
    · subst e
      simp only [List.concat_eq_append] at *
      rcases h3 with e | e
      · simp at l1
        omega
      · rw [gt_at z (A := A ++ x :: L) (x := l) (C := V2 ++ C) (by simp) (by simp at l1 ⊢; omega)] at e
        exact fun y hy => lt_of_le_lt T (last_le T hu.1 y hy) (of_decide_eq_true e)
  have k2 : ∀ y ∈ V2, le c x y := by
    cases V2 with
    | nil =>
      intro y hy
      cases hy
    | cons w V2 =>
      rcases h4 with e | e
      · simp at hb
        omega
      · rw [gt_at z (A := A ++ x :: V1) (x := w) (C := V2 ++ C) (by simp) (by simp; omega)] at e
        exact fun y hy => T.tr x w y (of_decide_eq_false e) (head_le T hu.2.1 y hy)
  refine ⟨V1 ++ x :: V2, ?_, ?_, ?_⟩
  · have e := mv1_spec z x (V2 ++ C) t V1 A ((t - a).toNat + 1) a ha (by omega) (by omega)
    rw [List.append_assoc, e]
    simp
  · refine List.pairwise_append.2 ⟨hu.1, List.pairwise_cons.2 ⟨k2, hu.2.1⟩, fun y hy w hw => ?_⟩
    rcases List.mem_cons.1 hw with e | e
    · rw [e]
      exact T.asym _ _ (k1 y hy)
    · exact hu.2.2 y hy w e
  · have e : F c ([x] ++ V1) (V1 ++ [x]) := F.swap T (by simpa using k1)
    have e2 := e.app (F.rfl (l := V2))
    simpa using e2
theorem one3 (T : Tot c) {A U C : List α} {y : α} {a m : Int} (ha : a = (A.length : Int)) (hm : m = a + (U.length : Int)) (hU : Up c U) :
    ∃ W, mv3 z ((m - st3 z c (A ++ (U ++ y :: C)) a m).toNat + 1) (st3 z c (A ++ (U ++ y :: C)) a m) (A ++ (U ++ y :: C)) m = A ++ (W ++ C) ∧ Up c W ∧ F c (U ++ [y]) W := by
  obtain ⟨h1, h2, h3, h4⟩ := bs_spec (fun h => !decide (c (gt z (A ++ (U ++ y :: C)) m) (gt z (A ++ (U ++ y :: C)) h) < 0)) ((m - a).toNat + 1) a m (by omega) (by omega)
  change a ≤ st3 z c (A ++ (U ++ y :: C)) a m at h1
  change st3 z c (A ++ (U ++ y :: C)) a m ≤ m at h2
  change st3 z c (A ++ (U ++ y :: C)) a m = a ∨ (!decide (c _ (gt z _ (st3 z c (A ++ (U ++ y :: C)) a m - 1)) < 0)) = true at h3
  change st3 z c (A ++ (U ++ y :: C)) a m = m ∨ (!decide (c _ (gt z _ (st3 z c (A ++ (U ++ y :: C)) a m)) < 0)) = false at h4
  generalize st3 z c (A ++ (U ++ y :: C)) a m = t at h1 h2 h3 h4
  rw [gt_at z (A := A ++ U) (C := C) (x := y) (by simp) (by simp; omega)] at h3 h4
  have hU12 : U = U.take (t - a).toNat ++ U.drop (t - a).toNat := (List.take_append_drop _ _).symm
  have l1 : (U.take (t - a).toNat).length = (t - a).toNat := by simp; omega
  generalize U.take (t - a).toNat = U1 at hU12 l1
  generalize U.drop (t - a).toNat = U2 at hU12
  subst hU12
  rw [List.length_append] at hm
  have hu := List.pairwise_append.1 hU
  have k1 : ∀ u ∈ U1, le c u y := by
    rcases List.eq_nil_or_concat U1 with e | ⟨L, l, e⟩
    · subst e
      intro y hy
      cases hy
    · subst e
      simp only [List.concat_eq_append] at *
      rcases h3 with e | e
      · simp at l1
        omega
      · rw [gt_at z (A := A ++ L) (x := l) (C := U2 ++ y :: C) (by simp) (by simp at l1 ⊢; omega)] at e
        exact fun u hu' => T.tr u l y (last_le T hu.1 u hu') (by simpa using e)
  have k2 : ∀ u ∈ U2, c y u < 0 := by
    cases U2 with
    | nil =>
      intro y hy
      cases hy
    | cons w U2 =>
      rcases h4 with e | e
      · simp at hm
        omega
      · rw [gt_at z (A := A ++ U1) (x := w) (C := U2 ++ y :: C) (by simp) (by simp; omega)] at e
        exact fun u hu' => lt_of_lt_le T (by simpa using e) (head_le T hu.2.1 u hu')
  refine ⟨U1 ++ y :: U2, ?_, ?_, ?_⟩
  · have e := mv3_spec z y (A ++ U1) t (by simp; omega) U2.reverse C ((m - t).toNat + 1) m (by simp; omega) (by simp; omega)
    rw [List.reverse_reverse] at e
    have e2 : A ++ (U1 ++ U2 ++ y :: C) = (A ++ U1) ++ (U2 ++ y :: C) := by simp
    rw [e2, e]
    simp
  · refine List.pairwise_append.2 ⟨hu.1, List.pairwise_cons.2 ⟨fun u hu' => T.asym _ _ (k2 u hu'), hu.2.1⟩, fun u hu' w hw => ?_⟩
    rcases List.mem_cons.1 hw with e | e
    · rw [e]
      exact k1 u hu'
    · exact hu.2.2 u hu' w e
  · have e : F c (U2 ++ [y]) ([y] ++ U2) := F.swap T (fun u hu' b hb => by rw [List.mem_singleton.1 hb]; exact k2 u hu')
    have e2 := (F.rfl (l := U1)).app e
    simpa using e2
end
end Go.Pv.Srt
