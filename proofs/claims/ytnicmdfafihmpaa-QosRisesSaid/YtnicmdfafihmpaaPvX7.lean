/- The library's stable sort: blocks, and the whole: it answers what insertion answers. Program-free. -/
import Derived.Test.YtnicmdfafihmpaaPvX6
namespace Go.Pv.Srt
section
variable {α : Type} (z : α) (c : α → α → Int)

def stb0 (n : Int) : Nat → List α → Int → Int → List α × Int
  | 0, v, a, _ => (v, a)
  | k + 1, v, a, b => bif decide (b ≤ n) then stb0 n k (ins z c v a b) b (b + 20) else (v, a)
def stb2 (n : Int) : Nat → List α → Int → Int → Int → List α × Int × Int
  | 0, v, a, _, s => (v, s, a)
  | k + 1, v, a, b, s => bif decide (b ≤ n) then stb2 n k (sym z c ((b - a).toNat + 1) v a (a + s) b) b (b + (2 * s)) s else (v, s, a)
def stb2' (n : Int) (v : List α) (s : Int) : List α × Int × Int := stb2 z c n ((n + 2 * s - (2 * s)).toNat + 1) v 0 (2 * s) s
def stb1 (n : Int) : Nat → List α → Int → List α
  | 0, v, _ => v
  | k + 1, v, s =>
    bif decide (s < n) then
      bif decide ((stb2' z c n v s).2.2 + (stb2' z c n v s).2.1 < n) then
        stb1 n k (sym z c ((n - (stb2' z c n v s).2.2).toNat + 1) (stb2' z c n v s).1 (stb2' z c n v s).2.2 ((stb2' z c n v s).2.2 + (stb2' z c n v s).2.1) n) ((stb2' z c n v s).2.1 * 2)
      else stb1 n k (stb2' z c n v s).1 ((stb2' z c n v s).2.1 * 2)
    else v
def stb (d : List α) (n : Int) : List α :=
  stb1 z c n ((n - 20).toNat + 1) (ins z c (stb0 z c n ((n + 20 - 20).toNat + 1) d 0 20).1 (stb0 z c n ((n + 20 - 20).toNat + 1) d 0 20).2 n) 20

inductive Bl (s : Nat) : List α → Prop
  | last {l : List α} : l.length ≤ s → Up c l → Bl s l
  | cons {l r : List α} : l.length = s → Up c l → Bl s r → Bl s (l ++ r)
inductive Fu (s : Nat) : List α → Prop
  | nil : Fu s []
  | snoc {p l : List α} : Fu s p → l.length = s → Up c l → Fu s (p ++ l)
variable {c}
theorem Fu.bl {s : Nat} {P : List α} (h : Fu c s P) : ∀ {Q : List α}, Bl c s Q → Bl c s (P ++ Q) := by
  induction h with
  | nil => exact fun h => h
  | snoc _ h1 h2 ih =>
    intro Q hQ
    rw [List.append_assoc]
    exact ih (Bl.cons h1 h2 hQ)
theorem Bl.one {s : Nat} {Q : List α} (h : Bl c s Q) (hl : Q.length ≤ s) : Up c Q := by
  cases h with
  | last _ h => exact h
  | cons h1 h2 h3 =>
    rename_i l r
    rw [List.length_append] at hl
    rw [List.length_eq_zero_iff.1 (show r.length = 0 by omega), List.append_nil]
    exact h2
theorem Bl.split {s : Nat} {Q : List α} (h : Bl c s Q) (hl : s < Q.length) : ∃ l r, Q = l ++ r ∧ l.length = s ∧ Up c l ∧ Bl c s r := by
  cases h with
  | last h _ => omega
  | cons h1 h2 h3 => exact ⟨_, _, rfl, h1, h2, h3⟩
theorem Bl.two {s : Nat} {Q : List α} (hs : 0 < s) (h : Bl c s Q) (hl : 2 * s ≤ Q.length) : ∃ l m r, Q = l ++ (m ++ r) ∧ l.length = s ∧ m.length = s ∧ Up c l ∧ Up c m ∧ Bl c s r := by
  obtain ⟨l, r, rfl, h1, h2, h3⟩ := h.split (by omega)
  rw [List.length_append] at hl
  by_cases h4 : s < r.length
  · obtain ⟨m, r, rfl, h5, h6, h7⟩ := h3.split h4
    exact ⟨l, m, r, rfl, h1, h5, h2, h6, h7⟩
  · exact ⟨l, r, [], by simp, h1, by omega, h2, h3.one (by omega), Bl.last (by simp) List.Pairwise.nil⟩
theorem stb0_spec (T : Tot c) (n : Int) : ∀ (k : Nat) (P Q : List α) (a b : Int), a = (P.length : Int) → b = a + 20 → n = (P.length : Int) + (Q.length : Int) → Fu c 20 P → (n + 20 - b).toNat < k →
    ∃ P' Q', stb0 z c n k (P ++ Q) a b = (P' ++ Q', (P'.length : Int)) ∧ Fu c 20 P' ∧ Q'.length < 20 ∧ F c (P ++ Q) (P' ++ Q')
  | 0, _, _, _, _, _, _, _, _, h => absurd h (Nat.not_lt_zero _)
  | k + 1, P, Q, a, b, ha, hb, hn, hP, hk => by
    rw [stb0]
    by_cases h : b ≤ n
    · rw [show decide (b ≤ n) = true by simpa using h, cond_true]
      have e : P ++ Q = P ++ (Q.take 20 ++ Q.drop 20) := by rw [List.take_append_drop]
      have l1 : (Q.take 20).length = 20 := by simp; omega
      rw [e, ins_spec z c rfl ha (show b = a + ((Q.take 20).length : Int) by omega)]
      have f := isort_F T (Q.take 20)
      have l2 : (isort c (Q.take 20)).length = 20 := by have := f.1; omega
      have l3 : (Q.drop 20).length = Q.length - 20 := by simp
      rw [← List.append_assoc]
      obtain ⟨P', Q', h1, h2, h3, h4⟩ := stb0_spec T n k (P ++ isort c (Q.take 20)) (Q.drop 20) b (b + 20) (by rw [List.length_append]; omega) rfl (by rw [List.length_append]; omega) (Fu.snoc hP l2 (isort_up T _)) (by omega)
      refine ⟨P', Q', h1, h2, h3, F.trans ?_ h4⟩
      rw [List.append_assoc]
      exact F.rfl.app (f.app F.rfl)
    · rw [show decide (b ≤ n) = false by simpa using h, cond_false]
      exact ⟨P, Q, by rw [ha], hP, by omega, F.rfl⟩
theorem stb2_spec (T : Tot c) (n : Int) (t : Nat) (s : Int) (hs : s = (t : Int)) (ht : 0 < t) : ∀ (k : Nat) (P Q : List α) (a b : Int), a = (P.length : Int) → b = a + 2 * s → n = (P.length : Int) + (Q.length : Int) → Fu c (2 * t) P → Bl c t Q → (n + 2 * s - b).toNat < k →
    ∃ P' Q', stb2 z c n k (P ++ Q) a b s = (P' ++ Q', s, (P'.length : Int)) ∧ Fu c (2 * t) P' ∧ Bl c t Q' ∧ Q'.length < 2 * t ∧ F c (P ++ Q) (P' ++ Q')
  | 0, _, _, _, _, _, _, _, _, _, h => absurd h (Nat.not_lt_zero _)
  | k + 1, P, Q, a, b, ha, hb, hn, hP, hQ, hk => by
    rw [stb2]
    by_cases h : b ≤ n
    · rw [show decide (b ≤ n) = true by simpa using h, cond_true]
      obtain ⟨l, m, r, rfl, h1, h2, h3, h4, h5⟩ := hQ.two ht (by omega)
      simp only [List.length_append] at hn
      obtain ⟨W, e1, e2, e3⟩ := sym_spec z T ((b - a).toNat + 1) P l m r a (a + s) b ha (by omega) (by omega) (by omega) (by omega) h3 h4 (by omega)
      have lW : W.length = 2 * t := by have := e3.1; rw [List.length_append] at this; omega
      rw [e1, ← List.append_assoc]
      obtain ⟨P', Q', g1, g2, g3, g4, g5⟩ := stb2_spec T n t s hs ht k (P ++ W) r b (b + 2 * s) (by rw [List.length_append]; omega) rfl (by rw [List.length_append]; omega) (Fu.snoc hP lW e2) h5 (by omega)
      refine ⟨P', Q', g1, g2, g3, g4, F.trans ?_ g5⟩
      rw [List.append_assoc, ← List.append_assoc l]
      exact F.rfl.app (e3.app F.rfl)
    · rw [show decide (b ≤ n) = false by simpa using h, cond_false]
      exact ⟨P, Q, by rw [ha], hP, hQ, by omega, F.rfl⟩
theorem stb1_spec (T : Tot c) (n : Int) : ∀ (k : Nat) (v : List α) (t : Nat) (s : Int), s = (t : Int) → 0 < t → n = (v.length : Int) → Bl c t v → (n - s).toNat < k → Up c (stb1 z c n k v s) ∧ F c v (stb1 z c n k v s)
  | 0, _, _, _, _, _, _, _, h => absurd h (Nat.not_lt_zero _)
  | k + 1, v, t, s, hs, ht, hn, hv, hk => by
    rw [stb1]
    by_cases h : s < n
    · rw [show decide (s < n) = true by simpa using h, cond_true]
      obtain ⟨P, Q, g1, g2, g3, g4, g5⟩ := stb2_spec z T n t s hs ht ((n + 2 * s - (2 * s)).toNat + 1) [] v 0 (2 * s) rfl (by omega) (by simpa using hn) Fu.nil hv (by omega)
      have e : stb2' z c n v s = (P ++ Q, s, (P.length : Int)) := g1
      rw [e]
      have hl := g5.1
      simp only [List.nil_append, List.length_append] at hl
      simp only
      by_cases h2 : (P.length : Int) + s < n
      · rw [show decide ((P.length : Int) + s < n) = true by simpa using h2, cond_true]
        obtain ⟨l, r, rfl, h3, h4, h5⟩ := g3.split (by omega)
        rw [List.length_append] at g4 hl
        obtain ⟨W, e1, e2, e3⟩ := sym_spec z T ((n - (P.length : Int)).toNat + 1) P l r [] (P.length : Int) ((P.length : Int) + s) n rfl (by omega) (by omega) (by omega) (by omega) h4 (h5.one (by omega)) (by omega)
        rw [List.append_nil, List.append_nil] at e1
        rw [e1]
        have lW : W.length ≤ 2 * t := by have := e3.1; rw [List.length_append] at this; omega
        have lW' : (P ++ W).length = v.length := by have := e3.1; rw [List.length_append] at this ⊢; omega
        obtain ⟨q1, q2⟩ := stb1_spec T n k (P ++ W) (2 * t) (s * 2) (by omega) (by omega) (by omega) (g2.bl (Bl.last lW e2)) (by omega)
        exact ⟨q1, F.trans (F.trans g5 (F.rfl.app e3)) q2⟩
      · rw [show decide ((P.length : Int) + s < n) = false by simpa using h2, cond_false]
        obtain ⟨q1, q2⟩ := stb1_spec T n k (P ++ Q) (2 * t) (s * 2) (by omega) (by omega) (by rw [List.length_append]; omega) (g2.bl (Bl.last (by omega) (g3.one (by omega)))) (by omega)
        exact ⟨q1, F.trans g5 q2⟩
    · rw [show decide (s < n) = false by simpa using h, cond_false]
      exact ⟨hv.one (by omega), F.rfl⟩
/-- the library's stable sort answers what insertion answers -/
theorem stb_isort (T : Tot c) (d : List α) (n : Int) (hn : n = (d.length : Int)) : stb z c d n = isort c d := by
  unfold stb
  obtain ⟨P, Q, g1, g2, g3, g4⟩ := stb0_spec z T n ((n + 20 - 20).toNat + 1) [] d 0 20 rfl rfl (by simpa using hn) Fu.nil (by omega)
  rw [List.nil_append] at g1 g4
  rw [g1]
  simp only
  have hl := g4.1
  rw [List.length_append] at hl
  have e := ins_spec z c (d := P ++ Q) (A := P) (M := Q) (C := []) (a := (P.length : Int)) (b := n) (by simp) rfl (by omega)
  rw [e, List.append_nil]
  have f := isort_F T Q
  obtain ⟨q1, q2⟩ := stb1_spec z T n ((n - 20).toNat + 1) (P ++ isort c Q) 20 20 rfl (by omega) (by rw [List.length_append, ← f.1]; omega) (g2.bl (Bl.last (by rw [← f.1]; omega) (isort_up T Q))) (by omega)
  exact uniq T q1 (isort_up T d) (F.trans q2.symm (F.trans (F.rfl.app f.symm) (F.trans g4.symm (isort_F T d))))
end
end Go.Pv.Srt
