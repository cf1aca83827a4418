/- The ranking's comparison is a total preorder. -/
import Derived.Test.YtnicmdfafihmpaaSortTie
namespace Go.Proofs.Ytnicmdfafihmpaa
open Go.Pv Go.Pv.Srt

theorem cmpL_asym : ∀ (a b : List UInt8), cmpL a b < 0 → ¬ cmpL b a < 0
  | [], [], h => by simp [cmpL] at h
  | [], _ :: _, _ => by simp [cmpL]
  | _ :: _, [], h => by simp [cmpL] at h
  | x :: a, y :: b, h => by
    have ih := cmpL_asym a b
    rw [cmpL] at h ⊢
    simp only [UInt8.lt_iff_toNat_lt] at h ⊢
    by_cases h1 : x.toNat < y.toNat
    · rw [if_neg (show ¬ y.toNat < x.toNat by omega), if_pos h1]
      omega
    · by_cases h2 : y.toNat < x.toNat
      · rw [if_neg h1, if_pos h2] at h
        omega
      · rw [if_neg h1, if_neg h2] at h
        rw [if_neg h2, if_neg h1]
        exact ih h
theorem cmpL_tr : ∀ (a b d : List UInt8), ¬ cmpL b a < 0 → ¬ cmpL d b < 0 → ¬ cmpL d a < 0
  | [], _, [], _, _ => by simp [cmpL]
  | [], _, _ :: _, _, _ => by simp [cmpL]
  | _ :: _, [], _, h, _ => by simp [cmpL] at h
  | _ :: _, _ :: _, [], _, h => by simp [cmpL] at h
  | x :: a, y :: b, w :: d, h, g => by
    have ih := cmpL_tr a b d
    rw [cmpL] at h g ⊢
    simp only [UInt8.lt_iff_toNat_lt] at h g ⊢
    by_cases h1 : y.toNat < x.toNat
    · rw [if_pos h1] at h
      omega
    · rw [if_neg h1] at h
      by_cases g1 : w.toNat < y.toNat
      · rw [if_pos g1] at g
        omega
      · rw [if_neg g1] at g
        by_cases e1 : w.toNat < x.toNat
        · omega
        · rw [if_neg e1]
          by_cases e2 : x.toNat < w.toNat
          · rw [if_pos e2]
            omega
          · rw [if_neg e2]
            rw [if_neg (show ¬ x.toNat < y.toNat by omega)] at h
            rw [if_neg (show ¬ y.toNat < w.toNat by omega)] at g
            exact ih h g
theorem comp (a b : Int) : (a < b ∧ s_cmp_Compare a b = -1) ∨ (b < a ∧ s_cmp_Compare a b = 1) ∨ (a = b ∧ s_cmp_Compare a b = 0) := by
  unfold s_cmp_Compare s_cmp_isNaN
  simp only [beq_self_eq_true, Bool.not_true, cond_false]
  by_cases h1 : a < b
  · rw [show decide (a < b) = true by simpa using h1]
    exact Or.inl ⟨h1, rfl⟩
  · rw [show decide (a < b) = false by simpa using h1]
    by_cases h2 : b < a
    · rw [show decide (b < a) = true by simpa using h2]
      exact Or.inr (Or.inl ⟨h2, rfl⟩)
    · rw [show decide (b < a) = false by simpa using h2]
      exact Or.inr (Or.inr ⟨by omega, rfl⟩)
theorem or3 (a b d : Int) : s_cmp_Or [a, b, d] = if a = 0 then (if b = 0 then d else b) else a := by
  unfold s_cmp_Or
  simp only [l_cmp_Or_b0]
  by_cases h1 : a = 0
  · subst h1
    by_cases h2 : b = 0
    · subst h2
      by_cases h3 : d = 0
      · subst h3
        rfl
      · rw [show (d == 0) = false by simpa using h3]
        rfl
    · rw [show (b == 0) = false by simpa using h2, if_pos rfl, if_neg h2]
      rfl
  · rw [show (a == 0) = false by simpa using h1, if_neg h1]
    rfl
theorem rk (x y : Entry) : s_qos_ranked_1 x y < 0 ↔ (0 < x.excess ∧ ¬ 0 < y.excess) ∨ ((0 < x.excess ↔ 0 < y.excess) ∧ (x.priority < y.priority ∨ (x.priority = y.priority ∧ (y.excess < x.excess ∨ (x.excess = y.excess ∧ sCmp x.key y.key < 0))))) := by
  have key : (if s_cmp_Compare x.priority y.priority = 0 then (if s_cmp_Compare y.excess x.excess = 0 then sCmp x.key y.key else s_cmp_Compare y.excess x.excess) else s_cmp_Compare x.priority y.priority) < 0 ↔
      (x.priority < y.priority ∨ (x.priority = y.priority ∧ (y.excess < x.excess ∨ (x.excess = y.excess ∧ sCmp x.key y.key < 0)))) := by
    rcases comp x.priority y.priority with ⟨a1, e1⟩ | ⟨a1, e1⟩ | ⟨a1, e1⟩ <;> rw [e1]
    · simp
      omega
    · simp
      omega
    · rcases comp y.excess x.excess with ⟨a2, e2⟩ | ⟨a2, e2⟩ | ⟨a2, e2⟩ <;> rw [e2] <;> simp <;> omega
  unfold s_qos_ranked_1
  simp only [or3, s_strings_Compare]
  by_cases hx : 0 < x.excess <;> by_cases hy : 0 < y.excess
  · rw [show decide (0 < x.excess) = true by simpa using hx, show decide (0 < y.excess) = true by simpa using hy]
    exact key.trans ⟨fun h => Or.inr ⟨by omega, h⟩, fun h => by rcases h with h | h; exact absurd hy h.2; exact h.2⟩
  · rw [show decide (0 < x.excess) = true by simpa using hx, show decide (0 < y.excess) = false by simpa using hy]
    exact ⟨fun _ => Or.inl ⟨hx, hy⟩, fun _ => by show (-1 : Int) < 0; omega⟩
  · rw [show decide (0 < x.excess) = false by simpa using hx, show decide (0 < y.excess) = true by simpa using hy]
    refine ⟨fun h => ?_, fun h => ?_⟩
    · change (1 : Int) < 0 at h
      omega
    · rcases h with h | h
      · exact absurd h.1 hx
      · exact absurd (h.1.2 hy) hx
  · rw [show decide (0 < x.excess) = false by simpa using hx, show decide (0 < y.excess) = false by simpa using hy]
    exact key.trans ⟨fun h => Or.inr ⟨by omega, h⟩, fun h => by rcases h with h | h; exact absurd h.1 hx; exact h.2⟩
theorem tot : Tot s_qos_ranked_1 := by
  refine ⟨fun x y h => ?_, fun x y w h g => ?_⟩
  · rw [rk] at h ⊢
    have := cmpL_asym x.key.toList y.key.toList
    change sCmp x.key y.key < 0 → ¬ sCmp y.key x.key < 0 at this
    omega
  · rw [rk] at h g ⊢
    have := cmpL_tr x.key.toList y.key.toList w.key.toList
    change ¬ sCmp y.key x.key < 0 → ¬ sCmp w.key y.key < 0 → ¬ sCmp w.key x.key < 0 at this
    omega
end Go.Proofs.Ytnicmdfafihmpaa
