/- Texts of the claim, merged by a program; what the statement does not reach is left out. -/
import Derived.Test.YtimjjohlpnkacaaGreatBWorkcodecJobs7
import Derived.Test.YtimjjohlpnkacaaGreatRows

section
/- What is of bounded bulk holds nothing longer. -/
namespace Go.Proofs.YtimjjohlpnkacaaGreat.bulks
open Go.Pv
theorem one_le {H : Type} (d : DataW H) : 1 ≤ Rows.uptoBulk d := by
  cases d with
  | lit l => cases l <;> simp [Rows.uptoBulk]
  | nil => simp [Rows.uptoBulk]
  | ptr d => simp [Rows.uptoBulk]
  | slice elems spare => simp [Rows.uptoBulk]
  | agg parts => simp [Rows.uptoBulk]
  | iface t d => simp [Rows.uptoBulk]
  | map entries => simp [Rows.uptoBulk]
  | held h => simp [Rows.uptoBulk]
theorem Q111 {H : Type} {d : DataW H} {l : List (DataW H)} (h : d ∈ l) : Rows.uptoBulk d ≤ Rows.uptoBulkAll l := by
  induction l with
  | nil => cases h
  | cons x r ih =>
    simp only [Rows.uptoBulkAll]
    rcases List.mem_cons.1 h with e | e
    · subst e; omega
    · have := ih e; omega
theorem length_le {H : Type} (l : List (DataW H)) : l.length ≤ Rows.uptoBulkAll l := by
  induction l with
  | nil => simp [Rows.uptoBulkAll]
  | cons x r ih => have := one_le x; simp only [Rows.uptoBulkAll, List.length_cons]; omega
theorem Q1af {H : Type} {N : Nat} : ∀ (k : Nat) (d : DataW H), Rows.uptoBulk d ≤ k → k ≤ N → CapD N d
  | 0, d, h, _ => by have := one_le d; omega
  | k + 1, d, h, hk => by
    cases d with
    | lit l => exact .lit l (fun b e => by subst e; simp only [Rows.uptoBulk] at h; omega)
    | nil => exact .nil
    | ptr d => exact .ptr d
    | slice elems spare =>
      simp only [Rows.uptoBulk] at h
      exact .slice elems spare (by have := length_le elems; omega) (fun z hz => Q1af k z (by have := Q111 hz; omega) (by omega))
    | agg parts =>
      simp only [Rows.uptoBulk] at h
      exact .agg parts (fun z hz => Q1af k z (by have := Q111 hz; omega) (by omega))
    | iface t d => exact .iface t d
    | map entries => exact .map entries
    | held x => exact .held x
theorem caps {H : Type} {ds gs : List (DataW H)} (hk : Rows.uptoSmall H (ds ++ gs) = true) : ∀ d ∈ ds, CapD 1048576 d := fun d hd =>
  Q1af 1048576 d (Nat.le_trans (Q111 (List.mem_append_left _ hd)) (of_decide_eq_true hk)) (Nat.le_refl _)
end Go.Proofs.YtimjjohlpnkacaaGreat.bulks
end

