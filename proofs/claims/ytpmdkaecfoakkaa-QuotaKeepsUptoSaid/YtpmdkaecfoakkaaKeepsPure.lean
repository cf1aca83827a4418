/- The law QuotaKeeps in plain words. -/
import Derived.Test.YtpmdkaecfoakkaaQuotaKeeps
import Derived.Test.YtpmdkaecfoakkaaQuoPure
namespace Go.Proofs.Ytpmdkaecfoakkaa
open Go.Pv

def goodK : R_law22_QuotaKeeps_b0 → Bool
  | .k0 _ => true
  | .k1 => false
theorem fil_all {l : List Pod} {n : ByteArray} (h : ∀ y ∈ l, sEq y.meta_.namespace_ n = true) : fil l n = l := List.filter_eq_self.2 h
theorem keeps_run (q : Quota) (p : List Pod) (hN : p.length ≤ N20) : ∀ (l : List Pod) (i : Nat) (a : List Pod), (∀ y ∈ a, sEq y.meta_.namespace_ q.meta_.namespace_ = true) → a.length + l.length ≤ N20 → goodK (l_law22_QuotaKeeps_b0 q p l i a) = true
  | [], _, _, _, _ => by rw [l_law22_QuotaKeeps_b0]; rfl
  | x :: r, i, a, ha, hl => by
    simp only [List.length_cons] at hl
    rw [l_law22_QuotaKeeps_b0]
    cases hx : sEq x.meta_.namespace_ q.meta_.namespace_ with
    | false =>
      simp only [cond_false]
      exact keeps_run q p hN r _ _ ha (by omega)
    | true =>
      simp only [cond_true]
      cases hk : (s_quota_Admit q a x == 0) with
      | false =>
        simp only [cond_false]
        exact keeps_run q p hN r _ _ ha (by omega)
      | true =>
        simp only [cond_true]
        have hal : a.length ≤ N20 := by omega
        have hal' : (a ++ [x]).length ≤ N20 := by simp; omega
        rw [admit_ok hal, hx, fil_all ha] at hk
        simp only [Bool.not_true, Bool.false_or] at hk
        have hw : s_law22_within q (s_quota_Usage (a ++ [x])).1 (s_quota_Usage (a ++ [x])).2 = true := by
          rw [within_eq, usage_eq hal', use_app, num_app]
          refine okq_mono ?_ ?_ hk
          · have h1 := add_mono (le3_refl (use a)) (use_one x)
            refine le3_trans h1 ?_
            rw [← add_assoc]
            have : s_resource_Add (use a) (Resources.mk 0 0 0) = use a := use_clean a
            rw [this]
            exact le3_refl _
          · have := num_one x
            simp only
            omega
        rw [hw]
        simp only [cond_true]
        exact keeps_run q p hN r _ _ (fun y hy => by
          rcases List.mem_append.1 hy with hy | hy
          · exact ha y hy
          · rw [List.mem_singleton.1 hy]; exact hx) (by simp; omega)
theorem quotaKeeps (q : Quota) (p : List Pod) (hN : p.length ≤ N20) : s_law22_QuotaKeeps q p = true := by
  unfold s_law22_QuotaKeeps
  have := keeps_run q p hN p 0 [] (fun _ h => by cases h) (by simpa using hN)
  revert this
  cases s_law22_Small p with
  | false => exact fun _ => rfl
  | true =>
    cases s_law19_SmallMeta q.meta_ with
    | false => exact fun _ => rfl
    | true =>
      simp only [cond_true]
      cases l_law22_QuotaKeeps_b0 q p p 0 [] <;> simp [goodK]
theorem keepsH {q : Quota} {p : List Pod} (hq : Quota_cap N20 q) (h : p.length ≤ N20) (hl : ∀ x ∈ p, Pod_cap N20 x) : H_law22_QuotaKeeps q p := by
  have len : ∀ {i : Nat} {x : Pod} {a : List Pod}, p[i]? = some x → a.length ≤ i → a.length + 1 ≤ N20 := fun {i x a} hx ha => by
    have := (List.getElem?_eq_some_iff.1 hx).1
    omega
  refine ⟨h_smalls h hl, h_meta hq.1, ⟨up37 h, fun i a x hx ha hi => ?_, fun i a x hx ha hi => ?_, fun i a x hx ha hi _ _ _ => ?_, fun i a x hx ha hi _ _ => hi, fun i a x hx ha hi _ => hi, trivial⟩, (fun _ y hy => absurd hy List.not_mem_nil), trivial⟩
  · exact h_admit (by have := len hx ha; omega) (fun y hy => hl y (hi y hy)) (hl x (mem_get hx)).2.1
  · refine h_usage (by have := len hx ha; simp; omega) (fun y hy => ?_)
    rcases List.mem_append.1 hy with hy | hy
    · exact hl y (hi y hy)
    · rw [List.mem_singleton.1 hy]
      exact hl x (mem_get hx)
  · intro y hy
    rcases List.mem_append.1 hy with hy | hy
    · exact hi y hy
    · rw [List.mem_singleton.1 hy]
      exact mem_get hx
end Go.Proofs.Ytpmdkaecfoakkaa
