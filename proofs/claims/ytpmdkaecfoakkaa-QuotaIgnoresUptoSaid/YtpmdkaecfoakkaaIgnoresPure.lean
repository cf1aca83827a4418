/- The law QuotaIgnores in plain words. -/
import Derived.Test.YtpmdkaecfoakkaaQuotaIgnores
import Derived.Test.YtpmdkaecfoakkaaQuoPure
namespace Go.Proofs.Ytpmdkaecfoakkaa
open Go.Pv

def ownP (l : List Pod) (n : ByteArray) : List Pod := l.filter fun x => sEq x.meta_.namespace_ n && cnt x
theorem ign_b0 (q : Quota) (p : List Pod) (z : Pod) : ∀ (l : List Pod) (i : Nat) (a : List Pod), l_law22_QuotaIgnores_b0 q p z l i a = a ++ ownP l q.meta_.namespace_
  | [], _, _ => by simp [l_law22_QuotaIgnores_b0, ownP]
  | x :: r, i, a => by
    rw [l_law22_QuotaIgnores_b0, ign_b0 q p z r, ign_b0 q p z r]
    have hc : cnt x = ((x.status.phase == 0) || (x.status.phase == 1)) := by
      unfold cnt s_quota_counts
      cases (x.status.phase == 0) <;> rfl
    unfold ownP
    rw [List.filter_cons, hc]
    cases sEq x.meta_.namespace_ q.meta_.namespace_ <;> cases (x.status.phase == 0) <;> cases (x.status.phase == 1) <;> simp
theorem ownP_fil (l : List Pod) (n : ByteArray) : (fil (ownP l n) n).filter cnt = (fil l n).filter cnt := by
  unfold fil ownP
  rw [List.filter_filter, List.filter_filter, List.filter_filter]
  congr 1
  funext x
  cases sEq x.meta_.namespace_ n <;> cases cnt x <;> rfl
theorem ownP_use (l : List Pod) (n : ByteArray) : use (fil (ownP l n) n) = use (fil l n) := by unfold use; rw [ownP_fil]
theorem ownP_num (l : List Pod) (n : ByteArray) : num (fil (ownP l n) n) = num (fil l n) := by unfold num; rw [ownP_fil]
theorem ownP_len (l : List Pod) (n : ByteArray) : (ownP l n).length ≤ l.length := List.length_filter_le _ _
theorem ownP_mem {l : List Pod} {n : ByteArray} {x : Pod} (h : x ∈ ownP l n) : x ∈ l := (List.mem_filter.1 h).1
theorem num_own (l : List Pod) (n : ByteArray) : num (fil (ownP l n) n) = ((ownP l n).length : Int) := by
  rw [ownP_num]
  unfold num fil ownP
  rw [List.filter_filter]
  congr 2
  congr 1
  funext x
  cases sEq x.meta_.namespace_ n <;> cases cnt x <;> rfl
theorem other_name (n : ByteArray) : sEq (n ++ (⟨#[120]⟩ : ByteArray)) n = false := by
  rw [Bool.eq_false_iff, ne_eq, sEq_iff]
  intro h
  have := congrArg ByteArray.size h
  rw [ByteArray.size_append] at this
  have e : (⟨#[120]⟩ : ByteArray).size = 1 := rfl
  omega
theorem quotaIgnores (q : Quota) (l : List Pod) (p : Pod) (hN : l.length ≤ N20) : s_law22_QuotaIgnores q l p = true := by
  have ho : (ownP l q.meta_.namespace_).length ≤ N20 := Nat.le_trans (ownP_len _ _) hN
  have hf : ∀ m : List Pod, m.length ≤ N20 → (fil m q.meta_.namespace_).length ≤ N20 := fun m h => Nat.le_trans (fil_len _ _) h
  have st : ∀ m : List Pod, m.length ≤ N20 → s_quota_Status q m = Quota.mk q.meta_ q.hard (use (fil m q.meta_.namespace_)) q.pods (num (fil m q.meta_.namespace_)) := fun m h => by
    unfold s_quota_Status
    rw [of_eq, usage_eq (hf m h)]
  have ad : s_quota_Admit q (ownP l q.meta_.namespace_) p = s_quota_Admit q l p := by rw [admit_eq ho, admit_eq hN, ownP_use, ownP_num]
  have adx : s_quota_Admit q l (Pod.mk (Meta.mk p.meta_.kind (q.meta_.namespace_ ++ (⟨#[120]⟩ : ByteArray)) p.meta_.name p.meta_.uid p.meta_.version p.meta_.generation p.meta_.created p.meta_.deleting p.meta_.deleteAt p.meta_.labels p.meta_.owners p.meta_.finalizers p.meta_.managers) p.spec p.status) = 0 := by
    rw [admit_eq hN]
    simp only
    rw [other_name]
    rfl
  unfold s_law22_QuotaIgnores
  rw [ign_b0, List.nil_append, st l hN, st _ ho, ad, adx]
  simp only
  rw [ownP_use, num_own]
  have hn : num (fil l q.meta_.namespace_) = ((ownP l q.meta_.namespace_).length : Int) := by rw [← ownP_num, num_own]
  rw [hn]
  cases s_law22_Small l <;> cases s_law19_SmallPod p <;> cases s_law19_SmallMeta q.meta_ <;> simp
theorem ignoresH {q : Quota} {l : List Pod} {p : Pod} (hq : Quota_cap N20 q) (h : l.length ≤ N20) (hl : ∀ x ∈ l, Pod_cap N20 x) (hp : Pod_cap N20 p) : H_law22_QuotaIgnores q l p := by
  have ho : (ownP l q.meta_.namespace_).length ≤ N20 := Nat.le_trans (ownP_len _ _) h
  have hol : ∀ x ∈ ownP l q.meta_.namespace_, Pod_cap N20 x := fun x hx => hl x (ownP_mem hx)
  unfold H_law22_QuotaIgnores
  rw [ign_b0, List.nil_append]
  refine ⟨h_smalls h hl, h_small hp, h_meta hq.1, ⟨up37 h, trivial⟩, h_status h hl, h_status ho hol, h_admit h hl hp.2.1, h_admit ho hol hp.2.1, ?_, h_admit h hl hp.2.1, trivial⟩
  have := hq.1.2.1
  have e : (⟨#[120]⟩ : ByteArray).size = 1 := rfl
  simp only [N20] at this
  omega
end Go.Proofs.Ytpmdkaecfoakkaa
