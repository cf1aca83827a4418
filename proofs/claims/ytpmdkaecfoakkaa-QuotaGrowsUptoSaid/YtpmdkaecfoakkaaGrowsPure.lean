/- The law QuotaGrows in plain words. -/
import Derived.Test.YtpmdkaecfoakkaaQuotaGrows
import Derived.Test.YtpmdkaecfoakkaaQuoPure
namespace Go.Proofs.Ytpmdkaecfoakkaa
open Go.Pv

theorem fil_app (l m : List Pod) (n : ByteArray) : fil (l ++ m) n = fil l n ++ fil m n := List.filter_append ..
/-- fewer pods: what was admitted is admitted -/
theorem admit_less {q : Quota} {a b c : List Pod} {p : Pod} (h : (a ++ (b ++ c)).length ≤ N20) (hk : (s_quota_Admit q (a ++ (b ++ c)) p == 0) = true) : (s_quota_Admit q (a ++ c) p == 0) = true := by
  have h' : (a ++ c).length ≤ N20 := by simp only [List.length_append] at h ⊢; omega
  rw [admit_ok h] at hk
  rw [admit_ok h']
  cases hs : sEq p.meta_.namespace_ q.meta_.namespace_ with
  | false => rfl
  | true =>
    rw [hs] at hk
    simp only [Bool.not_true, Bool.false_or] at hk ⊢
    refine okq_mono (add_mono ?_ (le3_refl _)) ?_ hk
    · simp only [fil_app, use_app]
      exact add_mono (le3_refl _) (le_add_left (use_clean _) _)
    · simp only [fil_app, num_app]
      have := num_pos (fil b q.meta_.namespace_)
      omega
/-- higher limits -/
theorem admit_more {q r : Quota} {l : List Pod} {p : Pod} (h : l.length ≤ N20) (hm : r.meta_ = q.meta_) (h1 : r.hard.cPU = q.hard.cPU ∨ r.hard.cPU = q.hard.cPU + 1 ∧ 0 < q.hard.cPU) (h2 : r.hard.memory = q.hard.memory) (h3 : r.hard.disk = q.hard.disk) (h4 : r.pods = q.pods ∨ r.pods = q.pods + 1 ∧ 0 < q.pods)
    (hk : (s_quota_Admit q l p == 0) = true) : (s_quota_Admit r l p == 0) = true := by
  rw [admit_ok h] at hk ⊢
  rw [hm]
  cases hs : sEq p.meta_.namespace_ q.meta_.namespace_ with
  | false => rfl
  | true =>
    rw [hs] at hk
    simp only [Bool.not_true, Bool.false_or] at hk ⊢
    rw [okq_iff] at hk ⊢
    rw [h2, h3]
    omega
theorem wrap_u8 {n : Int} (h : okU8 n) : IntKind.i64.wrap n = n := by
  have := w64_of (n := n) (by unfold okU8 at h; omega)
  exact this
theorem at_range {n : Int} {l : List Pod} (h : okU8 n) (hl : 0 < l.length) : 0 ≤ Int.tmod (IntKind.i64.wrap n) (l.length : Int) ∧ Int.tmod (IntKind.i64.wrap n) (l.length : Int) < l.length := by
  rw [wrap_u8 h, Int.tmod_eq_emod_of_nonneg h.1]
  exact ⟨Int.emod_nonneg _ (by omega), Int.emod_lt_of_pos _ (by omega)⟩
/-- the list without the one at a place -/
theorem cut_one (l : List Pod) (i : Int) (h0 : 0 ≤ i) (h1 : i < l.length) (hN : l.length ≤ N20) : ∃ b, l = List.take i.toNat l ++ (b ++ List.drop (w64 (i + 1)).toNat l) := by
  have hw : w64 (i + 1) = i + 1 := w64_of (by simp only [N20] at hN; omega)
  rw [hw]
  refine ⟨(List.drop i.toNat l).take 1, ?_⟩
  have : (i + 1).toNat = i.toNat + 1 := by omega
  rw [this, ← List.drop_drop, List.take_append_drop, List.take_append_drop]
theorem quotaGrows (q : Quota) (l : List Pod) (p : Pod) (n : Int) (hn : okU8 n) (_hq : Quota_ok q) (hN : l.length ≤ N20) : s_law22_QuotaGrows q l p n = true := by
  have w1 : q.hard.cPU < 1000000000000000 → 0 < q.hard.cPU → w64 (q.hard.cPU + 1) = q.hard.cPU + 1 := fun _ _ => w64_of (by omega)
  have w2 : q.pods < 1000000000000000 → 0 < q.pods → w64 (q.pods + 1) = q.pods + 1 := fun _ _ => w64_of (by omega)
  unfold s_law22_QuotaGrows
  cases s_law22_Small l with
  | false => rfl
  | true =>
  cases s_law19_SmallPod p with
  | false => rfl
  | true =>
  cases s_law19_SmallMeta q.meta_ with
  | false => rfl
  | true =>
  cases hk : (s_quota_Admit q l p == 0) with
  | false => rfl
  | true =>
    simp only [cond_true, List.nil_append]
    have less : 0 < l.length → (s_quota_Admit q (List.take (Int.toNat (Int.tmod (IntKind.i64.wrap n) ((List.length l) : Int))) l ++ List.drop (Int.toNat (w64 ((Int.tmod (IntKind.i64.wrap n) ((List.length l) : Int)) + 1))) l) p == 0) = true := by
      intro hl
      obtain ⟨r0, r1⟩ := at_range hn hl
      obtain ⟨b, hb⟩ := cut_one l _ r0 r1 hN
      have hN' := hN
      rw [hb] at hN'
      exact admit_less hN' (by rw [← hb]; exact hk)
    have more1 : 0 < q.hard.cPU → q.hard.cPU < 1000000000000000 → 0 < q.pods → q.pods < 1000000000000000 → (s_quota_Admit (Quota.mk q.meta_ (Resources.mk (w64 (q.hard.cPU + 1)) q.hard.memory q.hard.disk) q.used (w64 (q.pods + 1)) q.has) l p == 0) = true := fun a b c d =>
      admit_more (q := q) hN rfl (.inr ⟨w1 b a, a⟩) rfl rfl (.inr ⟨w2 d c, c⟩) hk
    have more2 : 0 < q.pods → q.pods < 1000000000000000 → (s_quota_Admit (Quota.mk q.meta_ q.hard q.used (w64 (q.pods + 1)) q.has) l p == 0) = true := fun c d =>
      admit_more (q := q) hN rfl (.inl rfl) rfl rfl (.inr ⟨w2 d c, c⟩) hk
    have more3 : 0 < q.hard.cPU → q.hard.cPU < 1000000000000000 → (s_quota_Admit (Quota.mk q.meta_ (Resources.mk (w64 (q.hard.cPU + 1)) q.hard.memory q.hard.disk) q.used q.pods q.has) l p == 0) = true := fun a b =>
      admit_more (q := q) hN rfl (.inr ⟨w1 b a, a⟩) rfl rfl (.inl rfl) hk
    cases c0 : decide (0 < ((List.length l) : Int)) with
    | true =>
      rw [less (by simpa using c0)]
      cases c1 : decide (0 < q.pods) <;> cases c2 : decide (q.pods < 1000000000000000) <;> cases c3 : decide (0 < q.hard.cPU) <;> cases c4 : decide (q.hard.cPU < 1000000000000000) <;> simp only [cond_true, cond_false] <;>
        first | rfl | (rw [more1 (of_decide_eq_true c3) (of_decide_eq_true c4) (of_decide_eq_true c1) (of_decide_eq_true c2)]; rfl) | (rw [more2 (of_decide_eq_true c1) (of_decide_eq_true c2)]; rfl) | (rw [more3 (of_decide_eq_true c3) (of_decide_eq_true c4)]; rfl)
    | false =>
      cases c1 : decide (0 < q.pods) <;> cases c2 : decide (q.pods < 1000000000000000) <;> cases c3 : decide (0 < q.hard.cPU) <;> cases c4 : decide (q.hard.cPU < 1000000000000000) <;> simp only [cond_true, cond_false] <;>
        first | rfl | (rw [more1 (of_decide_eq_true c3) (of_decide_eq_true c4) (of_decide_eq_true c1) (of_decide_eq_true c2)]; rfl) | (rw [more2 (of_decide_eq_true c1) (of_decide_eq_true c2)]; rfl) | (rw [more3 (of_decide_eq_true c3) (of_decide_eq_true c4)]; rfl)
theorem growsH {q : Quota} {l : List Pod} {p : Pod} {n : Int} (hn : okU8 n) (hq : Quota_cap N20 q) (h : l.length ≤ N20) (hl : ∀ x ∈ l, Pod_cap N20 x) (hp : Pod_cap N20 p) : H_law22_QuotaGrows q l p n := by
  have rg : decide (0 < ((List.length l) : Int)) = true → 0 ≤ Int.tmod (IntKind.i64.wrap n) (l.length : Int) ∧ Int.tmod (IntKind.i64.wrap n) (l.length : Int) < l.length := fun c => at_range hn (by simpa using c)
  have hw : decide (0 < ((List.length l) : Int)) = true → w64 (Int.tmod (IntKind.i64.wrap n) (l.length : Int) + 1) = Int.tmod (IntKind.i64.wrap n) (l.length : Int) + 1 := fun c => by
    have := rg c
    simp only [N20] at h
    exact w64_of (by omega)
  have h1 : (List.take (Int.toNat (Int.tmod (IntKind.i64.wrap n) ((List.length l) : Int))) l).length ≤ l.length := by rw [List.length_take]; omega
  have h2 : (List.drop (Int.toNat (w64 ((Int.tmod (IntKind.i64.wrap n) ((List.length l) : Int)) + 1))) l).length ≤ l.length := by rw [List.length_drop]; omega
  have hN := h
  simp only [N20] at hN
  refine ⟨h_smalls h hl, h_small hp, h_meta hq.1, h_admit h hl hp.2.1, fun _ c => (rg c).1, fun _ c => by have := rg c; omega, fun _ _ => by omega, fun _ c => by have := rg c; rw [hw c]; omega, fun _ c => by have := rg c; rw [hw c]; omega, fun _ _ => by rw [List.nil_append]; omega, ?_, h_admit h hl hp.2.1, h_admit h hl hp.2.1, h_admit h hl hp.2.1, trivial⟩
  refine ⟨⟨⟨?_, trivial⟩, trivial⟩, ?_, h_requests hp.2.1, trivial⟩
  · rw [List.nil_append, List.length_append]
    omega
  · rw [of_eq, List.nil_append]
    have hm : ∀ x ∈ fil (List.take (Int.toNat (Int.tmod (IntKind.i64.wrap n) ((List.length l) : Int))) l ++ List.drop (Int.toNat (w64 ((Int.tmod (IntKind.i64.wrap n) ((List.length l) : Int)) + 1))) l) q.meta_.namespace_, Pod_cap N20 x := fun x hx => by
      rcases List.mem_append.1 (fil_mem hx) with hx | hx
      · exact hl x (List.mem_of_mem_take hx)
      · exact hl x (List.mem_of_mem_drop hx)
    have hlen := fil_len (List.take (Int.toNat (Int.tmod (IntKind.i64.wrap n) ((List.length l) : Int))) l ++ List.drop (Int.toNat (w64 ((Int.tmod (IntKind.i64.wrap n) ((List.length l) : Int)) + 1))) l) q.meta_.namespace_
    rw [List.length_append] at hlen
    exact ⟨⟨by omega, fun x hx => h_requests (hm x hx).2.1, trivial⟩, trivial⟩
end Go.Proofs.Ytpmdkaecfoakkaa
