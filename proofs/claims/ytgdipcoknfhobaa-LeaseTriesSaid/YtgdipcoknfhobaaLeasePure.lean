/- The laws of the chapter on leases, in plain words: attempts and sequences. -/
import Derived.Test.YtgdipcoknfhobaaLeaseTries
import Derived.Test.YtgdipcoknfhobaaPvZ
namespace Go.Proofs.Ytgdipcoknfhobaa
open Go.Pv

def Vd (l : Lease) : Prop := (l.holder.size : Int) ≤ 40 ∧ 0 ≤ l.renewed ∧ l.renewed ≤ 1000000000000 ∧ 0 ≤ l.duration ∧ l.duration ≤ 1000000000000 ∧ 0 ≤ l.switches ∧ l.switches ≤ 1000000000000000
instance (l : Lease) : Decidable (Vd l) := by unfold Vd; exact inferInstance
theorem within1 (n m : Int) : s_lease_within n m = decide (0 ≤ n ∧ n ≤ m) := by
  unfold s_lease_within
  rw [Bool.eq_iff_iff]
  cases h : decide (0 ≤ n) <;> simp_all <;> omega
theorem valid1 (l : Lease) : s_lease_Valid l = decide (Vd l) := by
  unfold s_lease_Valid
  rw [Bool.eq_iff_iff, decide_eq_true_eq]
  unfold Vd
  simp only [within1, Bool.cond_false_right, Bool.and_eq_true, decide_eq_true_eq]
  omega
theorem valid2 (l : Lease) : s_ref29_Valid l = decide (Vd l) := by
  unfold s_ref29_Valid
  rw [Bool.eq_iff_iff, decide_eq_true_eq]
  unfold Vd
  simp only [Bool.cond_false_right, Bool.and_eq_true, decide_eq_true_eq]
def none_ : ByteArray := ⟨#[]⟩
theorem holds12 (l : Lease) (id : ByteArray) (now : Int) : s_lease_Holds l id now = s_ref29_Holds l id now := by
  unfold s_lease_Holds s_ref29_Holds
  rw [valid1, valid2, sEq_comm id l.holder]
theorem release12 (l : Lease) (id : ByteArray) : s_lease_Release l id = s_ref29_Release l id := by
  unfold s_lease_Release s_ref29_Release
  rw [valid1, valid2, sEq_comm id l.holder]
theorem mn_comm (a b : Int) : mn a b = mn b a := by
  unfold mn
  split <;> split <;> omega
theorem try12 (l : Lease) (id : ByteArray) (now dur : Int) : s_lease_Try l id now dur = s_ref29_Try l id now dur := by
  unfold s_lease_Try s_ref29_Try
  rw [valid1, valid2, within1, mn_comm 1000000000000000]
  cases decide (Vd l) with
  | false => rfl
  | true =>
    cases sEq id (⟨#[]⟩ : ByteArray) with
    | true => rfl
    | false =>
      cases decide (40 < (ByteArray.size id : Int)) with
      | true => rfl
      | false =>
        cases h1 : decide (now < 0) with
        | true =>
          have : decide (0 ≤ now ∧ now ≤ 1000000000000) = false := by simp at h1 ⊢; omega
          rw [this]
          rfl
        | false =>
          cases h2 : decide (1000000000000 < now) with
          | true =>
            have : decide (0 ≤ now ∧ now ≤ 1000000000000) = false := by simp at h2 ⊢; omega
            rw [this]
            rfl
          | false =>
            have : decide (0 ≤ now ∧ now ≤ 1000000000000) = true := by simp at h1 h2 ⊢; omega
            rw [this]
            cases decide (dur < 1) <;> cases decide (1000000000000 < dur) <;> cases sEq l.holder id <;> cases sEq l.holder (⟨#[]⟩ : ByteArray) <;> rfl
theorem leaseTries (l : Lease) (id : ByteArray) (now dur : Int) : s_law29_LeaseTries l id now dur = true := by
  unfold s_law29_LeaseTries
  rw [valid1, valid2, try12, holds12, release12]
  simp [sEq_self]

/-! ### what an attempt answers -/
theorem mx_le (a b : Int) : a ≤ mx a b ∧ b ≤ mx a b ∧ (mx a b = a ∨ mx a b = b) := by
  unfold mx
  split <;> omega
/-- may an instance try at all? -/
def Fit (id : ByteArray) (now dur : Int) : Prop := id ≠ none_ ∧ (id.size : Int) ≤ 40 ∧ 0 ≤ now ∧ now ≤ 1000000000000 ∧ 1 ≤ dur ∧ dur ≤ 1000000000000
theorem end_time {l : Lease} (h : Vd l) : w64 (l.renewed + l.duration) = l.renewed + l.duration := by
  obtain ⟨_, h1, h2, h3, h4, _, _⟩ := h
  exact w64_of (by omega)
/-- the lease that an attempt leads to -/
def got (l : Lease) (id : ByteArray) (now dur : Int) : Lease := ⟨id, mx l.renewed now, dur, if l.holder = id then l.switches else mn (l.switches + 1) 1000000000000000⟩
theorem try_spec {l : Lease} (h : Vd l) (id : ByteArray) (now dur : Int) :
    (Fit id now dur ∧ (l.holder = none_ ∨ l.holder = id ∨ ¬ now < l.renewed + l.duration) ∧ s_lease_Try l id now dur = (got l id now dur, true)) ∨
    (¬ (Fit id now dur ∧ (l.holder = none_ ∨ l.holder = id ∨ ¬ now < l.renewed + l.duration)) ∧ s_lease_Try l id now dur = (l, false)) := by
  have hsw : w64 (l.switches + 1) = l.switches + 1 := by
    obtain ⟨_, _, _, _, _, h1, h2⟩ := h
    exact w64_of (by omega)
  unfold s_lease_Try
  rw [valid1, within1, end_time h, hsw]
  have hv : decide (Vd l) = true := by simpa using h
  rw [hv]
  simp only [cond_true]
  cases h1 : sEq id (⟨#[]⟩ : ByteArray) with
  | true => exact .inr ⟨fun c => c.1.1 (sEq_iff.1 h1), rfl⟩
  | false =>
    have h1 : id ≠ none_ := fun c => by rw [sEq_iff.2 (show id = (⟨#[]⟩ : ByteArray) from c)] at h1; cases h1
    cases h2 : decide (40 < (ByteArray.size id : Int)) with
    | true => exact .inr ⟨fun c => by have := c.1.2.1; simp at h2; omega, rfl⟩
    | false =>
      cases h3 : decide (0 ≤ now ∧ now ≤ 1000000000000) with
      | false => exact .inr ⟨fun c => by have := c.1.2.2; simp at h3; omega, rfl⟩
      | true =>
        cases h4 : decide (dur < 1) with
        | true => exact .inr ⟨fun c => by have := c.1.2.2.2.2.1; simp at h4; omega, rfl⟩
        | false =>
          cases h5 : decide (1000000000000 < dur) with
          | true => exact .inr ⟨fun c => by have := c.1.2.2.2.2.2; simp at h5; omega, rfl⟩
          | false =>
            have fit : Fit id now dur := ⟨h1, by simp at h2; omega, by simp at h3; omega, by simp at h3; omega, by simp at h4; omega, by simp at h5; omega⟩
            cases h6 : sEq l.holder id with
            | true =>
              have h6 := sEq_iff.1 h6
              refine .inl ⟨fit, .inr (.inl h6), ?_⟩
              unfold got
              rw [if_pos h6]
              rfl
            | false =>
              have h6 : ¬ l.holder = id := fun c => by rw [sEq_iff.2 c] at h6; cases h6
              cases h7 : sEq l.holder (⟨#[]⟩ : ByteArray) with
              | true =>
                refine .inl ⟨fit, .inl (sEq_iff.1 h7), ?_⟩
                unfold got
                rw [if_neg h6]
                rfl
              | false =>
                have h7 : ¬ l.holder = none_ := fun c => by rw [sEq_iff.2 (show l.holder = (⟨#[]⟩ : ByteArray) from c)] at h7; cases h7
                cases h8 : decide (now < l.renewed + l.duration) with
                | true =>
                  refine .inr ⟨fun c => ?_, rfl⟩
                  rcases c.2 with c | c | c
                  · exact h7 c
                  · exact h6 c
                  · exact c (of_decide_eq_true h8)
                | false =>
                  refine .inl ⟨fit, .inr (.inr (of_decide_eq_false h8)), ?_⟩
                  unfold got
                  rw [if_neg h6]
                  rfl
theorem mn_top {a : Int} (h : 0 ≤ a) : 0 ≤ mn a 1000000000000000 ∧ mn a 1000000000000000 ≤ 1000000000000000 := by
  unfold mn
  split <;> omega
theorem got_valid {l : Lease} (h : Vd l) {id : ByteArray} {now dur : Int} (f : Fit id now dur) : Vd (got l id now dur) := by
  obtain ⟨_, h1, h2, h3, h4, h5, h6⟩ := h
  obtain ⟨_, f1, f2, f3, f4, f5⟩ := f
  have m := mx_le l.renewed now
  have t := mn_top (a := l.switches + 1) (by omega)
  refine ⟨f1, ?_, ?_, ?_, ?_, ?_, ?_⟩ <;> simp only [got] <;> (try split) <;> omega

theorem release_spec {l : Lease} (h : Vd l) (id : ByteArray) : s_lease_Release l id = if id ≠ none_ ∧ l.holder = id then ⟨none_, l.renewed, l.duration, l.switches⟩ else l := by
  unfold s_lease_Release
  rw [valid1]
  have hv : decide (Vd l) = true := by simpa using h
  rw [hv]
  simp only [cond_true]
  cases h1 : sEq id (⟨#[]⟩ : ByteArray) with
  | true =>
    have h1 : id = none_ := sEq_iff.1 h1
    simp [h1]
  | false =>
    have h1 : id ≠ none_ := fun c => by rw [sEq_iff.2 (show id = (⟨#[]⟩ : ByteArray) from c)] at h1; cases h1
    cases h2 : sEq l.holder id with
    | true =>
      have h2 := sEq_iff.1 h2
      rw [if_pos ⟨h1, h2⟩]
      rfl
    | false =>
      have h2 : ¬ l.holder = id := fun c => by rw [sEq_iff.2 c] at h2; cases h2
      rw [if_neg fun c => h2 c.2]
      rfl
theorem release_valid {l : Lease} (h : Vd l) (id : ByteArray) : Vd (s_lease_Release l id) := by
  rw [release_spec h]
  split
  · obtain ⟨_, h1⟩ := h
    exact ⟨by show ((⟨#[]⟩ : ByteArray).size : Int) ≤ 40; decide, h1⟩
  · exact h
theorem holds_spec {l : Lease} (h : Vd l) (id : ByteArray) (now : Int) : s_lease_Holds l id now = decide (id ≠ none_ ∧ l.holder = id ∧ now < l.renewed + l.duration) := by
  unfold s_lease_Holds
  rw [valid1, end_time h]
  have hv : decide (Vd l) = true := by simpa using h
  rw [hv]
  simp only [cond_true]
  cases h1 : sEq id (⟨#[]⟩ : ByteArray) with
  | true =>
    have h1 : id = none_ := sEq_iff.1 h1
    simp [h1]
  | false =>
    have h1 : id ≠ none_ := fun c => by rw [sEq_iff.2 (show id = (⟨#[]⟩ : ByteArray) from c)] at h1; cases h1
    cases h2 : sEq l.holder id with
    | true =>
      have h2 := sEq_iff.1 h2
      simp [h1, h2]
    | false =>
      have h2 : ¬ l.holder = id := fun c => by rw [sEq_iff.2 c] at h2; cases h2
      simp [h2]
end Go.Proofs.Ytgdipcoknfhobaa
