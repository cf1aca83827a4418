/- The law LeaseKeeps in plain words. -/
import Derived.Test.YtgdipcoknfhobaaLeaseKeeps
import Derived.Test.YtgdipcoknfhobaaLeasePure
namespace Go.Proofs.Ytgdipcoknfhobaa
open Go.Pv

theorem leaseKeeps (l : Lease) (other : ByteArray) (now dur : Int) (hsz : l.holder.size ≤ 140737488351232) : s_law29_LeaseKeeps l other now dur = true := by
  unfold s_law29_LeaseKeeps
  cases hv : s_lease_Valid l with
  | false => rfl
  | true =>
    have hv' := hv
    rw [valid1, decide_eq_true_eq] at hv'
    have hh := holds_spec hv' l.holder now
    -- the holder's own attempt
    have own : (Fit l.holder now dur ∧ s_lease_Try l l.holder now dur = (⟨l.holder, mx l.renewed now, dur, l.switches⟩, true)) ∨ (¬ Fit l.holder now dur ∧ s_lease_Try l l.holder now dur = (l, false)) := by
      rcases try_spec hv' l.holder now dur with ⟨f, _, e⟩ | ⟨f, e⟩
      · refine .inl ⟨f, ?_⟩
        rw [e, got, if_pos rfl]
      · exact .inr ⟨fun c => f ⟨c, .inr (.inl rfl)⟩, e⟩
    have ownB : (bif (s_lease_Try l l.holder now dur).2 then
        bif (sEq l.holder (⟨#[]⟩ : ByteArray)) then false else
          bif (decide (0 ≤ now)) then bif (decide (now ≤ 1000000000000)) then bif (decide (1 ≤ dur)) then bif (true == (decide (dur ≤ 1000000000000))) then
            bif (sEq (s_lease_Try l l.holder now dur).1.holder l.holder) then bif ((s_lease_Try l l.holder now dur).1.switches == l.switches) then bif ((s_lease_Try l l.holder now dur).1.duration == dur) then
              (decide (now ≤ (s_lease_Try l l.holder now dur).1.renewed)) else false else false else false
          else false else false else false else false
      else
        bif (sEq l.holder (⟨#[]⟩ : ByteArray)) then true else
          bif (decide (0 ≤ now)) then bif (decide (now ≤ 1000000000000)) then bif (decide (1 ≤ dur)) then bif (false == (decide (dur ≤ 1000000000000))) then true else false else true else true else true) = true := by
      rcases own with ⟨f, e⟩ | ⟨f, e⟩
      · rw [e]
        obtain ⟨f0, f1, f2, f3, f4, f5⟩ := f
        have g0 : sEq l.holder (⟨#[]⟩ : ByteArray) = false := by
          rw [Bool.eq_false_iff]
          exact fun c => f0 (sEq_iff.1 c)
        have g6 := (mx_le l.renewed now).2.1
        simp [g0, f2, f3, f4, f5, sEq_self, g6]
      · rw [e]
        cases g0 : sEq l.holder (⟨#[]⟩ : ByteArray) with
        | true => rfl
        | false =>
          cases h1 : decide (0 ≤ now) with
          | false => rfl
          | true =>
            cases h2 : decide (now ≤ 1000000000000) with
            | false => rfl
            | true =>
              cases h3 : decide (1 ≤ dur) with
              | false => rfl
              | true =>
                cases h4 : decide (dur ≤ 1000000000000) with
                | false => rfl
                | true =>
                  have gn : l.holder ≠ none_ := fun c => by
                    rw [sEq_iff.2 (show l.holder = (⟨#[]⟩ : ByteArray) from c)] at g0
                    cases g0
                  exact absurd ⟨gn, hv'.1, of_decide_eq_true h1, of_decide_eq_true h2, of_decide_eq_true h3, of_decide_eq_true h4⟩ f
    rw [ownB]
    rcases try_spec hv' other now dur with ⟨f, g, e⟩ | ⟨f, e⟩
    · rw [e]
      have v1 : s_lease_Valid (got l other now dur) = true := by
        rw [valid1, decide_eq_true_eq]
        exact got_valid hv' f
      have v2 : decide ((got l other now dur).renewed < l.renewed) = false := by
        have := (mx_le l.renewed now).1
        rw [decide_eq_false_iff_not]
        show ¬ mx l.renewed now < l.renewed
        omega
      simp only [v1, v2, cond_true, cond_false]
      cases h1 : s_lease_Holds l l.holder now with
      | false => rfl
      | true =>
        rw [hh, decide_eq_true_eq] at h1
        have : sEq other l.holder = true := by
          rw [sEq_iff]
          rcases g with g | g | g
          · exact absurd g h1.1
          · exact g.symm
          · exact absurd h1.2.2 g
        rw [this]
        rfl
    · rw [e]
      simp [hv, sEq_self]
end Go.Proofs.Ytgdipcoknfhobaa
