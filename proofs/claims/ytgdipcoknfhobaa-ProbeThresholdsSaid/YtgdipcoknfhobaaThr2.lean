/- The law ProbeThresholds holds. -/
import Derived.Test.YtgdipcoknfhobaaThr
namespace Go.Proofs.Ytgdipcoknfhobaa
open Go.Pv

def rows (rs : List Bool) : List (List PV) := rs.map fun b => [.bool b]
theorem idx_ok {rs : List Bool} {k : Nat} {b : Bool} (h : rs[k]? = some b) : idxE (rows rs) (k : Int) = some (rfE b) := by
  have h1 : (rows rs)[k]? = some [.bool b] := by simp [rows, h]
  simp [idxE, opP, Opd.ev, asNat, h1, rfE]
theorem more_small {n : Int} (h0 : 0 ≤ n) (h1 : n ≤ 200) : moreS n = n + 1 := by
  have hm := hMN
  unfold moreS
  rw [clamp_id h0 (by omega), wrap_id (by omega) (by omega)]
  have := mn_cases (n + 1) MN
  omega
def endSt (l : List (List PV)) (run : Int) (good : Bool) (i d pe su fa ps fs : Int) (sg : Bool) (nx : Int) : St :=
  ⟨[.un, .sl l, .bx 0 0, .un, .un, .bx 1 0, .int .i64 run, .bool good, .int .i64 i] ++ (nuns 6 ++ ([.int .i64 i, .sl l, .int .i64 (lenI l), .bool false] ++ nuns 54)), [(0, probeOb d pe su fa), (1, stateOb ps fs sg nx)], 258⟩
theorem leave {l : List (List PV)} {run i d pe su fa ps fs nx : Int} {good sg : Bool} (h1 : decide (i < lenI l) = false) : Tells G (LP l run good i d pe su fa ps fs sg nx) (.st (.exit 0) (endSt l run good i d pe su fa ps fs sg nx)) :=
  tells_out y2 (hs := [(3, no)]) (ls := []) (ow := [(some (bE (decide (i < lenI l))), no)]) (ak := []) (x := (.exit 0, endSt l run good i d pe su fa ps fs sg nx)) (Paid.cons (by rw [h1]; rfl) Paid.nil) Told.nil (by kernel_rfl)

/-- where the loop stands at its head, k results behind it -/
structure Inv (rs : List Bool) (k : Nat) (run : Int) (good : Bool) (ps fs : Int) (sg : Bool) : Prop where
  low : 0 ≤ run
  high : run ≤ k
  same : sg = good
  zero : k = 0 → run = 0 ∧ ps = 0 ∧ fs = 0
  last : ∀ p, 0 < k → rs[k - 1]? = some p → (p = true → ps = run ∧ fs = 0) ∧ (p = false → fs = run ∧ ps = 0)

theorem step_first {l : List (List PV)} {run i i' N d pe su fa ps fs nx : Int} {sg b : Bool} (h1 : decide (i < lenI l) = true) (h2 : decide (i > 0) = false) (h3 : idxE l i = some (rfE b)) (hrun : w64 (run + 1) = N) (hm : moreS (bif b then ps else fs) = N) (hn : w64 (i + 1) = i') :
    ∃ g', ∀ r, Tells G (LP l N g' i' d pe su fa (bif b then N else 0) (bif b then 0 else N) g' (afterS i (clampS pe 1 MT))) r → Tells G (LP l run sg i d pe su fa ps fs sg nx) r := by
  subst hn
  cases b with
  | true =>
    simp only [cond_true] at hm ⊢
    cases h5 : decide (w64 (run + 1) ≥ mx su 1) with
    | true =>
      have h6 : (sg || decide (moreS ps ≥ mx su 1)) = true := by
        rw [hm, ← hrun, h5]
        simp
      refine ⟨true, fun r hr => round_first_true_yes h1 h2 h3 h5 h6 ?_⟩
      rw [h6, hm, hrun]
      exact hr
    | false =>
      have h6 : (sg || decide (moreS ps ≥ mx su 1)) = sg := by
        rw [hm, ← hrun, h5]
        simp
      refine ⟨sg, fun r hr => round_first_true_no h1 h2 h3 h5 h6 ?_⟩
      rw [h6, hm, hrun]
      exact hr
  | false =>
    simp only [cond_false] at hm ⊢
    cases h5 : decide (w64 (run + 1) ≥ mx fa 1) with
    | true =>
      have h6 : (sg && decide (moreS fs < mx fa 1)) = false := by
        rw [hm, ← hrun]
        simp at h5
        simp
        try omega
      refine ⟨false, fun r hr => round_first_false_yes h1 h2 h3 h5 h6 ?_⟩
      rw [h6, hm, hrun]
      exact hr
    | false =>
      have h6 : (sg && decide (moreS fs < mx fa 1)) = sg := by
        rw [hm, ← hrun]
        simp at h5
        simp
        try omega
      refine ⟨sg, fun r hr => round_first_false_no h1 h2 h3 h5 h6 ?_⟩
      rw [h6, hm, hrun]
      exact hr

theorem step_more {l : List (List PV)} {run i i' N d pe su fa ps fs nx : Int} {sg b : Bool} (h1 : decide (i < lenI l) = true) (h2 : decide (i > 0) = true) (h4 : idxE l (w64 (i - 1)) = some (rfE b)) (h3 : idxE l i = some (rfE b)) (hrun : w64 (run + 1) = N) (hm : moreS (bif b then ps else fs) = N) (hn : w64 (i + 1) = i') :
    ∃ g', ∀ r, Tells G (LP l N g' i' d pe su fa (bif b then N else 0) (bif b then 0 else N) g' (afterS i (clampS pe 1 MT))) r → Tells G (LP l run sg i d pe su fa ps fs sg nx) r := by
  subst hn
  cases b with
  | true =>
    simp only [cond_true] at hm ⊢
    cases h5 : decide (w64 (run + 1) ≥ mx su 1) with
    | true =>
      have h6 : (sg || decide (moreS ps ≥ mx su 1)) = true := by
        rw [hm, ← hrun, h5]
        simp
      refine ⟨true, fun r hr => round_same_true_yes h1 h2 h4 h3 h5 h6 ?_⟩
      rw [h6, hm, hrun]
      exact hr
    | false =>
      have h6 : (sg || decide (moreS ps ≥ mx su 1)) = sg := by
        rw [hm, ← hrun, h5]
        simp
      refine ⟨sg, fun r hr => round_same_true_no h1 h2 h4 h3 h5 h6 ?_⟩
      rw [h6, hm, hrun]
      exact hr
  | false =>
    simp only [cond_false] at hm ⊢
    cases h5 : decide (w64 (run + 1) ≥ mx fa 1) with
    | true =>
      have h6 : (sg && decide (moreS fs < mx fa 1)) = false := by
        rw [hm, ← hrun]
        simp at h5
        simp
        try omega
      refine ⟨false, fun r hr => round_same_false_yes h1 h2 h4 h3 h5 h6 ?_⟩
      rw [h6, hm, hrun]
      exact hr
    | false =>
      have h6 : (sg && decide (moreS fs < mx fa 1)) = sg := by
        rw [hm, ← hrun]
        simp at h5
        simp
        try omega
      refine ⟨sg, fun r hr => round_same_false_no h1 h2 h4 h3 h5 h6 ?_⟩
      rw [h6, hm, hrun]
      exact hr

theorem step_other {l : List (List PV)} {run i i' N d pe su fa ps fs nx : Int} {sg b : Bool} (h1 : decide (i < lenI l) = true) (h2 : decide (i > 0) = true) (h4 : idxE l (w64 (i - 1)) = some (rfE (!b))) (h3 : idxE l i = some (rfE b)) (hrun : w64 (0 + 1) = N) (hm : moreS (bif b then ps else fs) = N) (hn : w64 (i + 1) = i') :
    ∃ g', ∀ r, Tells G (LP l N g' i' d pe su fa (bif b then N else 0) (bif b then 0 else N) g' (afterS i (clampS pe 1 MT))) r → Tells G (LP l run sg i d pe su fa ps fs sg nx) r := by
  subst hn
  cases b with
  | true =>
    simp only [cond_true] at hm ⊢
    cases h5 : decide (w64 (0 + 1) ≥ mx su 1) with
    | true =>
      have h6 : (sg || decide (moreS ps ≥ mx su 1)) = true := by
        rw [hm, ← hrun, h5]
        simp
      refine ⟨true, fun r hr => round_other_true_yes h1 h2 h4 h3 h5 h6 ?_⟩
      rw [h6, hm, hrun]
      exact hr
    | false =>
      have h6 : (sg || decide (moreS ps ≥ mx su 1)) = sg := by
        rw [hm, ← hrun, h5]
        simp
      refine ⟨sg, fun r hr => round_other_true_no h1 h2 h4 h3 h5 h6 ?_⟩
      rw [h6, hm, hrun]
      exact hr
  | false =>
    simp only [cond_false] at hm ⊢
    cases h5 : decide (w64 (0 + 1) ≥ mx fa 1) with
    | true =>
      have h6 : (sg && decide (moreS fs < mx fa 1)) = false := by
        rw [hm, ← hrun]
        simp at h5
        simp
        try omega
      refine ⟨false, fun r hr => round_other_false_yes h1 h2 h4 h3 h5 h6 ?_⟩
      rw [h6, hm, hrun]
      exact hr
    | false =>
      have h6 : (sg && decide (moreS fs < mx fa 1)) = sg := by
        rw [hm, ← hrun]
        simp at h5
        simp
        try omega
      refine ⟨sg, fun r hr => round_other_false_no h1 h2 h4 h3 h5 h6 ?_⟩
      rw [h6, hm, hrun]
      exact hr

theorem not_eq_of {p b : Bool} (h : ¬ p = b) : p = !b := by
  revert h
  cases p <;> cases b <;> decide
theorem loop_ends {rs : List Bool} (hl : rs.length ≤ 200) {d pe su fa : Int} : ∀ (j k : Nat) (run : Int) (good : Bool) (ps fs : Int) (sg : Bool) (nx : Int), k + j = rs.length → Inv rs k run good ps fs sg →
    ∃ run' good' ps' fs' sg' nx', Tells G (LP (rows rs) run good k d pe su fa ps fs sg nx) (.st (.exit 0) (endSt (rows rs) run' good' rs.length d pe su fa ps' fs' sg' nx'))
  | 0, k, run, good, ps, fs, sg, nx, hk, _ => by
    have : k = rs.length := by omega
    subst this
    exact ⟨run, good, ps, fs, sg, nx, leave (by simp [lenI, rows])⟩
  | j + 1, k, run, good, ps, fs, sg, nx, hk, hi => by
    have hkl : k < rs.length := by omega
    obtain ⟨b, hb⟩ : ∃ b, rs[k]? = some b := ⟨rs[k], List.getElem?_eq_getElem hkl⟩
    have h1 : decide ((k : Int) < lenI (rows rs)) = true := by simp [lenI, rows]; omega
    have h3 := idx_ok hb
    have hn : w64 ((k : Int) + 1) = ((k + 1 : Nat) : Int) := by rw [wrap_id (by omega) (by omega)]; simp
    obtain ⟨i1, i2, i3, i4, i5⟩ := hi
    subst i3
    -- what follows, whatever the round
    have go : ∀ (N : Int), 0 ≤ N → N ≤ (k + 1 : Nat) → (∃ g', ∀ r, Tells G (LP (rows rs) N g' ((k + 1 : Nat) : Int) d pe su fa (bif b then N else 0) (bif b then 0 else N) g' (afterS k (clampS pe 1 MT))) r → Tells G (LP (rows rs) run sg k d pe su fa ps fs sg nx) r) →
        ∃ run'' good' ps'' fs'' sg' nx', Tells G (LP (rows rs) run sg k d pe su fa ps fs sg nx) (.st (.exit 0) (endSt (rows rs) run'' good' rs.length d pe su fa ps'' fs'' sg' nx')) := by
      rintro N q1 q2 ⟨g', hr⟩
      obtain ⟨a1, a2, a3, a4, a5, a6, ht⟩ := loop_ends hl j (k + 1) N g' (bif b then N else 0) (bif b then 0 else N) g' (afterS k (clampS pe 1 MT)) (by omega) ⟨q1, q2, rfl, fun h => by omega, fun p _ hp => by
        rw [show k + 1 - 1 = k by omega, hb] at hp
        injection hp with hp
        subst hp
        cases b <;> simp⟩
      exact ⟨a1, a2, a3, a4, a5, a6, hr _ ht⟩
    by_cases hk0 : k = 0
    · obtain ⟨z1, z2, z3⟩ := i4 hk0
      subst z1 z2 z3
      exact go 1 (by omega) (by omega) (step_first h1 (by simp; omega) h3 (wrap_id (by omega) (by omega)) (by cases b <;> exact (more_small (by omega) (by omega) : moreS 0 = 0 + 1)) hn)
    · obtain ⟨p, hp⟩ : ∃ p, rs[k - 1]? = some p := ⟨rs[k - 1]'(by omega), List.getElem?_eq_getElem (by omega)⟩
      have h2 : decide ((k : Int) > 0) = true := by simp; omega
      have hk1 : w64 ((k : Int) - 1) = ((k - 1 : Nat) : Int) := by rw [wrap_id (by omega) (by omega)]; omega
      have h4 : idxE (rows rs) (w64 ((k : Int) - 1)) = some (rfE p) := by rw [hk1]; exact idx_ok hp
      obtain ⟨f1, f2⟩ := i5 p (by omega) hp
      by_cases hpb : p = b
      · subst hpb
        refine go (run + 1) (by omega) (by omega) (step_more h1 h2 h4 h3 (wrap_id (by omega) (by omega)) ?_ hn)
        cases p with
        | true => rw [cond_true, (f1 rfl).1]; exact more_small (by omega) (by omega)
        | false => rw [cond_false, (f2 rfl).1]; exact more_small (by omega) (by omega)
      · have hpb' : p = !b := not_eq_of hpb
        subst hpb'
        refine go 1 (by omega) (by omega) (step_other h1 h2 h4 h3 (wrap_id (by omega) (by omega)) ?_ hn)
        cases b with
        | true => rw [cond_true, (f2 rfl).2]; exact more_small (by omega) (by omega)
        | false => rw [cond_false, (f1 rfl).2]; exact more_small (by omega) (by omega)

def tysThr : List Ty := [tProbe, .sl 1 .bool]
theorem arg_bools {p : PV} (h : Arg Γ (.sl 1 .bool) p) : ∃ rs, p = .sl (rows rs) := by
  obtain ⟨c, ho, hc⟩ := h
  cases ho with
  | sl _ _ l _ hl =>
    simp only [Ty.isSt, cond_false, List.cons.injEq, and_true] at hc
    have : ∀ l : List (List PV), (∀ r ∈ l, Of Γ .bool r) → ∃ rs, l = rows rs := by
      intro l
      induction l with
      | nil => intro _; exact ⟨[], rfl⟩
      | cons x r ih =>
        intro h
        obtain ⟨rs, rfl⟩ := ih (fun y hy => h y (List.mem_cons_of_mem _ hy))
        have := h x List.mem_cons_self
        cases this with
        | bool b => exact ⟨b :: rs, rfl⟩
    obtain ⟨rs, rfl⟩ := this l hl
    exact ⟨rs, hc.symm⟩
theorem pureThr (qs : List PV) (h : Args Γ tysThr qs) : ∃ n, runs G n (.call 5 qs []) = some (.ret (.bool true) []) := by
  match qs, h with
  | [a, b], h =>
    obtain ⟨ha, hb, _⟩ := h
    obtain ⟨d, pe, su, fa, rfl⟩ := arg_probe ha
    obtain ⟨rs, rfl⟩ := arg_bools hb
    cases hl : decide (lenI (rows rs) > 200) with
    | true => exact tells_T y2 (fn := Ir.law34_ProbeThresholds) rfl (hs := [(4, yes)]) (ow := [(some (bE (decide (lenI (rows rs) > 200))), yes)]) (Paid.cons (by rw [hl]; rfl) Paid.nil) (by kernel_rfl)
    | false =>
      have hle : rs.length ≤ 200 := by simp [lenI, rows] at hl; omega
      obtain ⟨a1, a2, a3, a4, a5, a6, ht⟩ := loop_ends hle (d := d) (pe := pe) (su := su) (fa := fa) rs.length 0 0 false 0 0 false (afterS 0 (clampS d 0 MT)) (by omega) ⟨by omega, by omega, rfl, fun _ => ⟨rfl, rfl, rfl⟩, fun p h => by omega⟩
      exact tells_TL y2 (fn := Ir.law34_ProbeThresholds) rfl (hs := [(4, no)]) (ls := [(.exit 0, endSt (rows rs) a1 a2 rs.length d pe su fa a3 a4 a5 a6)]) (ow := [(some (bE (decide (lenI (rows rs) > 200))), no)])
        (ak := [(LP (rows rs) 0 false 0 d pe su fa 0 0 false (afterS 0 (clampS d 0 MT)), .st (.exit 0) (endSt (rows rs) a1 a2 rs.length d pe su fa a3 a4 a5 a6))]) (Paid.cons (by rw [hl]; rfl) Paid.nil) (Told.cons ht Told.nil) (by kernel_rfl)
end Go.Proofs.Ytgdipcoknfhobaa
