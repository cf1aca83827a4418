/- Where a pod stands in the ranking: how many are evicted before it. -/
import Derived.Test.YtnicmdfafihmpaaRankH
namespace Go.Proofs.Ytnicmdfafihmpaa
open Go.Pv Go.Pv.Srt

def keyAt (p0 : List Pod) (i : Nat) : ByteArray := s_meta_KeyOf (p0.getD i zp).meta_
theorem fits_b0 (p0 : List Pod) (p1 : List Int) : ∀ (l : List Pod) (i : Nat), l_law51_fits_b0 p0 p1 l i = .k0 → ∀ (j : Nat) (x : Pod), l[j]? = some x →
    s_law51_index p0 (s_meta_KeyOf x.meta_) = ((i + j : Nat) : Int) ∧ 0 ≤ p1.getD (i + j) 0 ∧ p1.getD (i + j) 0 ≤ 1000000000000000
  | [], _, _, j, x, hx => by simp at hx
  | y :: l, i, h, j, x, hx => by
    rw [l_law51_fits_b0] at h
    cases e1 : s_law51_index p0 (s_meta_KeyOf y.meta_) == (i : Int) with
    | false => rw [e1] at h; cases h
    | true =>
      rw [e1, cond_true] at h
      cases e2 : decide (p1.getD i 0 < 0) with
      | true => rw [e2] at h; cases h
      | false =>
        rw [e2, cond_false] at h
        cases e3 : decide (1000000000000000 < p1.getD i 0) with
        | true => rw [e3] at h; cases h
        | false =>
          rw [e3, cond_false] at h
          cases j with
          | zero =>
            simp only [List.getElem?_cons_zero, Option.some.injEq] at hx
            subst hx
            have a1 := eq_of_beq e1
            have a2 := of_decide_eq_false e2
            have a3 := of_decide_eq_false e3
            exact ⟨a1, by simpa using a2, by simpa using a3⟩
          | succ j =>
            simp only [List.getElem?_cons_succ] at hx
            have := fits_b0 p0 p1 l (i + 1) h j x hx
            rw [show i + 1 + j = i + (j + 1) by omega] at this
            exact this
structure Fit (p0 : List Pod) (p1 : List Int) : Prop where
  len : p0.length ≤ 40
  same : p1.length = p0.length
  idx : ∀ i, i < p0.length → s_law51_index p0 (keyAt p0 i) = (i : Int)
  low : ∀ i, i < p0.length → 0 ≤ p1.getD i 0
  high : ∀ i, i < p0.length → p1.getD i 0 ≤ 1000000000000000
theorem fit_of {p0 : List Pod} {p1 : List Int} (h : s_law51_fits p0 p1 = true) : Fit p0 p1 := by
  unfold s_law51_fits at h
  cases e1 : decide (40 < ((List.length p0 : Nat) : Int)) with
  | true => rw [e1] at h; cases h
  | false =>
    rw [e1, cond_false] at h
    cases e2 : ((List.length p1 : Nat) : Int) == ((List.length p0 : Nat) : Int) with
    | false => rw [e2] at h; cases h
    | true =>
      rw [e2, cond_true] at h
      have h1 := of_decide_eq_false e1
      have h2 := eq_of_beq e2
      have h3 : l_law51_fits_b0 p0 p1 p0 0 = .k0 := by
        cases e3 : l_law51_fits_b0 p0 p1 p0 0 with
        | k0 => rfl
        | k1 => rw [e3] at h; cases h
      have key := fun (i : Nat) (hi : i < p0.length) => fits_b0 p0 p1 p0 0 h3 i (p0.getD i zp) (by rw [List.getD_eq_getElem?_getD, List.getElem?_eq_getElem hi]; rfl)
      refine ⟨by omega, by omega, fun i hi => ?_, fun i hi => ?_, fun i hi => ?_⟩
      · have := (key i hi).1
        rw [Nat.zero_add] at this
        exact this
      · have := (key i hi).2.1
        rw [Nat.zero_add] at this
        exact this
      · have := (key i hi).2.2
        rw [Nat.zero_add] at this
        exact this
theorem index_b0 (p0 : List Pod) (k : ByteArray) : ∀ (l : List Pod) (i : Nat), match l_law51_index_b0 p0 k l i with
    | .k0 => ∀ x ∈ l, s_meta_KeyOf x.meta_ ≠ k
    | .k1 n => ∃ j, j < l.length ∧ n = ((i + j : Nat) : Int) ∧ s_meta_KeyOf (l.getD j zp).meta_ = k ∧ ∀ m, m < j → s_meta_KeyOf (l.getD m zp).meta_ ≠ k
  | [], _ => fun _ h => by cases h
  | x :: l, i => by
    rw [l_law51_index_b0]
    cases e : sEq (s_meta_KeyOf x.meta_) k with
    | true =>
      rw [cond_true]
      exact ⟨0, by simp, by simp, sEq_iff.1 e, fun m hm => absurd hm (Nat.not_lt_zero _)⟩
    | false =>
      rw [cond_false]
      have hne : s_meta_KeyOf x.meta_ ≠ k := fun h => by rw [sEq_iff.2 h] at e; cases e
      have ih := index_b0 p0 k l (i + 1)
      cases e2 : l_law51_index_b0 p0 k l (i + 1) with
      | k0 =>
        rw [e2] at ih
        intro y hy
        rcases List.mem_cons.1 hy with h | h
        · rw [h]; exact hne
        · exact ih y h
      | k1 n =>
        rw [e2] at ih
        obtain ⟨j, h1, h2, h3, h4⟩ := ih
        refine ⟨j + 1, by simp; omega, by rw [h2]; congr 1; omega, by simpa using h3, fun m hm => ?_⟩
        cases m with
        | zero => simpa using hne
        | succ m => simpa using h4 m (by omega)
theorem index_at {p0 : List Pod} {k : ByteArray} {n : Nat} (h : s_law51_index p0 k = (n : Int)) : n < p0.length ∧ keyAt p0 n = k ∧ ∀ m, m < n → keyAt p0 m ≠ k := by
  unfold s_law51_index at h
  have := index_b0 p0 k p0 0
  cases e : l_law51_index_b0 p0 k p0 0 with
  | k0 =>
    rw [e] at h
    simp only at h
    omega
  | k1 y =>
    rw [e] at h this
    simp only at h
    obtain ⟨j, h1, h2, h3, h4⟩ := this
    have : j = n := by omega
    subst this
    exact ⟨h1, h3, h4⟩
theorem Fit.inj {p0 : List Pod} {p1 : List Int} (F : Fit p0 p1) {i j : Nat} (hi : i < p0.length) (hj : j < p0.length) (h : keyAt p0 i = keyAt p0 j) : i = j := by
  have a := index_at (F.idx i hi)
  have b := index_at (F.idx j hj)
  rcases Nat.lt_trichotomy i j with c | c | c
  · exact absurd h (b.2.2 i c)
  · exact c
  · exact absurd h.symm (a.2.2 j c)
theorem en_key (p0 : List Pod) (p1 : List Int) (i : Nat) : (en p0 p1 (i : Int)).key = keyAt p0 i := by
  unfold en keyAt
  rw [Int.toNat_natCast]
  rfl
theorem insR_perm {α : Type} (c : α → α → Int) (x : α) : ∀ R : List α, (insR c x R).Perm (x :: R)
  | [] => List.Perm.refl _
  | s :: t => by
    rw [insR]
    cases decide (c x s < 0) with
    | true => exact ((insR_perm c x t).cons s).trans (List.Perm.swap x s t)
    | false => exact List.Perm.refl _
theorem fold_perm {α : Type} (c : α → α → Int) : ∀ (l R : List α), (l.foldl (fun r x => insR c x r) R).Perm (l ++ R)
  | [], _ => List.Perm.refl _
  | x :: l, R => by
    rw [List.foldl_cons]
    refine (fold_perm c l _).trans ?_
    exact ((insR_perm c x R).append_left l).trans List.perm_middle
theorem isort_perm {α : Type} (c : α → α → Int) (l : List α) : (isort c l).Perm l := by
  unfold isort
  refine (List.reverse_perm _).trans ?_
  have := fold_perm c l []
  rw [List.append_nil] at this
  exact this
theorem cmpL_none : ∀ a b : List UInt8, ¬ cmpL a b < 0 → ¬ cmpL b a < 0 → a = b
  | [], [], _, _ => rfl
  | [], _ :: _, h, _ => by simp [cmpL] at h
  | _ :: _, [], _, h => by simp [cmpL] at h
  | x :: a, y :: b, h, g => by
    have ih := cmpL_none a b
    rw [cmpL] at h g
    simp only [UInt8.lt_iff_toNat_lt] at h g
    by_cases h1 : x.toNat < y.toNat
    · rw [if_pos h1] at h
      omega
    · by_cases h2 : y.toNat < x.toNat
      · rw [if_pos h2] at g
        omega
      · rw [if_neg h1, if_neg h2] at h
        rw [if_neg h2, if_neg h1] at g
        rw [UInt8.toNat_inj.1 (show x.toNat = y.toNat by omega), ih h g]
theorem apart {x y : Entry} (h : ¬ s_qos_ranked_1 x y < 0) (g : ¬ s_qos_ranked_1 y x < 0) : x.key = y.key := by
  rw [rk] at h g
  have : sEq x.key y.key = true := by
    unfold sEq
    rw [beq_iff_eq]
    refine cmpL_none _ _ ?_ ?_
    · show ¬ sCmp x.key y.key < 0
      omega
    · show ¬ sCmp y.key x.key < 0
      omega
  exact sEq_iff.1 this
theorem place_count (P : List ByteArray) (e : Entry) : ∀ (S : List Entry) (i : Nat), e ∈ S → Up s_qos_ranked_1 S → (∀ x ∈ S, x.key = e.key → x = e) →
    l_law51_place_b0 P e.key (S.map fun x => x.key) i = .k1 ((i + S.countP (fun y => decide (s_qos_ranked_1 y e < 0)) : Nat) : Int)
  | [], _, h, _, _ => by cases h
  | x :: S, i, h, hu, hd => by
    rw [List.map_cons, l_law51_place_b0]
    have hu2 := List.pairwise_cons.1 hu
    by_cases hk : x.key = e.key
    · have hx := hd x List.mem_cons_self hk
      subst hx
      rw [show sEq x.key x.key = true from sEq_iff.2 rfl, cond_true]
      have : (x :: S).countP (fun y => decide (s_qos_ranked_1 y x < 0)) = 0 := by
        rw [List.countP_eq_zero]
        intro y hy
        rcases List.mem_cons.1 hy with g | g
        · rw [g]
          simpa using tot.refl x
        · have : ¬ s_qos_ranked_1 y x < 0 := hu2.1 y g
          simpa using this
      rw [this]
      rfl
    · have hm : e ∈ S := by
        rcases List.mem_cons.1 h with g | g
        · exact absurd (by rw [g]) hk
        · exact g
      have hlt : s_qos_ranked_1 x e < 0 := by
        apply Decidable.byContradiction
        intro hn
        exact hk (apart hn (hu2.1 e hm))
      rw [show sEq x.key e.key = false by rw [Bool.eq_false_iff]; exact fun g => hk (sEq_iff.1 g), cond_false,
        place_count P e S (i + 1) hm hu2.2 (fun y hy => hd y (List.mem_cons_of_mem _ hy)), List.countP_cons_of_pos (by simpa using hlt)]
      congr 2
      omega
theorem ents_mem {p0 : List Pod} {p1 : List Int} {x : Entry} : x ∈ ents p0 p1 ↔ ∃ n, n < p0.length ∧ x = en p0 p1 (n : Int) := by
  unfold ents
  rw [List.mem_map]
  constructor
  · rintro ⟨n, hn, rfl⟩
    rw [List.mem_range'_1] at hn
    exact ⟨n, by omega, rfl⟩
  · rintro ⟨n, hn, rfl⟩
    exact ⟨n, by rw [List.mem_range'_1]; omega, rfl⟩
theorem place_rank {p0 : List Pod} {p1 : List Int} (F : Fit p0 p1) (u : List Int) {k : Nat} (hk : k < p0.length) :
    s_law51_place (s_qos_Rank p0 u) (keyAt p0 k) = (((ents p0 u).countP (fun y => decide (s_qos_ranked_1 y (en p0 u (k : Int)) < 0)) : Nat) : Int) := by
  unfold s_law51_place
  rw [rank1, ranked_eq]
  have h := place_count ((isort s_qos_ranked_1 (ents p0 u)).map fun x => x.key) (en p0 u (k : Int)) (isort s_qos_ranked_1 (ents p0 u)) 0
    ((isort_perm _ _).mem_iff.2 (ents_mem.2 ⟨k, hk, rfl⟩)) (isort_up tot _) (fun x hx he => by
      obtain ⟨n, hn, rfl⟩ := ents_mem.1 ((isort_perm _ _).mem_iff.1 hx)
      rw [en_key, en_key] at he
      rw [F.inj hn hk he])
  rw [en_key] at h
  rw [h, Nat.zero_add, (isort_perm s_qos_ranked_1 (ents p0 u)).countP_eq]
theorem memory_ok (p : PodSpec) : ∀ (l : List Container) (i : Nat) (a : Resources), 0 ≤ a.memory → a.memory ≤ 1000000000000000 → 0 ≤ (l_ref02_Requests_b0 p l i a).memory ∧ (l_ref02_Requests_b0 p l i a).memory ≤ 1000000000000000
  | [], _, _, h1, h2 => ⟨h1, h2⟩
  | x :: l, i, a, _, _ => by
    rw [l_ref02_Requests_b0]
    refine memory_ok p l (i + 1) _ ?_ ?_ <;> (unfold s_ref02_Add; simp only [clamp4])
    · have := cl_spec (w64 (cl a.memory + cl x.request.memory))
      omega
    · have := cl_spec (w64 (cl a.memory + cl x.request.memory))
      omega
theorem mem_req (p : PodSpec) : 0 ≤ (s_ref02_Requests p).memory ∧ (s_ref02_Requests p).memory ≤ 1000000000000000 := memory_ok p _ _ _ (by show (0 : Int) ≤ 0; omega) (by show (0 : Int) ≤ _; omega)
theorem usage_set {p1 : List Int} {k n : Nat} {x : Int} (h : n ≠ k) : s_ref51_usage (p1.set k x) (n : Int) = s_ref51_usage p1 (n : Int) := by
  unfold s_ref51_usage
  rw [List.length_set, Int.toNat_natCast, List.getD_eq_getElem?_getD, List.getD_eq_getElem?_getD, List.getElem?_set_ne (fun e => h e.symm)]
theorem usage_self {p1 : List Int} {k : Nat} {x : Int} (h : k < p1.length) (h0 : 0 ≤ x) (h1 : x ≤ 1000000000000000) : s_ref51_usage (p1.set k x) (k : Int) = x := by
  unfold s_ref51_usage
  rw [List.length_set, show decide ((k : Int) < ((p1.length : Nat) : Int)) = true by simp; omega, cond_true, clamp2, Int.toNat_natCast, List.getD_eq_getElem?_getD, List.getElem?_set_self h, Option.getD_some]
  have := cl_spec x
  omega
theorem usage_at {p1 : List Int} {k : Nat} (h : k < p1.length) (h0 : 0 ≤ p1.getD k 0) (h1 : p1.getD k 0 ≤ 1000000000000000) : s_ref51_usage p1 (k : Int) = p1.getD k 0 := by
  unfold s_ref51_usage
  rw [show decide ((k : Int) < ((p1.length : Nat) : Int)) = true by simp; omega, cond_true, clamp2, Int.toNat_natCast]
  have := cl_spec (p1.getD k 0)
  omega
theorem rise {p0 : List Pod} {p1 : List Int} (F : Fit p0 p1) {k : Nat} (hk : k < p0.length) {more : Int} (h0 : 0 ≤ more) (h1 : p1.getD k 0 + more ≤ 1000000000000000) :
    s_law51_place (s_qos_Rank p0 (p1.set k (p1.getD k 0 + more))) (keyAt p0 k) ≤ s_law51_place (s_qos_Rank p0 p1) (keyAt p0 k) := by
  rw [place_rank F _ hk, place_rank F _ hk]
  have hl := F.low k hk
  have hh := F.high k hk
  have hkl : k < p1.length := by rw [F.same]; exact hk
  refine Int.ofNat_le.2 ?_
  unfold ents
  rw [List.countP_map, List.countP_map]
  refine List.countP_mono_left fun n hn => ?_
  simp only [Function.comp_apply, decide_eq_true_eq]
  intro h
  by_cases e : n = k
  · subst e
    exact absurd h (tot.refl _)
  · have e1 : en p0 (p1.set k (p1.getD k 0 + more)) (n : Int) = en p0 p1 (n : Int) := by
      unfold en
      rw [usage_set e]
    rw [e1] at h
    refine Srt.lt_of_lt_le tot h ?_
    show ¬ s_qos_ranked_1 (en p0 p1 (k : Int)) (en p0 (p1.set k (p1.getD k 0 + more)) (k : Int)) < 0
    rw [rk]
    unfold en
    simp only
    rw [usage_self hkl (by omega) h1, usage_at hkl hl hh]
    have hm := mem_req (p0.getD (Int.toNat (k : Int)) zp).spec
    rw [w64_of (by omega), w64_of (by omega)]
    have hself : ¬ sCmp (s_ref13_KeyOf (p0.getD (Int.toNat (k : Int)) zp).meta_) (s_ref13_KeyOf (p0.getD (Int.toNat (k : Int)) zp).meta_) < 0 := by
      intro h
      exact cmpL_asym _ _ h h
    omega
end Go.Proofs.Ytnicmdfafihmpaa
