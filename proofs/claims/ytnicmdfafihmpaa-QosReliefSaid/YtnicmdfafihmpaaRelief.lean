/- Relief in plain words: a prefix of the ranking, as long as is needed. -/
import Derived.Test.YtnicmdfafihmpaaRise
import Derived.Test.YtnicmdfafihmpaaQosRelief
namespace Go.Proofs.Ytnicmdfafihmpaa
open Go.Pv Go.Pv.Srt

def rv : List Entry → Int → Int → List ByteArray
  | [], _, _ => []
  | x :: l, t, m => if t ≤ m then [] else x.key :: rv l (t - x.usage) m
def Lim (n : Int) : Prop := -1000000000000000 ≤ n ∧ n ≤ 1000000000000000
def Use (x : Entry) : Prop := 0 ≤ x.usage ∧ x.usage ≤ 1000000000000000
theorem rv_len : ∀ (l : List Entry) (t m : Int), (rv l t m).length ≤ l.length
  | [], _, _ => Nat.le_refl _
  | x :: l, t, m => by
    rw [rv]
    by_cases h : t ≤ m
    · rw [if_pos h]
      exact Nat.zero_le _
    · rw [if_neg h, List.length_cons, List.length_cons]
      exact Nat.succ_le_succ (rv_len l _ _)
theorem rv_stop : ∀ (l : List Entry) (t m : Int), t ≤ m → rv l t m = []
  | [], _, _, _ => rfl
  | x :: l, t, m, h => by rw [rv, if_pos h]
theorem rv_eq (p0 : List Pod) (p1 : List Int) (p3 : Int) (h3 : 0 ≤ p3) (h3' : p3 ≤ 1000000000000000) : ∀ (l : List Entry) (i : Nat) (v : List ByteArray) (t : Int), (∀ x ∈ l, Use x) → Lim t →
    fin1 (l_qos_Relieve_b0 p0 p1 p3 l i v t) = v ++ rv l t p3
  | [], _, v, _, _, _ => by rw [rv, List.append_nil]; rfl
  | x :: l, i, v, t, hu, ht => by
    have hc : s_qos_clamp p3 = p3 := by
      rw [clamp1]
      have := cl_spec p3
      omega
    have hx := hu x List.mem_cons_self
    unfold Use at hx
    unfold Lim at ht
    rw [l_qos_Relieve_b0, hc, rv]
    by_cases h : t ≤ p3
    · rw [show decide (t ≤ p3) = true by simpa using h, cond_true, if_pos h, List.append_nil]
      rfl
    · rw [show decide (t ≤ p3) = false by simpa using h, cond_false, if_neg h, w64_of (by omega), rv_eq p0 p1 p3 h3 h3' l _ _ _ (fun y hy => hu y (List.mem_cons_of_mem _ hy)) (by unfold Lim; omega)]
      simp
theorem ranked_use {p0 : List Pod} {p1 : List Int} {x : Entry} (h : x ∈ s_qos_ranked p0 p1) : Use x := by
  rw [ranked_eq] at h
  obtain ⟨n, _, rfl⟩ := ents_mem.1 ((isort_perm _ _).mem_iff.1 h)
  show 0 ≤ s_ref51_usage p1 (n : Int) ∧ s_ref51_usage p1 (n : Int) ≤ 1000000000000000
  unfold s_ref51_usage
  cases decide ((n : Int) < ((p1.length : Nat) : Int)) with
  | true =>
    rw [cond_true, clamp2]
    have := cl_spec (p1.getD (Int.toNat (n : Int)) 0)
    omega
  | false => rw [cond_false]; omega
theorem relieve_rv {p0 : List Pod} {p1 : List Int} {p2 p3 : Int} (h2 : 0 ≤ p2) (h2' : p2 ≤ 1000000000000000) (h3 : 0 ≤ p3) (h3' : p3 ≤ 1000000000000000) : s_qos_Relieve p0 p1 p2 p3 = rv (s_qos_ranked p0 p1) p2 p3 := by
  have hc : s_qos_clamp p2 = p2 := by
    rw [clamp1]
    have := cl_spec p2
    omega
  have h := rv_eq p0 p1 p3 h3 h3' (s_qos_ranked p0 p1) 0 [] p2 (fun x hx => ranked_use hx) (by unfold Lim; omega)
  rw [List.nil_append] at h
  rw [← h]
  unfold s_qos_Relieve
  rw [hc]
  cases l_qos_Relieve_b0 p0 p1 p3 (s_qos_ranked p0 p1) 0 [] p2 <;> rfl
theorem keys_nodup {p0 : List Pod} {p1 : List Int} (F : Fit p0 p1) : ((s_qos_ranked p0 p1).map fun x => x.key).Nodup := by
  rw [ranked_eq]
  refine ((isort_perm s_qos_ranked_1 (ents p0 p1)).map _).nodup_iff.2 ?_
  unfold ents List.Nodup
  rw [List.map_map, List.pairwise_map]
  refine List.Pairwise.imp_of_mem (fun {a b} ha hb hab => ?_) (List.nodup_range' (s := 0) (n := p0.length))
  rw [List.mem_range'_1] at ha hb
  simp only [Function.comp_apply, ne_eq]
  rw [en_key, en_key]
  exact fun h => hab (F.inj (by omega) (by omega) h)
theorem relief_b0 {p0 : List Pod} {p1 : List Int} {p2 p3 : Int} (F : Fit p0 p1) (h3 : 0 ≤ p3) (h3' : p3 ≤ 1000000000000000) (hout : (s_qos_Relieve p0 p1 p2 p3).length ≤ p0.length) :
    ∀ (l A : List Entry) (met : List Bool) (left : Int), s_qos_ranked p0 p1 = A ++ l → met.length = p0.length → (∀ j, j < p0.length → met.getD j false = true → ∃ x ∈ A, x.key = keyAt p0 j) →
      (s_qos_Relieve p0 p1 p2 p3).drop A.length = rv l left p3 → (p3 < left → A.length ≤ (s_qos_Relieve p0 p1 p2 p3).length) → Lim left →
      match l_law51_QosRelief_b0 p0 p1 p2 p3 (l.map fun x => x.key) A.length met left with
      | .k0 _ y => y ≤ p3 ∨ (s_qos_Relieve p0 p1 p2 p3).length = p0.length
      | _ => False
  | [], A, met, left, hA, hm, hmm, hd, hle, _ => by
    have hl : A.length = p0.length := by
      have := ranked_len p0 p1
      rw [hA, List.append_nil] at this
      exact this
    show left ≤ p3 ∨ _
    by_cases h : left ≤ p3
    · exact Or.inl h
    · have := hle (by omega)
      exact Or.inr (by omega)
  | x :: l, A, met, left, hA, hm, hmm, hd, hle, hlim => by
    have hx : x ∈ s_qos_ranked p0 p1 := by rw [hA]; simp
    obtain ⟨k, hk, rfl⟩ : ∃ k, k < p0.length ∧ x = en p0 p1 (k : Int) := by
      rw [ranked_eq] at hx
      exact ents_mem.1 ((isort_perm _ _).mem_iff.1 hx)
    have hkey := en_key p0 p1 k
    have hidx := F.idx k hk
    have hnk : ∀ y ∈ A, y.key ≠ keyAt p0 k := by
      intro y hy he
      have hn := keys_nodup F
      rw [hA, List.map_append, List.nodup_append] at hn
      refine hn.2.2 y.key (List.mem_map.2 ⟨y, hy, rfl⟩) (keyAt p0 k) ?_ he
      exact List.mem_map.2 ⟨_, List.mem_cons_self, hkey⟩
    have hmet : met.getD k false = false := by
      cases e : met.getD k false with
      | false => rfl
      | true =>
        obtain ⟨y, hy, he⟩ := hmm k hk e
        exact absurd he (hnk y hy)
    have hA' : s_qos_ranked p0 p1 = (A ++ [en p0 p1 (k : Int)]) ++ l := by rw [hA]; simp
    have hm' : (met.set k true).length = p0.length := by rw [List.length_set]; exact hm
    have hmm' : ∀ j, j < p0.length → (met.set k true).getD j false = true → ∃ x ∈ A ++ [en p0 p1 (k : Int)], x.key = keyAt p0 j := by
      intro j hj h
      by_cases e : k = j
      · subst e
        exact ⟨_, by simp, hkey⟩
      · rw [List.getD_eq_getElem?_getD, List.getElem?_set_ne e, ← List.getD_eq_getElem?_getD] at h
        obtain ⟨y, hy, he⟩ := hmm j hj h
        exact ⟨y, List.mem_append_left _ hy, he⟩
    have hlen : (A ++ [en p0 p1 (k : Int)]).length = A.length + 1 := by simp
    have huse := ranked_use hx
    unfold Use at huse
    rw [List.map_cons, l_law51_QosRelief_b0, hkey, hidx, show decide (((k : Nat) : Int) < 0) = false by simp, cond_false, Int.toNat_natCast, hmet, cond_false]
    have hdrop : (s_qos_Relieve p0 p1 p2 p3).drop (A.length + 1) = ((s_qos_Relieve p0 p1 p2 p3).drop A.length).drop 1 := by rw [List.drop_drop]
    by_cases hs : left ≤ p3
    · rw [rv_stop _ _ _ hs] at hd
      have hle2 : (s_qos_Relieve p0 p1 p2 p3).length ≤ A.length := by simpa using hd
      rw [show decide ((((s_qos_Relieve p0 p1 p2 p3).length : Nat) : Int) ≤ (A.length : Int)) = true by simpa using hle2, cond_true, ← hlen]
      refine relief_b0 F h3 h3' hout l (A ++ [en p0 p1 (k : Int)]) _ left hA' hm' hmm' ?_ (fun h => by omega) hlim
      rw [hlen, hdrop, hd, rv_stop _ _ _ hs]
      rfl
    · rw [rv, if_neg hs] at hd
      have hlt : A.length < (s_qos_Relieve p0 p1 p2 p3).length := by
        have := congrArg List.length hd
        rw [List.length_drop, List.length_cons] at this
        omega
      have hget : (s_qos_Relieve p0 p1 p2 p3).getD A.length (⟨#[]⟩ : ByteArray) = keyAt p0 k := by
        have := congrArg (fun q => q[0]?) hd
        simp only [List.getElem?_drop, List.getElem?_cons_zero, Nat.add_zero] at this
        rw [List.getD_eq_getElem?_getD, this, Option.getD_some, hkey]
      have hu : (en p0 p1 (k : Int)).usage = p1.getD k 0 := usage_at (by rw [F.same]; exact hk) (F.low k hk) (F.high k hk)
      rw [hu] at hd huse
      unfold Lim at hlim
      rw [show decide ((((s_qos_Relieve p0 p1 p2 p3).length : Nat) : Int) ≤ (A.length : Int)) = false by simpa using hlt, cond_false, hget, sEq_self, cond_true,
        show decide (left ≤ p3) = false by simpa using hs, cond_false, w64_of (by omega), ← hlen]
      refine relief_b0 F h3 h3' hout l (A ++ [en p0 p1 (k : Int)]) _ _ hA' hm' hmm' ?_ (fun h => by rw [hlen]; omega) (by unfold Lim; omega)
      rw [hlen, hdrop, hd]
      rfl
theorem relief_true (p0 : List Pod) (p1 : List Int) (p2 p3 : Int) : s_law51_QosRelief p0 p1 p2 p3 = true := by
  unfold s_law51_QosRelief
  cases e0 : s_law51_fits p0 p1 with
  | false => rfl
  | true =>
    have F := fit_of e0
    rw [cond_true]
    by_cases h1 : p2 < 0
    · rw [show decide (p2 < 0) = true by simpa using h1]; rfl
    rw [show decide (p2 < 0) = false by simpa using h1, cond_false]
    by_cases h2 : 1000000000000000 < p2
    · rw [show decide (1000000000000000 < p2) = true by simpa using h2]; rfl
    rw [show decide (1000000000000000 < p2) = false by simpa using h2, cond_false]
    by_cases h3 : p3 < 0
    · rw [show decide (p3 < 0) = true by simpa using h3]; rfl
    rw [show decide (p3 < 0) = false by simpa using h3, cond_false]
    by_cases h4 : 1000000000000000 < p3
    · rw [show decide (1000000000000000 < p3) = true by simpa using h4]; rfl
    rw [show decide (1000000000000000 < p3) = false by simpa using h4, cond_false]
    have hrv := relieve_rv (p0 := p0) (p1 := p1) (p2 := p2) (p3 := p3) (by omega) (by omega) (by omega) (by omega)
    have hout : (s_qos_Relieve p0 p1 p2 p3).length ≤ p0.length := by
      rw [hrv, ← ranked_len p0 p1]
      exact rv_len _ _ _
    rw [rank_len, show (((p0.length : Nat) : Int) == ((p0.length : Nat) : Int)) = true by simp, cond_true,
      show decide (((p0.length : Nat) : Int) < (((s_qos_Relieve p0 p1 p2 p3).length : Nat) : Int)) = false by simp; omega, cond_false]
    have h := relief_b0 (p2 := p2) F (show 0 ≤ p3 by omega) (by omega) hout (s_qos_ranked p0 p1) [] (List.replicate p0.length false) p2 rfl (by simp)
      (fun j hj h => by rw [List.getD_eq_getElem?_getD, List.getElem?_replicate] at h; simp [hj] at h) (by rw [hrv]; rfl) (fun _ => Nat.zero_le _) (by unfold Lim; omega)
    rw [← rank1] at h
    change match l_law51_QosRelief_b0 p0 p1 p2 p3 (s_qos_Rank p0 p1) 0 (List.replicate p0.length false) p2 with
      | .k0 _ y => y ≤ p3 ∨ (s_qos_Relieve p0 p1 p2 p3).length = p0.length
      | _ => False at h
    cases e : l_law51_QosRelief_b0 p0 p1 p2 p3 (s_qos_Rank p0 p1) 0 (List.replicate p0.length false) p2 with
    | k0 y z =>
      rw [e] at h
      simp only at h ⊢
      by_cases g : z ≤ p3
      · rw [show decide (z ≤ p3) = true by simpa using g]; rfl
      · rw [show decide (z ≤ p3) = false by simpa using g, cond_false]
        rcases h with h | h
        · exact absurd h g
        · rw [h]; simp
    | k1 => rw [e] at h; exact h.elim
    | k2 => rw [e] at h; exact h.elim
theorem keyH {p0 : List Pod} (h : okL 480 Pod_ok p0) (k : ByteArray) : H_law51_index p0 k := ⟨⟨by have := h.1; omega, fun x hx => (key1 _ (h.2 x hx).1).1, trivial⟩, trivial⟩
theorem fitsH {p0 : List Pod} {p1 : List Int} (h : okL 480 Pod_ok p0) : H_law51_fits p0 p1 := by
  refine ⟨fun e => ?_, trivial⟩
  have e := eq_of_beq e
  have hx : ∀ (i : Nat) (x : Pod), p0[i]? = some x → i < p1.length := fun i x hx => by have := (List.getElem?_eq_some_iff.1 hx).1; omega
  exact ⟨by have := h.1; omega, fun x hx => (key1 _ (h.2 x hx).1).1, fun x _ => keyH h _, hx, fun i x e _ => hx i x e, trivial⟩
theorem relief_holds (p0 : List Pod) (p1 : List Int) (p2 p3 : Int) (k0 : okL 480 Pod_ok p0) : H_law51_QosRelief p0 p1 p2 p3 ∧ s_law51_QosRelief p0 p1 p2 p3 = true := by
  refine ⟨⟨fitsH k0, fun e _ _ _ _ => rankH p1 k0 (fit_of e).len, fun e _ _ _ _ => relieveH p1 p2 p3 k0 (fit_of e).len, fun e _ _ _ _ _ _ => by have := (fit_of e).len; omega, fun e a1 a2 a3 a4 _ _ => ?_, trivial⟩, relief_true p0 p1 p2 p3⟩
  have F := fit_of e
  have a1 := of_decide_eq_false a1
  have a2 := of_decide_eq_false a2
  have a3 := of_decide_eq_false a3
  have a4 := of_decide_eq_false a4
  have hin : ∀ {x : ByteArray}, decide (s_law51_index p0 x < 0) = false → s_law51_index p0 x < (p0.length : Int) := by
    intro x hx
    have hx := of_decide_eq_false hx
    have : ((s_law51_index p0 x).toNat : Int) = s_law51_index p0 x := by omega
    have := (index_at this.symm).1
    omega
  have hin0 : ∀ {x : ByteArray}, decide (s_law51_index p0 x < 0) = false → 0 ≤ s_law51_index p0 x := fun hx => by
    have := of_decide_eq_false hx
    omega
  have hs := F.same
  refine ⟨by rw [rank_len]; have := F.len; omega, fun x _ => keyH k0 x, fun x _ h => hin0 h, fun x _ h => hin h, ?_, ?_, ?_, ?_, ?_, ?_, ?_, ?_, ?_, trivial⟩
  · intro i v1 v2 x _ hl h
    have := hin h
    have := hin0 h
    omega
  · intro i v1 v2 x _ hl h _
    have := hin h
    have := hin0 h
    omega
  · intro i v1 v2 x _ hl h _
    have := hin h
    have := hin0 h
    omega
  · intro i v1 v2 x _ hl h _
    exact hin0 h
  · intro i v1 v2 x _ hl h _
    exact hin h
  · intro i v1 v2 x _ hl h _ _
    omega
  · intro i v1 v2 x _ hl h _ g
    have := of_decide_eq_false g
    omega
  · intro i v1 v2 x _ hl h _ _ _ _
    exact hin0 h
  · intro i v1 v2 x _ hl h _ _ _ _
    have := hin h
    have := hin0 h
    omega
end Go.Proofs.Ytnicmdfafihmpaa
