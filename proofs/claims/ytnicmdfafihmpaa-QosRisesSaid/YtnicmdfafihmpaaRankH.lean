/- What ranking demands holds of every argument. -/
import Derived.Test.YtnicmdfafihmpaaRankPure
namespace Go.Proofs.Ytnicmdfafihmpaa
open Go.Pv Go.Pv.Srt

theorem key1 (m : Meta) (h : Meta_ok m) : H_meta_KeyOf m ∧ H_ref13_KeyOf m := by
  obtain ⟨h1, h2, h3, -⟩ := h
  unfold okS at h1 h2 h3
  unfold H_meta_KeyOf H_meta_Key H_ref13_KeyOf H_ref13_Key
  simp only [ByteArray.size_append]
  have e : ByteArray.size (⟨#[47]⟩ : ByteArray) = 1 := rfl
  rw [e]
  exact ⟨⟨⟨by omega, by omega, by omega, by omega, trivial⟩, trivial⟩, ⟨⟨by omega, by omega, by omega, by omega, trivial⟩, trivial⟩⟩
theorem req1 (p : PodSpec) (h : PodSpec_ok p) : H_resource_Requests p ∧ H_ref02_Requests p := by
  have hl := h.2.2.2.2.1.1
  exact ⟨⟨⟨by omega, trivial⟩, trivial⟩, ⟨⟨by omega, trivial⟩, trivial⟩⟩
theorem getD_ok {p0 : List Pod} (h : okL 480 Pod_ok p0) {i : Nat} (hi : i < p0.length) : Pod_ok (p0.getD i zp) := by
  rw [List.getD_eq_getElem?_getD, List.getElem?_eq_getElem hi]
  exact h.2 _ (List.getElem_mem hi)
theorem usage1 (p1 : List Int) (i : Int) (h : 0 ≤ i) : H_ref51_usage p1 i := ⟨h, fun e => by have := of_decide_eq_true e; omega, trivial⟩
theorem before1 {p0 : List Pod} (p1 : List Int) (h : okL 480 Pod_ok p0) (i k : Int) (hi : 0 ≤ i) (hk : 0 ≤ k) (hi2 : i.toNat < p0.length) (hk2 : k.toNat < p0.length) : H_ref51_before p0 p1 i k :=
  have a := getD_ok h hi2
  have b := getD_ok h hk2
  ⟨hi, hi2, hk, hk2, usage1 p1 i hi, (req1 _ a.2.1).2, usage1 p1 k hk, (req1 _ b.2.1).2, (key1 _ a.1).2, (key1 _ b.1).2, trivial⟩
theorem orderH {p0 : List Pod} (p1 : List Int) (h : okL 480 Pod_ok p0) (hl : p0.length ≤ 40) : H_ref51_order p0 p1 := by
  have hx : ∀ {i : Nat} {x : Pod}, p0[i]? = some x → i < p0.length := fun e => (List.getElem?_eq_some_iff.1 e).1
  refine ⟨⟨by omega, fun i v x hi hv hm => ⟨fun k _ _ _ => before1 p1 h _ _ (by omega) ?_ (by have := hx hi; simpa using this) ?_, trivial⟩, fun i v x hi hv hm _ y hy => ?_, fun i v x hi hv hm _ y hy => ?_, trivial⟩, by simp, trivial⟩
  · rw [List.getD_eq_getElem?_getD]
    cases e : v[(k - 1).toNat]? with
    | none => simp
    | some y => exact (hm y (List.mem_of_getElem? e)).1
  · rw [List.getD_eq_getElem?_getD]
    have := hx hi
    cases e : v[(k - 1).toNat]? with
    | none => simp; omega
    | some y =>
      have := hm y (List.mem_of_getElem? e)
      simp
      omega
  · rcases List.mem_append.1 hy with e | e
    · rw [List.mem_singleton.1 e]
      omega
    · have := hm y (List.mem_of_mem_drop (List.mem_of_mem_take e))
      omega
  · rcases List.mem_append.1 hy with e | e
    · rcases List.mem_append.1 e with e | e
      · have := hm y (List.mem_of_mem_take e)
        omega
      · rw [List.mem_singleton.1 e]
        omega
    · have := hm y (List.mem_of_mem_drop (List.mem_of_mem_take e))
      omega
theorem insR_len {α : Type} (c : α → α → Int) (x : α) : ∀ R : List α, (insR c x R).length = R.length + 1
  | [] => rfl
  | s :: t => by
    rw [insR]
    cases decide (c x s < 0) with
    | true => rw [cond_true, List.length_cons, insR_len c x t, List.length_cons]
    | false => rfl
theorem fold_len {α : Type} (c : α → α → Int) : ∀ (l R : List α), (l.foldl (fun r x => insR c x r) R).length = R.length + l.length
  | [], _ => rfl
  | x :: l, R => by rw [List.foldl_cons, fold_len c l, insR_len, List.length_cons]; omega
theorem isort_len {α : Type} (c : α → α → Int) (l : List α) : (isort c l).length = l.length := by
  unfold isort
  rw [List.length_reverse, fold_len]
  simp
theorem fold_mem {α : Type} (c : α → α → Int) {y : α} : ∀ (l R : List α), y ∈ l.foldl (fun r x => insR c x r) R → y ∈ R ∨ y ∈ l
  | [], _, h => Or.inl h
  | x :: l, R, h => by
    rcases fold_mem c l _ h with e | e
    · rcases insR_mem e with e | e
      · exact Or.inr (by rw [e]; exact List.mem_cons_self)
      · exact Or.inl e
    · exact Or.inr (List.mem_cons_of_mem _ e)
theorem isort_mem {α : Type} (c : α → α → Int) {l : List α} {y : α} (h : y ∈ isort c l) : y ∈ l := by
  unfold isort at h
  rcases fold_mem c l [] (List.mem_reverse.1 h) with e | e
  · cases e
  · exact e
theorem order_len (p0 : List Pod) (p1 : List Int) : (s_ref51_order p0 p1).length = p0.length := by rw [order_isort, isort_len]; simp
theorem order_mem {p0 : List Pod} {p1 : List Int} {y : Int} (h : y ∈ s_ref51_order p0 p1) : 0 ≤ y ∧ y.toNat < p0.length := by
  rw [order_isort] at h
  obtain ⟨n, hn, rfl⟩ := List.mem_map.1 (isort_mem _ h)
  rw [List.mem_range'_1] at hn
  exact ⟨by omega, by omega⟩
theorem ranked_len (p0 : List Pod) (p1 : List Int) : (s_qos_ranked p0 p1).length = p0.length := by rw [ranked_eq, isort_len]; simp [ents]
theorem rank_len (p0 : List Pod) (p1 : List Int) : (s_qos_Rank p0 p1).length = p0.length := by rw [rank1, List.length_map, ranked_len]
theorem rankedH {p0 : List Pod} (p1 : List Int) (h : okL 480 Pod_ok p0) (hl : p0.length ≤ 40) : H_qos_ranked p0 p1 := by
  refine ⟨⟨by omega, fun x hx => (key1 _ (h.2 x hx).1).1, fun x hx => (req1 _ (h.2 x hx).2.1).1, trivial⟩, ?_, trivial⟩
  rw [ranked_b0 p0 p1 p0 0 [] rfl]
  simp
  omega
theorem rankH {p0 : List Pod} (p1 : List Int) (h : okL 480 Pod_ok p0) (hl : p0.length ≤ 40) : H_qos_Rank p0 p1 := ⟨rankedH p1 h hl, ⟨by rw [ranked_len]; omega, trivial⟩, trivial⟩
theorem relieveH {p0 : List Pod} (p1 : List Int) (p2 p3 : Int) (h : okL 480 Pod_ok p0) (hl : p0.length ≤ 40) : H_qos_Relieve p0 p1 p2 p3 := ⟨rankedH p1 h hl, ⟨by rw [ranked_len]; omega, trivial⟩, trivial⟩
theorem rrankH {p0 : List Pod} (p1 : List Int) (h : okL 480 Pod_ok p0) (hl : p0.length ≤ 40) : H_ref51_Rank p0 p1 :=
  ⟨orderH p1 h hl, ⟨by rw [order_len]; omega, fun _ hx => (order_mem hx).1, fun _ hx => (order_mem hx).2, fun _ hx => (key1 _ (getD_ok h (order_mem hx).2).1).2, trivial⟩, trivial⟩
theorem rrelieveH {p0 : List Pod} (p1 : List Int) (p2 p3 : Int) (h : okL 480 Pod_ok p0) (hl : p0.length ≤ 40) : H_ref51_Relieve p0 p1 p2 p3 :=
  ⟨orderH p1 h hl, ⟨by rw [order_len]; omega, fun _ hx => (order_mem hx).1, fun _ hx => (order_mem hx).2, fun _ hx => (key1 _ (getD_ok h (order_mem hx).2).1).2, fun _ hx => usage1 p1 _ (order_mem hx).1, trivial⟩, trivial⟩
theorem stringsH (a : List ByteArray) (h : a.length ≤ 4611686018427387904) : H_ref51_Strings a a :=
  ⟨fun _ => ⟨h, fun _ _ hx => (List.getElem?_eq_some_iff.1 hx).1, trivial⟩, trivial⟩
def lenR : R_qos_Relieve_b0 → Nat := fun r => (fin1 r).length
theorem relieve_len (p0 : List Pod) (p1 : List Int) (p3 : Int) : ∀ (l : List Int) (i : Nat) (v : List ByteArray) (t : Int), (l_ref51_Relieve_b0 p0 p1 p3 l i v t).length ≤ v.length + l.length
  | [], _, v, _ => by rw [l_ref51_Relieve_b0]; simp
  | x :: l, i, v, t => by
    rw [l_ref51_Relieve_b0]
    cases decide (s_ref51_limit p3 < t) with
    | true =>
      rw [cond_true]
      refine Nat.le_trans (relieve_len p0 p1 p3 l _ _ _) ?_
      simp
      omega
    | false => rw [cond_false]; exact Nat.le_add_right _ _
end Go.Proofs.Ytnicmdfafihmpaa
