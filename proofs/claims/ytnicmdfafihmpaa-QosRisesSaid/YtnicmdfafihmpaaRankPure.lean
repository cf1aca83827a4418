/- Ranking in plain words: the program's and the reference's agree. -/
import Derived.Test.YtnicmdfafihmpaaOrder
namespace Go.Proofs.Ytnicmdfafihmpaa
open Go.Pv Go.Pv.Srt

def cl (n : Int) : Int := if n < 0 then 0 else if 1000000000000000 < n then 1000000000000000 else n
theorem cl_spec (n : Int) : (n < 0 ∧ cl n = 0) ∨ (1000000000000000 < n ∧ cl n = 1000000000000000) ∨ (0 ≤ n ∧ n ≤ 1000000000000000 ∧ cl n = n) := by
  unfold cl
  split
  · omega
  · split <;> omega
theorem clamp1 (n : Int) : s_qos_clamp n = cl n := by
  unfold s_qos_clamp cl mn mx
  repeat' split
  all_goals omega
theorem clamp2 (n : Int) : s_ref51_limit n = cl n := by
  unfold s_ref51_limit cl mn mx
  repeat' split
  all_goals omega
theorem clamp3 (n : Int) : s_resource_clamp n = cl n := by
  unfold s_resource_clamp cl mn mx
  repeat' split
  all_goals omega
theorem clamp4 (n : Int) : s_ref02_clamp n = cl n := by
  unfold s_ref02_clamp cl mn mx
  repeat' split
  all_goals omega
theorem add_eq (a b : Resources) : s_resource_Add a b = s_ref02_Add a b := by
  simp only [s_resource_Add, s_resource_each_f41, s_resource_Add_1, s_ref02_Add, clamp3, clamp4]
theorem req_b0 (p : PodSpec) : ∀ (l : List Container) (i : Nat) (a : Resources), l_resource_Requests_b0 p l i a = l_ref02_Requests_b0 p l i a
  | [], _, _ => rfl
  | x :: l, i, a => by rw [l_resource_Requests_b0, l_ref02_Requests_b0, req_b0 p l, add_eq]
theorem req_eq (p : PodSpec) : s_resource_Requests p = s_ref02_Requests p := req_b0 p _ _ _
theorem lt_cmp : ∀ a b : List UInt8, Op.bytesLess a b = decide (cmpL a b < 0)
  | [], [] => rfl
  | [], _ :: _ => rfl
  | _ :: _, [] => rfl
  | x :: a, y :: b => by
    have ih := lt_cmp a b
    rw [Op.bytesLess, cmpL, ih]
    by_cases h : x < y
    · simp [h]
    · by_cases h2 : y < x
      · have h3 : ¬ x = y := fun e => h (e ▸ h2)
        simp [h, h2, h3]
      · have h3 : x = y := by
          rw [UInt8.lt_iff_toNat_lt] at h h2
          exact UInt8.toNat_inj.1 (by omega)
        simp [h3]
theorem sLt_cmp (a b : ByteArray) : sLt a b = decide (sCmp a b < 0) := lt_cmp _ _
abbrev zp : Pod := Pod.mk (Meta.mk (⟨#[]⟩ : ByteArray) (⟨#[]⟩ : ByteArray) (⟨#[]⟩ : ByteArray) 0 0 0 0 false 0 [] [] [] []) (PodSpec.mk (⟨#[]⟩ : ByteArray) 0 0 0 [] [] [] [] [] []) (PodStatus.mk 0 false 0 0 0 [] 0 (⟨#[]⟩ : ByteArray) (⟨#[]⟩ : ByteArray))
def en (p0 : List Pod) (p1 : List Int) (i : Int) : Entry :=
  ⟨s_ref13_KeyOf (p0.getD i.toNat zp).meta_, (p0.getD i.toNat zp).spec.priority, s_ref51_usage p1 i, w64 (s_ref51_usage p1 i - (s_ref02_Requests (p0.getD i.toNat zp).spec).memory)⟩
theorem bif4 (x y p q : Int) (L : Bool) : (bif (decide (0 < x) == decide (0 < y)) then (bif p == q then (bif x == y then L else decide (y < x)) else decide (p < q)) else decide (0 < x)) = true ↔
    (0 < x ∧ ¬ 0 < y) ∨ ((0 < x ↔ 0 < y) ∧ (p < q ∨ (p = q ∧ (y < x ∨ (x = y ∧ L = true))))) := by
  by_cases hx : 0 < x <;> by_cases hy : 0 < y <;> by_cases hp : p = q <;> by_cases he : x = y <;> simp [hx, hy, hp, he] <;> omega
theorem before_en (p0 : List Pod) (p1 : List Int) (i k : Int) : s_ref51_before p0 p1 i k = decide (s_qos_ranked_1 (en p0 p1 i) (en p0 p1 k) < 0) := by
  rw [Bool.eq_iff_iff, decide_eq_true_iff, rk]
  unfold s_ref51_before
  rw [bif4, sLt_cmp, decide_eq_true_iff]
  rfl
theorem ranked_b0 (p0 : List Pod) (p1 : List Int) : ∀ (l : List Pod) (i : Nat) (v : List Entry), List.drop i p0 = l → l_qos_ranked_b0 p0 p1 l i v = v ++ (List.range' i l.length).map fun (n : Nat) => en p0 p1 (n : Int)
  | [], _, v, _ => by simp [l_qos_ranked_b0]
  | x :: l, i, v, h => by
    obtain ⟨h1, h2, h3⟩ := drop_get h
    have e : p0.getD i zp = x := by rw [List.getD_eq_getElem?_getD, h1]; rfl
    have ee : en p0 p1 (i : Int) = Entry.mk (s_meta_KeyOf x.meta_) x.spec.priority (s_ref51_usage p1 (i : Int)) (w64 (s_ref51_usage p1 (i : Int) - (s_resource_Requests x.spec).memory)) := by
      unfold en
      rw [Int.toNat_natCast, e, req_eq]
      rfl
    rw [l_qos_ranked_b0, List.length_cons, List.range'_succ, List.map_cons, ee]
    unfold s_ref51_usage
    cases decide ((i : Int) < ((List.length p1) : Int)) with
    | true =>
      rw [cond_true, cond_true, ranked_b0 p0 p1 l (i + 1) _ h3, clamp1, clamp2, Int.toNat_natCast]
      simp
    | false =>
      rw [cond_false, cond_false, ranked_b0 p0 p1 l (i + 1) _ h3]
      simp
def ents (p0 : List Pod) (p1 : List Int) : List Entry := (List.range' 0 p0.length).map fun (n : Nat) => en p0 p1 (n : Int)
theorem ranked_eq (p0 : List Pod) (p1 : List Int) : s_qos_ranked p0 p1 = isort s_qos_ranked_1 (ents p0 p1) := by
  unfold s_qos_ranked
  rw [q_sort_f29 tot, ranked_b0 p0 p1 p0 0 [] rfl]
  rfl
theorem order_en (p0 : List Pod) (p1 : List Int) : (s_ref51_order p0 p1).map (en p0 p1) = isort s_qos_ranked_1 (ents p0 p1) := by
  rw [order_isort, isort_map (en p0 p1) (cb p0 p1) s_qos_ranked_1 (fun _ => True) (fun x y _ _ => by rw [cb_lt, before_en]) _ (fun _ _ => trivial), List.map_map]
  rfl
theorem order_ranked (p0 : List Pod) (p1 : List Int) : (s_ref51_order p0 p1).map (en p0 p1) = s_qos_ranked p0 p1 := by rw [order_en, ranked_eq]
theorem rank1_b0 (p0 : List Pod) (p1 : List Int) : ∀ (l : List Entry) (i : Nat) (v : List ByteArray), l_qos_Rank_b0 p0 p1 l i v = v ++ l.map fun x => x.key
  | [], _, v => by simp [l_qos_Rank_b0]
  | x :: l, i, v => by rw [l_qos_Rank_b0, rank1_b0 p0 p1 l]; simp
theorem rank1 (p0 : List Pod) (p1 : List Int) : s_qos_Rank p0 p1 = (s_qos_ranked p0 p1).map fun x => x.key := by
  unfold s_qos_Rank
  rw [rank1_b0, List.nil_append]
theorem rank2_b0 (p0 : List Pod) (p1 : List Int) : ∀ (l : List Int) (i : Nat) (v : List ByteArray), l_ref51_Rank_b0 p0 p1 l i v = v ++ (l.map (en p0 p1)).map fun x => x.key
  | [], _, v => by simp [l_ref51_Rank_b0]
  | x :: l, i, v => by rw [l_ref51_Rank_b0, rank2_b0 p0 p1 l, List.append_assoc]; rfl
theorem rank_eq (p0 : List Pod) (p1 : List Int) : s_qos_Rank p0 p1 = s_ref51_Rank p0 p1 := by
  unfold s_ref51_Rank
  rw [rank1, rank2_b0, order_ranked, List.nil_append]
def fin1 : R_qos_Relieve_b0 → List ByteArray
  | .k0 y => y
  | .k1 y _ => y
theorem relieve_b0 (p0 : List Pod) (p1 : List Int) (p3 : Int) : ∀ (l : List Int) (i : Nat) (v : List ByteArray) (t : Int), fin1 (l_qos_Relieve_b0 p0 p1 p3 (l.map (en p0 p1)) i v t) = l_ref51_Relieve_b0 p0 p1 p3 l i v t
  | [], _, _, _ => rfl
  | x :: l, i, v, t => by
    rw [List.map_cons, l_qos_Relieve_b0, l_ref51_Relieve_b0, clamp1, clamp2]
    by_cases h : t ≤ cl p3
    · rw [show decide (t ≤ cl p3) = true by simpa using h, show decide (cl p3 < t) = false by simpa using h]
      rfl
    · rw [show decide (t ≤ cl p3) = false by simpa using h, show decide (cl p3 < t) = true by simp; omega, cond_false, cond_true, relieve_b0 p0 p1 p3 l]
      rfl
theorem relieve_eq (p0 : List Pod) (p1 : List Int) (p2 p3 : Int) : s_qos_Relieve p0 p1 p2 p3 = s_ref51_Relieve p0 p1 p2 p3 := by
  unfold s_ref51_Relieve
  rw [← relieve_b0, order_ranked, clamp2, ← clamp1]
  unfold s_qos_Relieve fin1
  cases l_qos_Relieve_b0 p0 p1 p3 (s_qos_ranked p0 p1) 0 [] (s_qos_clamp p2) <;> rfl
theorem same_b0 (a : List ByteArray) : ∀ (l : List ByteArray) (i : Nat), List.drop i a = l → l_ref51_Strings_b0 a a l i = .k0
  | [], _, _ => rfl
  | x :: l, i, h => by
    obtain ⟨h1, h2, h3⟩ := drop_get h
    rw [l_ref51_Strings_b0, List.getD_eq_getElem?_getD, h1, Option.getD_some, sEq_self, cond_true, same_b0 a l (i + 1) h3]
theorem same (a : List ByteArray) : s_ref51_Strings a a = true := by
  unfold s_ref51_Strings
  rw [same_b0 a a 0 rfl]
  simp
def s_law51_QosRanks_pure (p0 : List Pod) (p1 : List Int) (p2 p3 : Int) : Bool := s_ref51_Strings (s_qos_Rank p0 p1) (s_ref51_Rank p0 p1) && s_ref51_Strings (s_qos_Relieve p0 p1 p2 p3) (s_ref51_Relieve p0 p1 p2 p3)
theorem ranks_true (p0 : List Pod) (p1 : List Int) (p2 p3 : Int) : s_law51_QosRanks_pure p0 p1 p2 p3 = true := by
  unfold s_law51_QosRanks_pure
  rw [rank_eq, relieve_eq, same, same]
  simp
end Go.Proofs.Ytnicmdfafihmpaa
