/- The law QosClass in plain words. -/
import Derived.Test.YtnicmdfafihmpaaClass
namespace Go.Proofs.Ytnicmdfafihmpaa
open Go.Pv

def cl (n : Int) : Int := if n < 0 then 0 else if 1000000000000000 < n then 1000000000000000 else n
theorem cl_spec (n : Int) : (n < 0 ∧ cl n = 0) ∨ (1000000000000000 < n ∧ cl n = 1000000000000000) ∨ (0 ≤ n ∧ n ≤ 1000000000000000 ∧ cl n = n) := by
  unfold cl
  split
  · omega
  · split <;> omega
theorem clamp1 (n : Int) : s_qos_clamp n = cl n := by
  unfold s_qos_clamp cl mn mx
  repeat' split
  all_goals omega
theorem clamp2 (n : Int) : s_ref51_limit n = cl n := by
  unfold s_ref51_limit cl mn mx
  repeat' split
  all_goals omega
def gu (x : Container) : Bool := !(cl x.request.cPU == 0) && !(cl x.request.memory == 0) && (cl x.request.cPU == cl x.limit.cPU) && (cl x.request.memory == cl x.limit.memory)
def po (x : Container) : Bool := !((cl x.request.cPU == 0) && (cl x.request.memory == 0) && (cl x.limit.cPU == 0) && (cl x.limit.memory == 0))
theorem sum4 (a b c d : Int) : decide (0 < w64 (w64 (w64 (cl a + cl b) + cl c) + cl d)) = !((cl a == 0) && (cl b == 0) && (cl c == 0) && (cl d == 0)) := by
  have h1 := cl_spec a
  have h2 := cl_spec b
  have h3 := cl_spec c
  have h4 := cl_spec d
  rw [w64_of (n := cl a + cl b) (by omega), w64_of (n := cl a + cl b + cl c) (by omega), w64_of (n := cl a + cl b + cl c + cl d) (by omega)]
  rw [Bool.eq_iff_iff]
  simp
  omega
theorem pos1 (n : Int) : decide (0 < cl n) = !(cl n == 0) := by
  have := cl_spec n
  rw [Bool.eq_iff_iff]
  simp
  omega
theorem qb (p : PodSpec) : ∀ (l : List Container) (i : Nat) (c : Int) (a : Bool), l_qos_Class_b0 p l i c a = (bif l.all gu then c else 1, a || l.any po)
  | [], _, _, _ => by simp [l_qos_Class_b0]
  | x :: r, i, c, a => by
    simp only [l_qos_Class_b0, qb p r, List.all_cons, List.any_cons, clamp1, sum4]
    unfold gu po
    generalize (cl x.request.cPU == 0) = b1
    generalize (cl x.request.memory == 0) = b2
    generalize (cl x.request.cPU == cl x.limit.cPU) = b3
    generalize (cl x.request.memory == cl x.limit.memory) = b4
    generalize (cl x.limit.cPU == 0) = b5
    generalize (cl x.limit.memory == 0) = b6
    cases b1 <;> cases b2 <;> cases b3 <;> cases b4 <;> cases a <;> simp
theorem rb (p : PodSpec) : ∀ (l : List Container) (i : Nat) (a n : Bool), l_ref51_Class_b0 p l i a n = (a && l.all gu, n && !(l.any po))
  | [], _, _, _ => by simp [l_ref51_Class_b0]
  | x :: r, i, a, n => by
    simp only [l_ref51_Class_b0, rb p r, List.all_cons, List.any_cons, clamp2, pos1]
    unfold gu po
    generalize (cl x.request.cPU == 0) = b1
    generalize (cl x.request.memory == 0) = b2
    generalize (cl x.request.cPU == cl x.limit.cPU) = b3
    generalize (cl x.request.memory == cl x.limit.memory) = b4
    generalize (cl x.limit.cPU == 0) = b5
    generalize (cl x.limit.memory == 0) = b6
    cases a <;> cases n <;> cases b1 <;> cases b2 <;> cases b3 <;> cases b4 <;> cases b5 <;> simp
theorem gu_po {x : Container} (h : gu x = true) : po x = true := by
  unfold gu at h
  unfold po
  simp only [Bool.and_eq_true, Bool.not_eq_true'] at h
  rw [h.1.1.1]
  rfl
def kl (l : List Container) : Int := bif l.any po then (bif l.all gu then 2 else 1) else 0
theorem class1 (p : PodSpec) : s_qos_Class p = kl p.containers := by
  unfold s_qos_Class kl
  simp [qb]
theorem class2 (p : PodSpec) : s_ref51_Class p = kl p.containers := by
  unfold s_ref51_Class kl
  rw [rb]
  cases hp : p.containers with
  | nil => rfl
  | cons x r =>
    simp only [Bool.true_and]
    have h0 : decide (0 < ((x :: r).length : Int)) = true := by simp
    rw [h0, Bool.true_and]
    cases ha : (x :: r).all gu with
    | false => cases (x :: r).any po <;> rfl
    | true =>
      have : (x :: r).any po = true := by
        simp only [List.all_cons, Bool.and_eq_true] at ha
        simp [gu_po ha.1]
      rw [this]
      rfl
theorem rev_b0 (p : PodSpec) : ∀ (k : Nat) (v : List Container) (i : Int), -1 ≤ i → i < (p.containers.length : Int) → (i + 1).toNat < k → l_law51_QosClass_b0 p k v i = v ++ (p.containers.take (i + 1).toNat).reverse
  | 0, _, _, _, _, h => absurd h (Nat.not_lt_zero _)
  | k + 1, v, i, h1, h2, h3 => by
    rw [l_law51_QosClass_b0]
    by_cases h : 0 ≤ i
    · rw [show decide (0 ≤ i) = true by simpa using h, cond_true, rev_b0 p k _ (i - 1) (by omega) (by omega) (by omega)]
      have e : (i + 1).toNat = i.toNat + 1 := by omega
      have e2 : (i - 1 + 1).toNat = i.toNat := by omega
      have hl : i.toNat < p.containers.length := by omega
      rw [e, e2, ← List.take_append_getElem hl, List.getD_eq_getElem?_getD, List.getElem?_eq_getElem hl, List.reverse_append, List.append_assoc]
      rfl
    · rw [show decide (0 ≤ i) = false by simpa using h, cond_false]
      have e : (i + 1).toNat = 0 := by omega
      rw [e]
      simp
theorem class_true (p : PodSpec) : s_law51_QosClass p = true := by
  unfold s_law51_QosClass
  by_cases h : 50 < (p.containers.length : Int)
  · rw [show decide (50 < (p.containers.length : Int)) = true by simpa using h]
    rfl
  · rw [show decide (50 < (p.containers.length : Int)) = false by simpa using h, cond_false, rev_b0 p _ [] _ (by omega) (by omega) (by omega)]
    simp only [class1, class2, beq_self_eq_true, cond_true]
    have e : ((p.containers.length : Int) - 1 + 1).toNat = p.containers.length := by omega
    rw [e, List.take_length, List.nil_append]
    unfold kl
    rw [List.any_reverse, List.all_reverse]
    simp
theorem class_holds (p : PodSpec) (h : PodSpec_ok p) : H_law51_QosClass p ∧ s_law51_QosClass p = true := by
  have hl : p.containers.length ≤ 4611686018427387904 := by
    have := h.2.2.2.2.1.1
    omega
  refine ⟨⟨⟨⟨hl, trivial⟩, trivial⟩, ⟨⟨hl, trivial⟩, trivial⟩, ⟨⟨?_, trivial⟩, trivial⟩, trivial⟩, class_true p⟩
  show List.length (l_law51_QosClass_b0 p _ [] _) ≤ _
  rw [rev_b0 p _ [] _ (by omega) (by omega) (by omega)]
  simp
  omega
end Go.Proofs.Ytnicmdfafihmpaa
