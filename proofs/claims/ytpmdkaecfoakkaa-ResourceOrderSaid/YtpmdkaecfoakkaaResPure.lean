/- The laws of the chapter on resources, in plain words. -/
import Derived.Test.YtpmdkaecfoakkaaRes
namespace Go.Proofs.Ytpmdkaecfoakkaa
open Go.Pv

def cl (n : Int) : Int := if n < 0 then 0 else if 1000000000000000 < n then 1000000000000000 else n
theorem cl_spec (n : Int) : (n < 0 ∧ cl n = 0) ∨ (1000000000000000 < n ∧ cl n = 1000000000000000) ∨ (0 ≤ n ∧ n ≤ 1000000000000000 ∧ cl n = n) := by
  unfold cl
  split
  · omega
  · split <;> omega
theorem clamp1 (n : Int) : s_resource_clamp n = cl n := by
  unfold s_resource_clamp cl mn mx
  repeat' split
  all_goals omega
theorem clamp2 (n : Int) : s_ref02_clamp n = cl n := by
  unfold s_ref02_clamp cl mn mx
  repeat' split
  all_goals omega
theorem w64_add (a b : Int) : w64 (cl a + cl b) = cl a + cl b := by
  have := cl_spec a
  have := cl_spec b
  exact w64_of (by omega)
theorem w64_sub (a b : Int) : w64 (cl a - cl b) = cl a - cl b := by
  have := cl_spec a
  have := cl_spec b
  exact w64_of (by omega)
theorem add1 (a b : Resources) : s_resource_Add a b = ⟨cl (cl a.cPU + cl b.cPU), cl (cl a.memory + cl b.memory), cl (cl a.disk + cl b.disk)⟩ := by
  simp only [s_resource_Add, s_resource_each_f36, s_resource_Add_1, clamp1, w64_add]
theorem add2 (a b : Resources) : s_ref02_Add a b = ⟨cl (cl a.cPU + cl b.cPU), cl (cl a.memory + cl b.memory), cl (cl a.disk + cl b.disk)⟩ := by
  simp only [s_ref02_Add, clamp2, w64_add]
theorem sub1 (a b : Resources) : s_resource_Sub a b = ⟨cl (cl a.cPU - cl b.cPU), cl (cl a.memory - cl b.memory), cl (cl a.disk - cl b.disk)⟩ := by
  simp only [s_resource_Sub, s_resource_each_f39, s_resource_Sub_1, clamp1, w64_sub]
theorem sub2 (a b : Resources) : s_ref02_Sub a b = ⟨cl (cl a.cPU - cl b.cPU), cl (cl a.memory - cl b.memory), cl (cl a.disk - cl b.disk)⟩ := by
  simp only [s_ref02_Sub, clamp2, w64_sub]
theorem diff0 (a b : Int) : (cl (cl a - cl b) = 0) ↔ cl a ≤ cl b := by
  have := cl_spec a
  have := cl_spec b
  have := cl_spec (cl a - cl b)
  omega
theorem fits1 (a b : Resources) : s_resource_Fits a b = decide (cl a.cPU ≤ cl b.cPU ∧ cl a.memory ≤ cl b.memory ∧ cl a.disk ≤ cl b.disk) := by
  rw [Bool.eq_iff_iff]
  simp only [s_resource_Fits, sub1, Bool.and_true, Bool.and_eq_true, beq_iff_eq, diff0, decide_eq_true_eq]
theorem fits2 (a b : Resources) : s_ref02_Fits a b = decide (cl a.cPU ≤ cl b.cPU ∧ cl a.memory ≤ cl b.memory ∧ cl a.disk ≤ cl b.disk) := by
  simp only [s_ref02_Fits, clamp2]
  rw [Bool.eq_iff_iff]
  cases h0 : decide (cl a.cPU ≤ cl b.cPU) <;> cases h1 : decide (cl a.memory ≤ cl b.memory) <;> simp_all <;> omega

theorem resourceSums (a b : Resources) : s_law02_ResourceSums a b = true := by
  simp [s_law02_ResourceSums, add1, add2, sub1, sub2, fits1, fits2]

theorem cl_add_sub (a b : Int) (h : cl (cl a + cl b) < 1000000000000000) : cl (cl (cl (cl a + cl b)) - cl b) = cl (cl a + cl 0) := by
  have := cl_spec a
  have := cl_spec b
  have := cl_spec (cl a + cl b)
  have := cl_spec (cl (cl a + cl b))
  have := cl_spec (cl (cl (cl a + cl b)) - cl b)
  have := cl_spec 0
  have := cl_spec (cl a + cl 0)
  omega
theorem cl_idem (a : Int) : cl (cl a) = cl a := by
  have := cl_spec a
  have := cl_spec (cl a)
  omega
theorem cl_le_add (a b : Int) : cl a ≤ cl (cl a + cl b) := by
  have := cl_spec a
  have := cl_spec b
  have := cl_spec (cl a + cl b)
  omega
theorem cl_add_comm (a b : Int) : cl (cl a + cl b) = cl (cl b + cl a) := by rw [Int.add_comm]
theorem cl_range (n : Int) : 0 ≤ cl n ∧ cl n ≤ 1000000000000000 := by
  have := cl_spec n
  omega
theorem cl_assoc (a b c : Int) : cl (cl (cl a + cl b) + cl c) = cl (cl a + cl (cl b + cl c)) := by
  have := cl_spec a
  have := cl_spec b
  have := cl_spec c
  have := cl_spec (cl a + cl b)
  have := cl_spec (cl b + cl c)
  have := cl_spec (cl (cl a + cl b) + cl c)
  have := cl_spec (cl a + cl (cl b + cl c))
  omega
theorem cl_zero (a : Int) : cl (cl a + cl 0) = cl a := by
  have := cl_spec a
  have := cl_spec 0
  have := cl_spec (cl a + cl 0)
  omega

theorem resourceBalance (a b x : Resources) : s_law02_ResourceBalance a b x = true := by
  have e1 : s_resource_Fits a (s_resource_Add a b) = true := by
    simp only [fits1, add1, cl_idem]
    simp [cl_le_add]
  have e2 : s_resource_Fits b (s_resource_Add a b) = true := by
    simp only [fits1, add1, cl_idem]
    simp only [cl_add_comm a.cPU, cl_add_comm a.memory, cl_add_comm a.disk]
    simp [cl_le_add]
  have e3 : s_resource_Fits x a = true → s_resource_Fits x (s_resource_Add a b) = true := by
    simp only [fits1, add1, cl_idem, decide_eq_true_eq]
    have h1 := cl_le_add a.cPU b.cPU
    have h2 := cl_le_add a.memory b.memory
    have h3 := cl_le_add a.disk b.disk
    omega
  have e4 : (s_resource_Add a b).cPU < 1000000000000000 → (s_resource_Add a b).memory < 1000000000000000 → (s_resource_Add a b).disk < 1000000000000000 → s_resource_Sub (s_resource_Add a b) b = s_resource_Add a (Resources.mk 0 0 0) := by
    simp only [add1, sub1]
    intro h1 h2 h3
    rw [cl_add_sub _ _ h1, cl_add_sub _ _ h2, cl_add_sub _ _ h3]
  unfold s_law02_ResourceBalance
  cases h1 : decide ((s_resource_Add a b).cPU < 1000000000000000) <;> cases h2 : decide ((s_resource_Add a b).memory < 1000000000000000) <;> cases h3 : decide ((s_resource_Add a b).disk < 1000000000000000) <;> cases h4 : s_resource_Fits x a <;> simp_all

theorem resourceAdds (a b c : Resources) : s_law02_ResourceAdds a b c = true := by
  have e1 : s_resource_Add a b = s_resource_Add b a := by
    simp only [add1]
    rw [cl_add_comm a.cPU, cl_add_comm a.memory, cl_add_comm a.disk]
  have e2 : s_resource_Add (s_resource_Add a b) c = s_resource_Add a (s_resource_Add b c) := by
    simp only [add1, cl_idem, cl_assoc]
  have e3 : s_resource_Add (s_resource_Add a b) (Resources.mk 0 0 0) = s_resource_Add a b := by
    simp only [add1, cl_zero, cl_idem]
  have r1 : ¬ ((s_resource_Add a b).cPU < 0) ∧ ¬ (1000000000000000 < (s_resource_Add a b).cPU) ∧ ¬ ((s_resource_Add a b).memory < 0) ∧ ¬ (1000000000000000 < (s_resource_Add a b).memory) ∧ ¬ ((s_resource_Add a b).disk < 0) ∧ ¬ (1000000000000000 < (s_resource_Add a b).disk) := by
    simp only [add1]
    have h1 := cl_range (cl a.cPU + cl b.cPU)
    have h2 := cl_range (cl a.memory + cl b.memory)
    have h3 := cl_range (cl a.disk + cl b.disk)
    omega
  unfold s_law02_ResourceAdds
  rw [e2, e3, e1] at *
  simp [r1]

theorem cl_meet (a b : Int) : (cl (cl a + cl (cl (cl b - cl a))) = cl (cl b + cl 0)) ↔ cl a ≤ cl b := by
  have := cl_spec a
  have := cl_spec b
  have := cl_spec 0
  have := cl_spec (cl b - cl a)
  have := cl_spec (cl (cl b - cl a))
  have := cl_spec (cl a + cl (cl (cl b - cl a)))
  have := cl_spec (cl b + cl 0)
  omega
theorem resourceOrder (a b c : Resources) : s_law02_ResourceOrder a b c = true := by
  have e1 : (((s_resource_Add a (Resources.mk 0 0 0)).cPU == (s_resource_Add b (Resources.mk 0 0 0)).cPU) && (((s_resource_Add a (Resources.mk 0 0 0)).memory == (s_resource_Add b (Resources.mk 0 0 0)).memory) && (((s_resource_Add a (Resources.mk 0 0 0)).disk == (s_resource_Add b (Resources.mk 0 0 0)).disk) && true))) = (s_resource_Fits a b && s_resource_Fits b a) := by
    rw [Bool.eq_iff_iff]
    simp only [add1, fits1, cl_zero, Bool.and_true, Bool.and_eq_true, beq_iff_eq, decide_eq_true_eq]
    omega
  have e2 : (((s_resource_Add a (s_resource_Sub b a)).cPU == (s_resource_Add b (Resources.mk 0 0 0)).cPU) && (((s_resource_Add a (s_resource_Sub b a)).memory == (s_resource_Add b (Resources.mk 0 0 0)).memory) && (((s_resource_Add a (s_resource_Sub b a)).disk == (s_resource_Add b (Resources.mk 0 0 0)).disk) && true))) = s_resource_Fits a b := by
    rw [Bool.eq_iff_iff]
    simp only [add1, sub1, fits1, Bool.and_true, Bool.and_eq_true, beq_iff_eq, decide_eq_true_eq, cl_meet]
  have e3 : s_resource_Fits a b = true → s_resource_Fits b c = true → s_resource_Fits a c = true := by
    simp only [fits1, decide_eq_true_eq]
    omega
  unfold s_law02_ResourceOrder
  rw [e1, e2]
  cases h1 : s_resource_Fits a b <;> cases h2 : s_resource_Fits b a <;> cases h3 : s_resource_Fits b c <;> cases h4 : s_resource_Fits a c <;> simp_all

/-! ### sums -/
def clean (a : Resources) : Prop := s_resource_Add a (Resources.mk 0 0 0) = a
theorem clean_add (a b : Resources) : clean (s_resource_Add a b) := by
  unfold clean
  simp only [add1, cl_zero, cl_idem]
theorem clean_zero : clean (Resources.mk 0 0 0) := by
  unfold clean
  simp only [add1, cl_zero]
  rfl
theorem add_assoc (a b c : Resources) : s_resource_Add (s_resource_Add a b) c = s_resource_Add a (s_resource_Add b c) := by
  simp only [add1, cl_idem, cl_assoc]
theorem add_comm (a b : Resources) : s_resource_Add a b = s_resource_Add b a := by
  simp only [add1]
  rw [cl_add_comm a.cPU, cl_add_comm a.memory, cl_add_comm a.disk]
theorem add12 (a b : Resources) : s_ref02_Add a b = s_resource_Add a b := by rw [add1, add2]
/-- the sum of amounts -/
def total : List Resources → Resources
  | [] => Resources.mk 0 0 0
  | x :: r => s_resource_Add x (total r)
theorem total_clean : ∀ l, clean (total l)
  | [] => clean_zero
  | x :: r => clean_add _ _
theorem fold_total : ∀ (l : List Resources) (acc : Resources), clean acc → l.foldl s_resource_Add acc = s_resource_Add acc (total l)
  | [], acc, h => h.symm
  | x :: r, acc, h => by
    rw [List.foldl_cons, fold_total r _ (clean_add _ _), add_assoc]
    rfl
theorem total_app : ∀ (l m : List Resources), total (l ++ m) = s_resource_Add (total l) (total m)
  | [], m => by
    show total m = s_resource_Add (Resources.mk 0 0 0) (total m)
    rw [add_comm]
    exact (total_clean m).symm
  | x :: r, m => by
    show s_resource_Add x (total (r ++ m)) = s_resource_Add (s_resource_Add x (total r)) (total m)
    rw [total_app r m, add_assoc]
theorem req1 (p : PodSpec) : ∀ (l : List Container) (i : Nat) (acc : Resources), l_resource_Requests_b0 p l i acc = (l.map (·.request)).foldl s_resource_Add acc
  | [], _, _ => rfl
  | x :: r, i, acc => by rw [l_resource_Requests_b0, req1 p r, List.map_cons, List.foldl_cons]
theorem lim1 (p : PodSpec) : ∀ (l : List Container) (i : Nat) (acc : Resources), l_resource_Limits_b0 p l i acc = (l.map (·.limit)).foldl s_resource_Add acc
  | [], _, _ => rfl
  | x :: r, i, acc => by rw [l_resource_Limits_b0, lim1 p r, List.map_cons, List.foldl_cons]
theorem req2 (p : PodSpec) : ∀ (l : List Container) (i : Nat) (acc : Resources), l_ref02_Requests_b0 p l i acc = (l.map (·.request)).foldl s_resource_Add acc
  | [], _, _ => rfl
  | x :: r, i, acc => by rw [l_ref02_Requests_b0, req2 p r, List.map_cons, List.foldl_cons, add12]
theorem lim2 (p : PodSpec) : ∀ (l : List Container) (i : Nat) (acc : Resources), l_ref02_Limits_b0 p l i acc = (l.map (·.limit)).foldl s_resource_Add acc
  | [], _, _ => rfl
  | x :: r, i, acc => by rw [l_ref02_Limits_b0, lim2 p r, List.map_cons, List.foldl_cons, add12]
theorem zero_total (l : List Resources) : s_resource_Add (Resources.mk 0 0 0) (total l) = total l := by
  rw [add_comm]
  exact total_clean l
theorem requests1 (p : PodSpec) : s_resource_Requests p = total (p.containers.map (·.request)) := by
  rw [s_resource_Requests, req1, fold_total _ _ clean_zero, zero_total]
theorem limits1 (p : PodSpec) : s_resource_Limits p = total (p.containers.map (·.limit)) := by
  rw [s_resource_Limits, lim1, fold_total _ _ clean_zero, zero_total]
theorem requests2 (p : PodSpec) : s_ref02_Requests p = total (p.containers.map (·.request)) := by
  rw [s_ref02_Requests, req2, fold_total _ _ clean_zero, zero_total]
theorem limits2 (p : PodSpec) : s_ref02_Limits p = total (p.containers.map (·.limit)) := by
  rw [s_ref02_Limits, lim2, fold_total _ _ clean_zero, zero_total]
theorem resourcePods (p : PodSpec) (k : Int) : s_law02_ResourcePods p k = true := by
  unfold s_law02_ResourcePods
  simp only [requests1, requests2, limits1, limits2]
  rw [add_comm (total (List.map (·.limit) (List.drop k.toNat p.containers)))]
  rw [← total_app, ← total_app, ← List.map_append, ← List.map_append, List.take_append_drop]
  cases decide (k < 0) <;> cases decide ((List.length p.containers : Int) < k) <;> simp
theorem podsH (p : PodSpec) (k : Int) (h : PodSpec_ok p) : H_law02_ResourcePods p k := by
  have h1 : List.length p.containers ≤ 4611686018427387904 := by
    have := h.2.2.2.2.1.1
    omega
  simp only [H_law02_ResourcePods, H_resource_Requests, H_ref02_Requests, H_resource_Limits, H_ref02_Limits, H_resource_Requests_b0, H_ref02_Requests_b0, H_resource_Limits_b0, H_ref02_Limits_b0, List.length_take, List.length_drop, and_true]
  omega
end Go.Proofs.Ytpmdkaecfoakkaa
