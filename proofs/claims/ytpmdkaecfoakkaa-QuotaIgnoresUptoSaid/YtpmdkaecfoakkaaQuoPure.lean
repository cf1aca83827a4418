/- The demands of the chapter on quotas are met where nothing is longer than 2^20; what usage comes to. -/
import Derived.Test.YtpmdkaecfoakkaaQuoF
namespace Go.Proofs.Ytpmdkaecfoakkaa
open Go.Pv

abbrev N20 : Nat := 1048576
abbrev B62 : Nat := 4611686018427387904
/-! ### encoded values hold no long lists -/
theorem sm_leaf (k n : Int) (s : ByteArray) : Val.Sm B62 (.mk k n s [] []) := .leaf k n s
theorem sm_str (s : ByteArray) : Val.Sm B62 (s_ref19_str s) := sm_leaf _ _ _
theorem sm_num (n : Int) : Val.Sm B62 (s_ref19_num n) := sm_leaf _ _ _
theorem sm_truth (b : Bool) : Val.Sm B62 (s_ref19_truth b) := by cases b <;> exact sm_leaf _ _ _
theorem sm_list {l : List Val} (h : l.length ≤ B62) (hl : ∀ x ∈ l, Val.Sm B62 x) : Val.Sm B62 (s_ref19_list l) := .mk _ h (Nat.zero_le _) hl (fun _ h => by cases h)
theorem sm_map {α : Type} {f : α → Val} {l : List α} (h : l.length ≤ N20) (hl : ∀ x ∈ l, Val.Sm B62 (f x)) : Val.Sm B62 (s_ref19_list (l.map f)) :=
  sm_list (by rw [List.length_map]; simp only [N20, B62] at *; omega) (fun x hx => by obtain ⟨y, hy, rfl⟩ := List.mem_map.1 hx; exact hl y hy)
theorem sm_object {l : List Fld} (h : l.length ≤ B62) (hl : ∀ x ∈ l, Val.Sm B62 x.v) : Val.Sm B62 (s_ref19_object l) := .mk _ (Nat.zero_le _) h (fun _ h => by cases h) hl
theorem sm_nil : ∀ x ∈ ([] : List Fld), Val.Sm B62 x.v := fun _ h => by cases h
theorem sm_at {n : ByteArray} {v : Val} {l : List Fld} (h : Val.Sm B62 v) (hl : ∀ x ∈ l, Val.Sm B62 x.v) : ∀ x ∈ s_ref19_at n v :: l, Val.Sm B62 x.v := fun x hx => by
  rcases List.mem_cons.1 hx with rfl | hx
  · exact h
  · exact hl x hx
theorem sm_resources (x : Resources) : Val.Sm B62 (s_ref19_fromResources x) := sm_object (by simp [B62]) (sm_at (sm_num _) (sm_at (sm_num _) (sm_at (sm_num _) sm_nil)))
theorem sm_probes {l : List Probe} (h : l.length ≤ N20) : Val.Sm B62 (s_ref19_fromProbes l) := by
  rw [s_ref19_fromProbes, m_ref19_fromProbes_b0]
  exact sm_map h (fun x _ => sm_object (by simp [B62]) (sm_at (sm_num _) (sm_at (sm_num _) (sm_at (sm_num _) (sm_at (sm_num _) sm_nil)))))
theorem sm_strings {l : List ByteArray} (h : l.length ≤ N20) : Val.Sm B62 (s_ref19_FromStrings l) := by
  rw [s_ref19_FromStrings, m_ref19_FromStrings_b0]
  exact sm_map h (fun x _ => sm_str _)
theorem sm_containers {l : List Container} (h : l.length ≤ N20) (hl : ∀ x ∈ l, Container_cap N20 x) : Val.Sm B62 (s_ref19_fromContainers l) := by
  rw [s_ref19_fromContainers, m_ref19_fromContainers_b0]
  refine sm_map h (fun x hx => ?_)
  obtain ⟨_, _, _, _, a, b, c⟩ := hl x hx
  exact sm_object (by simp [B62]) (sm_at (sm_str _) (sm_at (sm_resources _) (sm_at (sm_probes a.1) (sm_at (sm_str _) (sm_at (sm_probes b.1) (sm_at (sm_resources _) (sm_at (sm_probes c.1) sm_nil)))))))
theorem sm_selector {l : List Requirement} (h : l.length ≤ N20) (hl : ∀ x ∈ l, Requirement_cap N20 x) : Val.Sm B62 (s_ref19_FromSelector l) := by
  rw [s_ref19_FromSelector, m_ref19_FromSelector_b0]
  exact sm_map h (fun x hx => sm_object (by simp [B62]) (sm_at (sm_str _) (sm_at (sm_num _) (sm_at (sm_strings (hl x hx).2.1) sm_nil))))
theorem sm_nodeTerms {l : List NodeTerm} (h : l.length ≤ N20) (hl : ∀ x ∈ l, NodeTerm_cap N20 x) : Val.Sm B62 (s_ref19_fromNodeTerms l) := by
  rw [s_ref19_fromNodeTerms, m_ref19_fromNodeTerms_b0]
  exact sm_map h (fun x hx => sm_object (by simp [B62]) (sm_at (sm_truth _) (sm_at (sm_selector (hl x hx).1 (hl x hx).2) (sm_at (sm_num _) sm_nil))))
theorem sm_podTerms {l : List PodTerm} (h : l.length ≤ N20) (hl : ∀ x ∈ l, PodTerm_cap N20 x) : Val.Sm B62 (s_ref19_fromPodTerms l) := by
  rw [s_ref19_fromPodTerms, m_ref19_fromPodTerms_b0]
  exact sm_map h (fun x hx => sm_object (by simp [B62]) (sm_at (sm_truth _) (sm_at (sm_truth _) (sm_at (sm_selector (hl x hx).1.1 (hl x hx).1.2) (sm_at (sm_str _) (sm_at (sm_num _) sm_nil))))))
theorem sm_spread {l : List SpreadRule} (h : l.length ≤ N20) (hl : ∀ x ∈ l, SpreadRule_cap N20 x) : Val.Sm B62 (s_ref19_fromSpread l) := by
  rw [s_ref19_fromSpread, m_ref19_fromSpread_b0]
  exact sm_map h (fun x hx => sm_object (by simp [B62]) (sm_at (sm_num _) (sm_at (sm_truth _) (sm_at (sm_selector (hl x hx).2.1 (hl x hx).2.2) (sm_at (sm_str _) sm_nil)))))
theorem sm_tolerations {l : List Toleration} (h : l.length ≤ N20) : Val.Sm B62 (s_ref19_fromTolerations l) := by
  rw [s_ref19_fromTolerations, m_ref19_fromTolerations_b0]
  exact sm_map h (fun x _ => sm_object (by simp [B62]) (sm_at (sm_num _) (sm_at (sm_truth _) (sm_at (sm_str _) (sm_at (sm_num _) (sm_at (sm_str _) sm_nil))))))
theorem sm_statuses {l : List ContainerStatus} (h : l.length ≤ N20) : Val.Sm B62 (s_ref19_fromStatuses l) := by
  rw [s_ref19_fromStatuses, m_ref19_fromStatuses_b0]
  exact sm_map h (fun x _ => sm_object (by simp [B62]) (sm_at (sm_num _) (sm_at (sm_str _) (sm_at (sm_truth _) (sm_at (sm_num _) (sm_at (sm_num _) (sm_at (sm_truth _) (sm_at (sm_num _) sm_nil))))))))
theorem sm_spec {p : PodSpec} (h : PodSpec_cap N20 p) : Val.Sm B62 (s_ref19_FromSpec p) := by
  obtain ⟨_, c, s, n, q, r, t⟩ := h
  exact sm_object (by simp [B62]) (sm_at (sm_containers c.1 c.2) (sm_at (sm_num _) (sm_at (sm_str _) (sm_at (sm_selector s.1 s.2) (sm_at (sm_nodeTerms n.1 n.2) (sm_at (sm_podTerms q.1 q.2) (sm_at (sm_num _) (sm_at (sm_num _) (sm_at (sm_spread r.1 r.2) (sm_at (sm_tolerations t.1) sm_nil))))))))))
theorem sm_status {p : PodStatus} (h : PodStatus_cap N20 p) : Val.Sm B62 (s_ref19_fromStatus p) := by
  obtain ⟨c, _, _⟩ := h
  exact sm_object (by simp [B62]) (sm_at (sm_num _) (sm_at (sm_statuses c.1) (sm_at (sm_num _) (sm_at (sm_str _) (sm_at (sm_num _) (sm_at (sm_truth _) (sm_at (sm_num _) (sm_at (sm_str _) (sm_at (sm_num _) sm_nil)))))))))

/-! ### demands -/
theorem up37 {n : Nat} (h : n ≤ N20) : n ≤ 137438953472 := by simp only [N20] at h; omega
theorem up62 {n : Nat} (h : n ≤ N20) : n ≤ 4611686018427387904 := by simp only [N20] at h; omega
theorem h_probes {l : List Probe} (h : l.length ≤ N20) : H_ref19_fromProbes l := ⟨⟨up37 h, trivial⟩, trivial⟩
theorem h_strings {l : List ByteArray} (h : l.length ≤ N20) : H_ref19_FromStrings l := ⟨⟨up37 h, trivial⟩, trivial⟩
theorem h_containers {l : List Container} (h : l.length ≤ N20) (hl : ∀ x ∈ l, Container_cap N20 x) : H_ref19_fromContainers l :=
  ⟨⟨up37 h, fun x hx => h_probes (hl x hx).2.2.2.2.1.1, fun x hx => h_probes (hl x hx).2.2.2.2.2.1.1, fun x hx => h_probes (hl x hx).2.2.2.2.2.2.1, trivial⟩, trivial⟩
theorem h_selector {l : List Requirement} (h : l.length ≤ N20) (hl : ∀ x ∈ l, Requirement_cap N20 x) : H_ref19_FromSelector l := ⟨⟨up37 h, fun x hx => h_strings (hl x hx).2.1, trivial⟩, trivial⟩
theorem h_spec {p : PodSpec} (h : PodSpec_cap N20 p) : H_ref19_FromSpec p := by
  obtain ⟨_, c, s, n, q, r, t⟩ := h
  exact ⟨h_containers c.1 c.2, h_selector s.1 s.2, ⟨⟨up37 n.1, fun x hx => h_selector (n.2 x hx).1 (n.2 x hx).2, trivial⟩, trivial⟩, ⟨⟨up37 q.1, fun x hx => h_selector (q.2 x hx).1.1 (q.2 x hx).1.2, trivial⟩, trivial⟩,
    ⟨⟨up37 r.1, fun x hx => h_selector (r.2 x hx).2.1 (r.2 x hx).2.2, trivial⟩, trivial⟩, ⟨⟨up37 t.1, trivial⟩, trivial⟩, trivial⟩
theorem h_pod {p : Pod} (h : Pod_cap N20 p) : H_ref19_FromPod p := ⟨h_spec h.2.1, ⟨⟨⟨up37 h.2.2.1.1, trivial⟩, trivial⟩, trivial⟩, trivial⟩
theorem h_meta {m : Meta} (h : Meta_cap N20 m) : H_law19_SmallMeta m := by
  obtain ⟨_, _, _, l, o, f, n⟩ := h
  refine ⟨⟨up62 l.1, trivial⟩, ⟨up62 o.1, trivial⟩, ⟨up62 f.1, trivial⟩, ?_, trivial⟩
  refine ⟨up62 n.1, ?_⟩
  exact ⟨fun i x hx => ⟨up62 (n.2 x (mem_get hx)).2.1, trivial⟩, trivial⟩
theorem h_small {p : Pod} (h : Pod_cap N20 p) : H_law19_SmallPod p := ⟨h_pod h, h_meta h.1, ⟨sm_spec h.2.1, trivial⟩, ⟨sm_status h.2.2, trivial⟩, trivial⟩
theorem h_smalls {l : List Pod} (h : l.length ≤ N20) (hl : ∀ x ∈ l, Pod_cap N20 x) : H_law22_Small l := ⟨⟨up62 h, fun x hx => h_small (hl x hx), trivial⟩, trivial⟩
theorem h_requests {p : PodSpec} (h : PodSpec_cap N20 p) : H_resource_Requests p := ⟨⟨up62 h.2.1.1, trivial⟩, trivial⟩
theorem h_usage {l : List Pod} (h : l.length ≤ N20) (hl : ∀ x ∈ l, Pod_cap N20 x) : H_quota_Usage l := ⟨⟨up62 h, fun x hx => by first | exact h_requests (hl x hx).2.1 | exact fun _ => h_requests (hl x hx).2.1, trivial⟩, trivial⟩

/-! ### amounts -/
def cl (n : Int) : Int := if n < 0 then 0 else if 1000000000000000 < n then 1000000000000000 else n
theorem cl_spec (n : Int) : (n < 0 ∧ cl n = 0) ∨ (1000000000000000 < n ∧ cl n = 1000000000000000) ∨ (0 ≤ n ∧ n ≤ 1000000000000000 ∧ cl n = n) := by
  unfold cl
  split
  · omega
  · split <;> omega
theorem clamp1 (n : Int) : s_resource_clamp n = cl n := by
  unfold s_resource_clamp cl mn mx
  repeat' split
  all_goals omega
theorem w64_add (a b : Int) : w64 (cl a + cl b) = cl a + cl b := by
  have := cl_spec a
  have := cl_spec b
  exact w64_of (by omega)
theorem add1 (a b : Resources) : s_resource_Add a b = ⟨cl (cl a.cPU + cl b.cPU), cl (cl a.memory + cl b.memory), cl (cl a.disk + cl b.disk)⟩ := by
  simp only [s_resource_Add, s_resource_each_f36, s_resource_Add_1, clamp1, w64_add]

/-! ### usage -/
def fil (l : List Pod) (n : ByteArray) : List Pod := l.filter fun x => sEq x.meta_.namespace_ n
theorem of_b0 (p : List Pod) (n : ByteArray) : ∀ (l : List Pod) (i : Nat) (a : List Pod), l_quota_of_b0 p n l i a = a ++ fil l n
  | [], _, _ => by simp [l_quota_of_b0, fil]
  | x :: r, i, a => by
    rw [l_quota_of_b0]
    cases h : sEq x.meta_.namespace_ n with
    | true =>
      simp only [cond_true]
      rw [of_b0 p n r]
      simp [fil, h]
    | false =>
      simp only [cond_false]
      rw [of_b0 p n r]
      simp [fil, h]
theorem of_eq (l : List Pod) (n : ByteArray) : s_quota_of l n = fil l n := by rw [s_quota_of, of_b0, List.nil_append]
theorem fil_mem {l : List Pod} {n : ByteArray} {x : Pod} (h : x ∈ fil l n) : x ∈ l := (List.mem_filter.1 h).1
theorem fil_len (l : List Pod) (n : ByteArray) : (fil l n).length ≤ l.length := List.length_filter_le _ _
theorem h_admit {q : Quota} {l : List Pod} {p : Pod} (h : l.length ≤ N20) (hl : ∀ x ∈ l, Pod_cap N20 x) (hp : PodSpec_cap N20 p.spec) : H_quota_Admit q l p := by
  refine ⟨⟨⟨up37 h, trivial⟩, trivial⟩, ?_, h_requests hp, trivial⟩
  rw [of_eq]
  exact h_usage (Nat.le_trans (fil_len _ _) h) (fun x hx => hl x (fil_mem hx))
theorem h_status {q : Quota} {l : List Pod} (h : l.length ≤ N20) (hl : ∀ x ∈ l, Pod_cap N20 x) : H_quota_Status q l := by
  refine ⟨⟨⟨up37 h, trivial⟩, trivial⟩, ?_, trivial⟩
  rw [of_eq]
  exact h_usage (Nat.le_trans (fil_len _ _) h) (fun x hx => hl x (fil_mem hx))
theorem small_len {l : List Pod} (h : s_law22_Small l = true) : l.length ≤ 20 := by
  unfold s_law22_Small at h
  cases c : decide (20 < ((List.length l) : Int)) with
  | true => rw [c] at h; cases h
  | false => simp at c; omega

/-! ### sums -/
theorem cl_idem (a : Int) : cl (cl a) = cl a := by
  have := cl_spec a
  have := cl_spec (cl a)
  omega
theorem cl_add_comm (a b : Int) : cl (cl a + cl b) = cl (cl b + cl a) := by rw [Int.add_comm]
theorem cl_assoc (a b c : Int) : cl (cl (cl a + cl b) + cl c) = cl (cl a + cl (cl b + cl c)) := by
  have := cl_spec a
  have := cl_spec b
  have := cl_spec c
  have := cl_spec (cl a + cl b)
  have := cl_spec (cl b + cl c)
  have := cl_spec (cl (cl a + cl b) + cl c)
  have := cl_spec (cl a + cl (cl b + cl c))
  omega
theorem cl_zero (a : Int) : cl (cl a + cl 0) = cl a := by
  have := cl_spec a
  have := cl_spec 0
  have := cl_spec (cl a + cl 0)
  omega
def clean (a : Resources) : Prop := s_resource_Add a (Resources.mk 0 0 0) = a
theorem clean_add (a b : Resources) : clean (s_resource_Add a b) := by
  unfold clean
  simp only [add1, cl_zero, cl_idem]
theorem clean_zero : clean (Resources.mk 0 0 0) := by
  unfold clean
  simp only [add1, cl_zero]
  rfl
theorem add_assoc (a b c : Resources) : s_resource_Add (s_resource_Add a b) c = s_resource_Add a (s_resource_Add b c) := by
  simp only [add1, cl_idem, cl_assoc]
theorem add_comm (a b : Resources) : s_resource_Add a b = s_resource_Add b a := by
  simp only [add1]
  rw [cl_add_comm a.cPU, cl_add_comm a.memory, cl_add_comm a.disk]
def total : List Resources → Resources
  | [] => Resources.mk 0 0 0
  | x :: r => s_resource_Add x (total r)
theorem total_clean : ∀ l, clean (total l)
  | [] => clean_zero
  | _x :: _r => clean_add _ _
theorem total_app : ∀ (l m : List Resources), total (l ++ m) = s_resource_Add (total l) (total m)
  | [], m => by
    show total m = s_resource_Add (Resources.mk 0 0 0) (total m)
    rw [add_comm]
    exact (total_clean m).symm
  | x :: r, m => by
    show s_resource_Add x (total (r ++ m)) = s_resource_Add (s_resource_Add x (total r)) (total m)
    rw [total_app r m, add_assoc]
/-- in each component -/
def le3 (a b : Resources) : Prop := a.cPU ≤ b.cPU ∧ a.memory ≤ b.memory ∧ a.disk ≤ b.disk
theorem le3_refl (a : Resources) : le3 a a := ⟨Int.le_refl _, Int.le_refl _, Int.le_refl _⟩
theorem le3_trans {a b c : Resources} (h : le3 a b) (h' : le3 b c) : le3 a c := ⟨Int.le_trans h.1 h'.1, Int.le_trans h.2.1 h'.2.1, Int.le_trans h.2.2 h'.2.2⟩
theorem cl_mono {a b : Int} (h : a ≤ b) : cl a ≤ cl b := by
  have := cl_spec a
  have := cl_spec b
  omega
theorem add_mono {a b c d : Resources} (h : le3 a b) (h' : le3 c d) : le3 (s_resource_Add a c) (s_resource_Add b d) := by
  simp only [add1]
  exact ⟨cl_mono (Int.add_le_add (cl_mono h.1) (cl_mono h'.1)), cl_mono (Int.add_le_add (cl_mono h.2.1) (cl_mono h'.2.1)), cl_mono (Int.add_le_add (cl_mono h.2.2) (cl_mono h'.2.2))⟩
theorem le_add_right {a : Resources} (h : clean a) (b : Resources) : le3 a (s_resource_Add a b) := by
  unfold clean at h
  rw [add1] at h
  have key : ∀ x y z : Int, cl (cl x + cl 0) = z → z ≤ cl (cl x + cl y) := by
    intro x y z hz
    have := cl_spec x
    have := cl_spec y
    have := cl_spec 0
    have := cl_spec (cl x + cl 0)
    have := cl_spec (cl x + cl y)
    omega
  rw [add1]
  refine ⟨key _ _ _ (congrArg (·.cPU) h), key _ _ _ (congrArg (·.memory) h), key _ _ _ (congrArg (·.disk) h)⟩
theorem le_add_left {a : Resources} (h : clean a) (b : Resources) : le3 a (s_resource_Add b a) := by
  rw [add_comm]
  exact le_add_right h b

/-! ### what pods use -/
def rq (x : Pod) : Resources := s_resource_Requests x.spec
def cnt (x : Pod) : Bool := s_quota_counts x
def use (l : List Pod) : Resources := total ((l.filter cnt).map rq)
def num (l : List Pod) : Int := ((l.filter cnt).length : Int)
theorem usage_b0 (p : List Pod) : ∀ (l : List Pod) (i : Nat) (n : Int) (a : Resources), clean a → 0 ≤ n → n + l.length ≤ 4611686018427387904 → l_quota_Usage_b0 p l i n a = (s_resource_Add a (use l), n + num l)
  | [], i, n, a, ha, _, _ => by
    rw [l_quota_Usage_b0]
    simp only [use, num, List.filter_nil, List.map_nil, List.length_nil, total]
    rw [ha]
    simp
  | x :: r, i, n, a, ha, hn, hl => by
    rw [l_quota_Usage_b0]
    simp only [List.length_cons] at hl
    cases c : s_quota_counts x with
    | true =>
      simp only [cond_true]
      have hw : w64 (n + 1) = n + 1 := w64_of (by omega)
      rw [hw, usage_b0 p r _ _ _ (clean_add _ _) (by omega) (by omega)]
      have e : (x :: r).filter cnt = x :: r.filter cnt := by simp [cnt, c]
      simp only [use, num, e, List.map_cons, total, List.length_cons]
      rw [add_assoc]
      refine Prod.ext rfl ?_
      simp only
      omega
    | false =>
      simp only [cond_false]
      rw [usage_b0 p r _ _ _ ha hn (by omega)]
      have e : (x :: r).filter cnt = r.filter cnt := by simp [cnt, c]
      simp only [use, num, e]
theorem zero_add (l : List Resources) : s_resource_Add (Resources.mk 0 0 0) (total l) = total l := by
  rw [add_comm]
  exact total_clean l
theorem usage_eq {l : List Pod} (h : l.length ≤ N20) : s_quota_Usage l = (use l, num l) := by
  unfold s_quota_Usage
  rw [usage_b0 l l 0 0 _ clean_zero (by omega) (by have := up62 h; omega)]
  simp only [use, zero_add, Int.zero_add]
theorem use_clean (l : List Pod) : clean (use l) := total_clean _
theorem use_app (l m : List Pod) : use (l ++ m) = s_resource_Add (use l) (use m) := by
  simp only [use, List.filter_append, List.map_append, total_app]
theorem num_app (l m : List Pod) : num (l ++ m) = num l + num m := by
  simp only [num, List.filter_append, List.length_append]
  omega
theorem num_pos (l : List Pod) : 0 ≤ num l := by simp [num]
theorem use_one (x : Pod) : le3 (use [x]) (s_resource_Add (Resources.mk 0 0 0) (rq x)) := by
  cases c : cnt x with
  | true =>
    have : use [x] = s_resource_Add (Resources.mk 0 0 0) (rq x) := by
      simp only [use, List.filter_cons, c, if_true, List.filter_nil, List.map_cons, List.map_nil, total]
      exact add_comm _ _
    rw [this]
    exact le3_refl _
  | false =>
    have : use [x] = Resources.mk 0 0 0 := by simp [use, c, total]
    rw [this]
    exact le_add_right clean_zero _
theorem num_one (x : Pod) : num [x] ≤ 1 := by
  cases c : cnt x <;> simp [num, c]

/-! ### limits -/
def okq (q : Quota) (r : Resources) (n : Int) : Bool := !(s_quota_over r.cPU q.hard.cPU) && (!(s_quota_over r.memory q.hard.memory) && (!(s_quota_over r.disk q.hard.disk) && !(s_quota_over n q.pods)))
theorem over_eq (a l : Int) : s_quota_over a l = decide (0 < l ∧ l < a) := by
  unfold s_quota_over
  rw [Bool.eq_iff_iff, decide_eq_true_eq]
  simp only [Bool.cond_false_right, Bool.and_eq_true, decide_eq_true_eq]
theorem okq_iff (q : Quota) (r : Resources) (n : Int) : okq q r n = true ↔ (¬ (0 < q.hard.cPU ∧ q.hard.cPU < r.cPU) ∧ ¬ (0 < q.hard.memory ∧ q.hard.memory < r.memory) ∧ ¬ (0 < q.hard.disk ∧ q.hard.disk < r.disk) ∧ ¬ (0 < q.pods ∧ q.pods < n)) := by
  unfold okq
  simp only [over_eq, Bool.and_eq_true, Bool.not_eq_true', decide_eq_false_iff_not]
theorem okq_mono {q : Quota} {r r' : Resources} {n n' : Int} (hr : le3 r r') (hn : n ≤ n') (h : okq q r' n' = true) : okq q r n = true := by
  rw [okq_iff] at h ⊢
  obtain ⟨h1, h2, h3⟩ := hr
  omega
theorem admit_eq {q : Quota} {l : List Pod} {p : Pod} (h : l.length ≤ N20) : s_quota_Admit q l p = bif sEq p.meta_.namespace_ q.meta_.namespace_ then (bif okq q (s_resource_Add (use (fil l q.meta_.namespace_)) (rq p)) (num (fil l q.meta_.namespace_) + 1) then 0 else 12) else 0 := by
  have hl : (fil l q.meta_.namespace_).length ≤ N20 := Nat.le_trans (fil_len _ _) h
  have hw : w64 (num (fil l q.meta_.namespace_) + 1) = num (fil l q.meta_.namespace_) + 1 := by
    have h1 := num_pos (fil l q.meta_.namespace_)
    have h2 : num (fil l q.meta_.namespace_) ≤ N20 := by
      have : ((fil l q.meta_.namespace_).filter cnt).length ≤ (fil l q.meta_.namespace_).length := List.length_filter_le _ _
      simp only [num]
      omega
    simp only [N20] at h2
    exact w64_of (by omega)
  unfold s_quota_Admit
  rw [of_eq, usage_eq hl]
  simp only
  rw [hw]
  unfold okq rq
  cases sEq p.meta_.namespace_ q.meta_.namespace_ with
  | false => rfl
  | true =>
    simp only [cond_true]
    cases s_quota_over (s_resource_Add (use (fil l q.meta_.namespace_)) (s_resource_Requests p.spec)).cPU q.hard.cPU <;> cases s_quota_over (s_resource_Add (use (fil l q.meta_.namespace_)) (s_resource_Requests p.spec)).memory q.hard.memory <;> cases s_quota_over (s_resource_Add (use (fil l q.meta_.namespace_)) (s_resource_Requests p.spec)).disk q.hard.disk <;> cases s_quota_over (num (fil l q.meta_.namespace_) + 1) q.pods <;> rfl
theorem admit_ok {q : Quota} {l : List Pod} {p : Pod} (h : l.length ≤ N20) : (s_quota_Admit q l p == 0) = (!(sEq p.meta_.namespace_ q.meta_.namespace_) || okq q (s_resource_Add (use (fil l q.meta_.namespace_)) (rq p)) (num (fil l q.meta_.namespace_) + 1)) := by
  rw [admit_eq h]
  cases sEq p.meta_.namespace_ q.meta_.namespace_ <;> cases okq q (s_resource_Add (use (fil l q.meta_.namespace_)) (rq p)) (num (fil l q.meta_.namespace_) + 1) <;> rfl
theorem within_eq (q : Quota) (r : Resources) (n : Int) : s_law22_within q r n = okq q r n := by
  have lem : ∀ (l a : Int) (x : Bool), (bif decide (l ≤ 0) then x else bif decide (a ≤ l) then x else false) = (!(s_quota_over a l) && x) := by
    intro l a x
    rw [over_eq]
    by_cases h1 : l ≤ 0
    · have : ¬ (0 < l ∧ l < a) := by omega
      simp [h1, this]
    · by_cases h2 : a ≤ l
      · have : ¬ (0 < l ∧ l < a) := by omega
        simp [h1, h2, this]
      · have : (0 < l ∧ l < a) := by omega
        simp [h1, h2, this]
  have lem2 : ∀ (l a : Int), (bif decide (l ≤ 0) then true else decide (a ≤ l)) = (!(s_quota_over a l)) := by
    intro l a
    have := lem l a true
    rw [Bool.and_true] at this
    rw [← this]
    cases decide (l ≤ 0) <;> cases decide (a ≤ l) <;> rfl
  unfold okq
  rw [← lem2 q.pods n, ← lem q.hard.disk r.disk, ← lem q.hard.memory r.memory, ← lem q.hard.cPU r.cPU]
  unfold s_law22_within
  cases decide (q.hard.cPU ≤ 0) <;> cases decide (r.cPU ≤ q.hard.cPU) <;> cases decide (q.hard.memory ≤ 0) <;> cases decide (r.memory ≤ q.hard.memory) <;> cases decide (q.hard.disk ≤ 0) <;> cases decide (r.disk ≤ q.hard.disk) <;> rfl
end Go.Proofs.Ytpmdkaecfoakkaa
