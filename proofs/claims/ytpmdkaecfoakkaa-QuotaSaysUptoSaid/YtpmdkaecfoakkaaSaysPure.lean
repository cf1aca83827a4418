/- The law QuotaSays in plain words. -/
import Derived.Test.YtpmdkaecfoakkaaQuotaSays
import Derived.Test.YtpmdkaecfoakkaaQuoPure
import Derived.Test.YtpmdkaecfoakkaaPvZ
namespace Go.Proofs.Ytpmdkaecfoakkaa
open Go.Pv

theorem clamp2 (n : Int) : s_ref02_clamp n = cl n := by
  unfold s_ref02_clamp cl mn mx
  repeat' split
  all_goals omega
theorem add12 (a b : Resources) : s_ref02_Add a b = s_resource_Add a b := by
  rw [add1]
  simp only [s_ref02_Add, clamp2, w64_add]
theorem req12_b0 (p : PodSpec) : ∀ (l : List Container) (i : Nat) (a : Resources), l_ref02_Requests_b0 p l i a = l_resource_Requests_b0 p l i a
  | [], _, _ => rfl
  | x :: r, i, a => by rw [l_ref02_Requests_b0, l_resource_Requests_b0, add12, req12_b0 p r]
theorem req12 (p : PodSpec) : s_ref02_Requests p = s_resource_Requests p := req12_b0 p _ _ _
theorem usage12_b0 (p : List Pod) : ∀ (l : List Pod) (i : Nat) (n : Int) (a : Resources), l_ref22_Usage_b0 p l i n a = l_quota_Usage_b0 p l i n a
  | [], _, _, _ => rfl
  | x :: r, i, n, a => by
    rw [l_ref22_Usage_b0, l_quota_Usage_b0, show s_ref22_counts x = s_quota_counts x from rfl, usage12_b0 p r, usage12_b0 p r, add12, req12]
theorem usage12 (p : List Pod) : s_ref22_Usage p = s_quota_Usage p := by
  unfold s_ref22_Usage s_quota_Usage
  rw [usage12_b0]
theorem own12_b0 (n : ByteArray) (p : List Pod) : ∀ (l : List Pod) (i : Nat) (a : List Pod), l_ref22_Own_b0 n p l i a = l_quota_of_b0 p n l i a
  | [], _, _ => rfl
  | x :: r, i, a => by rw [l_ref22_Own_b0, l_quota_of_b0, own12_b0 n p r, own12_b0 n p r]
theorem own12 (n : ByteArray) (p : List Pod) : s_ref22_Own n p = s_quota_of p n := own12_b0 n p _ _ _
theorem status12 (q : Quota) (p : List Pod) : s_ref22_Status q p = s_quota_Status q p := by
  unfold s_ref22_Status s_quota_Status
  rw [own12, usage12]
theorem admit12 (q : Quota) (l : List Pod) (p : Pod) : s_ref22_Admit q l p = s_quota_Admit q l p := by
  unfold s_ref22_Admit s_quota_Admit
  rw [own12, usage12, add12, req12]
  rfl
/-! ### metadata equal themselves -/
theorem getD_self {α : Type} {l : List α} {i : Nat} {x d : α} (h : l[i]? = some x) : l.getD i d = x := by
  rw [List.getD_eq_getElem?_getD, h]
  rfl
theorem same_b0 (p : List Label) : ∀ (l : List Label) (i : Nat), p.drop i = l → l_ref03_Same_b0 p p l i = .k0
  | [], _, _ => rfl
  | x :: r, i, h => by
    obtain ⟨hx, _, hd⟩ := drop_get h
    rw [l_ref03_Same_b0, getD_self hx, same_b0 p r _ hd]
    simp [sEq_self]
theorem same_self (p : List Label) : s_ref03_Same p p = true := by
  unfold s_ref03_Same
  rw [same_b0 p p 0 rfl]
  simp
theorem sameS_b0 (p : List ByteArray) : ∀ (l : List ByteArray) (i : Nat), p.drop i = l → l_ref03_SameStrings_b0 p p l i = .k0
  | [], _, _ => rfl
  | x :: r, i, h => by
    obtain ⟨hx, _, hd⟩ := drop_get h
    rw [l_ref03_SameStrings_b0, getD_self hx, sameS_b0 p r _ hd]
    simp [sEq_self]
theorem sameS_self (p : List ByteArray) : s_ref03_SameStrings p p = true := by
  unfold s_ref03_SameStrings
  rw [sameS_b0 p p 0 rfl]
  simp
theorem sameM_b0 (m : Meta) : ∀ (l : List Owner) (i : Nat), m.owners.drop i = l → l_ref19_SameMeta_b0 m m l i = .k0
  | [], _, _ => rfl
  | x :: r, i, h => by
    obtain ⟨hx, _, hd⟩ := drop_get h
    rw [l_ref19_SameMeta_b0, getD_self hx, sameM_b0 m r _ hd]
    simp [sEq_self]
theorem sameM_b1 (m : Meta) : ∀ (l : List Manager) (i : Nat), m.managers.drop i = l → l_ref19_SameMeta_b1 m m l i = .k0
  | [], _, _ => rfl
  | x :: r, i, h => by
    obtain ⟨hx, _, hd⟩ := drop_get h
    rw [l_ref19_SameMeta_b1, getD_self hx, sameM_b1 m r _ hd, sameS_self]
    simp [sEq_self]
theorem sameMeta_self (m : Meta) : s_ref19_SameMeta m m = true := by
  unfold s_ref19_SameMeta
  rw [sameM_b0 m m.owners 0 rfl, sameM_b1 m m.managers 0 rfl, same_self, sameS_self]
  simp [sEq_self]
theorem quotaSays (q : Quota) (l : List Pod) (p : Pod) : s_law22_QuotaSays q l p = true := by
  unfold s_law22_QuotaSays
  rw [status12, admit12, usage12, sameMeta_self]
  cases s_law22_Small l <;> cases s_law19_SmallPod p <;> cases s_law19_SmallMeta q.meta_ <;> simp
theorem h_requests2 {p : PodSpec} (h : PodSpec_cap N20 p) : H_ref02_Requests p := ⟨⟨up62 h.2.1.1, trivial⟩, trivial⟩
theorem h_usage2 {l : List Pod} (h : l.length ≤ N20) (hl : ∀ x ∈ l, Pod_cap N20 x) : H_ref22_Usage l := ⟨⟨up62 h, fun x hx => h_requests2 (hl x hx).2.1, trivial⟩, trivial⟩
theorem saysH {q : Quota} {l : List Pod} {p : Pod} (hq : Quota_cap N20 q) (h : l.length ≤ N20) (hl : ∀ x ∈ l, Pod_cap N20 x) (hp : Pod_cap N20 p) : H_law22_QuotaSays q l p := by
  have hf : H_ref22_Usage (s_ref22_Own q.meta_.namespace_ l) := by
    rw [own12, of_eq]
    exact h_usage2 (Nat.le_trans (fil_len _ _) h) (fun x hx => hl x (fil_mem hx))
  refine ⟨h_smalls h hl, h_small hp, h_meta hq.1, h_usage h hl, h_usage2 h hl, h_status h hl, ⟨⟨⟨up37 h, trivial⟩, trivial⟩, hf, trivial⟩, h_admit h hl hp.2.1, ⟨⟨⟨up37 h, trivial⟩, trivial⟩, hf, h_requests2 hp.2.1, trivial⟩, ?_, trivial⟩
  rw [status12]
  obtain ⟨⟨_, _, _, a, o, f, n⟩, _⟩ := hq
  refine ⟨up62 a.1, up62 f.1, fun _ _ => ⟨up62 o.1, fun i x hx => (List.getElem?_eq_some_iff.1 hx).1, trivial⟩, fun _ _ => ⟨up62 n.1, fun i x hx => (List.getElem?_eq_some_iff.1 hx).1, fun x hx => up62 (n.2 x hx).2.1, trivial⟩, trivial⟩
end Go.Proofs.Ytpmdkaecfoakkaa
