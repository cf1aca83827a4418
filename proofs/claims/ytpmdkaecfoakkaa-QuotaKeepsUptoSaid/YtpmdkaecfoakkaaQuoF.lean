/- What the functions of the chapter on quotas compute (printed by a program). -/
import Derived.Test.YtpmdkaecfoakkaaPod2
namespace Go.Proofs.Ytpmdkaecfoakkaa
open Go.Pv

structure Quota where
  meta_ : Meta
  hard : Resources
  used : Resources
  pods : Int
  has : Int
def Quota.cells (x : Quota) : List PV :=
  [.str x.meta_.kind, .str x.meta_.namespace_, .str x.meta_.name, .int .i64 x.meta_.uid, .int .i64 x.meta_.version, .int .i64 x.meta_.generation, .int .i64 x.meta_.created, .bool x.meta_.deleting, .int .i64 x.meta_.deleteAt, .sl (Label.rows x.meta_.labels), .sl (Owner.rows x.meta_.owners), .sl (strRows x.meta_.finalizers), .sl (Manager.rows x.meta_.managers), .int .i64 x.hard.cPU, .int .i64 x.hard.memory, .int .i64 x.hard.disk, .int .i64 x.used.cPU, .int .i64 x.used.memory, .int .i64 x.used.disk, .int .i64 x.pods, .int .i64 x.has]
def Quota.rows (l : List Quota) : List (List PV) := l.map Quota.cells
theorem Quota.rowsLen (l : List Quota) : (Quota.rows l).length = l.length := by simp [Quota.rows]
theorem Quota.rowsGet {l : List Quota} {i : Nat} {x : Quota} (h : l[i]? = some x) : (Quota.rows l)[i]? = some (Quota.cells x) := Go.Pv.rowsGet h
theorem Quota.rowsSnoc (l : List Quota) (x : Quota) : Quota.rows (l ++ [x]) = Quota.rows l ++ [Quota.cells x] := by simp [Quota.rows]
theorem Quota.rowsApp (l m : List Quota) : Quota.rows (l ++ m) = Quota.rows l ++ Quota.rows m := by simp [Quota.rows]
theorem Quota.rowsTake (l : List Quota) (n : Nat) : Quota.rows (l.take n) = (Quota.rows l).take n := by simp [Quota.rows, List.map_take]
theorem Quota.rowsDrop (l : List Quota) (n : Nat) : Quota.rows (l.drop n) = (Quota.rows l).drop n := by simp [Quota.rows, List.map_drop]
theorem Quota.rowsSize (l : List Quota) : ∀ r ∈ Quota.rows l, r.length = 21 := mapSize (f := Quota.cells) (fun _ => rfl) l
theorem Quota.rowsView (l : List Quota) (sz : Nat) (h : sz = 21) : ViewOK sz (Quota.rows l).flatten (Quota.rows l) := by subst h; exact ⟨rfl, Quota.rowsSize l, mapPlain (f := Quota.cells) (fun _ => rfl) l⟩

/-- orchestrator/ orchestratorlaw22.lives -/
theorem t_law22_lives : Tells G (.call 26 [] []) (.ret (.bool true) []) := ⟨20, by kernel_rfl⟩

inductive R_law22_Small_b0 where
  | k0
  | k1
def l_law22_Small_b0 (p0 : List Pod) : List Pod → Nat → R_law22_Small_b0
  | [], _i0 =>
    (.k0)
  | x0 :: r0, i0 =>
    bif (s_law19_SmallPod x0) then
      l_law22_Small_b0 p0 r0 (i0 + 1)
    else
      (.k1)
def HE_law22_Small_b0 (p0 : List Pod) (i0 : Nat) : List PV :=
  [.un, .un, .un, .un, .un, .un, .un, .un, .sl (Pod.rows p0), .int .i64 ((List.length p0) : Int), .int .i64 (i0 : Int), .un, .un, .un, .un, .un, .un, .un]
def HO_law22_Small_b0 (_p0 : List Pod) (_i0 : Nat) : List Ob :=
  []
def E_law22_Small_b0 (p0 : List Pod) (i0 : Nat) : En := .loop 0 Ir.law22_Small_b0_live Ir.law22_Small_b0 (HE_law22_Small_b0 p0 i0) (HO_law22_Small_b0 p0 i0)
def S_law22_Small_b0_0 (_p0 : List Pod) (z : Nat → PV) (_zo : Nat → List PV) : St :=
  ⟨[z 0, z 1, z 2, z 3, z 4, z 5, z 6, z 7, z 8, z 9, z 10, z 11, z 12, z 13, z 14, z 15, z 16, z 17], [], 64⟩
def S_law22_Small_b0_1 (_p0 : List Pod) (z : Nat → PV) (zo : Nat → List PV) : St :=
  ⟨[z 0, z 1, .bool false, z 3, z 4, z 5, z 6, z 7, z 8, z 9, z 10, z 11, z 12, z 13, z 14, z 15, z 16, z 17], [(192, ⟨32, 0, true, zo 192⟩)], 576⟩
def P_law22_Small_b0 (p0 : List Pod) (e : En) : R_law22_Small_b0 → Prop
  | .k0 => ∃ z zo, Tells G e (.st (.exit 0) (S_law22_Small_b0_0 p0 z zo))
  | .k1 => ∃ z zo, Tells G e (.st .ret (S_law22_Small_b0_1 p0 z zo))
theorem P_law22_Small_b0_mono (p0 : List Pod) {e e' : En} (h : ∀ r, Tells G e r → Tells G e' r) : ∀ q, P_law22_Small_b0 p0 e q → P_law22_Small_b0 p0 e' q
  | .k0, ⟨z, zo, hz⟩ => ⟨z, zo, h _ hz⟩
  | .k1, ⟨z, zo, hz⟩ => ⟨z, zo, h _ hz⟩
def H_law22_Small_b0 (p0 : List Pod) : Prop := (List.length p0 ≤ 4611686018427387904) ∧ (∀ x0 ∈ p0, H_law19_SmallPod x0) ∧ True
def Z_law22_Small_b0_0 (p0 : List Pod) (i0 : Nat) : List PV :=
  [.un, .un, .un, .un, .un, .un, .un, .un, .sl (Pod.rows p0), .int .i64 ((List.length p0) : Int), .int .i64 (i0 : Int), .bool false, .un, .un, .un, .un, .un, .un]
def ZO_law22_Small_b0_0 (_p0 : List Pod) (_i0 : Nat) : List (Nat × List PV) :=
  []
theorem x_law22_Small_b0_0 (p0 : List Pod) (_H : H_law22_Small_b0 p0) (i0 : Nat) (hc0 : (decide ((i0 : Int) < ((List.length p0) : Int))) = false) : P_law22_Small_b0 p0 (E_law22_Small_b0 p0 i0) (.k0) := by
  exact ⟨(envF (Z_law22_Small_b0_0 p0 i0)), (zoF (ZO_law22_Small_b0_0 p0 i0)), tells_outV (h := HO_law22_Small_b0 p0 i0) (vw := []) VOK.nil (x := ((.exit 0), S_law22_Small_b0_0 p0 (envF (Z_law22_Small_b0_0 p0 i0)) (zoF (ZO_law22_Small_b0_0 p0 i0)))) (hs := [(0, (bE false, []))]) (as := []) (Met.cons (dec (decide ((i0 : Int) < ((List.length p0) : Int))) false hc0) Met.nil) Told.nil (by kernel_rfl)⟩
theorem n_law22_Small_b0_1 (p0 : List Pod) (H : H_law22_Small_b0 p0) (x0 : Pod) (i0 : Nat) (hx0 : p0[i0]? = some x0) (hi0 : i0 < List.length p0) (hc0 : (decide ((i0 : Int) < ((List.length p0) : Int))) = true) (h0 : (s_law19_SmallPod x0) = true) {r : Rs} (hr : Tells G (E_law22_Small_b0 p0 (i0 + 1)) r) : Tells G (E_law22_Small_b0 p0 i0) r := by
  have hB := H.1
  exact tells_nextV (h := HO_law22_Small_b0 p0 i0) (vw := []) VOK.nil (y := (HE_law22_Small_b0 p0 (i0 + 1), HO_law22_Small_b0 p0 (i0 + 1))) (hs := [(0, (bE true, [])), (0, (vE (.rf (Pod.cells x0)), [])), (6, (vE (.int .i64 ((i0 + 1 : Nat) : Int)), []))]) (as := [⟨.ret (.bool true) [], []⟩]) (Met.cons (dec (decide ((i0 : Int) < ((List.length p0) : Int))) true hc0) (Met.cons (ix_ok 32 (Pod.rows p0) i0 _ (Pod.rowsGet hx0) rfl) (Met.cons (inc_ok i0 (by omega)) Met.nil))) (Told.cons (toldOf (t_law19_SmallPod x0 (H.2.1 x0 (mem_get hx0))) (congrArg (fun b => Rs.ret (.bool b) []) h0)) Told.nil) (by kernel_rfl) hr
def Z_law22_Small_b0_2 (p0 : List Pod) (i0 : Nat) (x0 : Pod) : List PV :=
  [.un, .un, .un, .un, .bx 192 0, .un, .un, .un, .sl (Pod.rows p0), .int .i64 ((List.length p0) : Int), .int .i64 (i0 : Int), .bool true, .rf [.str x0.meta_.kind, .str x0.meta_.namespace_, .str x0.meta_.name, .int .i64 x0.meta_.uid, .int .i64 x0.meta_.version, .int .i64 x0.meta_.generation, .int .i64 x0.meta_.created, .bool x0.meta_.deleting, .int .i64 x0.meta_.deleteAt, .sl (Label.rows x0.meta_.labels), .sl (Owner.rows x0.meta_.owners), .sl (strRows x0.meta_.finalizers), .sl (Manager.rows x0.meta_.managers), .str x0.spec.node, .int .i64 x0.spec.priority, .int .i64 x0.spec.restart, .int .i64 x0.spec.grace, .sl (Container.rows x0.spec.containers), .sl (Requirement.rows x0.spec.nodeSelector), .sl (NodeTerm.rows x0.spec.nodeTerms), .sl (PodTerm.rows x0.spec.podTerms), .sl (SpreadRule.rows x0.spec.spread), .sl (Toleration.rows x0.spec.tolerations), .int .i64 x0.status.phase, .bool x0.status.ready, .int .i64 x0.status.readySince, .int .i64 x0.status.started, .int .i64 x0.status.finished, .sl (ContainerStatus.rows x0.status.containers), .int .i64 x0.status.address, .str x0.status.nominated, .str x0.status.reason], .agg [.str x0.meta_.kind, .str x0.meta_.namespace_, .str x0.meta_.name, .int .i64 x0.meta_.uid, .int .i64 x0.meta_.version, .int .i64 x0.meta_.generation, .int .i64 x0.meta_.created, .bool x0.meta_.deleting, .int .i64 x0.meta_.deleteAt, .sl (Label.rows x0.meta_.labels), .sl (Owner.rows x0.meta_.owners), .sl (strRows x0.meta_.finalizers), .sl (Manager.rows x0.meta_.managers), .str x0.spec.node, .int .i64 x0.spec.priority, .int .i64 x0.spec.restart, .int .i64 x0.spec.grace, .sl (Container.rows x0.spec.containers), .sl (Requirement.rows x0.spec.nodeSelector), .sl (NodeTerm.rows x0.spec.nodeTerms), .sl (PodTerm.rows x0.spec.podTerms), .sl (SpreadRule.rows x0.spec.spread), .sl (Toleration.rows x0.spec.tolerations), .int .i64 x0.status.phase, .bool x0.status.ready, .int .i64 x0.status.readySince, .int .i64 x0.status.started, .int .i64 x0.status.finished, .sl (ContainerStatus.rows x0.status.containers), .int .i64 x0.status.address, .str x0.status.nominated, .str x0.status.reason], .agg [.str x0.meta_.kind, .str x0.meta_.namespace_, .str x0.meta_.name, .int .i64 x0.meta_.uid, .int .i64 x0.meta_.version, .int .i64 x0.meta_.generation, .int .i64 x0.meta_.created, .bool x0.meta_.deleting, .int .i64 x0.meta_.deleteAt, .sl (Label.rows x0.meta_.labels), .sl (Owner.rows x0.meta_.owners), .sl (strRows x0.meta_.finalizers), .sl (Manager.rows x0.meta_.managers), .str x0.spec.node, .int .i64 x0.spec.priority, .int .i64 x0.spec.restart, .int .i64 x0.spec.grace, .sl (Container.rows x0.spec.containers), .sl (Requirement.rows x0.spec.nodeSelector), .sl (NodeTerm.rows x0.spec.nodeTerms), .sl (PodTerm.rows x0.spec.podTerms), .sl (SpreadRule.rows x0.spec.spread), .sl (Toleration.rows x0.spec.tolerations), .int .i64 x0.status.phase, .bool x0.status.ready, .int .i64 x0.status.readySince, .int .i64 x0.status.started, .int .i64 x0.status.finished, .sl (ContainerStatus.rows x0.status.containers), .int .i64 x0.status.address, .str x0.status.nominated, .str x0.status.reason], .bool false, .bool true, .un]
def ZO_law22_Small_b0_2 (_p0 : List Pod) (_i0 : Nat) (x0 : Pod) : List (Nat × List PV) :=
  [(192, [.str x0.meta_.kind, .str x0.meta_.namespace_, .str x0.meta_.name, .int .i64 x0.meta_.uid, .int .i64 x0.meta_.version, .int .i64 x0.meta_.generation, .int .i64 x0.meta_.created, .bool x0.meta_.deleting, .int .i64 x0.meta_.deleteAt, .sl (Label.rows x0.meta_.labels), .sl (Owner.rows x0.meta_.owners), .sl (strRows x0.meta_.finalizers), .sl (Manager.rows x0.meta_.managers), .str x0.spec.node, .int .i64 x0.spec.priority, .int .i64 x0.spec.restart, .int .i64 x0.spec.grace, .sl (Container.rows x0.spec.containers), .sl (Requirement.rows x0.spec.nodeSelector), .sl (NodeTerm.rows x0.spec.nodeTerms), .sl (PodTerm.rows x0.spec.podTerms), .sl (SpreadRule.rows x0.spec.spread), .sl (Toleration.rows x0.spec.tolerations), .int .i64 x0.status.phase, .bool x0.status.ready, .int .i64 x0.status.readySince, .int .i64 x0.status.started, .int .i64 x0.status.finished, .sl (ContainerStatus.rows x0.status.containers), .int .i64 x0.status.address, .str x0.status.nominated, .str x0.status.reason])]
theorem x_law22_Small_b0_2 (p0 : List Pod) (H : H_law22_Small_b0 p0) (x0 : Pod) (i0 : Nat) (hx0 : p0[i0]? = some x0) (_hi0 : i0 < List.length p0) (hc0 : (decide ((i0 : Int) < ((List.length p0) : Int))) = true) (h0 : (s_law19_SmallPod x0) = false) : P_law22_Small_b0 p0 (E_law22_Small_b0 p0 i0) (.k1) := by
  exact ⟨(envF (Z_law22_Small_b0_2 p0 i0 x0)), (zoF (ZO_law22_Small_b0_2 p0 i0 x0)), tells_outV (h := HO_law22_Small_b0 p0 i0) (vw := []) VOK.nil (x := (.ret, S_law22_Small_b0_1 p0 (envF (Z_law22_Small_b0_2 p0 i0 x0)) (zoF (ZO_law22_Small_b0_2 p0 i0 x0)))) (hs := [(0, (bE true, [])), (0, (vE (.rf (Pod.cells x0)), []))]) (as := [⟨.ret (.bool false) [], []⟩]) (Met.cons (dec (decide ((i0 : Int) < ((List.length p0) : Int))) true hc0) (Met.cons (ix_ok 32 (Pod.rows p0) i0 _ (Pod.rowsGet hx0) rfl) Met.nil)) (Told.cons (toldOf (t_law19_SmallPod x0 (H.2.1 x0 (mem_get hx0))) (congrArg (fun b => Rs.ret (.bool b) []) h0)) Told.nil) (by kernel_rfl)⟩
theorem lt_law22_Small_b0 (p0 : List Pod) (H : H_law22_Small_b0 p0) : ∀ (r0 : List Pod) (i0 : Nat), List.drop i0 p0 = r0 → P_law22_Small_b0 p0 (E_law22_Small_b0 p0 i0) (l_law22_Small_b0 p0 r0 i0)
  | [], i0, hd => by
    have hc0 : (decide ((i0 : Int) < ((List.length p0) : Int))) = false := by have := drop_end hd; simp; omega
    rw [l_law22_Small_b0]
    exact x_law22_Small_b0_0 p0 H i0 hc0
  | x0 :: r0, i0, hd => by
    obtain ⟨hx0, hi0, hd'⟩ := drop_get hd
    have hc0 : (decide ((i0 : Int) < ((List.length p0) : Int))) = true := by simp; omega
    rw [l_law22_Small_b0]
    cases h0 : (s_law19_SmallPod x0) with
    | true =>
      exact P_law22_Small_b0_mono p0 (fun r hr => n_law22_Small_b0_1 p0 H x0 i0 hx0 hi0 hc0 h0 hr) _ (lt_law22_Small_b0 p0 H r0 (i0 + 1) hd')
    | false =>
      exact x_law22_Small_b0_2 p0 H x0 i0 hx0 hi0 hc0 h0
/-- orchestrator/ orchestratorlaw22.Small -/
def s_law22_Small (p0 : List Pod) : Bool :=
  bif (decide (20 < ((List.length p0) : Int))) then
    false
  else
    (match (l_law22_Small_b0 p0 p0 0) with
    | .k0 => true
    | .k1 => false)
def c_law22_Small (p0 : List Pod) : En := .call 23 [.sl (Pod.rows p0)] []
def a_law22_Small (p0 : List Pod) : Rs := .ret (.bool (s_law22_Small p0)) []
def H_law22_Small (p0 : List Pod) : Prop := (H_law22_Small_b0 p0) ∧ True
theorem t_law22_Small (p0 : List Pod) (H : H_law22_Small p0) : Tells G (c_law22_Small p0) (a_law22_Small p0) := by
  unfold a_law22_Small s_law22_Small
  cases h0 : (decide (20 < ((List.length p0) : Int))) with
  | true =>
    exact tells_V (fn := Ir.law22_Small) rfl VOK.nil (hs := [(2, (vE (.int .i64 ((List.length p0) : Int)), [])), (0, (bE true, []))]) (as := []) (Met.cons (len_ok (Pod.rows p0) (List.length p0) (Pod.rowsLen p0)) (Met.cons (dec (decide (20 < ((List.length p0) : Int))) true h0) Met.nil)) Told.nil (by kernel_rfl)
  | false =>
    have hl1 := lt_law22_Small_b0 p0 (H.1) p0 0 (by simp)
    cases hr1 : (l_law22_Small_b0 p0 p0 0) with
    | k0 =>
      rw [hr1] at hl1
      obtain ⟨z1, zo1, hl1⟩ := hl1
      exact tells_V (fn := Ir.law22_Small) rfl VOK.nil (hs := [(2, (vE (.int .i64 ((List.length p0) : Int)), [])), (0, (bE false, [])), (1, (vE (.int .i64 ((List.length p0) : Int)), []))]) (as := [⟨.st (.exit 0) (S_law22_Small_b0_0 p0 z1 zo1), []⟩]) (Met.cons (len_ok (Pod.rows p0) (List.length p0) (Pod.rowsLen p0)) (Met.cons (dec (decide (20 < ((List.length p0) : Int))) false h0) (Met.cons (len_ok (Pod.rows p0) (List.length p0) (Pod.rowsLen p0)) Met.nil))) (Told.cons hl1 Told.nil) (by kernel_rfl)
    | k1 =>
      rw [hr1] at hl1
      obtain ⟨z1, zo1, hl1⟩ := hl1
      exact tells_V (fn := Ir.law22_Small) rfl VOK.nil (hs := [(2, (vE (.int .i64 ((List.length p0) : Int)), [])), (0, (bE false, [])), (1, (vE (.int .i64 ((List.length p0) : Int)), []))]) (as := [⟨.st .ret (S_law22_Small_b0_1 p0 z1 zo1), []⟩]) (Met.cons (len_ok (Pod.rows p0) (List.length p0) (Pod.rowsLen p0)) (Met.cons (dec (decide (20 < ((List.length p0) : Int))) false h0) (Met.cons (len_ok (Pod.rows p0) (List.length p0) (Pod.rowsLen p0)) Met.nil))) (Told.cons hl1 Told.nil) (by kernel_rfl)

/-- orchestrator/ quota.counts -/
def s_quota_counts (p0 : Pod) : Bool :=
  bif (p0.status.phase == 0) then
    true
  else
    (p0.status.phase == 1)
def c_quota_counts (p0 : Pod) : En := .call 43 [.agg (Pod.cells p0)] []
def a_quota_counts (p0 : Pod) : Rs := .ret (.bool (s_quota_counts p0)) []
theorem t_quota_counts (p0 : Pod) : Tells G (c_quota_counts p0) (a_quota_counts p0) := by
  unfold a_quota_counts s_quota_counts
  cases h0 : (p0.status.phase == 0) with
  | true =>
    exact tells_V (fn := Ir.quota_counts) rfl VOK.nil (hs := [(5, (bE true, []))]) (as := []) (Met.cons (dec (p0.status.phase == 0) true h0) Met.nil) Told.nil (by kernel_rfl)
  | false =>
    exact tells_V (fn := Ir.quota_counts) rfl VOK.nil (hs := [(5, (bE false, []))]) (as := []) (Met.cons (dec (p0.status.phase == 0) false h0) Met.nil) Told.nil (by kernel_rfl)

/-- orchestrator/ resource.clamp -/
def s_resource_clamp (p0 : Int) : Int :=
  (mn (mx p0 0) 1000000000000000)
def c_resource_clamp (p0 : Int) : En := .call 37 [.int .i64 p0] []
def a_resource_clamp (p0 : Int) : Rs := .ret (.int .i64 (s_resource_clamp p0)) []
theorem t_resource_clamp (p0 : Int) : Tells G (c_resource_clamp p0) (a_resource_clamp p0) := by
  unfold a_resource_clamp s_resource_clamp
  exact tells_V (fn := Ir.resource_clamp) rfl VOK.nil (hs := []) (as := []) Met.nil Told.nil (by kernel_rfl)

/-- orchestrator/ resource.Add$1 -/
def s_resource_Add_1 (p0 : Int) (p1 : Int) : Int :=
  (s_resource_clamp (w64 (p0 + p1)))
def c_resource_Add_1 (p0 : Int) (p1 : Int) : En := .call 36 [.int .i64 p0, .int .i64 p1] []
def a_resource_Add_1 (p0 : Int) (p1 : Int) : Rs := .ret (.int .i64 (s_resource_Add_1 p0 p1)) []
theorem t_resource_Add_1 (p0 : Int) (p1 : Int) : Tells G (c_resource_Add_1 p0 p1) (a_resource_Add_1 p0 p1) := by
  unfold a_resource_Add_1 s_resource_Add_1
  exact tells_V (fn := Ir.resource_Add_1) rfl VOK.nil (hs := []) (as := [⟨a_resource_clamp (w64 (p0 + p1)), []⟩]) Met.nil (Told.cons (t_resource_clamp (w64 (p0 + p1))) Told.nil) (by kernel_rfl)

/-- orchestrator/ resource.each -/
def s_resource_each_f36 (p0 : Resources) (p1 : Resources) : Resources :=
  (Resources.mk (s_resource_Add_1 (s_resource_clamp p0.cPU) (s_resource_clamp p1.cPU)) (s_resource_Add_1 (s_resource_clamp p0.memory) (s_resource_clamp p1.memory)) (s_resource_Add_1 (s_resource_clamp p0.disk) (s_resource_clamp p1.disk)))
def c_resource_each_f36 (p0 : Resources) (p1 : Resources) : En := .call 35 [.agg (Resources.cells p0), .agg (Resources.cells p1), .fn 36 [] []] []
def a_resource_each_f36 (p0 : Resources) (p1 : Resources) : Rs := .ret (.agg (Resources.cells (s_resource_each_f36 p0 p1))) []
theorem t_resource_each_f36 (p0 : Resources) (p1 : Resources) : Tells G (c_resource_each_f36 p0 p1) (a_resource_each_f36 p0 p1) := by
  unfold a_resource_each_f36 s_resource_each_f36
  exact tells_V (fn := Ir.resource_each) rfl VOK.nil (hs := []) (as := [⟨a_resource_clamp p0.cPU, []⟩, ⟨a_resource_clamp p1.cPU, []⟩, ⟨a_resource_Add_1 (s_resource_clamp p0.cPU) (s_resource_clamp p1.cPU), []⟩, ⟨a_resource_clamp p0.memory, []⟩, ⟨a_resource_clamp p1.memory, []⟩, ⟨a_resource_Add_1 (s_resource_clamp p0.memory) (s_resource_clamp p1.memory), []⟩, ⟨a_resource_clamp p0.disk, []⟩, ⟨a_resource_clamp p1.disk, []⟩, ⟨a_resource_Add_1 (s_resource_clamp p0.disk) (s_resource_clamp p1.disk), []⟩]) Met.nil (Told.cons (t_resource_clamp p0.cPU) (Told.cons (t_resource_clamp p1.cPU) (Told.cons (t_resource_Add_1 (s_resource_clamp p0.cPU) (s_resource_clamp p1.cPU)) (Told.cons (t_resource_clamp p0.memory) (Told.cons (t_resource_clamp p1.memory) (Told.cons (t_resource_Add_1 (s_resource_clamp p0.memory) (s_resource_clamp p1.memory)) (Told.cons (t_resource_clamp p0.disk) (Told.cons (t_resource_clamp p1.disk) (Told.cons (t_resource_Add_1 (s_resource_clamp p0.disk) (s_resource_clamp p1.disk)) Told.nil))))))))) (by kernel_rfl)

/-- orchestrator/ resource.Add -/
def s_resource_Add (p0 : Resources) (p1 : Resources) : Resources :=
  (s_resource_each_f36 p0 p1)
def c_resource_Add (p0 : Resources) (p1 : Resources) : En := .call 13 [.agg (Resources.cells p0), .agg (Resources.cells p1)] []
def a_resource_Add (p0 : Resources) (p1 : Resources) : Rs := .ret (.agg (Resources.cells (s_resource_Add p0 p1))) []
theorem t_resource_Add (p0 : Resources) (p1 : Resources) : Tells G (c_resource_Add p0 p1) (a_resource_Add p0 p1) := by
  unfold a_resource_Add s_resource_Add
  exact tells_V (fn := Ir.resource_Add) rfl VOK.nil (hs := []) (as := [⟨a_resource_each_f36 p0 p1, []⟩]) Met.nil (Told.cons (t_resource_each_f36 p0 p1) Told.nil) (by kernel_rfl)

def l_resource_Requests_b0 (p0 : PodSpec) : List Container → Nat → Resources → Resources
  | [], _i0, v0_1 =>
    v0_1
  | x0 :: r0, i0, v0_1 =>
    l_resource_Requests_b0 p0 r0 (i0 + 1) (s_resource_Add v0_1 x0.request)
def HE_resource_Requests_b0 (p0 : PodSpec) (i0 : Nat) (_v0_1 : Resources) : List PV :=
  [.un, .un, .bx 0 0, .bx 1 0, .un, .un, .un, .sl (Container.rows p0.containers), .int .i64 ((List.length p0.containers) : Int), .int .i64 (i0 : Int), .un, .un, .un, .un, .un, .un, .un, .un, .un]
def HO_resource_Requests_b0 (_p0 : PodSpec) (_i0 : Nat) (v0_1 : Resources) : List Ob :=
  [⟨3, 0, true, [.int .i64 0, .int .i64 0, .int .i64 0]⟩, ⟨3, 0, true, [.int .i64 v0_1.cPU, .int .i64 v0_1.memory, .int .i64 v0_1.disk]⟩]
def E_resource_Requests_b0 (p0 : PodSpec) (i0 : Nat) (v0_1 : Resources) : En := .loop 0 Ir.resource_Requests_b0_live Ir.resource_Requests_b0 (HE_resource_Requests_b0 p0 i0 v0_1) (HO_resource_Requests_b0 p0 i0 v0_1)
def S_resource_Requests_b0_0 (_p0 : PodSpec) (q0 : Resources) (z : Nat → PV) (_zo : Nat → List PV) : St :=
  ⟨[z 0, z 1, .bx 0 0, .bx 1 0, z 4, z 5, z 6, z 7, z 8, z 9, z 10, z 11, z 12, z 13, z 14, z 15, z 16, z 17, z 18], [(0, ⟨3, 0, true, [.int .i64 0, .int .i64 0, .int .i64 0]⟩), (1, ⟨3, 0, true, [.int .i64 q0.cPU, .int .i64 q0.memory, .int .i64 q0.disk]⟩)], 66⟩
def P_resource_Requests_b0 (p0 : PodSpec) (e : En) (q : Resources) : Prop := ∃ z zo, Tells G e (.st (.exit 0) (S_resource_Requests_b0_0 p0 q z zo))
theorem P_resource_Requests_b0_mono (p0 : PodSpec) {e e' : En} (h : ∀ r, Tells G e r → Tells G e' r) : ∀ q, P_resource_Requests_b0 p0 e q → P_resource_Requests_b0 p0 e' q
  | _, ⟨z, zo, hz⟩ => ⟨z, zo, h _ hz⟩
def H_resource_Requests_b0 (p0 : PodSpec) : Prop := (List.length p0.containers ≤ 4611686018427387904) ∧ True
def Z_resource_Requests_b0_0 (p0 : PodSpec) (i0 : Nat) (_v0_1 : Resources) : List PV :=
  [.un, .un, .un, .un, .un, .un, .un, .sl (Container.rows p0.containers), .int .i64 ((List.length p0.containers) : Int), .int .i64 (i0 : Int), .bool false, .un, .un, .un, .un, .un, .un, .un, .un]
def ZO_resource_Requests_b0_0 (_p0 : PodSpec) (_i0 : Nat) (_v0_1 : Resources) : List (Nat × List PV) :=
  []
theorem x_resource_Requests_b0_0 (p0 : PodSpec) (_H : H_resource_Requests_b0 p0) (i0 : Nat) (v0_1 : Resources) (hc0 : (decide ((i0 : Int) < ((List.length p0.containers) : Int))) = false) : P_resource_Requests_b0 p0 (E_resource_Requests_b0 p0 i0 v0_1) v0_1 := by
  exact ⟨(envF (Z_resource_Requests_b0_0 p0 i0 v0_1)), (zoF (ZO_resource_Requests_b0_0 p0 i0 v0_1)), tells_outV (h := HO_resource_Requests_b0 p0 i0 v0_1) (vw := []) VOK.nil (x := ((.exit 0), S_resource_Requests_b0_0 p0 v0_1 (envF (Z_resource_Requests_b0_0 p0 i0 v0_1)) (zoF (ZO_resource_Requests_b0_0 p0 i0 v0_1)))) (hs := [(0, (bE false, []))]) (as := []) (Met.cons (dec (decide ((i0 : Int) < ((List.length p0.containers) : Int))) false hc0) Met.nil) Told.nil (by kernel_rfl)⟩
theorem n_resource_Requests_b0_1 (p0 : PodSpec) (H : H_resource_Requests_b0 p0) (x0 : Container) (i0 : Nat) (v0_1 : Resources) (hx0 : p0.containers[i0]? = some x0) (hi0 : i0 < List.length p0.containers) (hc0 : (decide ((i0 : Int) < ((List.length p0.containers) : Int))) = true) {r : Rs} (hr : Tells G (E_resource_Requests_b0 p0 (i0 + 1) (s_resource_Add v0_1 x0.request)) r) : Tells G (E_resource_Requests_b0 p0 i0 v0_1) r := by
  have hB := H.1
  exact tells_nextV (h := HO_resource_Requests_b0 p0 i0 v0_1) (vw := []) VOK.nil (y := (HE_resource_Requests_b0 p0 (i0 + 1) (s_resource_Add v0_1 x0.request), HO_resource_Requests_b0 p0 (i0 + 1) (s_resource_Add v0_1 x0.request))) (hs := [(0, (bE true, [])), (0, (vE (.rf (Container.cells x0)), [])), (8, (vE (.int .i64 ((i0 + 1 : Nat) : Int)), []))]) (as := [⟨a_resource_Add v0_1 x0.request, []⟩]) (Met.cons (dec (decide ((i0 : Int) < ((List.length p0.containers) : Int))) true hc0) (Met.cons (ix_ok 11 (Container.rows p0.containers) i0 _ (Container.rowsGet hx0) rfl) (Met.cons (inc_ok i0 (by omega)) Met.nil))) (Told.cons (t_resource_Add v0_1 x0.request) Told.nil) (by kernel_rfl) hr
theorem lt_resource_Requests_b0 (p0 : PodSpec) (H : H_resource_Requests_b0 p0) : ∀ (r0 : List Container) (i0 : Nat) (v0_1 : Resources), List.drop i0 p0.containers = r0 → P_resource_Requests_b0 p0 (E_resource_Requests_b0 p0 i0 v0_1) (l_resource_Requests_b0 p0 r0 i0 v0_1)
  | [], i0, v0_1, hd => by
    have hc0 : (decide ((i0 : Int) < ((List.length p0.containers) : Int))) = false := by have := drop_end hd; simp; omega
    rw [l_resource_Requests_b0]
    exact x_resource_Requests_b0_0 p0 H i0 v0_1 hc0
  | x0 :: r0, i0, v0_1, hd => by
    obtain ⟨hx0, hi0, hd'⟩ := drop_get hd
    have hc0 : (decide ((i0 : Int) < ((List.length p0.containers) : Int))) = true := by simp; omega
    rw [l_resource_Requests_b0]
    exact P_resource_Requests_b0_mono p0 (fun r hr => n_resource_Requests_b0_1 p0 H x0 i0 v0_1 hx0 hi0 hc0 hr) _ (lt_resource_Requests_b0 p0 H r0 (i0 + 1) (s_resource_Add v0_1 x0.request) hd')
/-- orchestrator/ resource.Requests -/
def s_resource_Requests (p0 : PodSpec) : Resources :=
  (l_resource_Requests_b0 p0 p0.containers 0 (Resources.mk 0 0 0))
def c_resource_Requests (p0 : PodSpec) : En := .call 19 [.agg (PodSpec.cells p0)] []
def a_resource_Requests (p0 : PodSpec) : Rs := .ret (.agg (Resources.cells (s_resource_Requests p0))) []
def H_resource_Requests (p0 : PodSpec) : Prop := (H_resource_Requests_b0 p0) ∧ True
theorem t_resource_Requests (p0 : PodSpec) (H : H_resource_Requests p0) : Tells G (c_resource_Requests p0) (a_resource_Requests p0) := by
  unfold a_resource_Requests s_resource_Requests
  have hl0 := lt_resource_Requests_b0 p0 (H.1) p0.containers 0 (Resources.mk 0 0 0) (by simp)
  obtain ⟨z0, zo0, hl0⟩ := hl0
  exact tells_V (fn := Ir.resource_Requests) rfl VOK.nil (hs := [(5, (vE (.int .i64 ((List.length p0.containers) : Int)), []))]) (as := [⟨.st (.exit 0) (S_resource_Requests_b0_0 p0 (l_resource_Requests_b0 p0 p0.containers 0 (Resources.mk 0 0 0)) z0 zo0), []⟩]) (Met.cons (len_ok (Container.rows p0.containers) (List.length p0.containers) (Container.rowsLen p0.containers)) Met.nil) (Told.cons hl0 Told.nil) (by kernel_rfl)

def l_quota_Usage_b0 (p0 : List Pod) : List Pod → Nat → Int → Resources → Resources × Int
  | [], _i0, v0_1, v0_2 =>
    (v0_2, v0_1)
  | x0 :: r0, i0, v0_1, v0_2 =>
    bif (s_quota_counts x0) then
      l_quota_Usage_b0 p0 r0 (i0 + 1) (w64 (v0_1 + 1)) (s_resource_Add v0_2 (s_resource_Requests x0.spec))
    else
      l_quota_Usage_b0 p0 r0 (i0 + 1) v0_1 v0_2
def HE_quota_Usage_b0 (p0 : List Pod) (i0 : Nat) (v0_1 : Int) (_v0_2 : Resources) : List PV :=
  [.un, .un, .bx 0 0, .un, .bx 1 0, .int .i64 v0_1, .un, .un, .sl (Pod.rows p0), .int .i64 ((List.length p0) : Int), .int .i64 (i0 : Int), .un, .un, .un, .un, .un, .un, .un, .un, .un, .un, .un, .un, .un, .un, .un]
def HO_quota_Usage_b0 (_p0 : List Pod) (_i0 : Nat) (_v0_1 : Int) (v0_2 : Resources) : List Ob :=
  [⟨3, 0, true, [.int .i64 0, .int .i64 0, .int .i64 0]⟩, ⟨3, 0, true, [.int .i64 v0_2.cPU, .int .i64 v0_2.memory, .int .i64 v0_2.disk]⟩]
def E_quota_Usage_b0 (p0 : List Pod) (i0 : Nat) (v0_1 : Int) (v0_2 : Resources) : En := .loop 0 Ir.quota_Usage_b0_live Ir.quota_Usage_b0 (HE_quota_Usage_b0 p0 i0 v0_1 v0_2) (HO_quota_Usage_b0 p0 i0 v0_1 v0_2)
def S_quota_Usage_b0_0 (_p0 : List Pod) (q0 : Resources) (q1 : Int) (z : Nat → PV) (_zo : Nat → List PV) : St :=
  ⟨[z 0, z 1, .bx 0 0, z 3, .bx 1 0, .int .i64 q1, z 6, z 7, z 8, z 9, z 10, z 11, z 12, z 13, z 14, z 15, z 16, z 17, z 18, z 19, z 20, z 21, z 22, z 23, z 24, z 25], [(0, ⟨3, 0, true, [.int .i64 0, .int .i64 0, .int .i64 0]⟩), (1, ⟨3, 0, true, [.int .i64 q0.cPU, .int .i64 q0.memory, .int .i64 q0.disk]⟩)], 66⟩
def P_quota_Usage_b0 (p0 : List Pod) (e : En) (q : Resources × Int) : Prop := ∃ z zo, Tells G e (.st (.exit 0) (S_quota_Usage_b0_0 p0 q.1 q.2 z zo))
theorem P_quota_Usage_b0_mono (p0 : List Pod) {e e' : En} (h : ∀ r, Tells G e r → Tells G e' r) : ∀ q, P_quota_Usage_b0 p0 e q → P_quota_Usage_b0 p0 e' q
  | _, ⟨z, zo, hz⟩ => ⟨z, zo, h _ hz⟩
def H_quota_Usage_b0 (p0 : List Pod) : Prop := (List.length p0 ≤ 4611686018427387904) ∧ (∀ x0 ∈ p0, H_resource_Requests x0.spec) ∧ True
def Z_quota_Usage_b0_0 (p0 : List Pod) (i0 : Nat) (_v0_1 : Int) (_v0_2 : Resources) : List PV :=
  [.un, .un, .un, .un, .un, .un, .un, .un, .sl (Pod.rows p0), .int .i64 ((List.length p0) : Int), .int .i64 (i0 : Int), .bool false, .un, .un, .un, .un, .un, .un, .un, .un, .un, .un, .un, .un, .un, .un]
def ZO_quota_Usage_b0_0 (_p0 : List Pod) (_i0 : Nat) (_v0_1 : Int) (_v0_2 : Resources) : List (Nat × List PV) :=
  []
theorem x_quota_Usage_b0_0 (p0 : List Pod) (_H : H_quota_Usage_b0 p0) (i0 : Nat) (v0_1 : Int) (v0_2 : Resources) (hc0 : (decide ((i0 : Int) < ((List.length p0) : Int))) = false) : P_quota_Usage_b0 p0 (E_quota_Usage_b0 p0 i0 v0_1 v0_2) (v0_2, v0_1) := by
  exact ⟨(envF (Z_quota_Usage_b0_0 p0 i0 v0_1 v0_2)), (zoF (ZO_quota_Usage_b0_0 p0 i0 v0_1 v0_2)), tells_outV (h := HO_quota_Usage_b0 p0 i0 v0_1 v0_2) (vw := []) VOK.nil (x := ((.exit 0), S_quota_Usage_b0_0 p0 v0_2 v0_1 (envF (Z_quota_Usage_b0_0 p0 i0 v0_1 v0_2)) (zoF (ZO_quota_Usage_b0_0 p0 i0 v0_1 v0_2)))) (hs := [(0, (bE false, []))]) (as := []) (Met.cons (dec (decide ((i0 : Int) < ((List.length p0) : Int))) false hc0) Met.nil) Told.nil (by kernel_rfl)⟩
theorem n_quota_Usage_b0_1 (p0 : List Pod) (H : H_quota_Usage_b0 p0) (x0 : Pod) (i0 : Nat) (v0_1 : Int) (v0_2 : Resources) (hx0 : p0[i0]? = some x0) (hi0 : i0 < List.length p0) (hc0 : (decide ((i0 : Int) < ((List.length p0) : Int))) = true) (h0 : (s_quota_counts x0) = true) {r : Rs} (hr : Tells G (E_quota_Usage_b0 p0 (i0 + 1) (w64 (v0_1 + 1)) (s_resource_Add v0_2 (s_resource_Requests x0.spec))) r) : Tells G (E_quota_Usage_b0 p0 i0 v0_1 v0_2) r := by
  have hB := H.1
  exact tells_nextV (h := HO_quota_Usage_b0 p0 i0 v0_1 v0_2) (vw := []) VOK.nil (y := (HE_quota_Usage_b0 p0 (i0 + 1) (w64 (v0_1 + 1)) (s_resource_Add v0_2 (s_resource_Requests x0.spec)), HO_quota_Usage_b0 p0 (i0 + 1) (w64 (v0_1 + 1)) (s_resource_Add v0_2 (s_resource_Requests x0.spec)))) (hs := [(0, (bE true, [])), (0, (vE (.rf (Pod.cells x0)), [])), (14, (vE (.int .i64 ((i0 + 1 : Nat) : Int)), []))]) (as := [⟨.ret (.bool true) [], []⟩, ⟨a_resource_Requests x0.spec, []⟩, ⟨a_resource_Add v0_2 (s_resource_Requests x0.spec), []⟩]) (Met.cons (dec (decide ((i0 : Int) < ((List.length p0) : Int))) true hc0) (Met.cons (ix_ok 32 (Pod.rows p0) i0 _ (Pod.rowsGet hx0) rfl) (Met.cons (inc_ok i0 (by omega)) Met.nil))) (Told.cons (toldOf (t_quota_counts x0) (congrArg (fun b => Rs.ret (.bool b) []) h0)) (Told.cons (t_resource_Requests x0.spec (H.2.1 x0 (mem_get hx0))) (Told.cons (t_resource_Add v0_2 (s_resource_Requests x0.spec)) Told.nil))) (by kernel_rfl) hr
theorem n_quota_Usage_b0_2 (p0 : List Pod) (H : H_quota_Usage_b0 p0) (x0 : Pod) (i0 : Nat) (v0_1 : Int) (v0_2 : Resources) (hx0 : p0[i0]? = some x0) (hi0 : i0 < List.length p0) (hc0 : (decide ((i0 : Int) < ((List.length p0) : Int))) = true) (h0 : (s_quota_counts x0) = false) {r : Rs} (hr : Tells G (E_quota_Usage_b0 p0 (i0 + 1) v0_1 v0_2) r) : Tells G (E_quota_Usage_b0 p0 i0 v0_1 v0_2) r := by
  have hB := H.1
  exact tells_nextV (h := HO_quota_Usage_b0 p0 i0 v0_1 v0_2) (vw := []) VOK.nil (y := (HE_quota_Usage_b0 p0 (i0 + 1) v0_1 v0_2, HO_quota_Usage_b0 p0 (i0 + 1) v0_1 v0_2)) (hs := [(0, (bE true, [])), (0, (vE (.rf (Pod.cells x0)), [])), (5, (vE (.int .i64 ((i0 + 1 : Nat) : Int)), []))]) (as := [⟨.ret (.bool false) [], []⟩]) (Met.cons (dec (decide ((i0 : Int) < ((List.length p0) : Int))) true hc0) (Met.cons (ix_ok 32 (Pod.rows p0) i0 _ (Pod.rowsGet hx0) rfl) (Met.cons (inc_ok i0 (by omega)) Met.nil))) (Told.cons (toldOf (t_quota_counts x0) (congrArg (fun b => Rs.ret (.bool b) []) h0)) Told.nil) (by kernel_rfl) hr
theorem lt_quota_Usage_b0 (p0 : List Pod) (H : H_quota_Usage_b0 p0) : ∀ (r0 : List Pod) (i0 : Nat) (v0_1 : Int) (v0_2 : Resources), List.drop i0 p0 = r0 → P_quota_Usage_b0 p0 (E_quota_Usage_b0 p0 i0 v0_1 v0_2) (l_quota_Usage_b0 p0 r0 i0 v0_1 v0_2)
  | [], i0, v0_1, v0_2, hd => by
    have hc0 : (decide ((i0 : Int) < ((List.length p0) : Int))) = false := by have := drop_end hd; simp; omega
    rw [l_quota_Usage_b0]
    exact x_quota_Usage_b0_0 p0 H i0 v0_1 v0_2 hc0
  | x0 :: r0, i0, v0_1, v0_2, hd => by
    obtain ⟨hx0, hi0, hd'⟩ := drop_get hd
    have hc0 : (decide ((i0 : Int) < ((List.length p0) : Int))) = true := by simp; omega
    rw [l_quota_Usage_b0]
    cases h0 : (s_quota_counts x0) with
    | true =>
      exact P_quota_Usage_b0_mono p0 (fun r hr => n_quota_Usage_b0_1 p0 H x0 i0 v0_1 v0_2 hx0 hi0 hc0 h0 hr) _ (lt_quota_Usage_b0 p0 H r0 (i0 + 1) (w64 (v0_1 + 1)) (s_resource_Add v0_2 (s_resource_Requests x0.spec)) hd')
    | false =>
      exact P_quota_Usage_b0_mono p0 (fun r hr => n_quota_Usage_b0_2 p0 H x0 i0 v0_1 v0_2 hx0 hi0 hc0 h0 hr) _ (lt_quota_Usage_b0 p0 H r0 (i0 + 1) v0_1 v0_2 hd')
/-- orchestrator/ quota.Usage -/
def s_quota_Usage (p0 : List Pod) : Resources × Int :=
  ((l_quota_Usage_b0 p0 p0 0 0 (Resources.mk 0 0 0)).1, (l_quota_Usage_b0 p0 p0 0 0 (Resources.mk 0 0 0)).2)
def c_quota_Usage (p0 : List Pod) : En := .call 27 [.sl (Pod.rows p0)] []
def a_quota_Usage (p0 : List Pod) : Rs := .ret (.tup [.agg (Resources.cells (s_quota_Usage p0).1), .int .i64 (s_quota_Usage p0).2]) []
def H_quota_Usage (p0 : List Pod) : Prop := (H_quota_Usage_b0 p0) ∧ True
theorem t_quota_Usage (p0 : List Pod) (H : H_quota_Usage p0) : Tells G (c_quota_Usage p0) (a_quota_Usage p0) := by
  unfold a_quota_Usage s_quota_Usage
  have hl0 := lt_quota_Usage_b0 p0 (H.1) p0 0 0 (Resources.mk 0 0 0) (by simp)
  obtain ⟨z0, zo0, hl0⟩ := hl0
  exact tells_V (fn := Ir.quota_Usage) rfl VOK.nil (hs := [(5, (vE (.int .i64 ((List.length p0) : Int)), []))]) (as := [⟨.st (.exit 0) (S_quota_Usage_b0_0 p0 (l_quota_Usage_b0 p0 p0 0 0 (Resources.mk 0 0 0)).1 (l_quota_Usage_b0 p0 p0 0 0 (Resources.mk 0 0 0)).2 z0 zo0), []⟩]) (Met.cons (len_ok (Pod.rows p0) (List.length p0) (Pod.rowsLen p0)) Met.nil) (Told.cons hl0 Told.nil) (by kernel_rfl)

def l_quota_of_b0 (p0 : List Pod) (p1 : ByteArray) : List Pod → Nat → (List Pod) → List Pod
  | [], _i0, v0_1 =>
    v0_1
  | x0 :: r0, i0, v0_1 =>
    bif (sEq x0.meta_.namespace_ p1) then
      l_quota_of_b0 p0 p1 r0 (i0 + 1) (v0_1 ++ [x0])
    else
      l_quota_of_b0 p0 p1 r0 (i0 + 1) v0_1
def HE_quota_of_b0 (p0 : List Pod) (p1 : ByteArray) (i0 : Nat) (v0_1 : List Pod) : List PV :=
  [.un, .str p1, .un, .un, .un, .ms 0 32 0 (List.length v0_1), .un, .un, .sl (Pod.rows p0), .int .i64 ((List.length p0) : Int), .int .i64 (i0 : Int), .un, .un, .un, .un, .un, .un, .un, .un, .un, .un, .un, .un, .un, .un]
def HO_quota_of_b0 (_p0 : List Pod) (_p1 : ByteArray) (_i0 : Nat) (v0_1 : List Pod) : List Ob :=
  [⟨32, 0, true, (Pod.rows v0_1).flatten⟩]
def E_quota_of_b0 (p0 : List Pod) (p1 : ByteArray) (i0 : Nat) (v0_1 : List Pod) : En := .loop 0 Ir.quota_of_b0_live Ir.quota_of_b0 (HE_quota_of_b0 p0 p1 i0 v0_1) (HO_quota_of_b0 p0 p1 i0 v0_1)
def S_quota_of_b0_0 (_p0 : List Pod) (_p1 : ByteArray) (q0 : List Pod) (z : Nat → PV) (_zo : Nat → List PV) : St :=
  ⟨[z 0, z 1, z 2, z 3, z 4, .ms 0 32 0 (List.length q0), z 6, z 7, z 8, z 9, z 10, z 11, z 12, z 13, z 14, z 15, z 16, z 17, z 18, z 19, z 20, z 21, z 22, z 23, z 24], [(0, ⟨32, 0, true, (Pod.rows q0).flatten⟩)], 65⟩
def P_quota_of_b0 (p0 : List Pod) (p1 : ByteArray) (e : En) (q : List Pod) : Prop := ∃ z zo, Tells G e (.st (.exit 0) (S_quota_of_b0_0 p0 p1 q z zo))
theorem P_quota_of_b0_mono (p0 : List Pod) (p1 : ByteArray) {e e' : En} (h : ∀ r, Tells G e r → Tells G e' r) : ∀ q, P_quota_of_b0 p0 p1 e q → P_quota_of_b0 p0 p1 e' q
  | _, ⟨z, zo, hz⟩ => ⟨z, zo, h _ hz⟩
def H_quota_of_b0 (p0 : List Pod) (_p1 : ByteArray) : Prop := (List.length p0 ≤ 137438953472) ∧ True
def Z_quota_of_b0_0 (p0 : List Pod) (p1 : ByteArray) (i0 : Nat) (_v0_1 : List Pod) : List PV :=
  [.un, .str p1, .un, .un, .un, .un, .un, .un, .sl (Pod.rows p0), .int .i64 ((List.length p0) : Int), .int .i64 (i0 : Int), .bool false, .un, .un, .un, .un, .un, .un, .un, .un, .un, .un, .un, .un, .un]
def ZO_quota_of_b0_0 (_p0 : List Pod) (_p1 : ByteArray) (_i0 : Nat) (_v0_1 : List Pod) : List (Nat × List PV) :=
  []
theorem x_quota_of_b0_0 (p0 : List Pod) (p1 : ByteArray) (_H : H_quota_of_b0 p0 p1) (i0 : Nat) (v0_1 : List Pod) (_ho0_0 : List.length v0_1 ≤ i0) (hc0 : (decide ((i0 : Int) < ((List.length p0) : Int))) = false) : P_quota_of_b0 p0 p1 (E_quota_of_b0 p0 p1 i0 v0_1) v0_1 := by
  exact ⟨(envF (Z_quota_of_b0_0 p0 p1 i0 v0_1)), (zoF (ZO_quota_of_b0_0 p0 p1 i0 v0_1)), tells_outV (h := HO_quota_of_b0 p0 p1 i0 v0_1) (vw := [(0, Pod.rows v0_1)]) (VOK.cons (show Seen _ _ from seenV (ob := ⟨32, 0, true, (Pod.rows v0_1).flatten⟩) (Pod.rowsView v0_1 32 rfl)) VOK.nil) (x := ((.exit 0), S_quota_of_b0_0 p0 p1 v0_1 (envF (Z_quota_of_b0_0 p0 p1 i0 v0_1)) (zoF (ZO_quota_of_b0_0 p0 p1 i0 v0_1)))) (hs := [(0, (bE false, []))]) (as := []) (Met.cons (dec (decide ((i0 : Int) < ((List.length p0) : Int))) false hc0) Met.nil) Told.nil (by kernel_rfl)⟩
theorem n_quota_of_b0_1 (p0 : List Pod) (p1 : ByteArray) (H : H_quota_of_b0 p0 p1) (x0 : Pod) (i0 : Nat) (v0_1 : List Pod) (hx0 : p0[i0]? = some x0) (hi0 : i0 < List.length p0) (ho0_0 : List.length v0_1 ≤ i0) (hc0 : (decide ((i0 : Int) < ((List.length p0) : Int))) = true) (h0 : (sEq x0.meta_.namespace_ p1) = true) {r : Rs} (hr : Tells G (E_quota_of_b0 p0 p1 (i0 + 1) (v0_1 ++ [x0])) r) : Tells G (E_quota_of_b0 p0 p1 i0 v0_1) r := by
  have hB := H.1
  exact tells_nextV (h := HO_quota_of_b0 p0 p1 i0 v0_1) (vw := [(0, Pod.rows v0_1)]) (VOK.cons (show Seen _ _ from seenV (ob := ⟨32, 0, true, (Pod.rows v0_1).flatten⟩) (Pod.rowsView v0_1 32 rfl)) VOK.nil) (y := (HE_quota_of_b0 p0 p1 (i0 + 1) (v0_1 ++ [x0]), HO_quota_of_b0 p0 p1 (i0 + 1) (v0_1 ++ [x0]))) (hs := [(0, (bE true, [])), (0, (vE (.rf (Pod.cells x0)), [])), (7, (bE true, [])), (3, (⟨.ms 833 32 0 (List.length (v0_1 ++ [x0])), [(0, none), (833, some ⟨32, 0, true, (Pod.rows (v0_1 ++ [x0])).flatten⟩)], [0, 769]⟩, [(833, Pod.rows (v0_1 ++ [x0]))])), (1, (vE (.int .i64 ((i0 + 1 : Nat) : Int)), []))]) (as := []) (Met.cons (dec (decide ((i0 : Int) < ((List.length p0) : Int))) true hc0) (Met.cons (ix_ok 32 (Pod.rows p0) i0 _ (Pod.rowsGet hx0) rfl) (Met.cons (dec (sEq x0.meta_.namespace_ p1) true h0) (Met.cons (ap_ok 0 769 833 32 480 0 0 true (Pod.rows v0_1) (Pod.rows (v0_1 ++ [x0])) (Pod.cells x0) (List.length v0_1) (List.length (v0_1 ++ [x0])) rfl (Pod.rowsLen v0_1).symm (Pod.rowsLen (v0_1 ++ [x0])).symm (Pod.rowsSnoc v0_1 x0) (Pod.rowsSize v0_1) rfl (by omega)) (Met.cons (seenV (ob := ⟨32, 0, true, (Pod.rows (v0_1 ++ [x0])).flatten⟩) (Pod.rowsView (v0_1 ++ [x0]) 32 rfl)) (Met.cons (inc_ok i0 (by omega)) Met.nil)))))) Told.nil (by kernel_rfl) hr
theorem n_quota_of_b0_2 (p0 : List Pod) (p1 : ByteArray) (H : H_quota_of_b0 p0 p1) (x0 : Pod) (i0 : Nat) (v0_1 : List Pod) (hx0 : p0[i0]? = some x0) (hi0 : i0 < List.length p0) (_ho0_0 : List.length v0_1 ≤ i0) (hc0 : (decide ((i0 : Int) < ((List.length p0) : Int))) = true) (h0 : (sEq x0.meta_.namespace_ p1) = false) {r : Rs} (hr : Tells G (E_quota_of_b0 p0 p1 (i0 + 1) v0_1) r) : Tells G (E_quota_of_b0 p0 p1 i0 v0_1) r := by
  have hB := H.1
  exact tells_nextV (h := HO_quota_of_b0 p0 p1 i0 v0_1) (vw := [(0, Pod.rows v0_1)]) (VOK.cons (show Seen _ _ from seenV (ob := ⟨32, 0, true, (Pod.rows v0_1).flatten⟩) (Pod.rowsView v0_1 32 rfl)) VOK.nil) (y := (HE_quota_of_b0 p0 p1 (i0 + 1) v0_1, HO_quota_of_b0 p0 p1 (i0 + 1) v0_1)) (hs := [(0, (bE true, [])), (0, (vE (.rf (Pod.cells x0)), [])), (7, (bE false, [])), (0, (vE (.int .i64 ((i0 + 1 : Nat) : Int)), []))]) (as := []) (Met.cons (dec (decide ((i0 : Int) < ((List.length p0) : Int))) true hc0) (Met.cons (ix_ok 32 (Pod.rows p0) i0 _ (Pod.rowsGet hx0) rfl) (Met.cons (dec (sEq x0.meta_.namespace_ p1) false h0) (Met.cons (inc_ok i0 (by omega)) Met.nil)))) Told.nil (by kernel_rfl) hr
theorem lt_quota_of_b0 (p0 : List Pod) (p1 : ByteArray) (H : H_quota_of_b0 p0 p1) : ∀ (r0 : List Pod) (i0 : Nat) (v0_1 : List Pod), List.drop i0 p0 = r0 → List.length v0_1 ≤ i0 → P_quota_of_b0 p0 p1 (E_quota_of_b0 p0 p1 i0 v0_1) (l_quota_of_b0 p0 p1 r0 i0 v0_1)
  | [], i0, v0_1, hd, ho0_0 => by
    have hc0 : (decide ((i0 : Int) < ((List.length p0) : Int))) = false := by have := drop_end hd; simp; omega
    rw [l_quota_of_b0]
    exact x_quota_of_b0_0 p0 p1 H i0 v0_1 ho0_0 hc0
  | x0 :: r0, i0, v0_1, hd, ho0_0 => by
    obtain ⟨hx0, hi0, hd'⟩ := drop_get hd
    have hc0 : (decide ((i0 : Int) < ((List.length p0) : Int))) = true := by simp; omega
    rw [l_quota_of_b0]
    cases h0 : (sEq x0.meta_.namespace_ p1) with
    | true =>
      exact P_quota_of_b0_mono p0 p1 (fun r hr => n_quota_of_b0_1 p0 p1 H x0 i0 v0_1 hx0 hi0 ho0_0 hc0 h0 hr) _ (lt_quota_of_b0 p0 p1 H r0 (i0 + 1) (v0_1 ++ [x0]) hd' (by first | omega | (simp; omega)))
    | false =>
      exact P_quota_of_b0_mono p0 p1 (fun r hr => n_quota_of_b0_2 p0 p1 H x0 i0 v0_1 hx0 hi0 ho0_0 hc0 h0 hr) _ (lt_quota_of_b0 p0 p1 H r0 (i0 + 1) v0_1 hd' (by first | omega | (simp; omega)))
/-- orchestrator/ quota.of -/
def s_quota_of (p0 : List Pod) (p1 : ByteArray) : List Pod :=
  (l_quota_of_b0 p0 p1 p0 0 [])
def c_quota_of (p0 : List Pod) (p1 : ByteArray) : En := .call 45 [.sl (Pod.rows p0), .str p1] []
def a_quota_of (p0 : List Pod) (p1 : ByteArray) : Rs := .ret (.sl (Pod.rows (s_quota_of p0 p1))) []
def H_quota_of (p0 : List Pod) (p1 : ByteArray) : Prop := (H_quota_of_b0 p0 p1) ∧ True
theorem t_quota_of (p0 : List Pod) (p1 : ByteArray) (H : H_quota_of p0 p1) : Tells G (c_quota_of p0 p1) (a_quota_of p0 p1) := by
  unfold a_quota_of s_quota_of
  have hl0 := lt_quota_of_b0 p0 p1 (H.1) p0 0 [] (by simp) (by simp)
  obtain ⟨z0, zo0, hl0⟩ := hl0
  exact tells_V (fn := Ir.quota_of) rfl VOK.nil (hs := [(3, (vE (.int .i64 ((List.length p0) : Int)), []))]) (as := [⟨.st (.exit 0) (S_quota_of_b0_0 p0 p1 (l_quota_of_b0 p0 p1 p0 0 []) z0 zo0), [(0, Pod.rows (l_quota_of_b0 p0 p1 p0 0 []))]⟩]) (Met.cons (len_ok (Pod.rows p0) (List.length p0) (Pod.rowsLen p0)) (Met.cons (seenV (ob := ⟨32, 0, true, (Pod.rows (l_quota_of_b0 p0 p1 p0 0 [])).flatten⟩) (Pod.rowsView (l_quota_of_b0 p0 p1 p0 0 []) 32 rfl)) (Met.cons (Pod.rowsLen (l_quota_of_b0 p0 p1 p0 0 [])).symm Met.nil))) (Told.cons hl0 Told.nil) (by kernel_rfl)

/-- orchestrator/ quota.Status -/
def s_quota_Status (p0 : Quota) (p1 : List Pod) : Quota :=
  (Quota.mk p0.meta_ p0.hard (s_quota_Usage (s_quota_of p1 p0.meta_.namespace_)).1 p0.pods (s_quota_Usage (s_quota_of p1 p0.meta_.namespace_)).2)
def c_quota_Status (p0 : Quota) (p1 : List Pod) : En := .call 29 [.agg (Quota.cells p0), .sl (Pod.rows p1)] []
def a_quota_Status (p0 : Quota) (p1 : List Pod) : Rs := .ret (.agg (Quota.cells (s_quota_Status p0 p1))) []
def H_quota_Status (p0 : Quota) (p1 : List Pod) : Prop := (H_quota_of p1 p0.meta_.namespace_) ∧ (H_quota_Usage (s_quota_of p1 p0.meta_.namespace_)) ∧ True
theorem t_quota_Status (p0 : Quota) (p1 : List Pod) (H : H_quota_Status p0 p1) : Tells G (c_quota_Status p0 p1) (a_quota_Status p0 p1) := by
  unfold a_quota_Status s_quota_Status
  exact tells_V (fn := Ir.quota_Status) rfl VOK.nil (hs := []) (as := [⟨a_quota_of p1 p0.meta_.namespace_, []⟩, ⟨a_quota_Usage (s_quota_of p1 p0.meta_.namespace_), []⟩]) Met.nil (Told.cons (t_quota_of p1 p0.meta_.namespace_ H.1) (Told.cons (t_quota_Usage (s_quota_of p1 p0.meta_.namespace_) H.2.1) Told.nil)) (by kernel_rfl)

/-- orchestrator/ quota.over -/
def s_quota_over (p0 : Int) (p1 : Int) : Bool :=
  bif (decide (0 < p1)) then
    (decide (p1 < p0))
  else
    false
def c_quota_over (p0 : Int) (p1 : Int) : En := .call 47 [.int .i64 p0, .int .i64 p1] []
def a_quota_over (p0 : Int) (p1 : Int) : Rs := .ret (.bool (s_quota_over p0 p1)) []
theorem t_quota_over (p0 : Int) (p1 : Int) : Tells G (c_quota_over p0 p1) (a_quota_over p0 p1) := by
  unfold a_quota_over s_quota_over
  cases h0 : (decide (0 < p1)) with
  | true =>
    exact tells_V (fn := Ir.quota_over) rfl VOK.nil (hs := [(2, (bE true, []))]) (as := []) (Met.cons (dec (decide (0 < p1)) true h0) Met.nil) Told.nil (by kernel_rfl)
  | false =>
    exact tells_V (fn := Ir.quota_over) rfl VOK.nil (hs := [(2, (bE false, []))]) (as := []) (Met.cons (dec (decide (0 < p1)) false h0) Met.nil) Told.nil (by kernel_rfl)

/-- orchestrator/ quota.Admit -/
def s_quota_Admit (p0 : Quota) (p1 : List Pod) (p2 : Pod) : Int :=
  bif (sEq p2.meta_.namespace_ p0.meta_.namespace_) then
    bif (s_quota_over (s_resource_Add (s_quota_Usage (s_quota_of p1 p0.meta_.namespace_)).1 (s_resource_Requests p2.spec)).cPU p0.hard.cPU) then
      12
    else
      bif (s_quota_over (s_resource_Add (s_quota_Usage (s_quota_of p1 p0.meta_.namespace_)).1 (s_resource_Requests p2.spec)).memory p0.hard.memory) then
        12
      else
        bif (s_quota_over (s_resource_Add (s_quota_Usage (s_quota_of p1 p0.meta_.namespace_)).1 (s_resource_Requests p2.spec)).disk p0.hard.disk) then
          12
        else
          bif (s_quota_over (w64 ((s_quota_Usage (s_quota_of p1 p0.meta_.namespace_)).2 + 1)) p0.pods) then
            12
          else
            0
  else
    0
def c_quota_Admit (p0 : Quota) (p1 : List Pod) (p2 : Pod) : En := .call 31 [.agg (Quota.cells p0), .sl (Pod.rows p1), .agg (Pod.cells p2)] []
def a_quota_Admit (p0 : Quota) (p1 : List Pod) (p2 : Pod) : Rs := .ret (.int .i64 (s_quota_Admit p0 p1 p2)) []
def H_quota_Admit (p0 : Quota) (p1 : List Pod) (p2 : Pod) : Prop := (H_quota_of p1 p0.meta_.namespace_) ∧ (H_quota_Usage (s_quota_of p1 p0.meta_.namespace_)) ∧ (H_resource_Requests p2.spec) ∧ True
theorem t_quota_Admit (p0 : Quota) (p1 : List Pod) (p2 : Pod) (H : H_quota_Admit p0 p1 p2) : Tells G (c_quota_Admit p0 p1 p2) (a_quota_Admit p0 p1 p2) := by
  unfold a_quota_Admit s_quota_Admit
  cases h0 : (sEq p2.meta_.namespace_ p0.meta_.namespace_) with
  | true =>
    cases h1 : (s_quota_over (s_resource_Add (s_quota_Usage (s_quota_of p1 p0.meta_.namespace_)).1 (s_resource_Requests p2.spec)).cPU p0.hard.cPU) with
    | true =>
      exact tells_V (fn := Ir.quota_Admit) rfl VOK.nil (hs := [(9, (bE false, []))]) (as := [⟨a_quota_of p1 p0.meta_.namespace_, []⟩, ⟨a_quota_Usage (s_quota_of p1 p0.meta_.namespace_), []⟩, ⟨a_resource_Requests p2.spec, []⟩, ⟨a_resource_Add (s_quota_Usage (s_quota_of p1 p0.meta_.namespace_)).1 (s_resource_Requests p2.spec), []⟩, ⟨.ret (.bool true) [], []⟩]) (Met.cons (dec (!(sEq p2.meta_.namespace_ p0.meta_.namespace_)) false (by rw [h0]; rfl)) Met.nil) (Told.cons (t_quota_of p1 p0.meta_.namespace_ H.1) (Told.cons (t_quota_Usage (s_quota_of p1 p0.meta_.namespace_) H.2.1) (Told.cons (t_resource_Requests p2.spec H.2.2.1) (Told.cons (t_resource_Add (s_quota_Usage (s_quota_of p1 p0.meta_.namespace_)).1 (s_resource_Requests p2.spec)) (Told.cons (toldOf (t_quota_over (s_resource_Add (s_quota_Usage (s_quota_of p1 p0.meta_.namespace_)).1 (s_resource_Requests p2.spec)).cPU p0.hard.cPU) (congrArg (fun b => Rs.ret (.bool b) []) h1)) Told.nil))))) (by kernel_rfl)
    | false =>
      cases h2 : (s_quota_over (s_resource_Add (s_quota_Usage (s_quota_of p1 p0.meta_.namespace_)).1 (s_resource_Requests p2.spec)).memory p0.hard.memory) with
      | true =>
        exact tells_V (fn := Ir.quota_Admit) rfl VOK.nil (hs := [(9, (bE false, []))]) (as := [⟨a_quota_of p1 p0.meta_.namespace_, []⟩, ⟨a_quota_Usage (s_quota_of p1 p0.meta_.namespace_), []⟩, ⟨a_resource_Requests p2.spec, []⟩, ⟨a_resource_Add (s_quota_Usage (s_quota_of p1 p0.meta_.namespace_)).1 (s_resource_Requests p2.spec), []⟩, ⟨.ret (.bool false) [], []⟩, ⟨.ret (.bool true) [], []⟩]) (Met.cons (dec (!(sEq p2.meta_.namespace_ p0.meta_.namespace_)) false (by rw [h0]; rfl)) Met.nil) (Told.cons (t_quota_of p1 p0.meta_.namespace_ H.1) (Told.cons (t_quota_Usage (s_quota_of p1 p0.meta_.namespace_) H.2.1) (Told.cons (t_resource_Requests p2.spec H.2.2.1) (Told.cons (t_resource_Add (s_quota_Usage (s_quota_of p1 p0.meta_.namespace_)).1 (s_resource_Requests p2.spec)) (Told.cons (toldOf (t_quota_over (s_resource_Add (s_quota_Usage (s_quota_of p1 p0.meta_.namespace_)).1 (s_resource_Requests p2.spec)).cPU p0.hard.cPU) (congrArg (fun b => Rs.ret (.bool b) []) h1)) (Told.cons (toldOf (t_quota_over (s_resource_Add (s_quota_Usage (s_quota_of p1 p0.meta_.namespace_)).1 (s_resource_Requests p2.spec)).memory p0.hard.memory) (congrArg (fun b => Rs.ret (.bool b) []) h2)) Told.nil)))))) (by kernel_rfl)
      | false =>
        cases h3 : (s_quota_over (s_resource_Add (s_quota_Usage (s_quota_of p1 p0.meta_.namespace_)).1 (s_resource_Requests p2.spec)).disk p0.hard.disk) with
        | true =>
          exact tells_V (fn := Ir.quota_Admit) rfl VOK.nil (hs := [(9, (bE false, []))]) (as := [⟨a_quota_of p1 p0.meta_.namespace_, []⟩, ⟨a_quota_Usage (s_quota_of p1 p0.meta_.namespace_), []⟩, ⟨a_resource_Requests p2.spec, []⟩, ⟨a_resource_Add (s_quota_Usage (s_quota_of p1 p0.meta_.namespace_)).1 (s_resource_Requests p2.spec), []⟩, ⟨.ret (.bool false) [], []⟩, ⟨.ret (.bool false) [], []⟩, ⟨.ret (.bool true) [], []⟩]) (Met.cons (dec (!(sEq p2.meta_.namespace_ p0.meta_.namespace_)) false (by rw [h0]; rfl)) Met.nil) (Told.cons (t_quota_of p1 p0.meta_.namespace_ H.1) (Told.cons (t_quota_Usage (s_quota_of p1 p0.meta_.namespace_) H.2.1) (Told.cons (t_resource_Requests p2.spec H.2.2.1) (Told.cons (t_resource_Add (s_quota_Usage (s_quota_of p1 p0.meta_.namespace_)).1 (s_resource_Requests p2.spec)) (Told.cons (toldOf (t_quota_over (s_resource_Add (s_quota_Usage (s_quota_of p1 p0.meta_.namespace_)).1 (s_resource_Requests p2.spec)).cPU p0.hard.cPU) (congrArg (fun b => Rs.ret (.bool b) []) h1)) (Told.cons (toldOf (t_quota_over (s_resource_Add (s_quota_Usage (s_quota_of p1 p0.meta_.namespace_)).1 (s_resource_Requests p2.spec)).memory p0.hard.memory) (congrArg (fun b => Rs.ret (.bool b) []) h2)) (Told.cons (toldOf (t_quota_over (s_resource_Add (s_quota_Usage (s_quota_of p1 p0.meta_.namespace_)).1 (s_resource_Requests p2.spec)).disk p0.hard.disk) (congrArg (fun b => Rs.ret (.bool b) []) h3)) Told.nil))))))) (by kernel_rfl)
        | false =>
          cases h4 : (s_quota_over (w64 ((s_quota_Usage (s_quota_of p1 p0.meta_.namespace_)).2 + 1)) p0.pods) with
          | true =>
            exact tells_V (fn := Ir.quota_Admit) rfl VOK.nil (hs := [(9, (bE false, []))]) (as := [⟨a_quota_of p1 p0.meta_.namespace_, []⟩, ⟨a_quota_Usage (s_quota_of p1 p0.meta_.namespace_), []⟩, ⟨a_resource_Requests p2.spec, []⟩, ⟨a_resource_Add (s_quota_Usage (s_quota_of p1 p0.meta_.namespace_)).1 (s_resource_Requests p2.spec), []⟩, ⟨.ret (.bool false) [], []⟩, ⟨.ret (.bool false) [], []⟩, ⟨.ret (.bool false) [], []⟩, ⟨.ret (.bool true) [], []⟩]) (Met.cons (dec (!(sEq p2.meta_.namespace_ p0.meta_.namespace_)) false (by rw [h0]; rfl)) Met.nil) (Told.cons (t_quota_of p1 p0.meta_.namespace_ H.1) (Told.cons (t_quota_Usage (s_quota_of p1 p0.meta_.namespace_) H.2.1) (Told.cons (t_resource_Requests p2.spec H.2.2.1) (Told.cons (t_resource_Add (s_quota_Usage (s_quota_of p1 p0.meta_.namespace_)).1 (s_resource_Requests p2.spec)) (Told.cons (toldOf (t_quota_over (s_resource_Add (s_quota_Usage (s_quota_of p1 p0.meta_.namespace_)).1 (s_resource_Requests p2.spec)).cPU p0.hard.cPU) (congrArg (fun b => Rs.ret (.bool b) []) h1)) (Told.cons (toldOf (t_quota_over (s_resource_Add (s_quota_Usage (s_quota_of p1 p0.meta_.namespace_)).1 (s_resource_Requests p2.spec)).memory p0.hard.memory) (congrArg (fun b => Rs.ret (.bool b) []) h2)) (Told.cons (toldOf (t_quota_over (s_resource_Add (s_quota_Usage (s_quota_of p1 p0.meta_.namespace_)).1 (s_resource_Requests p2.spec)).disk p0.hard.disk) (congrArg (fun b => Rs.ret (.bool b) []) h3)) (Told.cons (toldOf (t_quota_over (w64 ((s_quota_Usage (s_quota_of p1 p0.meta_.namespace_)).2 + 1)) p0.pods) (congrArg (fun b => Rs.ret (.bool b) []) h4)) Told.nil)))))))) (by kernel_rfl)
          | false =>
            exact tells_V (fn := Ir.quota_Admit) rfl VOK.nil (hs := [(9, (bE false, []))]) (as := [⟨a_quota_of p1 p0.meta_.namespace_, []⟩, ⟨a_quota_Usage (s_quota_of p1 p0.meta_.namespace_), []⟩, ⟨a_resource_Requests p2.spec, []⟩, ⟨a_resource_Add (s_quota_Usage (s_quota_of p1 p0.meta_.namespace_)).1 (s_resource_Requests p2.spec), []⟩, ⟨.ret (.bool false) [], []⟩, ⟨.ret (.bool false) [], []⟩, ⟨.ret (.bool false) [], []⟩, ⟨.ret (.bool false) [], []⟩]) (Met.cons (dec (!(sEq p2.meta_.namespace_ p0.meta_.namespace_)) false (by rw [h0]; rfl)) Met.nil) (Told.cons (t_quota_of p1 p0.meta_.namespace_ H.1) (Told.cons (t_quota_Usage (s_quota_of p1 p0.meta_.namespace_) H.2.1) (Told.cons (t_resource_Requests p2.spec H.2.2.1) (Told.cons (t_resource_Add (s_quota_Usage (s_quota_of p1 p0.meta_.namespace_)).1 (s_resource_Requests p2.spec)) (Told.cons (toldOf (t_quota_over (s_resource_Add (s_quota_Usage (s_quota_of p1 p0.meta_.namespace_)).1 (s_resource_Requests p2.spec)).cPU p0.hard.cPU) (congrArg (fun b => Rs.ret (.bool b) []) h1)) (Told.cons (toldOf (t_quota_over (s_resource_Add (s_quota_Usage (s_quota_of p1 p0.meta_.namespace_)).1 (s_resource_Requests p2.spec)).memory p0.hard.memory) (congrArg (fun b => Rs.ret (.bool b) []) h2)) (Told.cons (toldOf (t_quota_over (s_resource_Add (s_quota_Usage (s_quota_of p1 p0.meta_.namespace_)).1 (s_resource_Requests p2.spec)).disk p0.hard.disk) (congrArg (fun b => Rs.ret (.bool b) []) h3)) (Told.cons (toldOf (t_quota_over (w64 ((s_quota_Usage (s_quota_of p1 p0.meta_.namespace_)).2 + 1)) p0.pods) (congrArg (fun b => Rs.ret (.bool b) []) h4)) Told.nil)))))))) (by kernel_rfl)
  | false =>
    exact tells_V (fn := Ir.quota_Admit) rfl VOK.nil (hs := [(9, (bE true, []))]) (as := []) (Met.cons (dec (!(sEq p2.meta_.namespace_ p0.meta_.namespace_)) true (by rw [h0]; rfl)) Met.nil) Told.nil (by kernel_rfl)

/-- orchestrator/ orchestratorlaw22.within -/
def s_law22_within (p0 : Quota) (p1 : Resources) (p2 : Int) : Bool :=
  bif (decide (p0.hard.cPU ≤ 0)) then
    bif (decide (p0.hard.memory ≤ 0)) then
      bif (decide (p0.hard.disk ≤ 0)) then
        bif (decide (p0.pods ≤ 0)) then
          true
        else
          (decide (p2 ≤ p0.pods))
      else
        bif (decide (p1.disk ≤ p0.hard.disk)) then
          bif (decide (p0.pods ≤ 0)) then
            true
          else
            (decide (p2 ≤ p0.pods))
        else
          false
    else
      bif (decide (p1.memory ≤ p0.hard.memory)) then
        bif (decide (p0.hard.disk ≤ 0)) then
          bif (decide (p0.pods ≤ 0)) then
            true
          else
            (decide (p2 ≤ p0.pods))
        else
          bif (decide (p1.disk ≤ p0.hard.disk)) then
            bif (decide (p0.pods ≤ 0)) then
              true
            else
              (decide (p2 ≤ p0.pods))
          else
            false
      else
        false
  else
    bif (decide (p1.cPU ≤ p0.hard.cPU)) then
      bif (decide (p0.hard.memory ≤ 0)) then
        bif (decide (p0.hard.disk ≤ 0)) then
          bif (decide (p0.pods ≤ 0)) then
            true
          else
            (decide (p2 ≤ p0.pods))
        else
          bif (decide (p1.disk ≤ p0.hard.disk)) then
            bif (decide (p0.pods ≤ 0)) then
              true
            else
              (decide (p2 ≤ p0.pods))
          else
            false
      else
        bif (decide (p1.memory ≤ p0.hard.memory)) then
          bif (decide (p0.hard.disk ≤ 0)) then
            bif (decide (p0.pods ≤ 0)) then
              true
            else
              (decide (p2 ≤ p0.pods))
          else
            bif (decide (p1.disk ≤ p0.hard.disk)) then
              bif (decide (p0.pods ≤ 0)) then
                true
              else
                (decide (p2 ≤ p0.pods))
            else
              false
        else
          false
    else
      false
def c_law22_within (p0 : Quota) (p1 : Resources) (p2 : Int) : En := .call 34 [.agg (Quota.cells p0), .agg (Resources.cells p1), .int .i64 p2] []
def a_law22_within (p0 : Quota) (p1 : Resources) (p2 : Int) : Rs := .ret (.bool (s_law22_within p0 p1 p2)) []
theorem t_law22_within_0 (p0 : Quota) (p1 : Resources) (p2 : Int) (h0 : (decide (p0.hard.cPU ≤ 0)) = true) (h1 : (decide (p0.hard.memory ≤ 0)) = true) (h2 : (decide (p0.hard.disk ≤ 0)) = true) (h3 : (decide (p0.pods ≤ 0)) = true) : Tells G (c_law22_within p0 p1 p2) (.ret (.bool true) []) :=
  tells_V (fn := Ir.law22_within) rfl VOK.nil (hs := [(6, (bE true, [])), (12, (bE true, [])), (13, (bE true, [])), (12, (bE true, []))]) (as := []) (Met.cons (dec (decide (p0.hard.cPU ≤ 0)) true h0) (Met.cons (dec (decide (p0.hard.memory ≤ 0)) true h1) (Met.cons (dec (decide (p0.hard.disk ≤ 0)) true h2) (Met.cons (dec (decide (p0.pods ≤ 0)) true h3) Met.nil)))) Told.nil (by kernel_rfl)
theorem t_law22_within_1 (p0 : Quota) (p1 : Resources) (p2 : Int) (h0 : (decide (p0.hard.cPU ≤ 0)) = true) (h1 : (decide (p0.hard.memory ≤ 0)) = true) (h2 : (decide (p0.hard.disk ≤ 0)) = true) (h3 : (decide (p0.pods ≤ 0)) = false) : Tells G (c_law22_within p0 p1 p2) (.ret (.bool (decide (p2 ≤ p0.pods))) []) :=
  tells_V (fn := Ir.law22_within) rfl VOK.nil (hs := [(6, (bE true, [])), (12, (bE true, [])), (13, (bE true, [])), (12, (bE false, []))]) (as := []) (Met.cons (dec (decide (p0.hard.cPU ≤ 0)) true h0) (Met.cons (dec (decide (p0.hard.memory ≤ 0)) true h1) (Met.cons (dec (decide (p0.hard.disk ≤ 0)) true h2) (Met.cons (dec (decide (p0.pods ≤ 0)) false h3) Met.nil)))) Told.nil (by kernel_rfl)
theorem t_law22_within_2 (p0 : Quota) (p1 : Resources) (p2 : Int) (h0 : (decide (p0.hard.cPU ≤ 0)) = true) (h1 : (decide (p0.hard.memory ≤ 0)) = true) (h2 : (decide (p0.hard.disk ≤ 0)) = false) (h3 : (decide (p1.disk ≤ p0.hard.disk)) = true) (h4 : (decide (p0.pods ≤ 0)) = true) : Tells G (c_law22_within p0 p1 p2) (.ret (.bool true) []) :=
  tells_V (fn := Ir.law22_within) rfl VOK.nil (hs := [(6, (bE true, [])), (12, (bE true, [])), (13, (bE false, [])), (6, (bE true, [])), (5, (bE true, []))]) (as := []) (Met.cons (dec (decide (p0.hard.cPU ≤ 0)) true h0) (Met.cons (dec (decide (p0.hard.memory ≤ 0)) true h1) (Met.cons (dec (decide (p0.hard.disk ≤ 0)) false h2) (Met.cons (dec (decide (p1.disk ≤ p0.hard.disk)) true h3) (Met.cons (dec (decide (p0.pods ≤ 0)) true h4) Met.nil))))) Told.nil (by kernel_rfl)
theorem t_law22_within_3 (p0 : Quota) (p1 : Resources) (p2 : Int) (h0 : (decide (p0.hard.cPU ≤ 0)) = true) (h1 : (decide (p0.hard.memory ≤ 0)) = true) (h2 : (decide (p0.hard.disk ≤ 0)) = false) (h3 : (decide (p1.disk ≤ p0.hard.disk)) = true) (h4 : (decide (p0.pods ≤ 0)) = false) : Tells G (c_law22_within p0 p1 p2) (.ret (.bool (decide (p2 ≤ p0.pods))) []) :=
  tells_V (fn := Ir.law22_within) rfl VOK.nil (hs := [(6, (bE true, [])), (12, (bE true, [])), (13, (bE false, [])), (6, (bE true, [])), (5, (bE false, []))]) (as := []) (Met.cons (dec (decide (p0.hard.cPU ≤ 0)) true h0) (Met.cons (dec (decide (p0.hard.memory ≤ 0)) true h1) (Met.cons (dec (decide (p0.hard.disk ≤ 0)) false h2) (Met.cons (dec (decide (p1.disk ≤ p0.hard.disk)) true h3) (Met.cons (dec (decide (p0.pods ≤ 0)) false h4) Met.nil))))) Told.nil (by kernel_rfl)
theorem t_law22_within_4 (p0 : Quota) (p1 : Resources) (p2 : Int) (h0 : (decide (p0.hard.cPU ≤ 0)) = true) (h1 : (decide (p0.hard.memory ≤ 0)) = true) (h2 : (decide (p0.hard.disk ≤ 0)) = false) (h3 : (decide (p1.disk ≤ p0.hard.disk)) = false) : Tells G (c_law22_within p0 p1 p2) (.ret (.bool false) []) :=
  tells_V (fn := Ir.law22_within) rfl VOK.nil (hs := [(6, (bE true, [])), (12, (bE true, [])), (13, (bE false, [])), (6, (bE false, []))]) (as := []) (Met.cons (dec (decide (p0.hard.cPU ≤ 0)) true h0) (Met.cons (dec (decide (p0.hard.memory ≤ 0)) true h1) (Met.cons (dec (decide (p0.hard.disk ≤ 0)) false h2) (Met.cons (dec (decide (p1.disk ≤ p0.hard.disk)) false h3) Met.nil)))) Told.nil (by kernel_rfl)
theorem t_law22_within_5 (p0 : Quota) (p1 : Resources) (p2 : Int) (h0 : (decide (p0.hard.cPU ≤ 0)) = true) (h1 : (decide (p0.hard.memory ≤ 0)) = false) (h2 : (decide (p1.memory ≤ p0.hard.memory)) = true) (h3 : (decide (p0.hard.disk ≤ 0)) = true) (h4 : (decide (p0.pods ≤ 0)) = true) : Tells G (c_law22_within p0 p1 p2) (.ret (.bool true) []) :=
  tells_V (fn := Ir.law22_within) rfl VOK.nil (hs := [(6, (bE true, [])), (12, (bE false, [])), (6, (bE true, [])), (6, (bE true, [])), (12, (bE true, []))]) (as := []) (Met.cons (dec (decide (p0.hard.cPU ≤ 0)) true h0) (Met.cons (dec (decide (p0.hard.memory ≤ 0)) false h1) (Met.cons (dec (decide (p1.memory ≤ p0.hard.memory)) true h2) (Met.cons (dec (decide (p0.hard.disk ≤ 0)) true h3) (Met.cons (dec (decide (p0.pods ≤ 0)) true h4) Met.nil))))) Told.nil (by kernel_rfl)
theorem t_law22_within_6 (p0 : Quota) (p1 : Resources) (p2 : Int) (h0 : (decide (p0.hard.cPU ≤ 0)) = true) (h1 : (decide (p0.hard.memory ≤ 0)) = false) (h2 : (decide (p1.memory ≤ p0.hard.memory)) = true) (h3 : (decide (p0.hard.disk ≤ 0)) = true) (h4 : (decide (p0.pods ≤ 0)) = false) : Tells G (c_law22_within p0 p1 p2) (.ret (.bool (decide (p2 ≤ p0.pods))) []) :=
  tells_V (fn := Ir.law22_within) rfl VOK.nil (hs := [(6, (bE true, [])), (12, (bE false, [])), (6, (bE true, [])), (6, (bE true, [])), (12, (bE false, []))]) (as := []) (Met.cons (dec (decide (p0.hard.cPU ≤ 0)) true h0) (Met.cons (dec (decide (p0.hard.memory ≤ 0)) false h1) (Met.cons (dec (decide (p1.memory ≤ p0.hard.memory)) true h2) (Met.cons (dec (decide (p0.hard.disk ≤ 0)) true h3) (Met.cons (dec (decide (p0.pods ≤ 0)) false h4) Met.nil))))) Told.nil (by kernel_rfl)
theorem t_law22_within_7 (p0 : Quota) (p1 : Resources) (p2 : Int) (h0 : (decide (p0.hard.cPU ≤ 0)) = true) (h1 : (decide (p0.hard.memory ≤ 0)) = false) (h2 : (decide (p1.memory ≤ p0.hard.memory)) = true) (h3 : (decide (p0.hard.disk ≤ 0)) = false) (h4 : (decide (p1.disk ≤ p0.hard.disk)) = true) (h5 : (decide (p0.pods ≤ 0)) = true) : Tells G (c_law22_within p0 p1 p2) (.ret (.bool true) []) :=
  tells_V (fn := Ir.law22_within) rfl VOK.nil (hs := [(6, (bE true, [])), (12, (bE false, [])), (6, (bE true, [])), (6, (bE false, [])), (6, (bE true, [])), (5, (bE true, []))]) (as := []) (Met.cons (dec (decide (p0.hard.cPU ≤ 0)) true h0) (Met.cons (dec (decide (p0.hard.memory ≤ 0)) false h1) (Met.cons (dec (decide (p1.memory ≤ p0.hard.memory)) true h2) (Met.cons (dec (decide (p0.hard.disk ≤ 0)) false h3) (Met.cons (dec (decide (p1.disk ≤ p0.hard.disk)) true h4) (Met.cons (dec (decide (p0.pods ≤ 0)) true h5) Met.nil)))))) Told.nil (by kernel_rfl)
theorem t_law22_within_8 (p0 : Quota) (p1 : Resources) (p2 : Int) (h0 : (decide (p0.hard.cPU ≤ 0)) = true) (h1 : (decide (p0.hard.memory ≤ 0)) = false) (h2 : (decide (p1.memory ≤ p0.hard.memory)) = true) (h3 : (decide (p0.hard.disk ≤ 0)) = false) (h4 : (decide (p1.disk ≤ p0.hard.disk)) = true) (h5 : (decide (p0.pods ≤ 0)) = false) : Tells G (c_law22_within p0 p1 p2) (.ret (.bool (decide (p2 ≤ p0.pods))) []) :=
  tells_V (fn := Ir.law22_within) rfl VOK.nil (hs := [(6, (bE true, [])), (12, (bE false, [])), (6, (bE true, [])), (6, (bE false, [])), (6, (bE true, [])), (5, (bE false, []))]) (as := []) (Met.cons (dec (decide (p0.hard.cPU ≤ 0)) true h0) (Met.cons (dec (decide (p0.hard.memory ≤ 0)) false h1) (Met.cons (dec (decide (p1.memory ≤ p0.hard.memory)) true h2) (Met.cons (dec (decide (p0.hard.disk ≤ 0)) false h3) (Met.cons (dec (decide (p1.disk ≤ p0.hard.disk)) true h4) (Met.cons (dec (decide (p0.pods ≤ 0)) false h5) Met.nil)))))) Told.nil (by kernel_rfl)
theorem t_law22_within_9 (p0 : Quota) (p1 : Resources) (p2 : Int) (h0 : (decide (p0.hard.cPU ≤ 0)) = true) (h1 : (decide (p0.hard.memory ≤ 0)) = false) (h2 : (decide (p1.memory ≤ p0.hard.memory)) = true) (h3 : (decide (p0.hard.disk ≤ 0)) = false) (h4 : (decide (p1.disk ≤ p0.hard.disk)) = false) : Tells G (c_law22_within p0 p1 p2) (.ret (.bool false) []) :=
  tells_V (fn := Ir.law22_within) rfl VOK.nil (hs := [(6, (bE true, [])), (12, (bE false, [])), (6, (bE true, [])), (6, (bE false, [])), (6, (bE false, []))]) (as := []) (Met.cons (dec (decide (p0.hard.cPU ≤ 0)) true h0) (Met.cons (dec (decide (p0.hard.memory ≤ 0)) false h1) (Met.cons (dec (decide (p1.memory ≤ p0.hard.memory)) true h2) (Met.cons (dec (decide (p0.hard.disk ≤ 0)) false h3) (Met.cons (dec (decide (p1.disk ≤ p0.hard.disk)) false h4) Met.nil))))) Told.nil (by kernel_rfl)
theorem t_law22_within_10 (p0 : Quota) (p1 : Resources) (p2 : Int) (h0 : (decide (p0.hard.cPU ≤ 0)) = true) (h1 : (decide (p0.hard.memory ≤ 0)) = false) (h2 : (decide (p1.memory ≤ p0.hard.memory)) = false) : Tells G (c_law22_within p0 p1 p2) (.ret (.bool false) []) :=
  tells_V (fn := Ir.law22_within) rfl VOK.nil (hs := [(6, (bE true, [])), (12, (bE false, [])), (6, (bE false, []))]) (as := []) (Met.cons (dec (decide (p0.hard.cPU ≤ 0)) true h0) (Met.cons (dec (decide (p0.hard.memory ≤ 0)) false h1) (Met.cons (dec (decide (p1.memory ≤ p0.hard.memory)) false h2) Met.nil))) Told.nil (by kernel_rfl)
theorem t_law22_within_11 (p0 : Quota) (p1 : Resources) (p2 : Int) (h0 : (decide (p0.hard.cPU ≤ 0)) = false) (h1 : (decide (p1.cPU ≤ p0.hard.cPU)) = true) (h2 : (decide (p0.hard.memory ≤ 0)) = true) (h3 : (decide (p0.hard.disk ≤ 0)) = true) (h4 : (decide (p0.pods ≤ 0)) = true) : Tells G (c_law22_within p0 p1 p2) (.ret (.bool true) []) :=
  tells_V (fn := Ir.law22_within) rfl VOK.nil (hs := [(6, (bE false, [])), (6, (bE true, [])), (5, (bE true, [])), (13, (bE true, [])), (12, (bE true, []))]) (as := []) (Met.cons (dec (decide (p0.hard.cPU ≤ 0)) false h0) (Met.cons (dec (decide (p1.cPU ≤ p0.hard.cPU)) true h1) (Met.cons (dec (decide (p0.hard.memory ≤ 0)) true h2) (Met.cons (dec (decide (p0.hard.disk ≤ 0)) true h3) (Met.cons (dec (decide (p0.pods ≤ 0)) true h4) Met.nil))))) Told.nil (by kernel_rfl)
theorem t_law22_within_12 (p0 : Quota) (p1 : Resources) (p2 : Int) (h0 : (decide (p0.hard.cPU ≤ 0)) = false) (h1 : (decide (p1.cPU ≤ p0.hard.cPU)) = true) (h2 : (decide (p0.hard.memory ≤ 0)) = true) (h3 : (decide (p0.hard.disk ≤ 0)) = true) (h4 : (decide (p0.pods ≤ 0)) = false) : Tells G (c_law22_within p0 p1 p2) (.ret (.bool (decide (p2 ≤ p0.pods))) []) :=
  tells_V (fn := Ir.law22_within) rfl VOK.nil (hs := [(6, (bE false, [])), (6, (bE true, [])), (5, (bE true, [])), (13, (bE true, [])), (12, (bE false, []))]) (as := []) (Met.cons (dec (decide (p0.hard.cPU ≤ 0)) false h0) (Met.cons (dec (decide (p1.cPU ≤ p0.hard.cPU)) true h1) (Met.cons (dec (decide (p0.hard.memory ≤ 0)) true h2) (Met.cons (dec (decide (p0.hard.disk ≤ 0)) true h3) (Met.cons (dec (decide (p0.pods ≤ 0)) false h4) Met.nil))))) Told.nil (by kernel_rfl)
theorem t_law22_within_13 (p0 : Quota) (p1 : Resources) (p2 : Int) (h0 : (decide (p0.hard.cPU ≤ 0)) = false) (h1 : (decide (p1.cPU ≤ p0.hard.cPU)) = true) (h2 : (decide (p0.hard.memory ≤ 0)) = true) (h3 : (decide (p0.hard.disk ≤ 0)) = false) (h4 : (decide (p1.disk ≤ p0.hard.disk)) = true) (h5 : (decide (p0.pods ≤ 0)) = true) : Tells G (c_law22_within p0 p1 p2) (.ret (.bool true) []) :=
  tells_V (fn := Ir.law22_within) rfl VOK.nil (hs := [(6, (bE false, [])), (6, (bE true, [])), (5, (bE true, [])), (13, (bE false, [])), (6, (bE true, [])), (5, (bE true, []))]) (as := []) (Met.cons (dec (decide (p0.hard.cPU ≤ 0)) false h0) (Met.cons (dec (decide (p1.cPU ≤ p0.hard.cPU)) true h1) (Met.cons (dec (decide (p0.hard.memory ≤ 0)) true h2) (Met.cons (dec (decide (p0.hard.disk ≤ 0)) false h3) (Met.cons (dec (decide (p1.disk ≤ p0.hard.disk)) true h4) (Met.cons (dec (decide (p0.pods ≤ 0)) true h5) Met.nil)))))) Told.nil (by kernel_rfl)
theorem t_law22_within_14 (p0 : Quota) (p1 : Resources) (p2 : Int) (h0 : (decide (p0.hard.cPU ≤ 0)) = false) (h1 : (decide (p1.cPU ≤ p0.hard.cPU)) = true) (h2 : (decide (p0.hard.memory ≤ 0)) = true) (h3 : (decide (p0.hard.disk ≤ 0)) = false) (h4 : (decide (p1.disk ≤ p0.hard.disk)) = true) (h5 : (decide (p0.pods ≤ 0)) = false) : Tells G (c_law22_within p0 p1 p2) (.ret (.bool (decide (p2 ≤ p0.pods))) []) :=
  tells_V (fn := Ir.law22_within) rfl VOK.nil (hs := [(6, (bE false, [])), (6, (bE true, [])), (5, (bE true, [])), (13, (bE false, [])), (6, (bE true, [])), (5, (bE false, []))]) (as := []) (Met.cons (dec (decide (p0.hard.cPU ≤ 0)) false h0) (Met.cons (dec (decide (p1.cPU ≤ p0.hard.cPU)) true h1) (Met.cons (dec (decide (p0.hard.memory ≤ 0)) true h2) (Met.cons (dec (decide (p0.hard.disk ≤ 0)) false h3) (Met.cons (dec (decide (p1.disk ≤ p0.hard.disk)) true h4) (Met.cons (dec (decide (p0.pods ≤ 0)) false h5) Met.nil)))))) Told.nil (by kernel_rfl)
theorem t_law22_within_15 (p0 : Quota) (p1 : Resources) (p2 : Int) (h0 : (decide (p0.hard.cPU ≤ 0)) = false) (h1 : (decide (p1.cPU ≤ p0.hard.cPU)) = true) (h2 : (decide (p0.hard.memory ≤ 0)) = true) (h3 : (decide (p0.hard.disk ≤ 0)) = false) (h4 : (decide (p1.disk ≤ p0.hard.disk)) = false) : Tells G (c_law22_within p0 p1 p2) (.ret (.bool false) []) :=
  tells_V (fn := Ir.law22_within) rfl VOK.nil (hs := [(6, (bE false, [])), (6, (bE true, [])), (5, (bE true, [])), (13, (bE false, [])), (6, (bE false, []))]) (as := []) (Met.cons (dec (decide (p0.hard.cPU ≤ 0)) false h0) (Met.cons (dec (decide (p1.cPU ≤ p0.hard.cPU)) true h1) (Met.cons (dec (decide (p0.hard.memory ≤ 0)) true h2) (Met.cons (dec (decide (p0.hard.disk ≤ 0)) false h3) (Met.cons (dec (decide (p1.disk ≤ p0.hard.disk)) false h4) Met.nil))))) Told.nil (by kernel_rfl)
theorem t_law22_within_16 (p0 : Quota) (p1 : Resources) (p2 : Int) (h0 : (decide (p0.hard.cPU ≤ 0)) = false) (h1 : (decide (p1.cPU ≤ p0.hard.cPU)) = true) (h2 : (decide (p0.hard.memory ≤ 0)) = false) (h3 : (decide (p1.memory ≤ p0.hard.memory)) = true) (h4 : (decide (p0.hard.disk ≤ 0)) = true) (h5 : (decide (p0.pods ≤ 0)) = true) : Tells G (c_law22_within p0 p1 p2) (.ret (.bool true) []) :=
  tells_V (fn := Ir.law22_within) rfl VOK.nil (hs := [(6, (bE false, [])), (6, (bE true, [])), (5, (bE false, [])), (6, (bE true, [])), (6, (bE true, [])), (12, (bE true, []))]) (as := []) (Met.cons (dec (decide (p0.hard.cPU ≤ 0)) false h0) (Met.cons (dec (decide (p1.cPU ≤ p0.hard.cPU)) true h1) (Met.cons (dec (decide (p0.hard.memory ≤ 0)) false h2) (Met.cons (dec (decide (p1.memory ≤ p0.hard.memory)) true h3) (Met.cons (dec (decide (p0.hard.disk ≤ 0)) true h4) (Met.cons (dec (decide (p0.pods ≤ 0)) true h5) Met.nil)))))) Told.nil (by kernel_rfl)
theorem t_law22_within_17 (p0 : Quota) (p1 : Resources) (p2 : Int) (h0 : (decide (p0.hard.cPU ≤ 0)) = false) (h1 : (decide (p1.cPU ≤ p0.hard.cPU)) = true) (h2 : (decide (p0.hard.memory ≤ 0)) = false) (h3 : (decide (p1.memory ≤ p0.hard.memory)) = true) (h4 : (decide (p0.hard.disk ≤ 0)) = true) (h5 : (decide (p0.pods ≤ 0)) = false) : Tells G (c_law22_within p0 p1 p2) (.ret (.bool (decide (p2 ≤ p0.pods))) []) :=
  tells_V (fn := Ir.law22_within) rfl VOK.nil (hs := [(6, (bE false, [])), (6, (bE true, [])), (5, (bE false, [])), (6, (bE true, [])), (6, (bE true, [])), (12, (bE false, []))]) (as := []) (Met.cons (dec (decide (p0.hard.cPU ≤ 0)) false h0) (Met.cons (dec (decide (p1.cPU ≤ p0.hard.cPU)) true h1) (Met.cons (dec (decide (p0.hard.memory ≤ 0)) false h2) (Met.cons (dec (decide (p1.memory ≤ p0.hard.memory)) true h3) (Met.cons (dec (decide (p0.hard.disk ≤ 0)) true h4) (Met.cons (dec (decide (p0.pods ≤ 0)) false h5) Met.nil)))))) Told.nil (by kernel_rfl)
theorem t_law22_within_18 (p0 : Quota) (p1 : Resources) (p2 : Int) (h0 : (decide (p0.hard.cPU ≤ 0)) = false) (h1 : (decide (p1.cPU ≤ p0.hard.cPU)) = true) (h2 : (decide (p0.hard.memory ≤ 0)) = false) (h3 : (decide (p1.memory ≤ p0.hard.memory)) = true) (h4 : (decide (p0.hard.disk ≤ 0)) = false) (h5 : (decide (p1.disk ≤ p0.hard.disk)) = true) (h6 : (decide (p0.pods ≤ 0)) = true) : Tells G (c_law22_within p0 p1 p2) (.ret (.bool true) []) :=
  tells_V (fn := Ir.law22_within) rfl VOK.nil (hs := [(6, (bE false, [])), (6, (bE true, [])), (5, (bE false, [])), (6, (bE true, [])), (6, (bE false, [])), (6, (bE true, [])), (5, (bE true, []))]) (as := []) (Met.cons (dec (decide (p0.hard.cPU ≤ 0)) false h0) (Met.cons (dec (decide (p1.cPU ≤ p0.hard.cPU)) true h1) (Met.cons (dec (decide (p0.hard.memory ≤ 0)) false h2) (Met.cons (dec (decide (p1.memory ≤ p0.hard.memory)) true h3) (Met.cons (dec (decide (p0.hard.disk ≤ 0)) false h4) (Met.cons (dec (decide (p1.disk ≤ p0.hard.disk)) true h5) (Met.cons (dec (decide (p0.pods ≤ 0)) true h6) Met.nil))))))) Told.nil (by kernel_rfl)
theorem t_law22_within_19 (p0 : Quota) (p1 : Resources) (p2 : Int) (h0 : (decide (p0.hard.cPU ≤ 0)) = false) (h1 : (decide (p1.cPU ≤ p0.hard.cPU)) = true) (h2 : (decide (p0.hard.memory ≤ 0)) = false) (h3 : (decide (p1.memory ≤ p0.hard.memory)) = true) (h4 : (decide (p0.hard.disk ≤ 0)) = false) (h5 : (decide (p1.disk ≤ p0.hard.disk)) = true) (h6 : (decide (p0.pods ≤ 0)) = false) : Tells G (c_law22_within p0 p1 p2) (.ret (.bool (decide (p2 ≤ p0.pods))) []) :=
  tells_V (fn := Ir.law22_within) rfl VOK.nil (hs := [(6, (bE false, [])), (6, (bE true, [])), (5, (bE false, [])), (6, (bE true, [])), (6, (bE false, [])), (6, (bE true, [])), (5, (bE false, []))]) (as := []) (Met.cons (dec (decide (p0.hard.cPU ≤ 0)) false h0) (Met.cons (dec (decide (p1.cPU ≤ p0.hard.cPU)) true h1) (Met.cons (dec (decide (p0.hard.memory ≤ 0)) false h2) (Met.cons (dec (decide (p1.memory ≤ p0.hard.memory)) true h3) (Met.cons (dec (decide (p0.hard.disk ≤ 0)) false h4) (Met.cons (dec (decide (p1.disk ≤ p0.hard.disk)) true h5) (Met.cons (dec (decide (p0.pods ≤ 0)) false h6) Met.nil))))))) Told.nil (by kernel_rfl)
theorem t_law22_within_20 (p0 : Quota) (p1 : Resources) (p2 : Int) (h0 : (decide (p0.hard.cPU ≤ 0)) = false) (h1 : (decide (p1.cPU ≤ p0.hard.cPU)) = true) (h2 : (decide (p0.hard.memory ≤ 0)) = false) (h3 : (decide (p1.memory ≤ p0.hard.memory)) = true) (h4 : (decide (p0.hard.disk ≤ 0)) = false) (h5 : (decide (p1.disk ≤ p0.hard.disk)) = false) : Tells G (c_law22_within p0 p1 p2) (.ret (.bool false) []) :=
  tells_V (fn := Ir.law22_within) rfl VOK.nil (hs := [(6, (bE false, [])), (6, (bE true, [])), (5, (bE false, [])), (6, (bE true, [])), (6, (bE false, [])), (6, (bE false, []))]) (as := []) (Met.cons (dec (decide (p0.hard.cPU ≤ 0)) false h0) (Met.cons (dec (decide (p1.cPU ≤ p0.hard.cPU)) true h1) (Met.cons (dec (decide (p0.hard.memory ≤ 0)) false h2) (Met.cons (dec (decide (p1.memory ≤ p0.hard.memory)) true h3) (Met.cons (dec (decide (p0.hard.disk ≤ 0)) false h4) (Met.cons (dec (decide (p1.disk ≤ p0.hard.disk)) false h5) Met.nil)))))) Told.nil (by kernel_rfl)
theorem t_law22_within_21 (p0 : Quota) (p1 : Resources) (p2 : Int) (h0 : (decide (p0.hard.cPU ≤ 0)) = false) (h1 : (decide (p1.cPU ≤ p0.hard.cPU)) = true) (h2 : (decide (p0.hard.memory ≤ 0)) = false) (h3 : (decide (p1.memory ≤ p0.hard.memory)) = false) : Tells G (c_law22_within p0 p1 p2) (.ret (.bool false) []) :=
  tells_V (fn := Ir.law22_within) rfl VOK.nil (hs := [(6, (bE false, [])), (6, (bE true, [])), (5, (bE false, [])), (6, (bE false, []))]) (as := []) (Met.cons (dec (decide (p0.hard.cPU ≤ 0)) false h0) (Met.cons (dec (decide (p1.cPU ≤ p0.hard.cPU)) true h1) (Met.cons (dec (decide (p0.hard.memory ≤ 0)) false h2) (Met.cons (dec (decide (p1.memory ≤ p0.hard.memory)) false h3) Met.nil)))) Told.nil (by kernel_rfl)
theorem t_law22_within_22 (p0 : Quota) (p1 : Resources) (p2 : Int) (h0 : (decide (p0.hard.cPU ≤ 0)) = false) (h1 : (decide (p1.cPU ≤ p0.hard.cPU)) = false) : Tells G (c_law22_within p0 p1 p2) (.ret (.bool false) []) :=
  tells_V (fn := Ir.law22_within) rfl VOK.nil (hs := [(6, (bE false, [])), (6, (bE false, []))]) (as := []) (Met.cons (dec (decide (p0.hard.cPU ≤ 0)) false h0) (Met.cons (dec (decide (p1.cPU ≤ p0.hard.cPU)) false h1) Met.nil)) Told.nil (by kernel_rfl)
theorem t_law22_within (p0 : Quota) (p1 : Resources) (p2 : Int) : Tells G (c_law22_within p0 p1 p2) (a_law22_within p0 p1 p2) := by
  unfold a_law22_within s_law22_within
  cases h0 : (decide (p0.hard.cPU ≤ 0)) with
  | true =>
    cases h1 : (decide (p0.hard.memory ≤ 0)) with
    | true =>
      cases h2 : (decide (p0.hard.disk ≤ 0)) with
      | true =>
        cases h3 : (decide (p0.pods ≤ 0)) with
        | true =>
          exact t_law22_within_0 p0 p1 p2 h0 h1 h2 h3
        | false =>
          exact t_law22_within_1 p0 p1 p2 h0 h1 h2 h3
      | false =>
        cases h3 : (decide (p1.disk ≤ p0.hard.disk)) with
        | true =>
          cases h4 : (decide (p0.pods ≤ 0)) with
          | true =>
            exact t_law22_within_2 p0 p1 p2 h0 h1 h2 h3 h4
          | false =>
            exact t_law22_within_3 p0 p1 p2 h0 h1 h2 h3 h4
        | false =>
          exact t_law22_within_4 p0 p1 p2 h0 h1 h2 h3
    | false =>
      cases h2 : (decide (p1.memory ≤ p0.hard.memory)) with
      | true =>
        cases h3 : (decide (p0.hard.disk ≤ 0)) with
        | true =>
          cases h4 : (decide (p0.pods ≤ 0)) with
          | true =>
            exact t_law22_within_5 p0 p1 p2 h0 h1 h2 h3 h4
          | false =>
            exact t_law22_within_6 p0 p1 p2 h0 h1 h2 h3 h4
        | false =>
          cases h4 : (decide (p1.disk ≤ p0.hard.disk)) with
          | true =>
            cases h5 : (decide (p0.pods ≤ 0)) with
            | true =>
              exact t_law22_within_7 p0 p1 p2 h0 h1 h2 h3 h4 h5
            | false =>
              exact t_law22_within_8 p0 p1 p2 h0 h1 h2 h3 h4 h5
          | false =>
            exact t_law22_within_9 p0 p1 p2 h0 h1 h2 h3 h4
      | false =>
        exact t_law22_within_10 p0 p1 p2 h0 h1 h2
  | false =>
    cases h1 : (decide (p1.cPU ≤ p0.hard.cPU)) with
    | true =>
      cases h2 : (decide (p0.hard.memory ≤ 0)) with
      | true =>
        cases h3 : (decide (p0.hard.disk ≤ 0)) with
        | true =>
          cases h4 : (decide (p0.pods ≤ 0)) with
          | true =>
            exact t_law22_within_11 p0 p1 p2 h0 h1 h2 h3 h4
          | false =>
            exact t_law22_within_12 p0 p1 p2 h0 h1 h2 h3 h4
        | false =>
          cases h4 : (decide (p1.disk ≤ p0.hard.disk)) with
          | true =>
            cases h5 : (decide (p0.pods ≤ 0)) with
            | true =>
              exact t_law22_within_13 p0 p1 p2 h0 h1 h2 h3 h4 h5
            | false =>
              exact t_law22_within_14 p0 p1 p2 h0 h1 h2 h3 h4 h5
          | false =>
            exact t_law22_within_15 p0 p1 p2 h0 h1 h2 h3 h4
      | false =>
        cases h3 : (decide (p1.memory ≤ p0.hard.memory)) with
        | true =>
          cases h4 : (decide (p0.hard.disk ≤ 0)) with
          | true =>
            cases h5 : (decide (p0.pods ≤ 0)) with
            | true =>
              exact t_law22_within_16 p0 p1 p2 h0 h1 h2 h3 h4 h5
            | false =>
              exact t_law22_within_17 p0 p1 p2 h0 h1 h2 h3 h4 h5
          | false =>
            cases h5 : (decide (p1.disk ≤ p0.hard.disk)) with
            | true =>
              cases h6 : (decide (p0.pods ≤ 0)) with
              | true =>
                exact t_law22_within_18 p0 p1 p2 h0 h1 h2 h3 h4 h5 h6
              | false =>
                exact t_law22_within_19 p0 p1 p2 h0 h1 h2 h3 h4 h5 h6
            | false =>
              exact t_law22_within_20 p0 p1 p2 h0 h1 h2 h3 h4 h5
        | false =>
          exact t_law22_within_21 p0 p1 p2 h0 h1 h2 h3
    | false =>
      exact t_law22_within_22 p0 p1 p2 h0 h1

def Label_ty : Ty := .st [.str, .str]
def Label_ok (x : Label) : Prop := okS x.key ∧ okS x.value
theorem Label_open {c : List PV} (h : Of Γ Label_ty c) : ∃ x : Label, c = x.cells ∧ Label_ok x := by
  have g0 := h.st1
  obtain ⟨a0, b0, rfl, h0, g1⟩ := g0.uncons
  obtain ⟨x0, rfl, k0⟩ := h0.str1
  obtain ⟨a1, b1, rfl, h1, g2⟩ := g1.uncons
  obtain ⟨x1, rfl, k1⟩ := h1.str1
  have e := g2.empty
  subst e
  exact ⟨⟨x0, x1⟩, rfl, ⟨k0, k1⟩⟩

def Owner_ty : Ty := .st [.str, .str, .int .i64, .bool, .bool]
def Owner_ok (x : Owner) : Prop := okS x.kind ∧ okS x.name ∧ okI64 x.uid ∧ (fun _ : Bool => True) x.controller ∧ (fun _ : Bool => True) x.block
theorem Owner_open {c : List PV} (h : Of Γ Owner_ty c) : ∃ x : Owner, c = x.cells ∧ Owner_ok x := by
  have g0 := h.st1
  obtain ⟨a0, b0, rfl, h0, g1⟩ := g0.uncons
  obtain ⟨x0, rfl, k0⟩ := h0.str1
  obtain ⟨a1, b1, rfl, h1, g2⟩ := g1.uncons
  obtain ⟨x1, rfl, k1⟩ := h1.str1
  obtain ⟨a2, b2, rfl, h2, g3⟩ := g2.uncons
  obtain ⟨x2, rfl, k2⟩ := h2.i64
  obtain ⟨a3, b3, rfl, h3, g4⟩ := g3.uncons
  obtain ⟨x3, rfl, k3⟩ := h3.bool2
  obtain ⟨a4, b4, rfl, h4, g5⟩ := g4.uncons
  obtain ⟨x4, rfl, k4⟩ := h4.bool2
  have e := g5.empty
  subst e
  exact ⟨⟨x0, x1, x2, x3, x4⟩, rfl, ⟨k0, k1, k2, k3, k4⟩⟩

def Manager_ty : Ty := .st [.str, .sl 16 .str]
def Manager_ok (x : Manager) : Prop := okS x.name ∧ (okL 16 okS) x.fields
theorem Manager_open {c : List PV} (h : Of Γ Manager_ty c) : ∃ x : Manager, c = x.cells ∧ Manager_ok x := by
  have g0 := h.st1
  obtain ⟨a0, b0, rfl, h0, g1⟩ := g0.uncons
  obtain ⟨x0, rfl, k0⟩ := h0.str1
  obtain ⟨a1, b1, rfl, h1, g2⟩ := g1.uncons
  obtain ⟨x1, rfl, k1⟩ := (h1.sl1 (f := (fun s : ByteArray => [.str s])) (ok := okS) fun r hr => hr.str1)
  have e := g2.empty
  subst e
  exact ⟨⟨x0, x1⟩, rfl, ⟨k0, k1⟩⟩

def Meta_ty : Ty := .st [.str, .str, .str, .int .i64, .int .i64, .int .i64, .int .i64, .bool, .int .i64, .sl 32 Label_ty, .sl 48 Owner_ty, .sl 16 .str, .sl 40 Manager_ty]
def Meta_ok (x : Meta) : Prop := okS x.kind ∧ okS x.namespace_ ∧ okS x.name ∧ okI64 x.uid ∧ okI64 x.version ∧ okI64 x.generation ∧ okI64 x.created ∧ (fun _ : Bool => True) x.deleting ∧ okI64 x.deleteAt ∧ (okL 32 Label_ok) x.labels ∧ (okL 48 Owner_ok) x.owners ∧ (okL 16 okS) x.finalizers ∧ (okL 40 Manager_ok) x.managers
theorem Meta_open {c : List PV} (h : Of Γ Meta_ty c) : ∃ x : Meta, c = x.cells ∧ Meta_ok x := by
  have g0 := h.st1
  obtain ⟨a0, b0, rfl, h0, g1⟩ := g0.uncons
  obtain ⟨x0, rfl, k0⟩ := h0.str1
  obtain ⟨a1, b1, rfl, h1, g2⟩ := g1.uncons
  obtain ⟨x1, rfl, k1⟩ := h1.str1
  obtain ⟨a2, b2, rfl, h2, g3⟩ := g2.uncons
  obtain ⟨x2, rfl, k2⟩ := h2.str1
  obtain ⟨a3, b3, rfl, h3, g4⟩ := g3.uncons
  obtain ⟨x3, rfl, k3⟩ := h3.i64
  obtain ⟨a4, b4, rfl, h4, g5⟩ := g4.uncons
  obtain ⟨x4, rfl, k4⟩ := h4.i64
  obtain ⟨a5, b5, rfl, h5, g6⟩ := g5.uncons
  obtain ⟨x5, rfl, k5⟩ := h5.i64
  obtain ⟨a6, b6, rfl, h6, g7⟩ := g6.uncons
  obtain ⟨x6, rfl, k6⟩ := h6.i64
  obtain ⟨a7, b7, rfl, h7, g8⟩ := g7.uncons
  obtain ⟨x7, rfl, k7⟩ := h7.bool2
  obtain ⟨a8, b8, rfl, h8, g9⟩ := g8.uncons
  obtain ⟨x8, rfl, k8⟩ := h8.i64
  obtain ⟨a9, b9, rfl, h9, g10⟩ := g9.uncons
  obtain ⟨x9, rfl, k9⟩ := (h9.sl1 (f := Label.cells) (ok := Label_ok) fun r hr => (Label_open hr))
  obtain ⟨a10, b10, rfl, h10, g11⟩ := g10.uncons
  obtain ⟨x10, rfl, k10⟩ := (h10.sl1 (f := Owner.cells) (ok := Owner_ok) fun r hr => (Owner_open hr))
  obtain ⟨a11, b11, rfl, h11, g12⟩ := g11.uncons
  obtain ⟨x11, rfl, k11⟩ := (h11.sl1 (f := (fun s : ByteArray => [.str s])) (ok := okS) fun r hr => hr.str1)
  obtain ⟨a12, b12, rfl, h12, g13⟩ := g12.uncons
  obtain ⟨x12, rfl, k12⟩ := (h12.sl1 (f := Manager.cells) (ok := Manager_ok) fun r hr => (Manager_open hr))
  have e := g13.empty
  subst e
  exact ⟨⟨x0, x1, x2, x3, x4, x5, x6, x7, x8, x9, x10, x11, x12⟩, rfl, ⟨k0, k1, k2, k3, k4, k5, k6, k7, k8, k9, k10, k11, k12⟩⟩

def Resources_ty : Ty := .st [.int .i64, .int .i64, .int .i64]
def Resources_ok (x : Resources) : Prop := okI64 x.cPU ∧ okI64 x.memory ∧ okI64 x.disk
theorem Resources_open {c : List PV} (h : Of Γ Resources_ty c) : ∃ x : Resources, c = x.cells ∧ Resources_ok x := by
  have g0 := h.st1
  obtain ⟨a0, b0, rfl, h0, g1⟩ := g0.uncons
  obtain ⟨x0, rfl, k0⟩ := h0.i64
  obtain ⟨a1, b1, rfl, h1, g2⟩ := g1.uncons
  obtain ⟨x1, rfl, k1⟩ := h1.i64
  obtain ⟨a2, b2, rfl, h2, g3⟩ := g2.uncons
  obtain ⟨x2, rfl, k2⟩ := h2.i64
  have e := g3.empty
  subst e
  exact ⟨⟨x0, x1, x2⟩, rfl, ⟨k0, k1, k2⟩⟩

def Quota_ty : Ty := .st [Meta_ty, Resources_ty, Resources_ty, .int .i64, .int .i64]
def Quota_ok (x : Quota) : Prop := Meta_ok x.meta_ ∧ Resources_ok x.hard ∧ Resources_ok x.used ∧ okI64 x.pods ∧ okI64 x.has
theorem Quota_open {c : List PV} (h : Of Γ Quota_ty c) : ∃ x : Quota, c = x.cells ∧ Quota_ok x := by
  have g0 := h.st1
  obtain ⟨a0, b0, rfl, h0, g1⟩ := g0.uncons
  obtain ⟨x0, rfl, k0⟩ := (Meta_open h0)
  obtain ⟨a1, b1, rfl, h1, g2⟩ := g1.uncons
  obtain ⟨x1, rfl, k1⟩ := (Resources_open h1)
  obtain ⟨a2, b2, rfl, h2, g3⟩ := g2.uncons
  obtain ⟨x2, rfl, k2⟩ := (Resources_open h2)
  obtain ⟨a3, b3, rfl, h3, g4⟩ := g3.uncons
  obtain ⟨x3, rfl, k3⟩ := h3.i64
  obtain ⟨a4, b4, rfl, h4, g5⟩ := g4.uncons
  obtain ⟨x4, rfl, k4⟩ := h4.i64
  have e := g5.empty
  subst e
  exact ⟨⟨x0, x1, x2, x3, x4⟩, rfl, ⟨k0, k1, k2, k3, k4⟩⟩

def Label_cap (N : Nat) (x : Label) : Prop := (fun s : ByteArray => s.size ≤ N) x.key ∧ (fun s : ByteArray => s.size ≤ N) x.value
theorem Label_capOf {N : Nat} {x : Label} (h : CapL N x.cells) : Label_cap N x := ⟨(let g : CapL N [.str x.key] := fun p hp => h p (by simp only [List.mem_cons, List.not_mem_nil, or_false] at hp; rcases hp with rfl <;> simp [Label.cells]); (g _ List.mem_cons_self).strI), (let g : CapL N [.str x.value] := fun p hp => h p (by simp only [List.mem_cons, List.not_mem_nil, or_false] at hp; rcases hp with rfl <;> simp [Label.cells]); (g _ List.mem_cons_self).strI)⟩

def Owner_cap (N : Nat) (x : Owner) : Prop := (fun s : ByteArray => s.size ≤ N) x.kind ∧ (fun s : ByteArray => s.size ≤ N) x.name
theorem Owner_capOf {N : Nat} {x : Owner} (h : CapL N x.cells) : Owner_cap N x := ⟨(let g : CapL N [.str x.kind] := fun p hp => h p (by simp only [List.mem_cons, List.not_mem_nil, or_false] at hp; rcases hp with rfl <;> simp [Owner.cells]); (g _ List.mem_cons_self).strI), (let g : CapL N [.str x.name] := fun p hp => h p (by simp only [List.mem_cons, List.not_mem_nil, or_false] at hp; rcases hp with rfl <;> simp [Owner.cells]); (g _ List.mem_cons_self).strI)⟩

def Manager_cap (N : Nat) (x : Manager) : Prop := (fun s : ByteArray => s.size ≤ N) x.name ∧ (fun l : List ByteArray => l.length ≤ N ∧ ∀ x ∈ l, (fun s : ByteArray => s.size ≤ N) x) x.fields
theorem Manager_capOf {N : Nat} {x : Manager} (h : CapL N x.cells) : Manager_cap N x := ⟨(let g : CapL N [.str x.name] := fun p hp => h p (by simp only [List.mem_cons, List.not_mem_nil, or_false] at hp; rcases hp with rfl <;> simp [Manager.cells]); (g _ List.mem_cons_self).strI), (let g : CapL N [.sl (strRows x.fields)] := fun p hp => h p (by simp only [List.mem_cons, List.not_mem_nil, or_false] at hp; rcases hp with rfl <;> simp [Manager.cells]); (let r := Cap.rowsI (f := (fun s : ByteArray => [.str s])) (g _ List.mem_cons_self); ⟨r.1, fun x hx => ((r.2 x hx) _ List.mem_cons_self).strI⟩))⟩

def Meta_cap (N : Nat) (x : Meta) : Prop := (fun s : ByteArray => s.size ≤ N) x.kind ∧ (fun s : ByteArray => s.size ≤ N) x.namespace_ ∧ (fun s : ByteArray => s.size ≤ N) x.name ∧ (fun l : List Label => l.length ≤ N ∧ ∀ x ∈ l, (Label_cap N) x) x.labels ∧ (fun l : List Owner => l.length ≤ N ∧ ∀ x ∈ l, (Owner_cap N) x) x.owners ∧ (fun l : List ByteArray => l.length ≤ N ∧ ∀ x ∈ l, (fun s : ByteArray => s.size ≤ N) x) x.finalizers ∧ (fun l : List Manager => l.length ≤ N ∧ ∀ x ∈ l, (Manager_cap N) x) x.managers
theorem Meta_capOf {N : Nat} {x : Meta} (h : CapL N x.cells) : Meta_cap N x := ⟨(let g : CapL N [.str x.kind] := fun p hp => h p (by simp only [List.mem_cons, List.not_mem_nil, or_false] at hp; rcases hp with rfl <;> simp [Meta.cells]); (g _ List.mem_cons_self).strI), (let g : CapL N [.str x.namespace_] := fun p hp => h p (by simp only [List.mem_cons, List.not_mem_nil, or_false] at hp; rcases hp with rfl <;> simp [Meta.cells]); (g _ List.mem_cons_self).strI), (let g : CapL N [.str x.name] := fun p hp => h p (by simp only [List.mem_cons, List.not_mem_nil, or_false] at hp; rcases hp with rfl <;> simp [Meta.cells]); (g _ List.mem_cons_self).strI), (let g : CapL N [.sl (Label.rows x.labels)] := fun p hp => h p (by simp only [List.mem_cons, List.not_mem_nil, or_false] at hp; rcases hp with rfl <;> simp [Meta.cells]); (let r := Cap.rowsI (f := Label.cells) (g _ List.mem_cons_self); ⟨r.1, fun x hx => (Label_capOf (r.2 x hx))⟩)), (let g : CapL N [.sl (Owner.rows x.owners)] := fun p hp => h p (by simp only [List.mem_cons, List.not_mem_nil, or_false] at hp; rcases hp with rfl <;> simp [Meta.cells]); (let r := Cap.rowsI (f := Owner.cells) (g _ List.mem_cons_self); ⟨r.1, fun x hx => (Owner_capOf (r.2 x hx))⟩)), (let g : CapL N [.sl (strRows x.finalizers)] := fun p hp => h p (by simp only [List.mem_cons, List.not_mem_nil, or_false] at hp; rcases hp with rfl <;> simp [Meta.cells]); (let r := Cap.rowsI (f := (fun s : ByteArray => [.str s])) (g _ List.mem_cons_self); ⟨r.1, fun x hx => ((r.2 x hx) _ List.mem_cons_self).strI⟩)), (let g : CapL N [.sl (Manager.rows x.managers)] := fun p hp => h p (by simp only [List.mem_cons, List.not_mem_nil, or_false] at hp; rcases hp with rfl <;> simp [Meta.cells]); (let r := Cap.rowsI (f := Manager.cells) (g _ List.mem_cons_self); ⟨r.1, fun x hx => (Manager_capOf (r.2 x hx))⟩))⟩

def Resources_cap (_N : Nat) (_x : Resources) : Prop := True
theorem Resources_capOf {N : Nat} {x : Resources} (_h : CapL N x.cells) : Resources_cap N x := trivial

def Quota_cap (N : Nat) (x : Quota) : Prop := (Meta_cap N) x.meta_ ∧ (Resources_cap N) x.hard ∧ (Resources_cap N) x.used
theorem Quota_capOf {N : Nat} {x : Quota} (h : CapL N x.cells) : Quota_cap N x := ⟨(let g : CapL N [.str x.meta_.kind, .str x.meta_.namespace_, .str x.meta_.name, .int .i64 x.meta_.uid, .int .i64 x.meta_.version, .int .i64 x.meta_.generation, .int .i64 x.meta_.created, .bool x.meta_.deleting, .int .i64 x.meta_.deleteAt, .sl (Label.rows x.meta_.labels), .sl (Owner.rows x.meta_.owners), .sl (strRows x.meta_.finalizers), .sl (Manager.rows x.meta_.managers)] := fun p hp => h p (by simp only [List.mem_cons, List.not_mem_nil, or_false] at hp; rcases hp with rfl | rfl | rfl | rfl | rfl | rfl | rfl | rfl | rfl | rfl | rfl | rfl | rfl <;> simp [Quota.cells]); (Meta_capOf g)), (let g : CapL N [.int .i64 x.hard.cPU, .int .i64 x.hard.memory, .int .i64 x.hard.disk] := fun p hp => h p (by simp only [List.mem_cons, List.not_mem_nil, or_false] at hp; rcases hp with rfl | rfl | rfl <;> simp [Quota.cells]); (Resources_capOf g)), (let g : CapL N [.int .i64 x.used.cPU, .int .i64 x.used.memory, .int .i64 x.used.disk] := fun p hp => h p (by simp only [List.mem_cons, List.not_mem_nil, or_false] at hp; rcases hp with rfl | rfl | rfl <;> simp [Quota.cells]); (Resources_capOf g))⟩

def Probe_ty : Ty := .st [.int .i64, .int .i64, .int .i64, .int .i64]
def Probe_ok (x : Probe) : Prop := okI64 x.delay ∧ okI64 x.period ∧ okI64 x.success ∧ okI64 x.failure
theorem Probe_open {c : List PV} (h : Of Γ Probe_ty c) : ∃ x : Probe, c = x.cells ∧ Probe_ok x := by
  have g0 := h.st1
  obtain ⟨a0, b0, rfl, h0, g1⟩ := g0.uncons
  obtain ⟨x0, rfl, k0⟩ := h0.i64
  obtain ⟨a1, b1, rfl, h1, g2⟩ := g1.uncons
  obtain ⟨x1, rfl, k1⟩ := h1.i64
  obtain ⟨a2, b2, rfl, h2, g3⟩ := g2.uncons
  obtain ⟨x2, rfl, k2⟩ := h2.i64
  obtain ⟨a3, b3, rfl, h3, g4⟩ := g3.uncons
  obtain ⟨x3, rfl, k3⟩ := h3.i64
  have e := g4.empty
  subst e
  exact ⟨⟨x0, x1, x2, x3⟩, rfl, ⟨k0, k1, k2, k3⟩⟩

def Container_ty : Ty := .st [.str, .str, Resources_ty, Resources_ty, .sl 32 Probe_ty, .sl 32 Probe_ty, .sl 32 Probe_ty]
def Container_ok (x : Container) : Prop := okS x.name ∧ okS x.image ∧ Resources_ok x.request ∧ Resources_ok x.limit ∧ (okL 32 Probe_ok) x.live ∧ (okL 32 Probe_ok) x.ready ∧ (okL 32 Probe_ok) x.startup
theorem Container_open {c : List PV} (h : Of Γ Container_ty c) : ∃ x : Container, c = x.cells ∧ Container_ok x := by
  have g0 := h.st1
  obtain ⟨a0, b0, rfl, h0, g1⟩ := g0.uncons
  obtain ⟨x0, rfl, k0⟩ := h0.str1
  obtain ⟨a1, b1, rfl, h1, g2⟩ := g1.uncons
  obtain ⟨x1, rfl, k1⟩ := h1.str1
  obtain ⟨a2, b2, rfl, h2, g3⟩ := g2.uncons
  obtain ⟨x2, rfl, k2⟩ := (Resources_open h2)
  obtain ⟨a3, b3, rfl, h3, g4⟩ := g3.uncons
  obtain ⟨x3, rfl, k3⟩ := (Resources_open h3)
  obtain ⟨a4, b4, rfl, h4, g5⟩ := g4.uncons
  obtain ⟨x4, rfl, k4⟩ := (h4.sl1 (f := Probe.cells) (ok := Probe_ok) fun r hr => (Probe_open hr))
  obtain ⟨a5, b5, rfl, h5, g6⟩ := g5.uncons
  obtain ⟨x5, rfl, k5⟩ := (h5.sl1 (f := Probe.cells) (ok := Probe_ok) fun r hr => (Probe_open hr))
  obtain ⟨a6, b6, rfl, h6, g7⟩ := g6.uncons
  obtain ⟨x6, rfl, k6⟩ := (h6.sl1 (f := Probe.cells) (ok := Probe_ok) fun r hr => (Probe_open hr))
  have e := g7.empty
  subst e
  exact ⟨⟨x0, x1, x2, x3, x4, x5, x6⟩, rfl, ⟨k0, k1, k2, k3, k4, k5, k6⟩⟩

def Requirement_ty : Ty := .st [.str, .int .i64, .sl 16 .str]
def Requirement_ok (x : Requirement) : Prop := okS x.key ∧ okI64 x.op ∧ (okL 16 okS) x.values
theorem Requirement_open {c : List PV} (h : Of Γ Requirement_ty c) : ∃ x : Requirement, c = x.cells ∧ Requirement_ok x := by
  have g0 := h.st1
  obtain ⟨a0, b0, rfl, h0, g1⟩ := g0.uncons
  obtain ⟨x0, rfl, k0⟩ := h0.str1
  obtain ⟨a1, b1, rfl, h1, g2⟩ := g1.uncons
  obtain ⟨x1, rfl, k1⟩ := h1.i64
  obtain ⟨a2, b2, rfl, h2, g3⟩ := g2.uncons
  obtain ⟨x2, rfl, k2⟩ := (h2.sl1 (f := (fun s : ByteArray => [.str s])) (ok := okS) fun r hr => hr.str1)
  have e := g3.empty
  subst e
  exact ⟨⟨x0, x1, x2⟩, rfl, ⟨k0, k1, k2⟩⟩

def NodeTerm_ty : Ty := .st [.bool, .sl 48 Requirement_ty, .int .i64]
def NodeTerm_ok (x : NodeTerm) : Prop := (fun _ : Bool => True) x.required ∧ (okL 48 Requirement_ok) x.selector ∧ okI64 x.weight
theorem NodeTerm_open {c : List PV} (h : Of Γ NodeTerm_ty c) : ∃ x : NodeTerm, c = x.cells ∧ NodeTerm_ok x := by
  have g0 := h.st1
  obtain ⟨a0, b0, rfl, h0, g1⟩ := g0.uncons
  obtain ⟨x0, rfl, k0⟩ := h0.bool2
  obtain ⟨a1, b1, rfl, h1, g2⟩ := g1.uncons
  obtain ⟨x1, rfl, k1⟩ := (h1.sl1 (f := Requirement.cells) (ok := Requirement_ok) fun r hr => (Requirement_open hr))
  obtain ⟨a2, b2, rfl, h2, g3⟩ := g2.uncons
  obtain ⟨x2, rfl, k2⟩ := h2.i64
  have e := g3.empty
  subst e
  exact ⟨⟨x0, x1, x2⟩, rfl, ⟨k0, k1, k2⟩⟩

def PodTerm_ty : Ty := .st [.bool, .bool, .sl 48 Requirement_ty, .str, .int .i64]
def PodTerm_ok (x : PodTerm) : Prop := (fun _ : Bool => True) x.required ∧ (fun _ : Bool => True) x.anti ∧ (okL 48 Requirement_ok) x.selector ∧ okS x.topology ∧ okI64 x.weight
theorem PodTerm_open {c : List PV} (h : Of Γ PodTerm_ty c) : ∃ x : PodTerm, c = x.cells ∧ PodTerm_ok x := by
  have g0 := h.st1
  obtain ⟨a0, b0, rfl, h0, g1⟩ := g0.uncons
  obtain ⟨x0, rfl, k0⟩ := h0.bool2
  obtain ⟨a1, b1, rfl, h1, g2⟩ := g1.uncons
  obtain ⟨x1, rfl, k1⟩ := h1.bool2
  obtain ⟨a2, b2, rfl, h2, g3⟩ := g2.uncons
  obtain ⟨x2, rfl, k2⟩ := (h2.sl1 (f := Requirement.cells) (ok := Requirement_ok) fun r hr => (Requirement_open hr))
  obtain ⟨a3, b3, rfl, h3, g4⟩ := g3.uncons
  obtain ⟨x3, rfl, k3⟩ := h3.str1
  obtain ⟨a4, b4, rfl, h4, g5⟩ := g4.uncons
  obtain ⟨x4, rfl, k4⟩ := h4.i64
  have e := g5.empty
  subst e
  exact ⟨⟨x0, x1, x2, x3, x4⟩, rfl, ⟨k0, k1, k2, k3, k4⟩⟩

def SpreadRule_ty : Ty := .st [.int .i64, .str, .sl 48 Requirement_ty, .bool]
def SpreadRule_ok (x : SpreadRule) : Prop := okI64 x.maxSkew ∧ okS x.topology ∧ (okL 48 Requirement_ok) x.selector ∧ (fun _ : Bool => True) x.required
theorem SpreadRule_open {c : List PV} (h : Of Γ SpreadRule_ty c) : ∃ x : SpreadRule, c = x.cells ∧ SpreadRule_ok x := by
  have g0 := h.st1
  obtain ⟨a0, b0, rfl, h0, g1⟩ := g0.uncons
  obtain ⟨x0, rfl, k0⟩ := h0.i64
  obtain ⟨a1, b1, rfl, h1, g2⟩ := g1.uncons
  obtain ⟨x1, rfl, k1⟩ := h1.str1
  obtain ⟨a2, b2, rfl, h2, g3⟩ := g2.uncons
  obtain ⟨x2, rfl, k2⟩ := (h2.sl1 (f := Requirement.cells) (ok := Requirement_ok) fun r hr => (Requirement_open hr))
  obtain ⟨a3, b3, rfl, h3, g4⟩ := g3.uncons
  obtain ⟨x3, rfl, k3⟩ := h3.bool2
  have e := g4.empty
  subst e
  exact ⟨⟨x0, x1, x2, x3⟩, rfl, ⟨k0, k1, k2, k3⟩⟩

def Toleration_ty : Ty := .st [.str, .str, .bool, .int .i64, .int .i64]
def Toleration_ok (x : Toleration) : Prop := okS x.key ∧ okS x.value ∧ (fun _ : Bool => True) x.exists_ ∧ okI64 x.effect ∧ okI64 x.seconds
theorem Toleration_open {c : List PV} (h : Of Γ Toleration_ty c) : ∃ x : Toleration, c = x.cells ∧ Toleration_ok x := by
  have g0 := h.st1
  obtain ⟨a0, b0, rfl, h0, g1⟩ := g0.uncons
  obtain ⟨x0, rfl, k0⟩ := h0.str1
  obtain ⟨a1, b1, rfl, h1, g2⟩ := g1.uncons
  obtain ⟨x1, rfl, k1⟩ := h1.str1
  obtain ⟨a2, b2, rfl, h2, g3⟩ := g2.uncons
  obtain ⟨x2, rfl, k2⟩ := h2.bool2
  obtain ⟨a3, b3, rfl, h3, g4⟩ := g3.uncons
  obtain ⟨x3, rfl, k3⟩ := h3.i64
  obtain ⟨a4, b4, rfl, h4, g5⟩ := g4.uncons
  obtain ⟨x4, rfl, k4⟩ := h4.i64
  have e := g5.empty
  subst e
  exact ⟨⟨x0, x1, x2, x3, x4⟩, rfl, ⟨k0, k1, k2, k3, k4⟩⟩

def PodSpec_ty : Ty := .st [.str, .int .i64, .int .i64, .int .i64, .sl 152 Container_ty, .sl 48 Requirement_ty, .sl 40 NodeTerm_ty, .sl 56 PodTerm_ty, .sl 56 SpreadRule_ty, .sl 56 Toleration_ty]
def PodSpec_ok (x : PodSpec) : Prop := okS x.node ∧ okI64 x.priority ∧ okI64 x.restart ∧ okI64 x.grace ∧ (okL 152 Container_ok) x.containers ∧ (okL 48 Requirement_ok) x.nodeSelector ∧ (okL 40 NodeTerm_ok) x.nodeTerms ∧ (okL 56 PodTerm_ok) x.podTerms ∧ (okL 56 SpreadRule_ok) x.spread ∧ (okL 56 Toleration_ok) x.tolerations
theorem PodSpec_open {c : List PV} (h : Of Γ PodSpec_ty c) : ∃ x : PodSpec, c = x.cells ∧ PodSpec_ok x := by
  have g0 := h.st1
  obtain ⟨a0, b0, rfl, h0, g1⟩ := g0.uncons
  obtain ⟨x0, rfl, k0⟩ := h0.str1
  obtain ⟨a1, b1, rfl, h1, g2⟩ := g1.uncons
  obtain ⟨x1, rfl, k1⟩ := h1.i64
  obtain ⟨a2, b2, rfl, h2, g3⟩ := g2.uncons
  obtain ⟨x2, rfl, k2⟩ := h2.i64
  obtain ⟨a3, b3, rfl, h3, g4⟩ := g3.uncons
  obtain ⟨x3, rfl, k3⟩ := h3.i64
  obtain ⟨a4, b4, rfl, h4, g5⟩ := g4.uncons
  obtain ⟨x4, rfl, k4⟩ := (h4.sl1 (f := Container.cells) (ok := Container_ok) fun r hr => (Container_open hr))
  obtain ⟨a5, b5, rfl, h5, g6⟩ := g5.uncons
  obtain ⟨x5, rfl, k5⟩ := (h5.sl1 (f := Requirement.cells) (ok := Requirement_ok) fun r hr => (Requirement_open hr))
  obtain ⟨a6, b6, rfl, h6, g7⟩ := g6.uncons
  obtain ⟨x6, rfl, k6⟩ := (h6.sl1 (f := NodeTerm.cells) (ok := NodeTerm_ok) fun r hr => (NodeTerm_open hr))
  obtain ⟨a7, b7, rfl, h7, g8⟩ := g7.uncons
  obtain ⟨x7, rfl, k7⟩ := (h7.sl1 (f := PodTerm.cells) (ok := PodTerm_ok) fun r hr => (PodTerm_open hr))
  obtain ⟨a8, b8, rfl, h8, g9⟩ := g8.uncons
  obtain ⟨x8, rfl, k8⟩ := (h8.sl1 (f := SpreadRule.cells) (ok := SpreadRule_ok) fun r hr => (SpreadRule_open hr))
  obtain ⟨a9, b9, rfl, h9, g10⟩ := g9.uncons
  obtain ⟨x9, rfl, k9⟩ := (h9.sl1 (f := Toleration.cells) (ok := Toleration_ok) fun r hr => (Toleration_open hr))
  have e := g10.empty
  subst e
  exact ⟨⟨x0, x1, x2, x3, x4, x5, x6, x7, x8, x9⟩, rfl, ⟨k0, k1, k2, k3, k4, k5, k6, k7, k8, k9⟩⟩

def ContainerStatus_ty : Ty := .st [.str, .int .i64, .int .i64, .int .i64, .int .i64, .bool, .bool]
def ContainerStatus_ok (x : ContainerStatus) : Prop := okS x.name ∧ okI64 x.state ∧ okI64 x.restarts ∧ okI64 x.exitCode ∧ okI64 x.since ∧ (fun _ : Bool => True) x.ready ∧ (fun _ : Bool => True) x.started
theorem ContainerStatus_open {c : List PV} (h : Of Γ ContainerStatus_ty c) : ∃ x : ContainerStatus, c = x.cells ∧ ContainerStatus_ok x := by
  have g0 := h.st1
  obtain ⟨a0, b0, rfl, h0, g1⟩ := g0.uncons
  obtain ⟨x0, rfl, k0⟩ := h0.str1
  obtain ⟨a1, b1, rfl, h1, g2⟩ := g1.uncons
  obtain ⟨x1, rfl, k1⟩ := h1.i64
  obtain ⟨a2, b2, rfl, h2, g3⟩ := g2.uncons
  obtain ⟨x2, rfl, k2⟩ := h2.i64
  obtain ⟨a3, b3, rfl, h3, g4⟩ := g3.uncons
  obtain ⟨x3, rfl, k3⟩ := h3.i64
  obtain ⟨a4, b4, rfl, h4, g5⟩ := g4.uncons
  obtain ⟨x4, rfl, k4⟩ := h4.i64
  obtain ⟨a5, b5, rfl, h5, g6⟩ := g5.uncons
  obtain ⟨x5, rfl, k5⟩ := h5.bool2
  obtain ⟨a6, b6, rfl, h6, g7⟩ := g6.uncons
  obtain ⟨x6, rfl, k6⟩ := h6.bool2
  have e := g7.empty
  subst e
  exact ⟨⟨x0, x1, x2, x3, x4, x5, x6⟩, rfl, ⟨k0, k1, k2, k3, k4, k5, k6⟩⟩

def PodStatus_ty : Ty := .st [.int .i64, .bool, .int .i64, .int .i64, .int .i64, .sl 56 ContainerStatus_ty, .int .i64, .str, .str]
def PodStatus_ok (x : PodStatus) : Prop := okI64 x.phase ∧ (fun _ : Bool => True) x.ready ∧ okI64 x.readySince ∧ okI64 x.started ∧ okI64 x.finished ∧ (okL 56 ContainerStatus_ok) x.containers ∧ okI64 x.address ∧ okS x.nominated ∧ okS x.reason
theorem PodStatus_open {c : List PV} (h : Of Γ PodStatus_ty c) : ∃ x : PodStatus, c = x.cells ∧ PodStatus_ok x := by
  have g0 := h.st1
  obtain ⟨a0, b0, rfl, h0, g1⟩ := g0.uncons
  obtain ⟨x0, rfl, k0⟩ := h0.i64
  obtain ⟨a1, b1, rfl, h1, g2⟩ := g1.uncons
  obtain ⟨x1, rfl, k1⟩ := h1.bool2
  obtain ⟨a2, b2, rfl, h2, g3⟩ := g2.uncons
  obtain ⟨x2, rfl, k2⟩ := h2.i64
  obtain ⟨a3, b3, rfl, h3, g4⟩ := g3.uncons
  obtain ⟨x3, rfl, k3⟩ := h3.i64
  obtain ⟨a4, b4, rfl, h4, g5⟩ := g4.uncons
  obtain ⟨x4, rfl, k4⟩ := h4.i64
  obtain ⟨a5, b5, rfl, h5, g6⟩ := g5.uncons
  obtain ⟨x5, rfl, k5⟩ := (h5.sl1 (f := ContainerStatus.cells) (ok := ContainerStatus_ok) fun r hr => (ContainerStatus_open hr))
  obtain ⟨a6, b6, rfl, h6, g7⟩ := g6.uncons
  obtain ⟨x6, rfl, k6⟩ := h6.i64
  obtain ⟨a7, b7, rfl, h7, g8⟩ := g7.uncons
  obtain ⟨x7, rfl, k7⟩ := h7.str1
  obtain ⟨a8, b8, rfl, h8, g9⟩ := g8.uncons
  obtain ⟨x8, rfl, k8⟩ := h8.str1
  have e := g9.empty
  subst e
  exact ⟨⟨x0, x1, x2, x3, x4, x5, x6, x7, x8⟩, rfl, ⟨k0, k1, k2, k3, k4, k5, k6, k7, k8⟩⟩

def Pod_ty : Ty := .st [Meta_ty, PodSpec_ty, PodStatus_ty]
def Pod_ok (x : Pod) : Prop := Meta_ok x.meta_ ∧ PodSpec_ok x.spec ∧ PodStatus_ok x.status
theorem Pod_open {c : List PV} (h : Of Γ Pod_ty c) : ∃ x : Pod, c = x.cells ∧ Pod_ok x := by
  have g0 := h.st1
  obtain ⟨a0, b0, rfl, h0, g1⟩ := g0.uncons
  obtain ⟨x0, rfl, k0⟩ := (Meta_open h0)
  obtain ⟨a1, b1, rfl, h1, g2⟩ := g1.uncons
  obtain ⟨x1, rfl, k1⟩ := (PodSpec_open h1)
  obtain ⟨a2, b2, rfl, h2, g3⟩ := g2.uncons
  obtain ⟨x2, rfl, k2⟩ := (PodStatus_open h2)
  have e := g3.empty
  subst e
  exact ⟨⟨x0, x1, x2⟩, rfl, ⟨k0, k1, k2⟩⟩

def Probe_cap (_N : Nat) (_x : Probe) : Prop := True
theorem Probe_capOf {N : Nat} {x : Probe} (_h : CapL N x.cells) : Probe_cap N x := trivial

def Container_cap (N : Nat) (x : Container) : Prop := (fun s : ByteArray => s.size ≤ N) x.name ∧ (fun s : ByteArray => s.size ≤ N) x.image ∧ (Resources_cap N) x.request ∧ (Resources_cap N) x.limit ∧ (fun l : List Probe => l.length ≤ N ∧ ∀ x ∈ l, (Probe_cap N) x) x.live ∧ (fun l : List Probe => l.length ≤ N ∧ ∀ x ∈ l, (Probe_cap N) x) x.ready ∧ (fun l : List Probe => l.length ≤ N ∧ ∀ x ∈ l, (Probe_cap N) x) x.startup
theorem Container_capOf {N : Nat} {x : Container} (h : CapL N x.cells) : Container_cap N x := ⟨(let g : CapL N [.str x.name] := fun p hp => h p (by simp only [List.mem_cons, List.not_mem_nil, or_false] at hp; rcases hp with rfl <;> simp [Container.cells]); (g _ List.mem_cons_self).strI), (let g : CapL N [.str x.image] := fun p hp => h p (by simp only [List.mem_cons, List.not_mem_nil, or_false] at hp; rcases hp with rfl <;> simp [Container.cells]); (g _ List.mem_cons_self).strI), (let g : CapL N [.int .i64 x.request.cPU, .int .i64 x.request.memory, .int .i64 x.request.disk] := fun p hp => h p (by simp only [List.mem_cons, List.not_mem_nil, or_false] at hp; rcases hp with rfl | rfl | rfl <;> simp [Container.cells]); (Resources_capOf g)), (let g : CapL N [.int .i64 x.limit.cPU, .int .i64 x.limit.memory, .int .i64 x.limit.disk] := fun p hp => h p (by simp only [List.mem_cons, List.not_mem_nil, or_false] at hp; rcases hp with rfl | rfl | rfl <;> simp [Container.cells]); (Resources_capOf g)), (let g : CapL N [.sl (Probe.rows x.live)] := fun p hp => h p (by simp only [List.mem_cons, List.not_mem_nil, or_false] at hp; rcases hp with rfl <;> simp [Container.cells]); (let r := Cap.rowsI (f := Probe.cells) (g _ List.mem_cons_self); ⟨r.1, fun x hx => (Probe_capOf (r.2 x hx))⟩)), (let g : CapL N [.sl (Probe.rows x.ready)] := fun p hp => h p (by simp only [List.mem_cons, List.not_mem_nil, or_false] at hp; rcases hp with rfl <;> simp [Container.cells]); (let r := Cap.rowsI (f := Probe.cells) (g _ List.mem_cons_self); ⟨r.1, fun x hx => (Probe_capOf (r.2 x hx))⟩)), (let g : CapL N [.sl (Probe.rows x.startup)] := fun p hp => h p (by simp only [List.mem_cons, List.not_mem_nil, or_false] at hp; rcases hp with rfl <;> simp [Container.cells]); (let r := Cap.rowsI (f := Probe.cells) (g _ List.mem_cons_self); ⟨r.1, fun x hx => (Probe_capOf (r.2 x hx))⟩))⟩

def Requirement_cap (N : Nat) (x : Requirement) : Prop := (fun s : ByteArray => s.size ≤ N) x.key ∧ (fun l : List ByteArray => l.length ≤ N ∧ ∀ x ∈ l, (fun s : ByteArray => s.size ≤ N) x) x.values
theorem Requirement_capOf {N : Nat} {x : Requirement} (h : CapL N x.cells) : Requirement_cap N x := ⟨(let g : CapL N [.str x.key] := fun p hp => h p (by simp only [List.mem_cons, List.not_mem_nil, or_false] at hp; rcases hp with rfl <;> simp [Requirement.cells]); (g _ List.mem_cons_self).strI), (let g : CapL N [.sl (strRows x.values)] := fun p hp => h p (by simp only [List.mem_cons, List.not_mem_nil, or_false] at hp; rcases hp with rfl <;> simp [Requirement.cells]); (let r := Cap.rowsI (f := (fun s : ByteArray => [.str s])) (g _ List.mem_cons_self); ⟨r.1, fun x hx => ((r.2 x hx) _ List.mem_cons_self).strI⟩))⟩

def NodeTerm_cap (N : Nat) (x : NodeTerm) : Prop := (fun l : List Requirement => l.length ≤ N ∧ ∀ x ∈ l, (Requirement_cap N) x) x.selector
theorem NodeTerm_capOf {N : Nat} {x : NodeTerm} (h : CapL N x.cells) : NodeTerm_cap N x := (let g : CapL N [.sl (Requirement.rows x.selector)] := fun p hp => h p (by simp only [List.mem_cons, List.not_mem_nil, or_false] at hp; rcases hp with rfl <;> simp [NodeTerm.cells]); (let r := Cap.rowsI (f := Requirement.cells) (g _ List.mem_cons_self); ⟨r.1, fun x hx => (Requirement_capOf (r.2 x hx))⟩))

def PodTerm_cap (N : Nat) (x : PodTerm) : Prop := (fun l : List Requirement => l.length ≤ N ∧ ∀ x ∈ l, (Requirement_cap N) x) x.selector ∧ (fun s : ByteArray => s.size ≤ N) x.topology
theorem PodTerm_capOf {N : Nat} {x : PodTerm} (h : CapL N x.cells) : PodTerm_cap N x := ⟨(let g : CapL N [.sl (Requirement.rows x.selector)] := fun p hp => h p (by simp only [List.mem_cons, List.not_mem_nil, or_false] at hp; rcases hp with rfl <;> simp [PodTerm.cells]); (let r := Cap.rowsI (f := Requirement.cells) (g _ List.mem_cons_self); ⟨r.1, fun x hx => (Requirement_capOf (r.2 x hx))⟩)), (let g : CapL N [.str x.topology] := fun p hp => h p (by simp only [List.mem_cons, List.not_mem_nil, or_false] at hp; rcases hp with rfl <;> simp [PodTerm.cells]); (g _ List.mem_cons_self).strI)⟩

def SpreadRule_cap (N : Nat) (x : SpreadRule) : Prop := (fun s : ByteArray => s.size ≤ N) x.topology ∧ (fun l : List Requirement => l.length ≤ N ∧ ∀ x ∈ l, (Requirement_cap N) x) x.selector
theorem SpreadRule_capOf {N : Nat} {x : SpreadRule} (h : CapL N x.cells) : SpreadRule_cap N x := ⟨(let g : CapL N [.str x.topology] := fun p hp => h p (by simp only [List.mem_cons, List.not_mem_nil, or_false] at hp; rcases hp with rfl <;> simp [SpreadRule.cells]); (g _ List.mem_cons_self).strI), (let g : CapL N [.sl (Requirement.rows x.selector)] := fun p hp => h p (by simp only [List.mem_cons, List.not_mem_nil, or_false] at hp; rcases hp with rfl <;> simp [SpreadRule.cells]); (let r := Cap.rowsI (f := Requirement.cells) (g _ List.mem_cons_self); ⟨r.1, fun x hx => (Requirement_capOf (r.2 x hx))⟩))⟩

def Toleration_cap (N : Nat) (x : Toleration) : Prop := (fun s : ByteArray => s.size ≤ N) x.key ∧ (fun s : ByteArray => s.size ≤ N) x.value
theorem Toleration_capOf {N : Nat} {x : Toleration} (h : CapL N x.cells) : Toleration_cap N x := ⟨(let g : CapL N [.str x.key] := fun p hp => h p (by simp only [List.mem_cons, List.not_mem_nil, or_false] at hp; rcases hp with rfl <;> simp [Toleration.cells]); (g _ List.mem_cons_self).strI), (let g : CapL N [.str x.value] := fun p hp => h p (by simp only [List.mem_cons, List.not_mem_nil, or_false] at hp; rcases hp with rfl <;> simp [Toleration.cells]); (g _ List.mem_cons_self).strI)⟩

def PodSpec_cap (N : Nat) (x : PodSpec) : Prop := (fun s : ByteArray => s.size ≤ N) x.node ∧ (fun l : List Container => l.length ≤ N ∧ ∀ x ∈ l, (Container_cap N) x) x.containers ∧ (fun l : List Requirement => l.length ≤ N ∧ ∀ x ∈ l, (Requirement_cap N) x) x.nodeSelector ∧ (fun l : List NodeTerm => l.length ≤ N ∧ ∀ x ∈ l, (NodeTerm_cap N) x) x.nodeTerms ∧ (fun l : List PodTerm => l.length ≤ N ∧ ∀ x ∈ l, (PodTerm_cap N) x) x.podTerms ∧ (fun l : List SpreadRule => l.length ≤ N ∧ ∀ x ∈ l, (SpreadRule_cap N) x) x.spread ∧ (fun l : List Toleration => l.length ≤ N ∧ ∀ x ∈ l, (Toleration_cap N) x) x.tolerations
theorem PodSpec_capOf {N : Nat} {x : PodSpec} (h : CapL N x.cells) : PodSpec_cap N x := ⟨(let g : CapL N [.str x.node] := fun p hp => h p (by simp only [List.mem_cons, List.not_mem_nil, or_false] at hp; rcases hp with rfl <;> simp [PodSpec.cells]); (g _ List.mem_cons_self).strI), (let g : CapL N [.sl (Container.rows x.containers)] := fun p hp => h p (by simp only [List.mem_cons, List.not_mem_nil, or_false] at hp; rcases hp with rfl <;> simp [PodSpec.cells]); (let r := Cap.rowsI (f := Container.cells) (g _ List.mem_cons_self); ⟨r.1, fun x hx => (Container_capOf (r.2 x hx))⟩)), (let g : CapL N [.sl (Requirement.rows x.nodeSelector)] := fun p hp => h p (by simp only [List.mem_cons, List.not_mem_nil, or_false] at hp; rcases hp with rfl <;> simp [PodSpec.cells]); (let r := Cap.rowsI (f := Requirement.cells) (g _ List.mem_cons_self); ⟨r.1, fun x hx => (Requirement_capOf (r.2 x hx))⟩)), (let g : CapL N [.sl (NodeTerm.rows x.nodeTerms)] := fun p hp => h p (by simp only [List.mem_cons, List.not_mem_nil, or_false] at hp; rcases hp with rfl <;> simp [PodSpec.cells]); (let r := Cap.rowsI (f := NodeTerm.cells) (g _ List.mem_cons_self); ⟨r.1, fun x hx => (NodeTerm_capOf (r.2 x hx))⟩)), (let g : CapL N [.sl (PodTerm.rows x.podTerms)] := fun p hp => h p (by simp only [List.mem_cons, List.not_mem_nil, or_false] at hp; rcases hp with rfl <;> simp [PodSpec.cells]); (let r := Cap.rowsI (f := PodTerm.cells) (g _ List.mem_cons_self); ⟨r.1, fun x hx => (PodTerm_capOf (r.2 x hx))⟩)), (let g : CapL N [.sl (SpreadRule.rows x.spread)] := fun p hp => h p (by simp only [List.mem_cons, List.not_mem_nil, or_false] at hp; rcases hp with rfl <;> simp [PodSpec.cells]); (let r := Cap.rowsI (f := SpreadRule.cells) (g _ List.mem_cons_self); ⟨r.1, fun x hx => (SpreadRule_capOf (r.2 x hx))⟩)), (let g : CapL N [.sl (Toleration.rows x.tolerations)] := fun p hp => h p (by simp only [List.mem_cons, List.not_mem_nil, or_false] at hp; rcases hp with rfl <;> simp [PodSpec.cells]); (let r := Cap.rowsI (f := Toleration.cells) (g _ List.mem_cons_self); ⟨r.1, fun x hx => (Toleration_capOf (r.2 x hx))⟩))⟩

def ContainerStatus_cap (N : Nat) (x : ContainerStatus) : Prop := (fun s : ByteArray => s.size ≤ N) x.name
theorem ContainerStatus_capOf {N : Nat} {x : ContainerStatus} (h : CapL N x.cells) : ContainerStatus_cap N x := (let g : CapL N [.str x.name] := fun p hp => h p (by simp only [List.mem_cons, List.not_mem_nil, or_false] at hp; rcases hp with rfl <;> simp [ContainerStatus.cells]); (g _ List.mem_cons_self).strI)

def PodStatus_cap (N : Nat) (x : PodStatus) : Prop := (fun l : List ContainerStatus => l.length ≤ N ∧ ∀ x ∈ l, (ContainerStatus_cap N) x) x.containers ∧ (fun s : ByteArray => s.size ≤ N) x.nominated ∧ (fun s : ByteArray => s.size ≤ N) x.reason
theorem PodStatus_capOf {N : Nat} {x : PodStatus} (h : CapL N x.cells) : PodStatus_cap N x := ⟨(let g : CapL N [.sl (ContainerStatus.rows x.containers)] := fun p hp => h p (by simp only [List.mem_cons, List.not_mem_nil, or_false] at hp; rcases hp with rfl <;> simp [PodStatus.cells]); (let r := Cap.rowsI (f := ContainerStatus.cells) (g _ List.mem_cons_self); ⟨r.1, fun x hx => (ContainerStatus_capOf (r.2 x hx))⟩)), (let g : CapL N [.str x.nominated] := fun p hp => h p (by simp only [List.mem_cons, List.not_mem_nil, or_false] at hp; rcases hp with rfl <;> simp [PodStatus.cells]); (g _ List.mem_cons_self).strI), (let g : CapL N [.str x.reason] := fun p hp => h p (by simp only [List.mem_cons, List.not_mem_nil, or_false] at hp; rcases hp with rfl <;> simp [PodStatus.cells]); (g _ List.mem_cons_self).strI)⟩

def Pod_cap (N : Nat) (x : Pod) : Prop := (Meta_cap N) x.meta_ ∧ (PodSpec_cap N) x.spec ∧ (PodStatus_cap N) x.status
theorem Pod_capOf {N : Nat} {x : Pod} (h : CapL N x.cells) : Pod_cap N x := ⟨(let g : CapL N [.str x.meta_.kind, .str x.meta_.namespace_, .str x.meta_.name, .int .i64 x.meta_.uid, .int .i64 x.meta_.version, .int .i64 x.meta_.generation, .int .i64 x.meta_.created, .bool x.meta_.deleting, .int .i64 x.meta_.deleteAt, .sl (Label.rows x.meta_.labels), .sl (Owner.rows x.meta_.owners), .sl (strRows x.meta_.finalizers), .sl (Manager.rows x.meta_.managers)] := fun p hp => h p (by simp only [List.mem_cons, List.not_mem_nil, or_false] at hp; rcases hp with rfl | rfl | rfl | rfl | rfl | rfl | rfl | rfl | rfl | rfl | rfl | rfl | rfl <;> simp [Pod.cells]); (Meta_capOf g)), (let g : CapL N [.str x.spec.node, .int .i64 x.spec.priority, .int .i64 x.spec.restart, .int .i64 x.spec.grace, .sl (Container.rows x.spec.containers), .sl (Requirement.rows x.spec.nodeSelector), .sl (NodeTerm.rows x.spec.nodeTerms), .sl (PodTerm.rows x.spec.podTerms), .sl (SpreadRule.rows x.spec.spread), .sl (Toleration.rows x.spec.tolerations)] := fun p hp => h p (by simp only [List.mem_cons, List.not_mem_nil, or_false] at hp; rcases hp with rfl | rfl | rfl | rfl | rfl | rfl | rfl | rfl | rfl | rfl <;> simp [Pod.cells]); (PodSpec_capOf g)), (let g : CapL N [.int .i64 x.status.phase, .bool x.status.ready, .int .i64 x.status.readySince, .int .i64 x.status.started, .int .i64 x.status.finished, .sl (ContainerStatus.rows x.status.containers), .int .i64 x.status.address, .str x.status.nominated, .str x.status.reason] := fun p hp => h p (by simp only [List.mem_cons, List.not_mem_nil, or_false] at hp; rcases hp with rfl | rfl | rfl | rfl | rfl | rfl | rfl | rfl | rfl <;> simp [Pod.cells]); (PodStatus_capOf g))⟩

end Go.Proofs.Ytpmdkaecfoakkaa
