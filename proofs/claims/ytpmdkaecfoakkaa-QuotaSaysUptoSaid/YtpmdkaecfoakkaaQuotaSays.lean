/- What the functions of the law QuotaSays compute (printed by a program). -/
import Derived.Test.YtpmdkaecfoakkaaQuoF
namespace Go.Proofs.Ytpmdkaecfoakkaa
open Go.Pv


/-- orchestrator/ orchestratorref22.counts -/
def s_ref22_counts (p0 : Pod) : Bool :=
  bif (p0.status.phase == 0) then
    true
  else
    (p0.status.phase == 1)
def c_ref22_counts (p0 : Pod) : En := .call 44 [.agg (Pod.cells p0)] []
def a_ref22_counts (p0 : Pod) : Rs := .ret (.bool (s_ref22_counts p0)) []
theorem t_ref22_counts (p0 : Pod) : Tells G (c_ref22_counts p0) (a_ref22_counts p0) := by
  unfold a_ref22_counts s_ref22_counts
  cases h0 : (p0.status.phase == 0) with
  | true =>
    exact tells_V (fn := Ir.ref22_counts) rfl VOK.nil (hs := [(5, (bE true, []))]) (as := []) (Met.cons (dec (p0.status.phase == 0) true h0) Met.nil) Told.nil (by kernel_rfl)
  | false =>
    exact tells_V (fn := Ir.ref22_counts) rfl VOK.nil (hs := [(5, (bE false, []))]) (as := []) (Met.cons (dec (p0.status.phase == 0) false h0) Met.nil) Told.nil (by kernel_rfl)

/-- orchestrator/ orchestratorref02.clamp -/
def s_ref02_clamp (p0 : Int) : Int :=
  (mn 1000000000000000 (mx 0 p0))
def c_ref02_clamp (p0 : Int) : En := .call 38 [.int .i64 p0] []
def a_ref02_clamp (p0 : Int) : Rs := .ret (.int .i64 (s_ref02_clamp p0)) []
theorem t_ref02_clamp (p0 : Int) : Tells G (c_ref02_clamp p0) (a_ref02_clamp p0) := by
  unfold a_ref02_clamp s_ref02_clamp
  exact tells_V (fn := Ir.ref02_clamp) rfl VOK.nil (hs := []) (as := []) Met.nil Told.nil (by kernel_rfl)

/-- orchestrator/ orchestratorref02.Add -/
def s_ref02_Add (p0 : Resources) (p1 : Resources) : Resources :=
  (Resources.mk (s_ref02_clamp (w64 ((s_ref02_clamp p0.cPU) + (s_ref02_clamp p1.cPU)))) (s_ref02_clamp (w64 ((s_ref02_clamp p0.memory) + (s_ref02_clamp p1.memory)))) (s_ref02_clamp (w64 ((s_ref02_clamp p0.disk) + (s_ref02_clamp p1.disk)))))
def c_ref02_Add (p0 : Resources) (p1 : Resources) : En := .call 14 [.agg (Resources.cells p0), .agg (Resources.cells p1)] []
def a_ref02_Add (p0 : Resources) (p1 : Resources) : Rs := .ret (.agg (Resources.cells (s_ref02_Add p0 p1))) []
theorem t_ref02_Add (p0 : Resources) (p1 : Resources) : Tells G (c_ref02_Add p0 p1) (a_ref02_Add p0 p1) := by
  unfold a_ref02_Add s_ref02_Add
  exact tells_V (fn := Ir.ref02_Add) rfl VOK.nil (hs := []) (as := [⟨a_ref02_clamp p0.cPU, []⟩, ⟨a_ref02_clamp p1.cPU, []⟩, ⟨a_ref02_clamp (w64 ((s_ref02_clamp p0.cPU) + (s_ref02_clamp p1.cPU))), []⟩, ⟨a_ref02_clamp p0.memory, []⟩, ⟨a_ref02_clamp p1.memory, []⟩, ⟨a_ref02_clamp (w64 ((s_ref02_clamp p0.memory) + (s_ref02_clamp p1.memory))), []⟩, ⟨a_ref02_clamp p0.disk, []⟩, ⟨a_ref02_clamp p1.disk, []⟩, ⟨a_ref02_clamp (w64 ((s_ref02_clamp p0.disk) + (s_ref02_clamp p1.disk))), []⟩]) Met.nil (Told.cons (t_ref02_clamp p0.cPU) (Told.cons (t_ref02_clamp p1.cPU) (Told.cons (t_ref02_clamp (w64 ((s_ref02_clamp p0.cPU) + (s_ref02_clamp p1.cPU)))) (Told.cons (t_ref02_clamp p0.memory) (Told.cons (t_ref02_clamp p1.memory) (Told.cons (t_ref02_clamp (w64 ((s_ref02_clamp p0.memory) + (s_ref02_clamp p1.memory)))) (Told.cons (t_ref02_clamp p0.disk) (Told.cons (t_ref02_clamp p1.disk) (Told.cons (t_ref02_clamp (w64 ((s_ref02_clamp p0.disk) + (s_ref02_clamp p1.disk)))) Told.nil))))))))) (by kernel_rfl)

def l_ref02_Requests_b0 (p0 : PodSpec) : List Container → Nat → Resources → Resources
  | [], _i0, v0_1 =>
    v0_1
  | x0 :: r0, i0, v0_1 =>
    l_ref02_Requests_b0 p0 r0 (i0 + 1) (s_ref02_Add v0_1 x0.request)
def HE_ref02_Requests_b0 (_p0 : PodSpec) (i0 : Nat) (_v0_1 : Resources) : List PV :=
  [.un, .bx 0 0, .bx 1 0, .bx 2 0, .int .i64 (i0 : Int), .un, .un, .un, .un, .un, .un, .un, .un, .un, .un, .un, .un, .un, .un, .un, .un, .un]
def HO_ref02_Requests_b0 (p0 : PodSpec) (_i0 : Nat) (v0_1 : Resources) : List Ob :=
  [⟨10, 0, true, [.str p0.node, .int .i64 p0.priority, .int .i64 p0.restart, .int .i64 p0.grace, .sl (Container.rows p0.containers), .sl (Requirement.rows p0.nodeSelector), .sl (NodeTerm.rows p0.nodeTerms), .sl (PodTerm.rows p0.podTerms), .sl (SpreadRule.rows p0.spread), .sl (Toleration.rows p0.tolerations)]⟩, ⟨3, 0, true, [.int .i64 0, .int .i64 0, .int .i64 0]⟩, ⟨3, 0, true, [.int .i64 v0_1.cPU, .int .i64 v0_1.memory, .int .i64 v0_1.disk]⟩]
def E_ref02_Requests_b0 (p0 : PodSpec) (i0 : Nat) (v0_1 : Resources) : En := .loop 0 Ir.ref02_Requests_b0_live Ir.ref02_Requests_b0 (HE_ref02_Requests_b0 p0 i0 v0_1) (HO_ref02_Requests_b0 p0 i0 v0_1)
def S_ref02_Requests_b0_0 (p0 : PodSpec) (q0 : Resources) (z : Nat → PV) (_zo : Nat → List PV) : St :=
  ⟨[z 0, z 1, .bx 1 0, .bx 2 0, z 4, z 5, z 6, z 7, z 8, z 9, z 10, z 11, z 12, z 13, z 14, z 15, z 16, z 17, z 18, z 19, z 20, z 21], [(0, ⟨10, 0, true, [.str p0.node, .int .i64 p0.priority, .int .i64 p0.restart, .int .i64 p0.grace, .sl (Container.rows p0.containers), .sl (Requirement.rows p0.nodeSelector), .sl (NodeTerm.rows p0.nodeTerms), .sl (PodTerm.rows p0.podTerms), .sl (SpreadRule.rows p0.spread), .sl (Toleration.rows p0.tolerations)]⟩), (1, ⟨3, 0, true, [.int .i64 0, .int .i64 0, .int .i64 0]⟩), (2, ⟨3, 0, true, [.int .i64 q0.cPU, .int .i64 q0.memory, .int .i64 q0.disk]⟩)], 323⟩
def P_ref02_Requests_b0 (p0 : PodSpec) (e : En) (q : Resources) : Prop := ∃ z zo, Tells G e (.st (.exit 0) (S_ref02_Requests_b0_0 p0 q z zo))
theorem P_ref02_Requests_b0_mono (p0 : PodSpec) {e e' : En} (h : ∀ r, Tells G e r → Tells G e' r) : ∀ q, P_ref02_Requests_b0 p0 e q → P_ref02_Requests_b0 p0 e' q
  | _, ⟨z, zo, hz⟩ => ⟨z, zo, h _ hz⟩
def H_ref02_Requests_b0 (p0 : PodSpec) : Prop := (List.length p0.containers ≤ 4611686018427387904) ∧ True
def Z_ref02_Requests_b0_0 (p0 : PodSpec) (i0 : Nat) (_v0_1 : Resources) : List PV :=
  [.un, .bx 0 0, .un, .un, .int .i64 (i0 : Int), .un, .int .i64 (i0 : Int), .bx 0 4, .sl (Container.rows p0.containers), .int .i64 ((List.length p0.containers) : Int), .bool false, .un, .un, .un, .un, .un, .un, .un, .un, .un, .un, .un]
def ZO_ref02_Requests_b0_0 (_p0 : PodSpec) (_i0 : Nat) (_v0_1 : Resources) : List (Nat × List PV) :=
  []
theorem x_ref02_Requests_b0_0 (p0 : PodSpec) (_H : H_ref02_Requests_b0 p0) (i0 : Nat) (v0_1 : Resources) (hc0 : (decide ((i0 : Int) < ((List.length p0.containers) : Int))) = false) : P_ref02_Requests_b0 p0 (E_ref02_Requests_b0 p0 i0 v0_1) v0_1 := by
  exact ⟨(envF (Z_ref02_Requests_b0_0 p0 i0 v0_1)), (zoF (ZO_ref02_Requests_b0_0 p0 i0 v0_1)), tells_outV (h := HO_ref02_Requests_b0 p0 i0 v0_1) (vw := []) VOK.nil (x := ((.exit 0), S_ref02_Requests_b0_0 p0 v0_1 (envF (Z_ref02_Requests_b0_0 p0 i0 v0_1)) (zoF (ZO_ref02_Requests_b0_0 p0 i0 v0_1)))) (hs := [(3, (vE (.int .i64 ((List.length p0.containers) : Int)), [])), (0, (bE false, []))]) (as := []) (Met.cons (len_ok (Container.rows p0.containers) (List.length p0.containers) (Container.rowsLen p0.containers)) (Met.cons (dec (decide ((i0 : Int) < ((List.length p0.containers) : Int))) false hc0) Met.nil)) Told.nil (by kernel_rfl)⟩
theorem n_ref02_Requests_b0_1 (p0 : PodSpec) (H : H_ref02_Requests_b0 p0) (x0 : Container) (i0 : Nat) (v0_1 : Resources) (hx0 : p0.containers[i0]? = some x0) (hi0 : i0 < List.length p0.containers) (hc0 : (decide ((i0 : Int) < ((List.length p0.containers) : Int))) = true) {r : Rs} (hr : Tells G (E_ref02_Requests_b0 p0 (i0 + 1) (s_ref02_Add v0_1 x0.request)) r) : Tells G (E_ref02_Requests_b0 p0 i0 v0_1) r := by
  have hB := H.1
  exact tells_nextV (h := HO_ref02_Requests_b0 p0 i0 v0_1) (vw := []) VOK.nil (y := (HE_ref02_Requests_b0 p0 (i0 + 1) (s_ref02_Add v0_1 x0.request), HO_ref02_Requests_b0 p0 (i0 + 1) (s_ref02_Add v0_1 x0.request))) (hs := [(3, (vE (.int .i64 ((List.length p0.containers) : Int)), [])), (0, (bE true, [])), (4, (vE (.rf (Container.cells x0)), [])), (5, (vE (.int .i64 ((i0 + 1 : Nat) : Int)), []))]) (as := [⟨a_ref02_Add v0_1 x0.request, []⟩]) (Met.cons (len_ok (Container.rows p0.containers) (List.length p0.containers) (Container.rowsLen p0.containers)) (Met.cons (dec (decide ((i0 : Int) < ((List.length p0.containers) : Int))) true hc0) (Met.cons (ix_ok 11 (Container.rows p0.containers) i0 _ (Container.rowsGet hx0) rfl) (Met.cons (inc_ok i0 (by omega)) Met.nil)))) (Told.cons (t_ref02_Add v0_1 x0.request) Told.nil) (by kernel_rfl) hr
theorem lt_ref02_Requests_b0 (p0 : PodSpec) (H : H_ref02_Requests_b0 p0) : ∀ (r0 : List Container) (i0 : Nat) (v0_1 : Resources), List.drop i0 p0.containers = r0 → P_ref02_Requests_b0 p0 (E_ref02_Requests_b0 p0 i0 v0_1) (l_ref02_Requests_b0 p0 r0 i0 v0_1)
  | [], i0, v0_1, hd => by
    have hc0 : (decide ((i0 : Int) < ((List.length p0.containers) : Int))) = false := by have := drop_end hd; simp; omega
    rw [l_ref02_Requests_b0]
    exact x_ref02_Requests_b0_0 p0 H i0 v0_1 hc0
  | x0 :: r0, i0, v0_1, hd => by
    obtain ⟨hx0, hi0, hd'⟩ := drop_get hd
    have hc0 : (decide ((i0 : Int) < ((List.length p0.containers) : Int))) = true := by simp; omega
    rw [l_ref02_Requests_b0]
    exact P_ref02_Requests_b0_mono p0 (fun r hr => n_ref02_Requests_b0_1 p0 H x0 i0 v0_1 hx0 hi0 hc0 hr) _ (lt_ref02_Requests_b0 p0 H r0 (i0 + 1) (s_ref02_Add v0_1 x0.request) hd')
/-- orchestrator/ orchestratorref02.Requests -/
def s_ref02_Requests (p0 : PodSpec) : Resources :=
  (l_ref02_Requests_b0 p0 p0.containers 0 (Resources.mk 0 0 0))
def c_ref02_Requests (p0 : PodSpec) : En := .call 20 [.agg (PodSpec.cells p0)] []
def a_ref02_Requests (p0 : PodSpec) : Rs := .ret (.agg (Resources.cells (s_ref02_Requests p0))) []
def H_ref02_Requests (p0 : PodSpec) : Prop := (H_ref02_Requests_b0 p0) ∧ True
theorem t_ref02_Requests (p0 : PodSpec) (H : H_ref02_Requests p0) : Tells G (c_ref02_Requests p0) (a_ref02_Requests p0) := by
  unfold a_ref02_Requests s_ref02_Requests
  have hl0 := lt_ref02_Requests_b0 p0 (H.1) p0.containers 0 (Resources.mk 0 0 0) (by simp)
  obtain ⟨z0, zo0, hl0⟩ := hl0
  exact tells_V (fn := Ir.ref02_Requests) rfl VOK.nil (hs := []) (as := [⟨.st (.exit 0) (S_ref02_Requests_b0_0 p0 (l_ref02_Requests_b0 p0 p0.containers 0 (Resources.mk 0 0 0)) z0 zo0), []⟩]) Met.nil (Told.cons hl0 Told.nil) (by kernel_rfl)

def l_ref22_Usage_b0 (p0 : List Pod) : List Pod → Nat → Int → Resources → Resources × Int
  | [], _i0, v0_1, v0_2 =>
    (v0_2, v0_1)
  | x0 :: r0, i0, v0_1, v0_2 =>
    bif (s_ref22_counts x0) then
      l_ref22_Usage_b0 p0 r0 (i0 + 1) (w64 (v0_1 + 1)) (s_ref02_Add v0_2 (s_ref02_Requests x0.spec))
    else
      l_ref22_Usage_b0 p0 r0 (i0 + 1) v0_1 v0_2
def HE_ref22_Usage_b0 (p0 : List Pod) (i0 : Nat) (v0_1 : Int) (_v0_2 : Resources) : List PV :=
  [.sl (Pod.rows p0), .un, .bx 0 0, .un, .bx 1 0, .int .i64 v0_1, .int .i64 (i0 : Int), .un, .un, .un, .un, .un, .un, .un, .un, .un, .un, .un, .un, .un, .un, .un, .un, .un, .un, .un, .un, .un, .un, .un, .un]
def HO_ref22_Usage_b0 (_p0 : List Pod) (_i0 : Nat) (_v0_1 : Int) (v0_2 : Resources) : List Ob :=
  [⟨3, 0, true, [.int .i64 0, .int .i64 0, .int .i64 0]⟩, ⟨3, 0, true, [.int .i64 v0_2.cPU, .int .i64 v0_2.memory, .int .i64 v0_2.disk]⟩]
def E_ref22_Usage_b0 (p0 : List Pod) (i0 : Nat) (v0_1 : Int) (v0_2 : Resources) : En := .loop 0 Ir.ref22_Usage_b0_live Ir.ref22_Usage_b0 (HE_ref22_Usage_b0 p0 i0 v0_1 v0_2) (HO_ref22_Usage_b0 p0 i0 v0_1 v0_2)
def S_ref22_Usage_b0_0 (_p0 : List Pod) (q0 : Resources) (q1 : Int) (z : Nat → PV) (_zo : Nat → List PV) : St :=
  ⟨[z 0, z 1, .bx 0 0, z 3, .bx 1 0, .int .i64 q1, z 6, z 7, z 8, z 9, z 10, z 11, z 12, z 13, z 14, z 15, z 16, z 17, z 18, z 19, z 20, z 21, z 22, z 23, z 24, z 25, z 26, z 27, z 28, z 29, z 30], [(0, ⟨3, 0, true, [.int .i64 0, .int .i64 0, .int .i64 0]⟩), (1, ⟨3, 0, true, [.int .i64 q0.cPU, .int .i64 q0.memory, .int .i64 q0.disk]⟩)], 258⟩
def P_ref22_Usage_b0 (p0 : List Pod) (e : En) (q : Resources × Int) : Prop := ∃ z zo, Tells G e (.st (.exit 0) (S_ref22_Usage_b0_0 p0 q.1 q.2 z zo))
theorem P_ref22_Usage_b0_mono (p0 : List Pod) {e e' : En} (h : ∀ r, Tells G e r → Tells G e' r) : ∀ q, P_ref22_Usage_b0 p0 e q → P_ref22_Usage_b0 p0 e' q
  | _, ⟨z, zo, hz⟩ => ⟨z, zo, h _ hz⟩
def H_ref22_Usage_b0 (p0 : List Pod) : Prop := (List.length p0 ≤ 4611686018427387904) ∧ (∀ x0 ∈ p0, H_ref02_Requests x0.spec) ∧ True
def Z_ref22_Usage_b0_0 (p0 : List Pod) (i0 : Nat) (_v0_1 : Int) (_v0_2 : Resources) : List PV :=
  [.sl (Pod.rows p0), .un, .un, .un, .un, .un, .int .i64 (i0 : Int), .un, .int .i64 (i0 : Int), .sl (Pod.rows p0), .int .i64 ((List.length p0) : Int), .bool false, .un, .un, .un, .un, .un, .un, .un, .un, .un, .un, .un, .un, .un, .un, .un, .un, .un, .un, .un]
def ZO_ref22_Usage_b0_0 (_p0 : List Pod) (_i0 : Nat) (_v0_1 : Int) (_v0_2 : Resources) : List (Nat × List PV) :=
  []
theorem x_ref22_Usage_b0_0 (p0 : List Pod) (_H : H_ref22_Usage_b0 p0) (i0 : Nat) (v0_1 : Int) (v0_2 : Resources) (hc0 : (decide ((i0 : Int) < ((List.length p0) : Int))) = false) : P_ref22_Usage_b0 p0 (E_ref22_Usage_b0 p0 i0 v0_1 v0_2) (v0_2, v0_1) := by
  exact ⟨(envF (Z_ref22_Usage_b0_0 p0 i0 v0_1 v0_2)), (zoF (ZO_ref22_Usage_b0_0 p0 i0 v0_1 v0_2)), tells_outV (h := HO_ref22_Usage_b0 p0 i0 v0_1 v0_2) (vw := []) VOK.nil (x := ((.exit 0), S_ref22_Usage_b0_0 p0 v0_2 v0_1 (envF (Z_ref22_Usage_b0_0 p0 i0 v0_1 v0_2)) (zoF (ZO_ref22_Usage_b0_0 p0 i0 v0_1 v0_2)))) (hs := [(2, (vE (.int .i64 ((List.length p0) : Int)), [])), (0, (bE false, []))]) (as := []) (Met.cons (len_ok (Pod.rows p0) (List.length p0) (Pod.rowsLen p0)) (Met.cons (dec (decide ((i0 : Int) < ((List.length p0) : Int))) false hc0) Met.nil)) Told.nil (by kernel_rfl)⟩
theorem n_ref22_Usage_b0_1 (p0 : List Pod) (H : H_ref22_Usage_b0 p0) (x0 : Pod) (i0 : Nat) (v0_1 : Int) (v0_2 : Resources) (hx0 : p0[i0]? = some x0) (hi0 : i0 < List.length p0) (hc0 : (decide ((i0 : Int) < ((List.length p0) : Int))) = true) (h0 : (s_ref22_counts x0) = true) {r : Rs} (hr : Tells G (E_ref22_Usage_b0 p0 (i0 + 1) (w64 (v0_1 + 1)) (s_ref02_Add v0_2 (s_ref02_Requests x0.spec))) r) : Tells G (E_ref22_Usage_b0 p0 i0 v0_1 v0_2) r := by
  have hB := H.1
  exact tells_nextV (h := HO_ref22_Usage_b0 p0 i0 v0_1 v0_2) (vw := []) VOK.nil (y := (HE_ref22_Usage_b0 p0 (i0 + 1) (w64 (v0_1 + 1)) (s_ref02_Add v0_2 (s_ref02_Requests x0.spec)), HO_ref22_Usage_b0 p0 (i0 + 1) (w64 (v0_1 + 1)) (s_ref02_Add v0_2 (s_ref02_Requests x0.spec)))) (hs := [(2, (vE (.int .i64 ((List.length p0) : Int)), [])), (0, (bE true, [])), (2, (vE (.rf (Pod.cells x0)), [])), (5, (vE (.rf (Pod.cells x0)), [])), (9, (vE (.int .i64 ((i0 + 1 : Nat) : Int)), []))]) (as := [⟨.ret (.bool true) [], []⟩, ⟨a_ref02_Requests x0.spec, []⟩, ⟨a_ref02_Add v0_2 (s_ref02_Requests x0.spec), []⟩]) (Met.cons (len_ok (Pod.rows p0) (List.length p0) (Pod.rowsLen p0)) (Met.cons (dec (decide ((i0 : Int) < ((List.length p0) : Int))) true hc0) (Met.cons (ix_ok 32 (Pod.rows p0) i0 _ (Pod.rowsGet hx0) rfl) (Met.cons (ix_ok 32 (Pod.rows p0) i0 _ (Pod.rowsGet hx0) rfl) (Met.cons (inc_ok i0 (by omega)) Met.nil))))) (Told.cons (toldOf (t_ref22_counts x0) (congrArg (fun b => Rs.ret (.bool b) []) h0)) (Told.cons (t_ref02_Requests x0.spec (H.2.1 x0 (mem_get hx0))) (Told.cons (t_ref02_Add v0_2 (s_ref02_Requests x0.spec)) Told.nil))) (by kernel_rfl) hr
theorem n_ref22_Usage_b0_2 (p0 : List Pod) (H : H_ref22_Usage_b0 p0) (x0 : Pod) (i0 : Nat) (v0_1 : Int) (v0_2 : Resources) (hx0 : p0[i0]? = some x0) (hi0 : i0 < List.length p0) (hc0 : (decide ((i0 : Int) < ((List.length p0) : Int))) = true) (h0 : (s_ref22_counts x0) = false) {r : Rs} (hr : Tells G (E_ref22_Usage_b0 p0 (i0 + 1) v0_1 v0_2) r) : Tells G (E_ref22_Usage_b0 p0 i0 v0_1 v0_2) r := by
  have hB := H.1
  exact tells_nextV (h := HO_ref22_Usage_b0 p0 i0 v0_1 v0_2) (vw := []) VOK.nil (y := (HE_ref22_Usage_b0 p0 (i0 + 1) v0_1 v0_2, HO_ref22_Usage_b0 p0 (i0 + 1) v0_1 v0_2)) (hs := [(2, (vE (.int .i64 ((List.length p0) : Int)), [])), (0, (bE true, [])), (2, (vE (.rf (Pod.cells x0)), [])), (3, (vE (.int .i64 ((i0 + 1 : Nat) : Int)), []))]) (as := [⟨.ret (.bool false) [], []⟩]) (Met.cons (len_ok (Pod.rows p0) (List.length p0) (Pod.rowsLen p0)) (Met.cons (dec (decide ((i0 : Int) < ((List.length p0) : Int))) true hc0) (Met.cons (ix_ok 32 (Pod.rows p0) i0 _ (Pod.rowsGet hx0) rfl) (Met.cons (inc_ok i0 (by omega)) Met.nil)))) (Told.cons (toldOf (t_ref22_counts x0) (congrArg (fun b => Rs.ret (.bool b) []) h0)) Told.nil) (by kernel_rfl) hr
theorem lt_ref22_Usage_b0 (p0 : List Pod) (H : H_ref22_Usage_b0 p0) : ∀ (r0 : List Pod) (i0 : Nat) (v0_1 : Int) (v0_2 : Resources), List.drop i0 p0 = r0 → P_ref22_Usage_b0 p0 (E_ref22_Usage_b0 p0 i0 v0_1 v0_2) (l_ref22_Usage_b0 p0 r0 i0 v0_1 v0_2)
  | [], i0, v0_1, v0_2, hd => by
    have hc0 : (decide ((i0 : Int) < ((List.length p0) : Int))) = false := by have := drop_end hd; simp; omega
    rw [l_ref22_Usage_b0]
    exact x_ref22_Usage_b0_0 p0 H i0 v0_1 v0_2 hc0
  | x0 :: r0, i0, v0_1, v0_2, hd => by
    obtain ⟨hx0, hi0, hd'⟩ := drop_get hd
    have hc0 : (decide ((i0 : Int) < ((List.length p0) : Int))) = true := by simp; omega
    rw [l_ref22_Usage_b0]
    cases h0 : (s_ref22_counts x0) with
    | true =>
      exact P_ref22_Usage_b0_mono p0 (fun r hr => n_ref22_Usage_b0_1 p0 H x0 i0 v0_1 v0_2 hx0 hi0 hc0 h0 hr) _ (lt_ref22_Usage_b0 p0 H r0 (i0 + 1) (w64 (v0_1 + 1)) (s_ref02_Add v0_2 (s_ref02_Requests x0.spec)) hd')
    | false =>
      exact P_ref22_Usage_b0_mono p0 (fun r hr => n_ref22_Usage_b0_2 p0 H x0 i0 v0_1 v0_2 hx0 hi0 hc0 h0 hr) _ (lt_ref22_Usage_b0 p0 H r0 (i0 + 1) v0_1 v0_2 hd')
/-- orchestrator/ orchestratorref22.Usage -/
def s_ref22_Usage (p0 : List Pod) : Resources × Int :=
  ((l_ref22_Usage_b0 p0 p0 0 0 (Resources.mk 0 0 0)).1, (l_ref22_Usage_b0 p0 p0 0 0 (Resources.mk 0 0 0)).2)
def c_ref22_Usage (p0 : List Pod) : En := .call 28 [.sl (Pod.rows p0)] []
def a_ref22_Usage (p0 : List Pod) : Rs := .ret (.tup [.agg (Resources.cells (s_ref22_Usage p0).1), .int .i64 (s_ref22_Usage p0).2]) []
def H_ref22_Usage (p0 : List Pod) : Prop := (H_ref22_Usage_b0 p0) ∧ True
theorem t_ref22_Usage (p0 : List Pod) (H : H_ref22_Usage p0) : Tells G (c_ref22_Usage p0) (a_ref22_Usage p0) := by
  unfold a_ref22_Usage s_ref22_Usage
  have hl0 := lt_ref22_Usage_b0 p0 (H.1) p0 0 0 (Resources.mk 0 0 0) (by simp)
  obtain ⟨z0, zo0, hl0⟩ := hl0
  exact tells_V (fn := Ir.ref22_Usage) rfl VOK.nil (hs := []) (as := [⟨.st (.exit 0) (S_ref22_Usage_b0_0 p0 (l_ref22_Usage_b0 p0 p0 0 0 (Resources.mk 0 0 0)).1 (l_ref22_Usage_b0 p0 p0 0 0 (Resources.mk 0 0 0)).2 z0 zo0), []⟩]) Met.nil (Told.cons hl0 Told.nil) (by kernel_rfl)

def l_ref22_Own_b0 (p0 : ByteArray) (p1 : List Pod) : List Pod → Nat → (List Pod) → List Pod
  | [], _i0, v0_1 =>
    v0_1
  | x0 :: r0, i0, v0_1 =>
    bif (sEq x0.meta_.namespace_ p0) then
      l_ref22_Own_b0 p0 p1 r0 (i0 + 1) (v0_1 ++ [x0])
    else
      l_ref22_Own_b0 p0 p1 r0 (i0 + 1) v0_1
def HE_ref22_Own_b0 (p0 : ByteArray) (p1 : List Pod) (i0 : Nat) (v0_1 : List Pod) : List PV :=
  [.str p0, .sl (Pod.rows p1), .un, .un, .un, .ms 0 32 0 (List.length v0_1), .int .i64 (i0 : Int), .un, .un, .un, .un, .un, .un, .un, .un, .un, .un, .un, .un, .un, .un, .un, .un, .un, .un, .un, .un, .un, .un]
def HO_ref22_Own_b0 (_p0 : ByteArray) (_p1 : List Pod) (_i0 : Nat) (v0_1 : List Pod) : List Ob :=
  [⟨32, 0, true, (Pod.rows v0_1).flatten⟩]
def E_ref22_Own_b0 (p0 : ByteArray) (p1 : List Pod) (i0 : Nat) (v0_1 : List Pod) : En := .loop 0 Ir.ref22_Own_b0_live Ir.ref22_Own_b0 (HE_ref22_Own_b0 p0 p1 i0 v0_1) (HO_ref22_Own_b0 p0 p1 i0 v0_1)
def S_ref22_Own_b0_0 (_p0 : ByteArray) (_p1 : List Pod) (q0 : List Pod) (z : Nat → PV) (_zo : Nat → List PV) : St :=
  ⟨[z 0, z 1, z 2, z 3, z 4, .ms 0 32 0 (List.length q0), z 6, z 7, z 8, z 9, z 10, z 11, z 12, z 13, z 14, z 15, z 16, z 17, z 18, z 19, z 20, z 21, z 22, z 23, z 24, z 25, z 26, z 27, z 28], [(0, ⟨32, 0, true, (Pod.rows q0).flatten⟩)], 257⟩
def P_ref22_Own_b0 (p0 : ByteArray) (p1 : List Pod) (e : En) (q : List Pod) : Prop := ∃ z zo, Tells G e (.st (.exit 0) (S_ref22_Own_b0_0 p0 p1 q z zo))
theorem P_ref22_Own_b0_mono (p0 : ByteArray) (p1 : List Pod) {e e' : En} (h : ∀ r, Tells G e r → Tells G e' r) : ∀ q, P_ref22_Own_b0 p0 p1 e q → P_ref22_Own_b0 p0 p1 e' q
  | _, ⟨z, zo, hz⟩ => ⟨z, zo, h _ hz⟩
def H_ref22_Own_b0 (_p0 : ByteArray) (p1 : List Pod) : Prop := (List.length p1 ≤ 137438953472) ∧ True
def Z_ref22_Own_b0_0 (p0 : ByteArray) (p1 : List Pod) (i0 : Nat) (_v0_1 : List Pod) : List PV :=
  [.str p0, .sl (Pod.rows p1), .un, .un, .un, .un, .int .i64 (i0 : Int), .int .i64 (i0 : Int), .sl (Pod.rows p1), .int .i64 ((List.length p1) : Int), .bool false, .un, .un, .un, .un, .un, .un, .un, .un, .un, .un, .un, .un, .un, .un, .un, .un, .un, .un]
def ZO_ref22_Own_b0_0 (_p0 : ByteArray) (_p1 : List Pod) (_i0 : Nat) (_v0_1 : List Pod) : List (Nat × List PV) :=
  []
theorem x_ref22_Own_b0_0 (p0 : ByteArray) (p1 : List Pod) (_H : H_ref22_Own_b0 p0 p1) (i0 : Nat) (v0_1 : List Pod) (_ho0_0 : List.length v0_1 ≤ i0) (hc0 : (decide ((i0 : Int) < ((List.length p1) : Int))) = false) : P_ref22_Own_b0 p0 p1 (E_ref22_Own_b0 p0 p1 i0 v0_1) v0_1 := by
  exact ⟨(envF (Z_ref22_Own_b0_0 p0 p1 i0 v0_1)), (zoF (ZO_ref22_Own_b0_0 p0 p1 i0 v0_1)), tells_outV (h := HO_ref22_Own_b0 p0 p1 i0 v0_1) (vw := [(0, Pod.rows v0_1)]) (VOK.cons (show Seen _ _ from seenV (ob := ⟨32, 0, true, (Pod.rows v0_1).flatten⟩) (Pod.rowsView v0_1 32 rfl)) VOK.nil) (x := ((.exit 0), S_ref22_Own_b0_0 p0 p1 v0_1 (envF (Z_ref22_Own_b0_0 p0 p1 i0 v0_1)) (zoF (ZO_ref22_Own_b0_0 p0 p1 i0 v0_1)))) (hs := [(2, (vE (.int .i64 ((List.length p1) : Int)), [])), (0, (bE false, []))]) (as := []) (Met.cons (len_ok (Pod.rows p1) (List.length p1) (Pod.rowsLen p1)) (Met.cons (dec (decide ((i0 : Int) < ((List.length p1) : Int))) false hc0) Met.nil)) Told.nil (by kernel_rfl)⟩
theorem n_ref22_Own_b0_1 (p0 : ByteArray) (p1 : List Pod) (H : H_ref22_Own_b0 p0 p1) (x0 : Pod) (i0 : Nat) (v0_1 : List Pod) (hx0 : p1[i0]? = some x0) (hi0 : i0 < List.length p1) (ho0_0 : List.length v0_1 ≤ i0) (hc0 : (decide ((i0 : Int) < ((List.length p1) : Int))) = true) (h0 : (sEq x0.meta_.namespace_ p0) = true) {r : Rs} (hr : Tells G (E_ref22_Own_b0 p0 p1 (i0 + 1) (v0_1 ++ [x0])) r) : Tells G (E_ref22_Own_b0 p0 p1 i0 v0_1) r := by
  have hB := H.1
  exact tells_nextV (h := HO_ref22_Own_b0 p0 p1 i0 v0_1) (vw := [(0, Pod.rows v0_1)]) (VOK.cons (show Seen _ _ from seenV (ob := ⟨32, 0, true, (Pod.rows v0_1).flatten⟩) (Pod.rowsView v0_1 32 rfl)) VOK.nil) (y := (HE_ref22_Own_b0 p0 p1 (i0 + 1) (v0_1 ++ [x0]), HO_ref22_Own_b0 p0 p1 (i0 + 1) (v0_1 ++ [x0]))) (hs := [(2, (vE (.int .i64 ((List.length p1) : Int)), [])), (0, (bE true, [])), (2, (vE (.rf (Pod.cells x0)), [])), (4, (bE true, [])), (3, (vE (.rf (Pod.cells x0)), [])), (2, (⟨.ms 1153 32 0 (List.length (v0_1 ++ [x0])), [(0, none), (1153, some ⟨32, 0, true, (Pod.rows (v0_1 ++ [x0])).flatten⟩)], [0, 1089]⟩, [(1153, Pod.rows (v0_1 ++ [x0]))])), (2, (vE (.int .i64 ((i0 + 1 : Nat) : Int)), []))]) (as := []) (Met.cons (len_ok (Pod.rows p1) (List.length p1) (Pod.rowsLen p1)) (Met.cons (dec (decide ((i0 : Int) < ((List.length p1) : Int))) true hc0) (Met.cons (ix_ok 32 (Pod.rows p1) i0 _ (Pod.rowsGet hx0) rfl) (Met.cons (dec (sEq x0.meta_.namespace_ p0) true h0) (Met.cons (ix_ok 32 (Pod.rows p1) i0 _ (Pod.rowsGet hx0) rfl) (Met.cons (ap_ok 0 1089 1153 32 480 0 0 true (Pod.rows v0_1) (Pod.rows (v0_1 ++ [x0])) (Pod.cells x0) (List.length v0_1) (List.length (v0_1 ++ [x0])) rfl (Pod.rowsLen v0_1).symm (Pod.rowsLen (v0_1 ++ [x0])).symm (Pod.rowsSnoc v0_1 x0) (Pod.rowsSize v0_1) rfl (by omega)) (Met.cons (seenV (ob := ⟨32, 0, true, (Pod.rows (v0_1 ++ [x0])).flatten⟩) (Pod.rowsView (v0_1 ++ [x0]) 32 rfl)) (Met.cons (inc_ok i0 (by omega)) Met.nil)))))))) Told.nil (by kernel_rfl) hr
theorem n_ref22_Own_b0_2 (p0 : ByteArray) (p1 : List Pod) (H : H_ref22_Own_b0 p0 p1) (x0 : Pod) (i0 : Nat) (v0_1 : List Pod) (hx0 : p1[i0]? = some x0) (hi0 : i0 < List.length p1) (_ho0_0 : List.length v0_1 ≤ i0) (hc0 : (decide ((i0 : Int) < ((List.length p1) : Int))) = true) (h0 : (sEq x0.meta_.namespace_ p0) = false) {r : Rs} (hr : Tells G (E_ref22_Own_b0 p0 p1 (i0 + 1) v0_1) r) : Tells G (E_ref22_Own_b0 p0 p1 i0 v0_1) r := by
  have hB := H.1
  exact tells_nextV (h := HO_ref22_Own_b0 p0 p1 i0 v0_1) (vw := [(0, Pod.rows v0_1)]) (VOK.cons (show Seen _ _ from seenV (ob := ⟨32, 0, true, (Pod.rows v0_1).flatten⟩) (Pod.rowsView v0_1 32 rfl)) VOK.nil) (y := (HE_ref22_Own_b0 p0 p1 (i0 + 1) v0_1, HO_ref22_Own_b0 p0 p1 (i0 + 1) v0_1)) (hs := [(2, (vE (.int .i64 ((List.length p1) : Int)), [])), (0, (bE true, [])), (2, (vE (.rf (Pod.cells x0)), [])), (4, (bE false, [])), (1, (vE (.int .i64 ((i0 + 1 : Nat) : Int)), []))]) (as := []) (Met.cons (len_ok (Pod.rows p1) (List.length p1) (Pod.rowsLen p1)) (Met.cons (dec (decide ((i0 : Int) < ((List.length p1) : Int))) true hc0) (Met.cons (ix_ok 32 (Pod.rows p1) i0 _ (Pod.rowsGet hx0) rfl) (Met.cons (dec (sEq x0.meta_.namespace_ p0) false h0) (Met.cons (inc_ok i0 (by omega)) Met.nil))))) Told.nil (by kernel_rfl) hr
theorem lt_ref22_Own_b0 (p0 : ByteArray) (p1 : List Pod) (H : H_ref22_Own_b0 p0 p1) : ∀ (r0 : List Pod) (i0 : Nat) (v0_1 : List Pod), List.drop i0 p1 = r0 → List.length v0_1 ≤ i0 → P_ref22_Own_b0 p0 p1 (E_ref22_Own_b0 p0 p1 i0 v0_1) (l_ref22_Own_b0 p0 p1 r0 i0 v0_1)
  | [], i0, v0_1, hd, ho0_0 => by
    have hc0 : (decide ((i0 : Int) < ((List.length p1) : Int))) = false := by have := drop_end hd; simp; omega
    rw [l_ref22_Own_b0]
    exact x_ref22_Own_b0_0 p0 p1 H i0 v0_1 ho0_0 hc0
  | x0 :: r0, i0, v0_1, hd, ho0_0 => by
    obtain ⟨hx0, hi0, hd'⟩ := drop_get hd
    have hc0 : (decide ((i0 : Int) < ((List.length p1) : Int))) = true := by simp; omega
    rw [l_ref22_Own_b0]
    cases h0 : (sEq x0.meta_.namespace_ p0) with
    | true =>
      exact P_ref22_Own_b0_mono p0 p1 (fun r hr => n_ref22_Own_b0_1 p0 p1 H x0 i0 v0_1 hx0 hi0 ho0_0 hc0 h0 hr) _ (lt_ref22_Own_b0 p0 p1 H r0 (i0 + 1) (v0_1 ++ [x0]) hd' (by first | omega | (simp; omega)))
    | false =>
      exact P_ref22_Own_b0_mono p0 p1 (fun r hr => n_ref22_Own_b0_2 p0 p1 H x0 i0 v0_1 hx0 hi0 ho0_0 hc0 h0 hr) _ (lt_ref22_Own_b0 p0 p1 H r0 (i0 + 1) v0_1 hd' (by first | omega | (simp; omega)))
/-- orchestrator/ orchestratorref22.Own -/
def s_ref22_Own (p0 : ByteArray) (p1 : List Pod) : List Pod :=
  (l_ref22_Own_b0 p0 p1 p1 0 [])
def c_ref22_Own (p0 : ByteArray) (p1 : List Pod) : En := .call 46 [.str p0, .sl (Pod.rows p1)] []
def a_ref22_Own (p0 : ByteArray) (p1 : List Pod) : Rs := .ret (.sl (Pod.rows (s_ref22_Own p0 p1))) []
def H_ref22_Own (p0 : ByteArray) (p1 : List Pod) : Prop := (H_ref22_Own_b0 p0 p1) ∧ True
theorem t_ref22_Own (p0 : ByteArray) (p1 : List Pod) (H : H_ref22_Own p0 p1) : Tells G (c_ref22_Own p0 p1) (a_ref22_Own p0 p1) := by
  unfold a_ref22_Own s_ref22_Own
  have hl0 := lt_ref22_Own_b0 p0 p1 (H.1) p1 0 [] (by simp) (by simp)
  obtain ⟨z0, zo0, hl0⟩ := hl0
  exact tells_V (fn := Ir.ref22_Own) rfl VOK.nil (hs := []) (as := [⟨.st (.exit 0) (S_ref22_Own_b0_0 p0 p1 (l_ref22_Own_b0 p0 p1 p1 0 []) z0 zo0), [(0, Pod.rows (l_ref22_Own_b0 p0 p1 p1 0 []))]⟩]) (Met.cons (seenV (ob := ⟨32, 0, true, (Pod.rows (l_ref22_Own_b0 p0 p1 p1 0 [])).flatten⟩) (Pod.rowsView (l_ref22_Own_b0 p0 p1 p1 0 []) 32 rfl)) (Met.cons (Pod.rowsLen (l_ref22_Own_b0 p0 p1 p1 0 [])).symm Met.nil)) (Told.cons hl0 Told.nil) (by kernel_rfl)

/-- orchestrator/ orchestratorref22.Status -/
def s_ref22_Status (p0 : Quota) (p1 : List Pod) : Quota :=
  (Quota.mk p0.meta_ p0.hard (s_ref22_Usage (s_ref22_Own p0.meta_.namespace_ p1)).1 p0.pods (s_ref22_Usage (s_ref22_Own p0.meta_.namespace_ p1)).2)
def c_ref22_Status (p0 : Quota) (p1 : List Pod) : En := .call 30 [.agg (Quota.cells p0), .sl (Pod.rows p1)] []
def a_ref22_Status (p0 : Quota) (p1 : List Pod) : Rs := .ret (.agg (Quota.cells (s_ref22_Status p0 p1))) []
def H_ref22_Status (p0 : Quota) (p1 : List Pod) : Prop := (H_ref22_Own p0.meta_.namespace_ p1) ∧ (H_ref22_Usage (s_ref22_Own p0.meta_.namespace_ p1)) ∧ True
theorem t_ref22_Status (p0 : Quota) (p1 : List Pod) (H : H_ref22_Status p0 p1) : Tells G (c_ref22_Status p0 p1) (a_ref22_Status p0 p1) := by
  unfold a_ref22_Status s_ref22_Status
  exact tells_V (fn := Ir.ref22_Status) rfl VOK.nil (hs := []) (as := [⟨a_ref22_Own p0.meta_.namespace_ p1, []⟩, ⟨a_ref22_Usage (s_ref22_Own p0.meta_.namespace_ p1), []⟩]) Met.nil (Told.cons (t_ref22_Own p0.meta_.namespace_ p1 H.1) (Told.cons (t_ref22_Usage (s_ref22_Own p0.meta_.namespace_ p1) H.2.1) Told.nil)) (by kernel_rfl)

/-- orchestrator/ orchestratorref22.over -/
def s_ref22_over (p0 : Int) (p1 : Int) : Bool :=
  bif (decide (0 < p1)) then
    (decide (p1 < p0))
  else
    false
def c_ref22_over (p0 : Int) (p1 : Int) : En := .call 48 [.int .i64 p0, .int .i64 p1] []
def a_ref22_over (p0 : Int) (p1 : Int) : Rs := .ret (.bool (s_ref22_over p0 p1)) []
theorem t_ref22_over (p0 : Int) (p1 : Int) : Tells G (c_ref22_over p0 p1) (a_ref22_over p0 p1) := by
  unfold a_ref22_over s_ref22_over
  cases h0 : (decide (0 < p1)) with
  | true =>
    exact tells_V (fn := Ir.ref22_over) rfl VOK.nil (hs := [(2, (bE true, []))]) (as := []) (Met.cons (dec (decide (0 < p1)) true h0) Met.nil) Told.nil (by kernel_rfl)
  | false =>
    exact tells_V (fn := Ir.ref22_over) rfl VOK.nil (hs := [(2, (bE false, []))]) (as := []) (Met.cons (dec (decide (0 < p1)) false h0) Met.nil) Told.nil (by kernel_rfl)

/-- orchestrator/ orchestratorref22.Admit -/
def s_ref22_Admit (p0 : Quota) (p1 : List Pod) (p2 : Pod) : Int :=
  bif (sEq p2.meta_.namespace_ p0.meta_.namespace_) then
    bif (s_ref22_over (s_ref02_Add (s_ref22_Usage (s_ref22_Own p0.meta_.namespace_ p1)).1 (s_ref02_Requests p2.spec)).cPU p0.hard.cPU) then
      12
    else
      bif (s_ref22_over (s_ref02_Add (s_ref22_Usage (s_ref22_Own p0.meta_.namespace_ p1)).1 (s_ref02_Requests p2.spec)).memory p0.hard.memory) then
        12
      else
        bif (s_ref22_over (s_ref02_Add (s_ref22_Usage (s_ref22_Own p0.meta_.namespace_ p1)).1 (s_ref02_Requests p2.spec)).disk p0.hard.disk) then
          12
        else
          bif (s_ref22_over (w64 ((s_ref22_Usage (s_ref22_Own p0.meta_.namespace_ p1)).2 + 1)) p0.pods) then
            12
          else
            0
  else
    0
def c_ref22_Admit (p0 : Quota) (p1 : List Pod) (p2 : Pod) : En := .call 32 [.agg (Quota.cells p0), .sl (Pod.rows p1), .agg (Pod.cells p2)] []
def a_ref22_Admit (p0 : Quota) (p1 : List Pod) (p2 : Pod) : Rs := .ret (.int .i64 (s_ref22_Admit p0 p1 p2)) []
def H_ref22_Admit (p0 : Quota) (p1 : List Pod) (p2 : Pod) : Prop := (H_ref22_Own p0.meta_.namespace_ p1) ∧ (H_ref22_Usage (s_ref22_Own p0.meta_.namespace_ p1)) ∧ (H_ref02_Requests p2.spec) ∧ True
theorem t_ref22_Admit (p0 : Quota) (p1 : List Pod) (p2 : Pod) (H : H_ref22_Admit p0 p1 p2) : Tells G (c_ref22_Admit p0 p1 p2) (a_ref22_Admit p0 p1 p2) := by
  unfold a_ref22_Admit s_ref22_Admit
  cases h0 : (sEq p2.meta_.namespace_ p0.meta_.namespace_) with
  | true =>
    cases h1 : (s_ref22_over (s_ref02_Add (s_ref22_Usage (s_ref22_Own p0.meta_.namespace_ p1)).1 (s_ref02_Requests p2.spec)).cPU p0.hard.cPU) with
    | true =>
      exact tells_V (fn := Ir.ref22_Admit) rfl VOK.nil (hs := [(9, (bE false, []))]) (as := [⟨a_ref22_Own p0.meta_.namespace_ p1, []⟩, ⟨a_ref22_Usage (s_ref22_Own p0.meta_.namespace_ p1), []⟩, ⟨a_ref02_Requests p2.spec, []⟩, ⟨a_ref02_Add (s_ref22_Usage (s_ref22_Own p0.meta_.namespace_ p1)).1 (s_ref02_Requests p2.spec), []⟩, ⟨.ret (.bool true) [], []⟩]) (Met.cons (dec (!(sEq p2.meta_.namespace_ p0.meta_.namespace_)) false (by rw [h0]; rfl)) Met.nil) (Told.cons (t_ref22_Own p0.meta_.namespace_ p1 H.1) (Told.cons (t_ref22_Usage (s_ref22_Own p0.meta_.namespace_ p1) H.2.1) (Told.cons (t_ref02_Requests p2.spec H.2.2.1) (Told.cons (t_ref02_Add (s_ref22_Usage (s_ref22_Own p0.meta_.namespace_ p1)).1 (s_ref02_Requests p2.spec)) (Told.cons (toldOf (t_ref22_over (s_ref02_Add (s_ref22_Usage (s_ref22_Own p0.meta_.namespace_ p1)).1 (s_ref02_Requests p2.spec)).cPU p0.hard.cPU) (congrArg (fun b => Rs.ret (.bool b) []) h1)) Told.nil))))) (by kernel_rfl)
    | false =>
      cases h2 : (s_ref22_over (s_ref02_Add (s_ref22_Usage (s_ref22_Own p0.meta_.namespace_ p1)).1 (s_ref02_Requests p2.spec)).memory p0.hard.memory) with
      | true =>
        exact tells_V (fn := Ir.ref22_Admit) rfl VOK.nil (hs := [(9, (bE false, []))]) (as := [⟨a_ref22_Own p0.meta_.namespace_ p1, []⟩, ⟨a_ref22_Usage (s_ref22_Own p0.meta_.namespace_ p1), []⟩, ⟨a_ref02_Requests p2.spec, []⟩, ⟨a_ref02_Add (s_ref22_Usage (s_ref22_Own p0.meta_.namespace_ p1)).1 (s_ref02_Requests p2.spec), []⟩, ⟨.ret (.bool false) [], []⟩, ⟨.ret (.bool true) [], []⟩]) (Met.cons (dec (!(sEq p2.meta_.namespace_ p0.meta_.namespace_)) false (by rw [h0]; rfl)) Met.nil) (Told.cons (t_ref22_Own p0.meta_.namespace_ p1 H.1) (Told.cons (t_ref22_Usage (s_ref22_Own p0.meta_.namespace_ p1) H.2.1) (Told.cons (t_ref02_Requests p2.spec H.2.2.1) (Told.cons (t_ref02_Add (s_ref22_Usage (s_ref22_Own p0.meta_.namespace_ p1)).1 (s_ref02_Requests p2.spec)) (Told.cons (toldOf (t_ref22_over (s_ref02_Add (s_ref22_Usage (s_ref22_Own p0.meta_.namespace_ p1)).1 (s_ref02_Requests p2.spec)).cPU p0.hard.cPU) (congrArg (fun b => Rs.ret (.bool b) []) h1)) (Told.cons (toldOf (t_ref22_over (s_ref02_Add (s_ref22_Usage (s_ref22_Own p0.meta_.namespace_ p1)).1 (s_ref02_Requests p2.spec)).memory p0.hard.memory) (congrArg (fun b => Rs.ret (.bool b) []) h2)) Told.nil)))))) (by kernel_rfl)
      | false =>
        cases h3 : (s_ref22_over (s_ref02_Add (s_ref22_Usage (s_ref22_Own p0.meta_.namespace_ p1)).1 (s_ref02_Requests p2.spec)).disk p0.hard.disk) with
        | true =>
          exact tells_V (fn := Ir.ref22_Admit) rfl VOK.nil (hs := [(9, (bE false, []))]) (as := [⟨a_ref22_Own p0.meta_.namespace_ p1, []⟩, ⟨a_ref22_Usage (s_ref22_Own p0.meta_.namespace_ p1), []⟩, ⟨a_ref02_Requests p2.spec, []⟩, ⟨a_ref02_Add (s_ref22_Usage (s_ref22_Own p0.meta_.namespace_ p1)).1 (s_ref02_Requests p2.spec), []⟩, ⟨.ret (.bool false) [], []⟩, ⟨.ret (.bool false) [], []⟩, ⟨.ret (.bool true) [], []⟩]) (Met.cons (dec (!(sEq p2.meta_.namespace_ p0.meta_.namespace_)) false (by rw [h0]; rfl)) Met.nil) (Told.cons (t_ref22_Own p0.meta_.namespace_ p1 H.1) (Told.cons (t_ref22_Usage (s_ref22_Own p0.meta_.namespace_ p1) H.2.1) (Told.cons (t_ref02_Requests p2.spec H.2.2.1) (Told.cons (t_ref02_Add (s_ref22_Usage (s_ref22_Own p0.meta_.namespace_ p1)).1 (s_ref02_Requests p2.spec)) (Told.cons (toldOf (t_ref22_over (s_ref02_Add (s_ref22_Usage (s_ref22_Own p0.meta_.namespace_ p1)).1 (s_ref02_Requests p2.spec)).cPU p0.hard.cPU) (congrArg (fun b => Rs.ret (.bool b) []) h1)) (Told.cons (toldOf (t_ref22_over (s_ref02_Add (s_ref22_Usage (s_ref22_Own p0.meta_.namespace_ p1)).1 (s_ref02_Requests p2.spec)).memory p0.hard.memory) (congrArg (fun b => Rs.ret (.bool b) []) h2)) (Told.cons (toldOf (t_ref22_over (s_ref02_Add (s_ref22_Usage (s_ref22_Own p0.meta_.namespace_ p1)).1 (s_ref02_Requests p2.spec)).disk p0.hard.disk) (congrArg (fun b => Rs.ret (.bool b) []) h3)) Told.nil))))))) (by kernel_rfl)
        | false =>
          cases h4 : (s_ref22_over (w64 ((s_ref22_Usage (s_ref22_Own p0.meta_.namespace_ p1)).2 + 1)) p0.pods) with
          | true =>
            exact tells_V (fn := Ir.ref22_Admit) rfl VOK.nil (hs := [(9, (bE false, []))]) (as := [⟨a_ref22_Own p0.meta_.namespace_ p1, []⟩, ⟨a_ref22_Usage (s_ref22_Own p0.meta_.namespace_ p1), []⟩, ⟨a_ref02_Requests p2.spec, []⟩, ⟨a_ref02_Add (s_ref22_Usage (s_ref22_Own p0.meta_.namespace_ p1)).1 (s_ref02_Requests p2.spec), []⟩, ⟨.ret (.bool false) [], []⟩, ⟨.ret (.bool false) [], []⟩, ⟨.ret (.bool false) [], []⟩, ⟨.ret (.bool true) [], []⟩]) (Met.cons (dec (!(sEq p2.meta_.namespace_ p0.meta_.namespace_)) false (by rw [h0]; rfl)) Met.nil) (Told.cons (t_ref22_Own p0.meta_.namespace_ p1 H.1) (Told.cons (t_ref22_Usage (s_ref22_Own p0.meta_.namespace_ p1) H.2.1) (Told.cons (t_ref02_Requests p2.spec H.2.2.1) (Told.cons (t_ref02_Add (s_ref22_Usage (s_ref22_Own p0.meta_.namespace_ p1)).1 (s_ref02_Requests p2.spec)) (Told.cons (toldOf (t_ref22_over (s_ref02_Add (s_ref22_Usage (s_ref22_Own p0.meta_.namespace_ p1)).1 (s_ref02_Requests p2.spec)).cPU p0.hard.cPU) (congrArg (fun b => Rs.ret (.bool b) []) h1)) (Told.cons (toldOf (t_ref22_over (s_ref02_Add (s_ref22_Usage (s_ref22_Own p0.meta_.namespace_ p1)).1 (s_ref02_Requests p2.spec)).memory p0.hard.memory) (congrArg (fun b => Rs.ret (.bool b) []) h2)) (Told.cons (toldOf (t_ref22_over (s_ref02_Add (s_ref22_Usage (s_ref22_Own p0.meta_.namespace_ p1)).1 (s_ref02_Requests p2.spec)).disk p0.hard.disk) (congrArg (fun b => Rs.ret (.bool b) []) h3)) (Told.cons (toldOf (t_ref22_over (w64 ((s_ref22_Usage (s_ref22_Own p0.meta_.namespace_ p1)).2 + 1)) p0.pods) (congrArg (fun b => Rs.ret (.bool b) []) h4)) Told.nil)))))))) (by kernel_rfl)
          | false =>
            exact tells_V (fn := Ir.ref22_Admit) rfl VOK.nil (hs := [(9, (bE false, []))]) (as := [⟨a_ref22_Own p0.meta_.namespace_ p1, []⟩, ⟨a_ref22_Usage (s_ref22_Own p0.meta_.namespace_ p1), []⟩, ⟨a_ref02_Requests p2.spec, []⟩, ⟨a_ref02_Add (s_ref22_Usage (s_ref22_Own p0.meta_.namespace_ p1)).1 (s_ref02_Requests p2.spec), []⟩, ⟨.ret (.bool false) [], []⟩, ⟨.ret (.bool false) [], []⟩, ⟨.ret (.bool false) [], []⟩, ⟨.ret (.bool false) [], []⟩]) (Met.cons (dec (!(sEq p2.meta_.namespace_ p0.meta_.namespace_)) false (by rw [h0]; rfl)) Met.nil) (Told.cons (t_ref22_Own p0.meta_.namespace_ p1 H.1) (Told.cons (t_ref22_Usage (s_ref22_Own p0.meta_.namespace_ p1) H.2.1) (Told.cons (t_ref02_Requests p2.spec H.2.2.1) (Told.cons (t_ref02_Add (s_ref22_Usage (s_ref22_Own p0.meta_.namespace_ p1)).1 (s_ref02_Requests p2.spec)) (Told.cons (toldOf (t_ref22_over (s_ref02_Add (s_ref22_Usage (s_ref22_Own p0.meta_.namespace_ p1)).1 (s_ref02_Requests p2.spec)).cPU p0.hard.cPU) (congrArg (fun b => Rs.ret (.bool b) []) h1)) (Told.cons (toldOf (t_ref22_over (s_ref02_Add (s_ref22_Usage (s_ref22_Own p0.meta_.namespace_ p1)).1 (s_ref02_Requests p2.spec)).memory p0.hard.memory) (congrArg (fun b => Rs.ret (.bool b) []) h2)) (Told.cons (toldOf (t_ref22_over (s_ref02_Add (s_ref22_Usage (s_ref22_Own p0.meta_.namespace_ p1)).1 (s_ref02_Requests p2.spec)).disk p0.hard.disk) (congrArg (fun b => Rs.ret (.bool b) []) h3)) (Told.cons (toldOf (t_ref22_over (w64 ((s_ref22_Usage (s_ref22_Own p0.meta_.namespace_ p1)).2 + 1)) p0.pods) (congrArg (fun b => Rs.ret (.bool b) []) h4)) Told.nil)))))))) (by kernel_rfl)
  | false =>
    exact tells_V (fn := Ir.ref22_Admit) rfl VOK.nil (hs := [(9, (bE true, []))]) (as := []) (Met.cons (dec (!(sEq p2.meta_.namespace_ p0.meta_.namespace_)) true (by rw [h0]; rfl)) Met.nil) Told.nil (by kernel_rfl)

inductive R_ref03_Same_b0 where
  | k0
  | k1
def l_ref03_Same_b0 (p0 : List Label) (p1 : List Label) : List Label → Nat → R_ref03_Same_b0
  | [], _i0 =>
    (.k0)
  | x0 :: r0, i0 =>
    bif ((sEq x0.key (List.getD p1 i0 (Label.mk (⟨#[]⟩ : ByteArray) (⟨#[]⟩ : ByteArray))).key) && ((sEq x0.value (List.getD p1 i0 (Label.mk (⟨#[]⟩ : ByteArray) (⟨#[]⟩ : ByteArray))).value) && true)) then
      l_ref03_Same_b0 p0 p1 r0 (i0 + 1)
    else
      (.k1)
def HE_ref03_Same_b0 (p0 : List Label) (p1 : List Label) (i0 : Nat) : List PV :=
  [.sl (Label.rows p0), .sl (Label.rows p1), .un, .un, .un, .int .i64 (i0 : Int), .un, .un, .un, .un, .un, .un, .un, .un, .un, .un, .un, .un, .un, .un, .un, .un, .un, .un, .un, .un]
def HO_ref03_Same_b0 (_p0 : List Label) (_p1 : List Label) (_i0 : Nat) : List Ob :=
  []
def E_ref03_Same_b0 (p0 : List Label) (p1 : List Label) (i0 : Nat) : En := .loop 0 Ir.ref03_Same_b0_live Ir.ref03_Same_b0 (HE_ref03_Same_b0 p0 p1 i0) (HO_ref03_Same_b0 p0 p1 i0)
def S_ref03_Same_b0_0 (_p0 : List Label) (_p1 : List Label) (z : Nat → PV) (_zo : Nat → List PV) : St :=
  ⟨[z 0, z 1, z 2, z 3, z 4, z 5, z 6, z 7, z 8, z 9, z 10, z 11, z 12, z 13, z 14, z 15, z 16, z 17, z 18, z 19, z 20, z 21, z 22, z 23, z 24, z 25], [], 256⟩
def S_ref03_Same_b0_1 (_p0 : List Label) (_p1 : List Label) (z : Nat → PV) (_zo : Nat → List PV) : St :=
  ⟨[z 0, z 1, z 2, z 3, .bool false, z 5, z 6, z 7, z 8, z 9, z 10, z 11, z 12, z 13, z 14, z 15, z 16, z 17, z 18, z 19, z 20, z 21, z 22, z 23, z 24, z 25], [], 896⟩
def P_ref03_Same_b0 (p0 : List Label) (p1 : List Label) (e : En) : R_ref03_Same_b0 → Prop
  | .k0 => ∃ z zo, Tells G e (.st (.exit 0) (S_ref03_Same_b0_0 p0 p1 z zo))
  | .k1 => ∃ z zo, Tells G e (.st .ret (S_ref03_Same_b0_1 p0 p1 z zo))
theorem P_ref03_Same_b0_mono (p0 : List Label) (p1 : List Label) {e e' : En} (h : ∀ r, Tells G e r → Tells G e' r) : ∀ q, P_ref03_Same_b0 p0 p1 e q → P_ref03_Same_b0 p0 p1 e' q
  | .k0, ⟨z, zo, hz⟩ => ⟨z, zo, h _ hz⟩
  | .k1, ⟨z, zo, hz⟩ => ⟨z, zo, h _ hz⟩
def H_ref03_Same_b0 (p0 : List Label) (p1 : List Label) : Prop := (List.length p0 ≤ 4611686018427387904) ∧ (∀ (i0 : Nat) (x0 : Label), p0[i0]? = some x0 → i0 < List.length p1) ∧ True
def Z_ref03_Same_b0_0 (p0 : List Label) (p1 : List Label) (i0 : Nat) : List PV :=
  [.sl (Label.rows p0), .sl (Label.rows p1), .un, .un, .un, .int .i64 (i0 : Int), .un, .un, .un, .un, .un, .int .i64 (i0 : Int), .sl (Label.rows p0), .int .i64 ((List.length p0) : Int), .bool false, .un, .un, .un, .un, .un, .un, .un, .un, .un, .un, .un]
def ZO_ref03_Same_b0_0 (_p0 : List Label) (_p1 : List Label) (_i0 : Nat) : List (Nat × List PV) :=
  []
theorem x_ref03_Same_b0_0 (p0 : List Label) (p1 : List Label) (_H : H_ref03_Same_b0 p0 p1) (i0 : Nat) (hc0 : (decide ((i0 : Int) < ((List.length p0) : Int))) = false) : P_ref03_Same_b0 p0 p1 (E_ref03_Same_b0 p0 p1 i0) (.k0) := by
  exact ⟨(envF (Z_ref03_Same_b0_0 p0 p1 i0)), (zoF (ZO_ref03_Same_b0_0 p0 p1 i0)), tells_outV (h := HO_ref03_Same_b0 p0 p1 i0) (vw := []) VOK.nil (x := ((.exit 0), S_ref03_Same_b0_0 p0 p1 (envF (Z_ref03_Same_b0_0 p0 p1 i0)) (zoF (ZO_ref03_Same_b0_0 p0 p1 i0)))) (hs := [(2, (vE (.int .i64 ((List.length p0) : Int)), [])), (0, (bE false, []))]) (as := []) (Met.cons (len_ok (Label.rows p0) (List.length p0) (Label.rowsLen p0)) (Met.cons (dec (decide ((i0 : Int) < ((List.length p0) : Int))) false hc0) Met.nil)) Told.nil (by kernel_rfl)⟩
theorem n_ref03_Same_b0_1 (p0 : List Label) (p1 : List Label) (H : H_ref03_Same_b0 p0 p1) (x0 : Label) (i0 : Nat) (hx0 : p0[i0]? = some x0) (hi0 : i0 < List.length p0) (hc0 : (decide ((i0 : Int) < ((List.length p0) : Int))) = true) (h0 : ((sEq x0.key (List.getD p1 i0 (Label.mk (⟨#[]⟩ : ByteArray) (⟨#[]⟩ : ByteArray))).key) && ((sEq x0.value (List.getD p1 i0 (Label.mk (⟨#[]⟩ : ByteArray) (⟨#[]⟩ : ByteArray))).value) && true)) = true) {r : Rs} (hr : Tells G (E_ref03_Same_b0 p0 p1 (i0 + 1)) r) : Tells G (E_ref03_Same_b0 p0 p1 i0) r := by
  have hB := H.1
  exact tells_nextV (h := HO_ref03_Same_b0 p0 p1 i0) (vw := []) VOK.nil (y := (HE_ref03_Same_b0 p0 p1 (i0 + 1), HO_ref03_Same_b0 p0 p1 (i0 + 1))) (hs := [(2, (vE (.int .i64 ((List.length p0) : Int)), [])), (0, (bE true, [])), (2, (vE (.rf (Label.cells x0)), [])), (3, (vE (.rf (Label.cells (List.getD p1 i0 (Label.mk (⟨#[]⟩ : ByteArray) (⟨#[]⟩ : ByteArray))))), [])), (1, (bE false, [])), (1, (vE (.int .i64 ((i0 + 1 : Nat) : Int)), []))]) (as := []) (Met.cons (len_ok (Label.rows p0) (List.length p0) (Label.rowsLen p0)) (Met.cons (dec (decide ((i0 : Int) < ((List.length p0) : Int))) true hc0) (Met.cons (ix_ok 2 (Label.rows p0) i0 _ (Label.rowsGet hx0) rfl) (Met.cons (ix_ok 2 (Label.rows p1) i0 _ (Label.rowsGet (getD_ok p1 i0 (Label.mk (⟨#[]⟩ : ByteArray) (⟨#[]⟩ : ByteArray)) ((H.2.1 i0 x0 hx0)))) rfl) (Met.cons (dec (!((sEq x0.key (List.getD p1 i0 (Label.mk (⟨#[]⟩ : ByteArray) (⟨#[]⟩ : ByteArray))).key) && ((sEq x0.value (List.getD p1 i0 (Label.mk (⟨#[]⟩ : ByteArray) (⟨#[]⟩ : ByteArray))).value) && true))) false (by rw [h0]; rfl)) (Met.cons (inc_ok i0 (by omega)) Met.nil)))))) Told.nil (by kernel_rfl) hr
def Z_ref03_Same_b0_2 (p0 : List Label) (p1 : List Label) (i0 : Nat) (x0 : Label) : List PV :=
  [.sl (Label.rows p0), .sl (Label.rows p1), .un, .un, .un, .int .i64 (i0 : Int), .un, .un, .un, .un, .un, .int .i64 (i0 : Int), .sl (Label.rows p0), .int .i64 ((List.length p0) : Int), .bool true, .un, .un, .sl (Label.rows p0), .int .i64 (i0 : Int), .rf [.str x0.key, .str x0.value], .agg [.str x0.key, .str x0.value], .sl (Label.rows p1), .int .i64 (i0 : Int), .rf [.str (List.getD p1 i0 (Label.mk (⟨#[]⟩ : ByteArray) (⟨#[]⟩ : ByteArray))).key, .str (List.getD p1 i0 (Label.mk (⟨#[]⟩ : ByteArray) (⟨#[]⟩ : ByteArray))).value], .agg [.str (List.getD p1 i0 (Label.mk (⟨#[]⟩ : ByteArray) (⟨#[]⟩ : ByteArray))).key, .str (List.getD p1 i0 (Label.mk (⟨#[]⟩ : ByteArray) (⟨#[]⟩ : ByteArray))).value], .bool true]
def ZO_ref03_Same_b0_2 (_p0 : List Label) (_p1 : List Label) (_i0 : Nat) (_x0 : Label) : List (Nat × List PV) :=
  []
theorem x_ref03_Same_b0_2 (p0 : List Label) (p1 : List Label) (H : H_ref03_Same_b0 p0 p1) (x0 : Label) (i0 : Nat) (hx0 : p0[i0]? = some x0) (_hi0 : i0 < List.length p0) (hc0 : (decide ((i0 : Int) < ((List.length p0) : Int))) = true) (h0 : ((sEq x0.key (List.getD p1 i0 (Label.mk (⟨#[]⟩ : ByteArray) (⟨#[]⟩ : ByteArray))).key) && ((sEq x0.value (List.getD p1 i0 (Label.mk (⟨#[]⟩ : ByteArray) (⟨#[]⟩ : ByteArray))).value) && true)) = false) : P_ref03_Same_b0 p0 p1 (E_ref03_Same_b0 p0 p1 i0) (.k1) := by
  exact ⟨(envF (Z_ref03_Same_b0_2 p0 p1 i0 x0)), (zoF (ZO_ref03_Same_b0_2 p0 p1 i0 x0)), tells_outV (h := HO_ref03_Same_b0 p0 p1 i0) (vw := []) VOK.nil (x := (.ret, S_ref03_Same_b0_1 p0 p1 (envF (Z_ref03_Same_b0_2 p0 p1 i0 x0)) (zoF (ZO_ref03_Same_b0_2 p0 p1 i0 x0)))) (hs := [(2, (vE (.int .i64 ((List.length p0) : Int)), [])), (0, (bE true, [])), (2, (vE (.rf (Label.cells x0)), [])), (3, (vE (.rf (Label.cells (List.getD p1 i0 (Label.mk (⟨#[]⟩ : ByteArray) (⟨#[]⟩ : ByteArray))))), [])), (1, (bE true, []))]) (as := []) (Met.cons (len_ok (Label.rows p0) (List.length p0) (Label.rowsLen p0)) (Met.cons (dec (decide ((i0 : Int) < ((List.length p0) : Int))) true hc0) (Met.cons (ix_ok 2 (Label.rows p0) i0 _ (Label.rowsGet hx0) rfl) (Met.cons (ix_ok 2 (Label.rows p1) i0 _ (Label.rowsGet (getD_ok p1 i0 (Label.mk (⟨#[]⟩ : ByteArray) (⟨#[]⟩ : ByteArray)) ((H.2.1 i0 x0 hx0)))) rfl) (Met.cons (dec (!((sEq x0.key (List.getD p1 i0 (Label.mk (⟨#[]⟩ : ByteArray) (⟨#[]⟩ : ByteArray))).key) && ((sEq x0.value (List.getD p1 i0 (Label.mk (⟨#[]⟩ : ByteArray) (⟨#[]⟩ : ByteArray))).value) && true))) true (by rw [h0]; rfl)) Met.nil))))) Told.nil (by kernel_rfl)⟩
theorem lt_ref03_Same_b0 (p0 : List Label) (p1 : List Label) (H : H_ref03_Same_b0 p0 p1) : ∀ (r0 : List Label) (i0 : Nat), List.drop i0 p0 = r0 → P_ref03_Same_b0 p0 p1 (E_ref03_Same_b0 p0 p1 i0) (l_ref03_Same_b0 p0 p1 r0 i0)
  | [], i0, hd => by
    have hc0 : (decide ((i0 : Int) < ((List.length p0) : Int))) = false := by have := drop_end hd; simp; omega
    rw [l_ref03_Same_b0]
    exact x_ref03_Same_b0_0 p0 p1 H i0 hc0
  | x0 :: r0, i0, hd => by
    obtain ⟨hx0, hi0, hd'⟩ := drop_get hd
    have hc0 : (decide ((i0 : Int) < ((List.length p0) : Int))) = true := by simp; omega
    rw [l_ref03_Same_b0]
    cases h0 : ((sEq x0.key (List.getD p1 i0 (Label.mk (⟨#[]⟩ : ByteArray) (⟨#[]⟩ : ByteArray))).key) && ((sEq x0.value (List.getD p1 i0 (Label.mk (⟨#[]⟩ : ByteArray) (⟨#[]⟩ : ByteArray))).value) && true)) with
    | true =>
      exact P_ref03_Same_b0_mono p0 p1 (fun r hr => n_ref03_Same_b0_1 p0 p1 H x0 i0 hx0 hi0 hc0 h0 hr) _ (lt_ref03_Same_b0 p0 p1 H r0 (i0 + 1) hd')
    | false =>
      exact x_ref03_Same_b0_2 p0 p1 H x0 i0 hx0 hi0 hc0 h0
/-- orchestrator/ orchestratorref03.Same -/
def s_ref03_Same (p0 : List Label) (p1 : List Label) : Bool :=
  bif (((List.length p0) : Int) == ((List.length p1) : Int)) then
    (match (l_ref03_Same_b0 p0 p1 p0 0) with
    | .k0 => true
    | .k1 => false)
  else
    false
def c_ref03_Same (p0 : List Label) (p1 : List Label) : En := .call 49 [.sl (Label.rows p0), .sl (Label.rows p1)] []
def a_ref03_Same (p0 : List Label) (p1 : List Label) : Rs := .ret (.bool (s_ref03_Same p0 p1)) []
def H_ref03_Same (p0 : List Label) : Prop := List.length p0 ≤ 4611686018427387904
theorem give_ref03_Same (p0 : List Label) (p1 : List Label) (H : H_ref03_Same p0) : ((((List.length p0) : Int) == ((List.length p1) : Int)) = true → H_ref03_Same_b0 p0 p1) ∧ True := by
  refine ⟨fun h => ⟨H, fun i x hx => ?_, trivial⟩, trivial⟩
  have h1 := (List.getElem?_eq_some_iff.1 hx).1
  simp at h
  omega
theorem t_ref03_Same (p0 : List Label) (p1 : List Label) (H : H_ref03_Same p0) : Tells G (c_ref03_Same p0 p1) (a_ref03_Same p0 p1) := by
  unfold a_ref03_Same s_ref03_Same
  cases h0 : (((List.length p0) : Int) == ((List.length p1) : Int)) with
  | true =>
    have hl1 := lt_ref03_Same_b0 p0 p1 ((give_ref03_Same p0 p1 H).1 h0) p0 0 (by simp)
    cases hr1 : (l_ref03_Same_b0 p0 p1 p0 0) with
    | k0 =>
      rw [hr1] at hl1
      obtain ⟨z1, zo1, hl1⟩ := hl1
      exact tells_V (fn := Ir.ref03_Same) rfl VOK.nil (hs := [(2, (vE (.int .i64 ((List.length p0) : Int)), [])), (1, (vE (.int .i64 ((List.length p1) : Int)), [])), (0, (bE false, []))]) (as := [⟨.st (.exit 0) (S_ref03_Same_b0_0 p0 p1 z1 zo1), []⟩]) (Met.cons (len_ok (Label.rows p0) (List.length p0) (Label.rowsLen p0)) (Met.cons (len_ok (Label.rows p1) (List.length p1) (Label.rowsLen p1)) (Met.cons (dec (!(((List.length p0) : Int) == ((List.length p1) : Int))) false (by rw [h0]; rfl)) Met.nil))) (Told.cons hl1 Told.nil) (by kernel_rfl)
    | k1 =>
      rw [hr1] at hl1
      obtain ⟨z1, zo1, hl1⟩ := hl1
      exact tells_V (fn := Ir.ref03_Same) rfl VOK.nil (hs := [(2, (vE (.int .i64 ((List.length p0) : Int)), [])), (1, (vE (.int .i64 ((List.length p1) : Int)), [])), (0, (bE false, []))]) (as := [⟨.st .ret (S_ref03_Same_b0_1 p0 p1 z1 zo1), []⟩]) (Met.cons (len_ok (Label.rows p0) (List.length p0) (Label.rowsLen p0)) (Met.cons (len_ok (Label.rows p1) (List.length p1) (Label.rowsLen p1)) (Met.cons (dec (!(((List.length p0) : Int) == ((List.length p1) : Int))) false (by rw [h0]; rfl)) Met.nil))) (Told.cons hl1 Told.nil) (by kernel_rfl)
  | false =>
    exact tells_V (fn := Ir.ref03_Same) rfl VOK.nil (hs := [(2, (vE (.int .i64 ((List.length p0) : Int)), [])), (1, (vE (.int .i64 ((List.length p1) : Int)), [])), (0, (bE true, []))]) (as := []) (Met.cons (len_ok (Label.rows p0) (List.length p0) (Label.rowsLen p0)) (Met.cons (len_ok (Label.rows p1) (List.length p1) (Label.rowsLen p1)) (Met.cons (dec (!(((List.length p0) : Int) == ((List.length p1) : Int))) true (by rw [h0]; rfl)) Met.nil))) Told.nil (by kernel_rfl)

inductive R_ref03_SameStrings_b0 where
  | k0
  | k1
def l_ref03_SameStrings_b0 (p0 : List ByteArray) (p1 : List ByteArray) : List ByteArray → Nat → R_ref03_SameStrings_b0
  | [], _i0 =>
    (.k0)
  | x0 :: r0, i0 =>
    bif (sEq x0 (List.getD p1 i0 (⟨#[]⟩ : ByteArray))) then
      l_ref03_SameStrings_b0 p0 p1 r0 (i0 + 1)
    else
      (.k1)
def HE_ref03_SameStrings_b0 (p0 : List ByteArray) (p1 : List ByteArray) (i0 : Nat) : List PV :=
  [.sl (strRows p0), .sl (strRows p1), .un, .un, .un, .int .i64 (i0 : Int), .un, .un, .un, .un, .un, .un, .un, .un, .un, .un, .un, .un, .un, .un, .un, .un, .un, .un, .un, .un]
def HO_ref03_SameStrings_b0 (_p0 : List ByteArray) (_p1 : List ByteArray) (_i0 : Nat) : List Ob :=
  []
def E_ref03_SameStrings_b0 (p0 : List ByteArray) (p1 : List ByteArray) (i0 : Nat) : En := .loop 0 Ir.ref03_SameStrings_b0_live Ir.ref03_SameStrings_b0 (HE_ref03_SameStrings_b0 p0 p1 i0) (HO_ref03_SameStrings_b0 p0 p1 i0)
def S_ref03_SameStrings_b0_0 (_p0 : List ByteArray) (_p1 : List ByteArray) (z : Nat → PV) (_zo : Nat → List PV) : St :=
  ⟨[z 0, z 1, z 2, z 3, z 4, z 5, z 6, z 7, z 8, z 9, z 10, z 11, z 12, z 13, z 14, z 15, z 16, z 17, z 18, z 19, z 20, z 21, z 22, z 23, z 24, z 25], [], 256⟩
def S_ref03_SameStrings_b0_1 (_p0 : List ByteArray) (_p1 : List ByteArray) (z : Nat → PV) (_zo : Nat → List PV) : St :=
  ⟨[z 0, z 1, z 2, z 3, .bool false, z 5, z 6, z 7, z 8, z 9, z 10, z 11, z 12, z 13, z 14, z 15, z 16, z 17, z 18, z 19, z 20, z 21, z 22, z 23, z 24, z 25], [], 896⟩
def P_ref03_SameStrings_b0 (p0 : List ByteArray) (p1 : List ByteArray) (e : En) : R_ref03_SameStrings_b0 → Prop
  | .k0 => ∃ z zo, Tells G e (.st (.exit 0) (S_ref03_SameStrings_b0_0 p0 p1 z zo))
  | .k1 => ∃ z zo, Tells G e (.st .ret (S_ref03_SameStrings_b0_1 p0 p1 z zo))
theorem P_ref03_SameStrings_b0_mono (p0 : List ByteArray) (p1 : List ByteArray) {e e' : En} (h : ∀ r, Tells G e r → Tells G e' r) : ∀ q, P_ref03_SameStrings_b0 p0 p1 e q → P_ref03_SameStrings_b0 p0 p1 e' q
  | .k0, ⟨z, zo, hz⟩ => ⟨z, zo, h _ hz⟩
  | .k1, ⟨z, zo, hz⟩ => ⟨z, zo, h _ hz⟩
def H_ref03_SameStrings_b0 (p0 : List ByteArray) (p1 : List ByteArray) : Prop := (List.length p0 ≤ 4611686018427387904) ∧ (∀ (i0 : Nat) (x0 : ByteArray), p0[i0]? = some x0 → i0 < List.length p1) ∧ True
def Z_ref03_SameStrings_b0_0 (p0 : List ByteArray) (p1 : List ByteArray) (i0 : Nat) : List PV :=
  [.sl (strRows p0), .sl (strRows p1), .un, .un, .un, .int .i64 (i0 : Int), .un, .un, .un, .un, .un, .int .i64 (i0 : Int), .sl (strRows p0), .int .i64 ((List.length p0) : Int), .bool false, .un, .un, .un, .un, .un, .un, .un, .un, .un, .un, .un]
def ZO_ref03_SameStrings_b0_0 (_p0 : List ByteArray) (_p1 : List ByteArray) (_i0 : Nat) : List (Nat × List PV) :=
  []
theorem x_ref03_SameStrings_b0_0 (p0 : List ByteArray) (p1 : List ByteArray) (_H : H_ref03_SameStrings_b0 p0 p1) (i0 : Nat) (hc0 : (decide ((i0 : Int) < ((List.length p0) : Int))) = false) : P_ref03_SameStrings_b0 p0 p1 (E_ref03_SameStrings_b0 p0 p1 i0) (.k0) := by
  exact ⟨(envF (Z_ref03_SameStrings_b0_0 p0 p1 i0)), (zoF (ZO_ref03_SameStrings_b0_0 p0 p1 i0)), tells_outV (h := HO_ref03_SameStrings_b0 p0 p1 i0) (vw := []) VOK.nil (x := ((.exit 0), S_ref03_SameStrings_b0_0 p0 p1 (envF (Z_ref03_SameStrings_b0_0 p0 p1 i0)) (zoF (ZO_ref03_SameStrings_b0_0 p0 p1 i0)))) (hs := [(2, (vE (.int .i64 ((List.length p0) : Int)), [])), (0, (bE false, []))]) (as := []) (Met.cons (len_ok (strRows p0) (List.length p0) (strRowsLen p0)) (Met.cons (dec (decide ((i0 : Int) < ((List.length p0) : Int))) false hc0) Met.nil)) Told.nil (by kernel_rfl)⟩
theorem n_ref03_SameStrings_b0_1 (p0 : List ByteArray) (p1 : List ByteArray) (H : H_ref03_SameStrings_b0 p0 p1) (x0 : ByteArray) (i0 : Nat) (hx0 : p0[i0]? = some x0) (hi0 : i0 < List.length p0) (hc0 : (decide ((i0 : Int) < ((List.length p0) : Int))) = true) (h0 : (sEq x0 (List.getD p1 i0 (⟨#[]⟩ : ByteArray))) = true) {r : Rs} (hr : Tells G (E_ref03_SameStrings_b0 p0 p1 (i0 + 1)) r) : Tells G (E_ref03_SameStrings_b0 p0 p1 i0) r := by
  have hB := H.1
  exact tells_nextV (h := HO_ref03_SameStrings_b0 p0 p1 i0) (vw := []) VOK.nil (y := (HE_ref03_SameStrings_b0 p0 p1 (i0 + 1), HO_ref03_SameStrings_b0 p0 p1 (i0 + 1))) (hs := [(2, (vE (.int .i64 ((List.length p0) : Int)), [])), (0, (bE true, [])), (2, (vE (.rf [.str x0]), [])), (3, (vE (.rf [.str (List.getD p1 i0 (⟨#[]⟩ : ByteArray))]), [])), (1, (bE false, [])), (1, (vE (.int .i64 ((i0 + 1 : Nat) : Int)), []))]) (as := []) (Met.cons (len_ok (strRows p0) (List.length p0) (strRowsLen p0)) (Met.cons (dec (decide ((i0 : Int) < ((List.length p0) : Int))) true hc0) (Met.cons (ix_ok 1 (strRows p0) i0 _ (strRowsGet hx0) rfl) (Met.cons (ix_ok 1 (strRows p1) i0 _ (strRowsGet (getD_ok p1 i0 (⟨#[]⟩ : ByteArray) ((H.2.1 i0 x0 hx0)))) rfl) (Met.cons (dec (!(sEq x0 (List.getD p1 i0 (⟨#[]⟩ : ByteArray)))) false (by rw [h0]; rfl)) (Met.cons (inc_ok i0 (by omega)) Met.nil)))))) Told.nil (by kernel_rfl) hr
def Z_ref03_SameStrings_b0_2 (p0 : List ByteArray) (p1 : List ByteArray) (i0 : Nat) (x0 : ByteArray) : List PV :=
  [.sl (strRows p0), .sl (strRows p1), .un, .un, .un, .int .i64 (i0 : Int), .un, .un, .un, .un, .un, .int .i64 (i0 : Int), .sl (strRows p0), .int .i64 ((List.length p0) : Int), .bool true, .un, .un, .sl (strRows p0), .int .i64 (i0 : Int), .rf [.str x0], .str x0, .sl (strRows p1), .int .i64 (i0 : Int), .rf [.str (List.getD p1 i0 (⟨#[]⟩ : ByteArray))], .str (List.getD p1 i0 (⟨#[]⟩ : ByteArray)), .bool true]
def ZO_ref03_SameStrings_b0_2 (_p0 : List ByteArray) (_p1 : List ByteArray) (_i0 : Nat) (_x0 : ByteArray) : List (Nat × List PV) :=
  []
theorem x_ref03_SameStrings_b0_2 (p0 : List ByteArray) (p1 : List ByteArray) (H : H_ref03_SameStrings_b0 p0 p1) (x0 : ByteArray) (i0 : Nat) (hx0 : p0[i0]? = some x0) (_hi0 : i0 < List.length p0) (hc0 : (decide ((i0 : Int) < ((List.length p0) : Int))) = true) (h0 : (sEq x0 (List.getD p1 i0 (⟨#[]⟩ : ByteArray))) = false) : P_ref03_SameStrings_b0 p0 p1 (E_ref03_SameStrings_b0 p0 p1 i0) (.k1) := by
  exact ⟨(envF (Z_ref03_SameStrings_b0_2 p0 p1 i0 x0)), (zoF (ZO_ref03_SameStrings_b0_2 p0 p1 i0 x0)), tells_outV (h := HO_ref03_SameStrings_b0 p0 p1 i0) (vw := []) VOK.nil (x := (.ret, S_ref03_SameStrings_b0_1 p0 p1 (envF (Z_ref03_SameStrings_b0_2 p0 p1 i0 x0)) (zoF (ZO_ref03_SameStrings_b0_2 p0 p1 i0 x0)))) (hs := [(2, (vE (.int .i64 ((List.length p0) : Int)), [])), (0, (bE true, [])), (2, (vE (.rf [.str x0]), [])), (3, (vE (.rf [.str (List.getD p1 i0 (⟨#[]⟩ : ByteArray))]), [])), (1, (bE true, []))]) (as := []) (Met.cons (len_ok (strRows p0) (List.length p0) (strRowsLen p0)) (Met.cons (dec (decide ((i0 : Int) < ((List.length p0) : Int))) true hc0) (Met.cons (ix_ok 1 (strRows p0) i0 _ (strRowsGet hx0) rfl) (Met.cons (ix_ok 1 (strRows p1) i0 _ (strRowsGet (getD_ok p1 i0 (⟨#[]⟩ : ByteArray) ((H.2.1 i0 x0 hx0)))) rfl) (Met.cons (dec (!(sEq x0 (List.getD p1 i0 (⟨#[]⟩ : ByteArray)))) true (by rw [h0]; rfl)) Met.nil))))) Told.nil (by kernel_rfl)⟩
theorem lt_ref03_SameStrings_b0 (p0 : List ByteArray) (p1 : List ByteArray) (H : H_ref03_SameStrings_b0 p0 p1) : ∀ (r0 : List ByteArray) (i0 : Nat), List.drop i0 p0 = r0 → P_ref03_SameStrings_b0 p0 p1 (E_ref03_SameStrings_b0 p0 p1 i0) (l_ref03_SameStrings_b0 p0 p1 r0 i0)
  | [], i0, hd => by
    have hc0 : (decide ((i0 : Int) < ((List.length p0) : Int))) = false := by have := drop_end hd; simp; omega
    rw [l_ref03_SameStrings_b0]
    exact x_ref03_SameStrings_b0_0 p0 p1 H i0 hc0
  | x0 :: r0, i0, hd => by
    obtain ⟨hx0, hi0, hd'⟩ := drop_get hd
    have hc0 : (decide ((i0 : Int) < ((List.length p0) : Int))) = true := by simp; omega
    rw [l_ref03_SameStrings_b0]
    cases h0 : (sEq x0 (List.getD p1 i0 (⟨#[]⟩ : ByteArray))) with
    | true =>
      exact P_ref03_SameStrings_b0_mono p0 p1 (fun r hr => n_ref03_SameStrings_b0_1 p0 p1 H x0 i0 hx0 hi0 hc0 h0 hr) _ (lt_ref03_SameStrings_b0 p0 p1 H r0 (i0 + 1) hd')
    | false =>
      exact x_ref03_SameStrings_b0_2 p0 p1 H x0 i0 hx0 hi0 hc0 h0
/-- orchestrator/ orchestratorref03.SameStrings -/
def s_ref03_SameStrings (p0 : List ByteArray) (p1 : List ByteArray) : Bool :=
  bif (((List.length p0) : Int) == ((List.length p1) : Int)) then
    (match (l_ref03_SameStrings_b0 p0 p1 p0 0) with
    | .k0 => true
    | .k1 => false)
  else
    false
def c_ref03_SameStrings (p0 : List ByteArray) (p1 : List ByteArray) : En := .call 50 [.sl (strRows p0), .sl (strRows p1)] []
def a_ref03_SameStrings (p0 : List ByteArray) (p1 : List ByteArray) : Rs := .ret (.bool (s_ref03_SameStrings p0 p1)) []
def H_ref03_SameStrings (p0 : List ByteArray) : Prop := List.length p0 ≤ 4611686018427387904
theorem give_ref03_SameStrings (p0 : List ByteArray) (p1 : List ByteArray) (H : H_ref03_SameStrings p0) : ((((List.length p0) : Int) == ((List.length p1) : Int)) = true → H_ref03_SameStrings_b0 p0 p1) ∧ True := by
  refine ⟨fun h => ⟨H, fun i x hx => ?_, trivial⟩, trivial⟩
  have h1 := (List.getElem?_eq_some_iff.1 hx).1
  simp at h
  omega
theorem t_ref03_SameStrings (p0 : List ByteArray) (p1 : List ByteArray) (H : H_ref03_SameStrings p0) : Tells G (c_ref03_SameStrings p0 p1) (a_ref03_SameStrings p0 p1) := by
  unfold a_ref03_SameStrings s_ref03_SameStrings
  cases h0 : (((List.length p0) : Int) == ((List.length p1) : Int)) with
  | true =>
    have hl1 := lt_ref03_SameStrings_b0 p0 p1 ((give_ref03_SameStrings p0 p1 H).1 h0) p0 0 (by simp)
    cases hr1 : (l_ref03_SameStrings_b0 p0 p1 p0 0) with
    | k0 =>
      rw [hr1] at hl1
      obtain ⟨z1, zo1, hl1⟩ := hl1
      exact tells_V (fn := Ir.ref03_SameStrings) rfl VOK.nil (hs := [(2, (vE (.int .i64 ((List.length p0) : Int)), [])), (1, (vE (.int .i64 ((List.length p1) : Int)), [])), (0, (bE false, []))]) (as := [⟨.st (.exit 0) (S_ref03_SameStrings_b0_0 p0 p1 z1 zo1), []⟩]) (Met.cons (len_ok (strRows p0) (List.length p0) (strRowsLen p0)) (Met.cons (len_ok (strRows p1) (List.length p1) (strRowsLen p1)) (Met.cons (dec (!(((List.length p0) : Int) == ((List.length p1) : Int))) false (by rw [h0]; rfl)) Met.nil))) (Told.cons hl1 Told.nil) (by kernel_rfl)
    | k1 =>
      rw [hr1] at hl1
      obtain ⟨z1, zo1, hl1⟩ := hl1
      exact tells_V (fn := Ir.ref03_SameStrings) rfl VOK.nil (hs := [(2, (vE (.int .i64 ((List.length p0) : Int)), [])), (1, (vE (.int .i64 ((List.length p1) : Int)), [])), (0, (bE false, []))]) (as := [⟨.st .ret (S_ref03_SameStrings_b0_1 p0 p1 z1 zo1), []⟩]) (Met.cons (len_ok (strRows p0) (List.length p0) (strRowsLen p0)) (Met.cons (len_ok (strRows p1) (List.length p1) (strRowsLen p1)) (Met.cons (dec (!(((List.length p0) : Int) == ((List.length p1) : Int))) false (by rw [h0]; rfl)) Met.nil))) (Told.cons hl1 Told.nil) (by kernel_rfl)
  | false =>
    exact tells_V (fn := Ir.ref03_SameStrings) rfl VOK.nil (hs := [(2, (vE (.int .i64 ((List.length p0) : Int)), [])), (1, (vE (.int .i64 ((List.length p1) : Int)), [])), (0, (bE true, []))]) (as := []) (Met.cons (len_ok (strRows p0) (List.length p0) (strRowsLen p0)) (Met.cons (len_ok (strRows p1) (List.length p1) (strRowsLen p1)) (Met.cons (dec (!(((List.length p0) : Int) == ((List.length p1) : Int))) true (by rw [h0]; rfl)) Met.nil))) Told.nil (by kernel_rfl)

inductive R_ref19_SameMeta_b0 where
  | k0
  | k1
def l_ref19_SameMeta_b0 (p0 : Meta) (p1 : Meta) : List Owner → Nat → R_ref19_SameMeta_b0
  | [], _i0 =>
    (.k0)
  | x0 :: r0, i0 =>
    bif ((sEq x0.kind (List.getD p1.owners i0 (Owner.mk (⟨#[]⟩ : ByteArray) (⟨#[]⟩ : ByteArray) 0 false false)).kind) && ((sEq x0.name (List.getD p1.owners i0 (Owner.mk (⟨#[]⟩ : ByteArray) (⟨#[]⟩ : ByteArray) 0 false false)).name) && ((x0.uid == (List.getD p1.owners i0 (Owner.mk (⟨#[]⟩ : ByteArray) (⟨#[]⟩ : ByteArray) 0 false false)).uid) && ((x0.controller == (List.getD p1.owners i0 (Owner.mk (⟨#[]⟩ : ByteArray) (⟨#[]⟩ : ByteArray) 0 false false)).controller) && ((x0.block == (List.getD p1.owners i0 (Owner.mk (⟨#[]⟩ : ByteArray) (⟨#[]⟩ : ByteArray) 0 false false)).block) && true))))) then
      l_ref19_SameMeta_b0 p0 p1 r0 (i0 + 1)
    else
      (.k1)
def HE_ref19_SameMeta_b0 (_p0 : Meta) (_p1 : Meta) (i0 : Nat) : List PV :=
  [.un, .un, .bx 0 0, .bx 1 0, .un, .int .i64 (i0 : Int), .un, .un, .un, .un, .un, .un, .un, .un, .un, .un, .un, .un, .un, .un, .un, .un, .un, .un, .un, .un, .un, .un, .un, .un, .un, .un, .un, .un, .un, .un, .un, .un, .un, .un, .un, .un, .un, .un, .un, .un, .un, .un, .un, .un, .un, .un, .un, .un, .un, .un, .un, .un, .un, .un, .un, .un, .un, .un, .un, .un, .un, .un, .un, .un, .un, .un, .un, .un, .un, .un, .un, .un, .un, .un, .un, .un, .un, .un, .un, .un, .un, .un, .un, .un, .un, .un, .un, .un, .un, .un, .un, .un, .un, .un, .un, .un, .un, .un, .un, .un, .un, .un, .un, .un, .un, .un, .un, .un, .un, .un, .un, .un, .un, .un, .un, .un, .un, .un, .un, .un, .un, .un, .un, .un, .un, .un, .un, .un, .un, .un, .un, .un, .un, .un, .un, .un, .un, .un, .un, .un, .un, .un, .un, .un, .un, .un, .un, .un]
def HO_ref19_SameMeta_b0 (p0 : Meta) (p1 : Meta) (_i0 : Nat) : List Ob :=
  [⟨13, 0, true, [.str p0.kind, .str p0.namespace_, .str p0.name, .int .i64 p0.uid, .int .i64 p0.version, .int .i64 p0.generation, .int .i64 p0.created, .bool p0.deleting, .int .i64 p0.deleteAt, .sl (Label.rows p0.labels), .sl (Owner.rows p0.owners), .sl (strRows p0.finalizers), .sl (Manager.rows p0.managers)]⟩, ⟨13, 0, true, [.str p1.kind, .str p1.namespace_, .str p1.name, .int .i64 p1.uid, .int .i64 p1.version, .int .i64 p1.generation, .int .i64 p1.created, .bool p1.deleting, .int .i64 p1.deleteAt, .sl (Label.rows p1.labels), .sl (Owner.rows p1.owners), .sl (strRows p1.finalizers), .sl (Manager.rows p1.managers)]⟩]
def E_ref19_SameMeta_b0 (p0 : Meta) (p1 : Meta) (i0 : Nat) : En := .loop 0 Ir.ref19_SameMeta_b0_live Ir.ref19_SameMeta_b0 (HE_ref19_SameMeta_b0 p0 p1 i0) (HO_ref19_SameMeta_b0 p0 p1 i0)
def S_ref19_SameMeta_b0_0 (p0 : Meta) (p1 : Meta) (z : Nat → PV) (_zo : Nat → List PV) : St :=
  ⟨[z 0, z 1, .bx 0 0, .bx 1 0, z 4, z 5, z 6, z 7, z 8, z 9, z 10, z 11, z 12, z 13, z 14, z 15, z 16, z 17, z 18, z 19, z 20, z 21, z 22, z 23, z 24, z 25, z 26, z 27, z 28, z 29, z 30, z 31, z 32, z 33, z 34, z 35, z 36, z 37, z 38, z 39, z 40, z 41, z 42, z 43, z 44, z 45, z 46, z 47, z 48, z 49, z 50, z 51, z 52, z 53, z 54, z 55, z 56, z 57, z 58, z 59, z 60, z 61, z 62, z 63, z 64, z 65, z 66, z 67, z 68, z 69, z 70, z 71, z 72, z 73, z 74, z 75, z 76, z 77, z 78, z 79, z 80, z 81, z 82, z 83, z 84, z 85, z 86, z 87, z 88, z 89, z 90, z 91, z 92, z 93, z 94, z 95, z 96, z 97, z 98, z 99, z 100, z 101, z 102, z 103, z 104, z 105, z 106, z 107, z 108, z 109, z 110, z 111, z 112, z 113, z 114, z 115, z 116, z 117, z 118, z 119, z 120, z 121, z 122, z 123, z 124, z 125, z 126, z 127, z 128, z 129, z 130, z 131, z 132, z 133, z 134, z 135, z 136, z 137, z 138, z 139, z 140, z 141, z 142, z 143, z 144, z 145, z 146, z 147, z 148, z 149, z 150, z 151, z 152, z 153], [(0, ⟨13, 0, true, [.str p0.kind, .str p0.namespace_, .str p0.name, .int .i64 p0.uid, .int .i64 p0.version, .int .i64 p0.generation, .int .i64 p0.created, .bool p0.deleting, .int .i64 p0.deleteAt, .sl (Label.rows p0.labels), .sl (Owner.rows p0.owners), .sl (strRows p0.finalizers), .sl (Manager.rows p0.managers)]⟩), (1, ⟨13, 0, true, [.str p1.kind, .str p1.namespace_, .str p1.name, .int .i64 p1.uid, .int .i64 p1.version, .int .i64 p1.generation, .int .i64 p1.created, .bool p1.deleting, .int .i64 p1.deleteAt, .sl (Label.rows p1.labels), .sl (Owner.rows p1.owners), .sl (strRows p1.finalizers), .sl (Manager.rows p1.managers)]⟩)], 322⟩
def S_ref19_SameMeta_b0_1 (_p0 : Meta) (_p1 : Meta) (z : Nat → PV) (zo : Nat → List PV) : St :=
  ⟨[z 0, z 1, z 2, z 3, .bool false, z 5, z 6, z 7, z 8, z 9, z 10, z 11, z 12, z 13, z 14, z 15, z 16, z 17, z 18, z 19, z 20, z 21, z 22, z 23, z 24, z 25, z 26, z 27, z 28, z 29, z 30, z 31, z 32, z 33, z 34, z 35, z 36, z 37, z 38, z 39, z 40, z 41, z 42, z 43, z 44, z 45, z 46, z 47, z 48, z 49, z 50, z 51, z 52, z 53, z 54, z 55, z 56, z 57, z 58, z 59, z 60, z 61, z 62, z 63, z 64, z 65, z 66, z 67, z 68, z 69, z 70, z 71, z 72, z 73, z 74, z 75, z 76, z 77, z 78, z 79, z 80, z 81, z 82, z 83, z 84, z 85, z 86, z 87, z 88, z 89, z 90, z 91, z 92, z 93, z 94, z 95, z 96, z 97, z 98, z 99, z 100, z 101, z 102, z 103, z 104, z 105, z 106, z 107, z 108, z 109, z 110, z 111, z 112, z 113, z 114, z 115, z 116, z 117, z 118, z 119, z 120, z 121, z 122, z 123, z 124, z 125, z 126, z 127, z 128, z 129, z 130, z 131, z 132, z 133, z 134, z 135, z 136, z 137, z 138, z 139, z 140, z 141, z 142, z 143, z 144, z 145, z 146, z 147, z 148, z 149, z 150, z 151, z 152, z 153], [(0, ⟨13, 0, true, zo 0⟩), (1, ⟨13, 0, true, zo 1⟩)], 1090⟩
def P_ref19_SameMeta_b0 (p0 : Meta) (p1 : Meta) (e : En) : R_ref19_SameMeta_b0 → Prop
  | .k0 => ∃ z zo, Tells G e (.st (.exit 0) (S_ref19_SameMeta_b0_0 p0 p1 z zo))
  | .k1 => ∃ z zo, Tells G e (.st .ret (S_ref19_SameMeta_b0_1 p0 p1 z zo))
theorem P_ref19_SameMeta_b0_mono (p0 : Meta) (p1 : Meta) {e e' : En} (h : ∀ r, Tells G e r → Tells G e' r) : ∀ q, P_ref19_SameMeta_b0 p0 p1 e q → P_ref19_SameMeta_b0 p0 p1 e' q
  | .k0, ⟨z, zo, hz⟩ => ⟨z, zo, h _ hz⟩
  | .k1, ⟨z, zo, hz⟩ => ⟨z, zo, h _ hz⟩
def H_ref19_SameMeta_b0 (p0 : Meta) (p1 : Meta) : Prop := (List.length p0.owners ≤ 4611686018427387904) ∧ (∀ (i0 : Nat) (x0 : Owner), p0.owners[i0]? = some x0 → i0 < List.length p1.owners) ∧ True
def Z_ref19_SameMeta_b0_0 (p0 : Meta) (_p1 : Meta) (i0 : Nat) : List PV :=
  [.un, .un, .un, .un, .un, .int .i64 (i0 : Int), .un, .un, .un, .un, .un, .un, .un, .un, .un, .un, .un, .un, .un, .un, .un, .un, .un, .un, .un, .un, .un, .un, .un, .un, .un, .un, .un, .un, .un, .un, .un, .un, .un, .un, .un, .un, .un, .un, .un, .un, .un, .un, .un, .un, .un, .un, .un, .un, .un, .un, .un, .un, .un, .un, .un, .un, .un, .un, .un, .un, .un, .un, .un, .un, .un, .un, .un, .un, .un, .un, .un, .un, .un, .un, .un, .un, .un, .un, .un, .un, .un, .un, .un, .un, .un, .un, .un, .un, .un, .un, .un, .un, .un, .un, .int .i64 (i0 : Int), .bx 0 10, .sl (Owner.rows p0.owners), .int .i64 ((List.length p0.owners) : Int), .bool false, .un, .un, .un, .un, .un, .un, .un, .un, .un, .un, .un, .un, .un, .un, .un, .un, .un, .un, .un, .un, .un, .un, .un, .un, .un, .un, .un, .un, .un, .un, .un, .un, .un, .un, .un, .un, .un, .un, .un, .un, .un, .un, .un, .un, .un, .un, .un, .un, .un]
def ZO_ref19_SameMeta_b0_0 (_p0 : Meta) (_p1 : Meta) (_i0 : Nat) : List (Nat × List PV) :=
  []
theorem x_ref19_SameMeta_b0_0 (p0 : Meta) (p1 : Meta) (_H : H_ref19_SameMeta_b0 p0 p1) (i0 : Nat) (hc0 : (decide ((i0 : Int) < ((List.length p0.owners) : Int))) = false) : P_ref19_SameMeta_b0 p0 p1 (E_ref19_SameMeta_b0 p0 p1 i0) (.k0) := by
  exact ⟨(envF (Z_ref19_SameMeta_b0_0 p0 p1 i0)), (zoF (ZO_ref19_SameMeta_b0_0 p0 p1 i0)), tells_outV (h := HO_ref19_SameMeta_b0 p0 p1 i0) (vw := []) VOK.nil (x := ((.exit 0), S_ref19_SameMeta_b0_0 p0 p1 (envF (Z_ref19_SameMeta_b0_0 p0 p1 i0)) (zoF (ZO_ref19_SameMeta_b0_0 p0 p1 i0)))) (hs := [(3, (vE (.int .i64 ((List.length p0.owners) : Int)), [])), (0, (bE false, []))]) (as := []) (Met.cons (len_ok (Owner.rows p0.owners) (List.length p0.owners) (Owner.rowsLen p0.owners)) (Met.cons (dec (decide ((i0 : Int) < ((List.length p0.owners) : Int))) false hc0) Met.nil)) Told.nil (by kernel_rfl)⟩
theorem n_ref19_SameMeta_b0_1 (p0 : Meta) (p1 : Meta) (H : H_ref19_SameMeta_b0 p0 p1) (x0 : Owner) (i0 : Nat) (hx0 : p0.owners[i0]? = some x0) (hi0 : i0 < List.length p0.owners) (hc0 : (decide ((i0 : Int) < ((List.length p0.owners) : Int))) = true) (h0 : ((sEq x0.kind (List.getD p1.owners i0 (Owner.mk (⟨#[]⟩ : ByteArray) (⟨#[]⟩ : ByteArray) 0 false false)).kind) && ((sEq x0.name (List.getD p1.owners i0 (Owner.mk (⟨#[]⟩ : ByteArray) (⟨#[]⟩ : ByteArray) 0 false false)).name) && ((x0.uid == (List.getD p1.owners i0 (Owner.mk (⟨#[]⟩ : ByteArray) (⟨#[]⟩ : ByteArray) 0 false false)).uid) && ((x0.controller == (List.getD p1.owners i0 (Owner.mk (⟨#[]⟩ : ByteArray) (⟨#[]⟩ : ByteArray) 0 false false)).controller) && ((x0.block == (List.getD p1.owners i0 (Owner.mk (⟨#[]⟩ : ByteArray) (⟨#[]⟩ : ByteArray) 0 false false)).block) && true))))) = true) {r : Rs} (hr : Tells G (E_ref19_SameMeta_b0 p0 p1 (i0 + 1)) r) : Tells G (E_ref19_SameMeta_b0 p0 p1 i0) r := by
  have hB := H.1
  exact tells_nextV (h := HO_ref19_SameMeta_b0 p0 p1 i0) (vw := []) VOK.nil (y := (HE_ref19_SameMeta_b0 p0 p1 (i0 + 1), HO_ref19_SameMeta_b0 p0 p1 (i0 + 1))) (hs := [(3, (vE (.int .i64 ((List.length p0.owners) : Int)), [])), (0, (bE true, [])), (3, (vE (.rf (Owner.cells x0)), [])), (4, (vE (.rf (Owner.cells (List.getD p1.owners i0 (Owner.mk (⟨#[]⟩ : ByteArray) (⟨#[]⟩ : ByteArray) 0 false false)))), [])), (1, (bE false, [])), (1, (vE (.int .i64 ((i0 + 1 : Nat) : Int)), []))]) (as := []) (Met.cons (len_ok (Owner.rows p0.owners) (List.length p0.owners) (Owner.rowsLen p0.owners)) (Met.cons (dec (decide ((i0 : Int) < ((List.length p0.owners) : Int))) true hc0) (Met.cons (ix_ok 5 (Owner.rows p0.owners) i0 _ (Owner.rowsGet hx0) rfl) (Met.cons (ix_ok 5 (Owner.rows p1.owners) i0 _ (Owner.rowsGet (getD_ok p1.owners i0 (Owner.mk (⟨#[]⟩ : ByteArray) (⟨#[]⟩ : ByteArray) 0 false false) ((H.2.1 i0 x0 hx0)))) rfl) (Met.cons (dec (!((sEq x0.kind (List.getD p1.owners i0 (Owner.mk (⟨#[]⟩ : ByteArray) (⟨#[]⟩ : ByteArray) 0 false false)).kind) && ((sEq x0.name (List.getD p1.owners i0 (Owner.mk (⟨#[]⟩ : ByteArray) (⟨#[]⟩ : ByteArray) 0 false false)).name) && ((x0.uid == (List.getD p1.owners i0 (Owner.mk (⟨#[]⟩ : ByteArray) (⟨#[]⟩ : ByteArray) 0 false false)).uid) && ((x0.controller == (List.getD p1.owners i0 (Owner.mk (⟨#[]⟩ : ByteArray) (⟨#[]⟩ : ByteArray) 0 false false)).controller) && ((x0.block == (List.getD p1.owners i0 (Owner.mk (⟨#[]⟩ : ByteArray) (⟨#[]⟩ : ByteArray) 0 false false)).block) && true)))))) false (by rw [h0]; rfl)) (Met.cons (inc_ok i0 (by omega)) Met.nil)))))) Told.nil (by kernel_rfl) hr
def Z_ref19_SameMeta_b0_2 (p0 : Meta) (p1 : Meta) (i0 : Nat) (x0 : Owner) : List PV :=
  [.un, .un, .bx 0 0, .bx 1 0, .un, .int .i64 (i0 : Int), .un, .un, .un, .un, .un, .un, .un, .un, .un, .un, .un, .un, .un, .un, .un, .un, .un, .un, .un, .un, .un, .un, .un, .un, .un, .un, .un, .un, .un, .un, .un, .un, .un, .un, .un, .un, .un, .un, .un, .un, .un, .un, .un, .un, .un, .un, .un, .un, .un, .un, .un, .un, .un, .un, .un, .un, .un, .un, .un, .un, .un, .un, .un, .un, .un, .un, .un, .un, .un, .un, .un, .un, .un, .un, .un, .un, .un, .un, .un, .un, .un, .un, .un, .un, .un, .un, .un, .un, .un, .un, .un, .un, .un, .un, .int .i64 (i0 : Int), .bx 0 10, .sl (Owner.rows p0.owners), .int .i64 ((List.length p0.owners) : Int), .bool true, .un, .un, .bx 0 10, .sl (Owner.rows p0.owners), .int .i64 (i0 : Int), .rf [.str x0.kind, .str x0.name, .int .i64 x0.uid, .bool x0.controller, .bool x0.block], .agg [.str x0.kind, .str x0.name, .int .i64 x0.uid, .bool x0.controller, .bool x0.block], .bx 1 10, .sl (Owner.rows p1.owners), .int .i64 (i0 : Int), .rf [.str (List.getD p1.owners i0 (Owner.mk (⟨#[]⟩ : ByteArray) (⟨#[]⟩ : ByteArray) 0 false false)).kind, .str (List.getD p1.owners i0 (Owner.mk (⟨#[]⟩ : ByteArray) (⟨#[]⟩ : ByteArray) 0 false false)).name, .int .i64 (List.getD p1.owners i0 (Owner.mk (⟨#[]⟩ : ByteArray) (⟨#[]⟩ : ByteArray) 0 false false)).uid, .bool (List.getD p1.owners i0 (Owner.mk (⟨#[]⟩ : ByteArray) (⟨#[]⟩ : ByteArray) 0 false false)).controller, .bool (List.getD p1.owners i0 (Owner.mk (⟨#[]⟩ : ByteArray) (⟨#[]⟩ : ByteArray) 0 false false)).block], .agg [.str (List.getD p1.owners i0 (Owner.mk (⟨#[]⟩ : ByteArray) (⟨#[]⟩ : ByteArray) 0 false false)).kind, .str (List.getD p1.owners i0 (Owner.mk (⟨#[]⟩ : ByteArray) (⟨#[]⟩ : ByteArray) 0 false false)).name, .int .i64 (List.getD p1.owners i0 (Owner.mk (⟨#[]⟩ : ByteArray) (⟨#[]⟩ : ByteArray) 0 false false)).uid, .bool (List.getD p1.owners i0 (Owner.mk (⟨#[]⟩ : ByteArray) (⟨#[]⟩ : ByteArray) 0 false false)).controller, .bool (List.getD p1.owners i0 (Owner.mk (⟨#[]⟩ : ByteArray) (⟨#[]⟩ : ByteArray) 0 false false)).block], .bool true, .un, .un, .un, .un, .un, .un, .un, .un, .un, .un, .un, .un, .un, .un, .un, .un, .un, .un, .un, .un, .un, .un, .un, .un, .un, .un, .un, .un, .un, .un, .un, .un, .un, .un, .un, .un]
def ZO_ref19_SameMeta_b0_2 (p0 : Meta) (p1 : Meta) (_i0 : Nat) (_x0 : Owner) : List (Nat × List PV) :=
  [(0, [.str p0.kind, .str p0.namespace_, .str p0.name, .int .i64 p0.uid, .int .i64 p0.version, .int .i64 p0.generation, .int .i64 p0.created, .bool p0.deleting, .int .i64 p0.deleteAt, .sl (Label.rows p0.labels), .sl (Owner.rows p0.owners), .sl (strRows p0.finalizers), .sl (Manager.rows p0.managers)]), (1, [.str p1.kind, .str p1.namespace_, .str p1.name, .int .i64 p1.uid, .int .i64 p1.version, .int .i64 p1.generation, .int .i64 p1.created, .bool p1.deleting, .int .i64 p1.deleteAt, .sl (Label.rows p1.labels), .sl (Owner.rows p1.owners), .sl (strRows p1.finalizers), .sl (Manager.rows p1.managers)])]
theorem x_ref19_SameMeta_b0_2 (p0 : Meta) (p1 : Meta) (H : H_ref19_SameMeta_b0 p0 p1) (x0 : Owner) (i0 : Nat) (hx0 : p0.owners[i0]? = some x0) (_hi0 : i0 < List.length p0.owners) (hc0 : (decide ((i0 : Int) < ((List.length p0.owners) : Int))) = true) (h0 : ((sEq x0.kind (List.getD p1.owners i0 (Owner.mk (⟨#[]⟩ : ByteArray) (⟨#[]⟩ : ByteArray) 0 false false)).kind) && ((sEq x0.name (List.getD p1.owners i0 (Owner.mk (⟨#[]⟩ : ByteArray) (⟨#[]⟩ : ByteArray) 0 false false)).name) && ((x0.uid == (List.getD p1.owners i0 (Owner.mk (⟨#[]⟩ : ByteArray) (⟨#[]⟩ : ByteArray) 0 false false)).uid) && ((x0.controller == (List.getD p1.owners i0 (Owner.mk (⟨#[]⟩ : ByteArray) (⟨#[]⟩ : ByteArray) 0 false false)).controller) && ((x0.block == (List.getD p1.owners i0 (Owner.mk (⟨#[]⟩ : ByteArray) (⟨#[]⟩ : ByteArray) 0 false false)).block) && true))))) = false) : P_ref19_SameMeta_b0 p0 p1 (E_ref19_SameMeta_b0 p0 p1 i0) (.k1) := by
  exact ⟨(envF (Z_ref19_SameMeta_b0_2 p0 p1 i0 x0)), (zoF (ZO_ref19_SameMeta_b0_2 p0 p1 i0 x0)), tells_outV (h := HO_ref19_SameMeta_b0 p0 p1 i0) (vw := []) VOK.nil (x := (.ret, S_ref19_SameMeta_b0_1 p0 p1 (envF (Z_ref19_SameMeta_b0_2 p0 p1 i0 x0)) (zoF (ZO_ref19_SameMeta_b0_2 p0 p1 i0 x0)))) (hs := [(3, (vE (.int .i64 ((List.length p0.owners) : Int)), [])), (0, (bE true, [])), (3, (vE (.rf (Owner.cells x0)), [])), (4, (vE (.rf (Owner.cells (List.getD p1.owners i0 (Owner.mk (⟨#[]⟩ : ByteArray) (⟨#[]⟩ : ByteArray) 0 false false)))), [])), (1, (bE true, []))]) (as := []) (Met.cons (len_ok (Owner.rows p0.owners) (List.length p0.owners) (Owner.rowsLen p0.owners)) (Met.cons (dec (decide ((i0 : Int) < ((List.length p0.owners) : Int))) true hc0) (Met.cons (ix_ok 5 (Owner.rows p0.owners) i0 _ (Owner.rowsGet hx0) rfl) (Met.cons (ix_ok 5 (Owner.rows p1.owners) i0 _ (Owner.rowsGet (getD_ok p1.owners i0 (Owner.mk (⟨#[]⟩ : ByteArray) (⟨#[]⟩ : ByteArray) 0 false false) ((H.2.1 i0 x0 hx0)))) rfl) (Met.cons (dec (!((sEq x0.kind (List.getD p1.owners i0 (Owner.mk (⟨#[]⟩ : ByteArray) (⟨#[]⟩ : ByteArray) 0 false false)).kind) && ((sEq x0.name (List.getD p1.owners i0 (Owner.mk (⟨#[]⟩ : ByteArray) (⟨#[]⟩ : ByteArray) 0 false false)).name) && ((x0.uid == (List.getD p1.owners i0 (Owner.mk (⟨#[]⟩ : ByteArray) (⟨#[]⟩ : ByteArray) 0 false false)).uid) && ((x0.controller == (List.getD p1.owners i0 (Owner.mk (⟨#[]⟩ : ByteArray) (⟨#[]⟩ : ByteArray) 0 false false)).controller) && ((x0.block == (List.getD p1.owners i0 (Owner.mk (⟨#[]⟩ : ByteArray) (⟨#[]⟩ : ByteArray) 0 false false)).block) && true)))))) true (by rw [h0]; rfl)) Met.nil))))) Told.nil (by kernel_rfl)⟩
theorem lt_ref19_SameMeta_b0 (p0 : Meta) (p1 : Meta) (H : H_ref19_SameMeta_b0 p0 p1) : ∀ (r0 : List Owner) (i0 : Nat), List.drop i0 p0.owners = r0 → P_ref19_SameMeta_b0 p0 p1 (E_ref19_SameMeta_b0 p0 p1 i0) (l_ref19_SameMeta_b0 p0 p1 r0 i0)
  | [], i0, hd => by
    have hc0 : (decide ((i0 : Int) < ((List.length p0.owners) : Int))) = false := by have := drop_end hd; simp; omega
    rw [l_ref19_SameMeta_b0]
    exact x_ref19_SameMeta_b0_0 p0 p1 H i0 hc0
  | x0 :: r0, i0, hd => by
    obtain ⟨hx0, hi0, hd'⟩ := drop_get hd
    have hc0 : (decide ((i0 : Int) < ((List.length p0.owners) : Int))) = true := by simp; omega
    rw [l_ref19_SameMeta_b0]
    cases h0 : ((sEq x0.kind (List.getD p1.owners i0 (Owner.mk (⟨#[]⟩ : ByteArray) (⟨#[]⟩ : ByteArray) 0 false false)).kind) && ((sEq x0.name (List.getD p1.owners i0 (Owner.mk (⟨#[]⟩ : ByteArray) (⟨#[]⟩ : ByteArray) 0 false false)).name) && ((x0.uid == (List.getD p1.owners i0 (Owner.mk (⟨#[]⟩ : ByteArray) (⟨#[]⟩ : ByteArray) 0 false false)).uid) && ((x0.controller == (List.getD p1.owners i0 (Owner.mk (⟨#[]⟩ : ByteArray) (⟨#[]⟩ : ByteArray) 0 false false)).controller) && ((x0.block == (List.getD p1.owners i0 (Owner.mk (⟨#[]⟩ : ByteArray) (⟨#[]⟩ : ByteArray) 0 false false)).block) && true))))) with
    | true =>
      exact P_ref19_SameMeta_b0_mono p0 p1 (fun r hr => n_ref19_SameMeta_b0_1 p0 p1 H x0 i0 hx0 hi0 hc0 h0 hr) _ (lt_ref19_SameMeta_b0 p0 p1 H r0 (i0 + 1) hd')
    | false =>
      exact x_ref19_SameMeta_b0_2 p0 p1 H x0 i0 hx0 hi0 hc0 h0
inductive R_ref19_SameMeta_b1 where
  | k0
  | k1
def l_ref19_SameMeta_b1 (p0 : Meta) (p1 : Meta) : List Manager → Nat → R_ref19_SameMeta_b1
  | [], _i1 =>
    (.k0)
  | x1 :: r1, i1 =>
    bif (sEq x1.name (List.getD p1.managers i1 (Manager.mk (⟨#[]⟩ : ByteArray) [])).name) then
      bif (s_ref03_SameStrings x1.fields (List.getD p1.managers i1 (Manager.mk (⟨#[]⟩ : ByteArray) [])).fields) then
        l_ref19_SameMeta_b1 p0 p1 r1 (i1 + 1)
      else
        (.k1)
    else
      (.k1)
def HE_ref19_SameMeta_b1 (_p0 : Meta) (_p1 : Meta) (i1 : Nat) : List PV :=
  [.un, .un, .bx 0 0, .bx 1 0, .un, .un, .int .i64 (i1 : Int), .un, .un, .un, .un, .un, .un, .un, .un, .un, .un, .un, .un, .un, .un, .un, .un, .un, .un, .un, .un, .un, .un, .un, .un, .un, .un, .un, .un, .un, .un, .un, .un, .un, .un, .un, .un, .un, .un, .un, .un, .un, .un, .un, .un, .un, .un, .un, .un, .un, .un, .un, .un, .un, .un, .un, .un, .un, .un, .un, .un, .un, .un, .un, .un, .un, .un, .un, .un, .un, .un, .un, .un, .un, .un, .un, .un, .un, .un, .un, .un, .un, .un, .un, .un, .un, .un, .un, .un, .un, .un, .un, .un, .un, .un, .un, .un, .un, .un, .un, .un, .un, .un, .un, .un, .un, .un, .un, .un, .un, .un, .un, .un, .un, .un, .un, .un, .un, .un, .un, .un, .un, .un, .un, .un, .un, .un, .un, .un, .un, .un, .un, .un, .un, .un, .un, .un, .un, .un, .un, .un, .un, .un, .un, .un, .un, .un, .un]
def HO_ref19_SameMeta_b1 (p0 : Meta) (p1 : Meta) (_i1 : Nat) : List Ob :=
  [⟨13, 0, true, [.str p0.kind, .str p0.namespace_, .str p0.name, .int .i64 p0.uid, .int .i64 p0.version, .int .i64 p0.generation, .int .i64 p0.created, .bool p0.deleting, .int .i64 p0.deleteAt, .sl (Label.rows p0.labels), .sl (Owner.rows p0.owners), .sl (strRows p0.finalizers), .sl (Manager.rows p0.managers)]⟩, ⟨13, 0, true, [.str p1.kind, .str p1.namespace_, .str p1.name, .int .i64 p1.uid, .int .i64 p1.version, .int .i64 p1.generation, .int .i64 p1.created, .bool p1.deleting, .int .i64 p1.deleteAt, .sl (Label.rows p1.labels), .sl (Owner.rows p1.owners), .sl (strRows p1.finalizers), .sl (Manager.rows p1.managers)]⟩]
def E_ref19_SameMeta_b1 (p0 : Meta) (p1 : Meta) (i1 : Nat) : En := .loop 0 Ir.ref19_SameMeta_b1_live Ir.ref19_SameMeta_b1 (HE_ref19_SameMeta_b1 p0 p1 i1) (HO_ref19_SameMeta_b1 p0 p1 i1)
def S_ref19_SameMeta_b1_0 (p0 : Meta) (p1 : Meta) (z : Nat → PV) (_zo : Nat → List PV) : St :=
  ⟨[z 0, z 1, z 2, z 3, z 4, z 5, z 6, z 7, z 8, z 9, z 10, z 11, z 12, z 13, z 14, z 15, z 16, z 17, z 18, z 19, z 20, z 21, z 22, z 23, z 24, z 25, z 26, z 27, z 28, z 29, z 30, z 31, z 32, z 33, z 34, z 35, z 36, z 37, z 38, z 39, z 40, z 41, z 42, z 43, z 44, z 45, z 46, z 47, z 48, z 49, z 50, z 51, z 52, z 53, z 54, z 55, z 56, z 57, z 58, z 59, z 60, z 61, z 62, z 63, z 64, z 65, z 66, z 67, z 68, z 69, z 70, z 71, z 72, z 73, z 74, z 75, z 76, z 77, z 78, z 79, z 80, z 81, z 82, z 83, z 84, z 85, z 86, z 87, z 88, z 89, z 90, z 91, z 92, z 93, z 94, z 95, z 96, z 97, z 98, z 99, z 100, z 101, z 102, z 103, z 104, z 105, z 106, z 107, z 108, z 109, z 110, z 111, z 112, z 113, z 114, z 115, z 116, z 117, z 118, z 119, z 120, z 121, z 122, z 123, z 124, z 125, z 126, z 127, z 128, z 129, z 130, z 131, z 132, z 133, z 134, z 135, z 136, z 137, z 138, z 139, z 140, z 141, z 142, z 143, z 144, z 145, z 146, z 147, z 148, z 149, z 150, z 151, z 152, z 153], [(0, ⟨13, 0, true, [.str p0.kind, .str p0.namespace_, .str p0.name, .int .i64 p0.uid, .int .i64 p0.version, .int .i64 p0.generation, .int .i64 p0.created, .bool p0.deleting, .int .i64 p0.deleteAt, .sl (Label.rows p0.labels), .sl (Owner.rows p0.owners), .sl (strRows p0.finalizers), .sl (Manager.rows p0.managers)]⟩), (1, ⟨13, 0, true, [.str p1.kind, .str p1.namespace_, .str p1.name, .int .i64 p1.uid, .int .i64 p1.version, .int .i64 p1.generation, .int .i64 p1.created, .bool p1.deleting, .int .i64 p1.deleteAt, .sl (Label.rows p1.labels), .sl (Owner.rows p1.owners), .sl (strRows p1.finalizers), .sl (Manager.rows p1.managers)]⟩)], 322⟩
def S_ref19_SameMeta_b1_1 (_p0 : Meta) (_p1 : Meta) (z : Nat → PV) (zo : Nat → List PV) : St :=
  ⟨[z 0, z 1, z 2, z 3, .bool false, z 5, z 6, z 7, z 8, z 9, z 10, z 11, z 12, z 13, z 14, z 15, z 16, z 17, z 18, z 19, z 20, z 21, z 22, z 23, z 24, z 25, z 26, z 27, z 28, z 29, z 30, z 31, z 32, z 33, z 34, z 35, z 36, z 37, z 38, z 39, z 40, z 41, z 42, z 43, z 44, z 45, z 46, z 47, z 48, z 49, z 50, z 51, z 52, z 53, z 54, z 55, z 56, z 57, z 58, z 59, z 60, z 61, z 62, z 63, z 64, z 65, z 66, z 67, z 68, z 69, z 70, z 71, z 72, z 73, z 74, z 75, z 76, z 77, z 78, z 79, z 80, z 81, z 82, z 83, z 84, z 85, z 86, z 87, z 88, z 89, z 90, z 91, z 92, z 93, z 94, z 95, z 96, z 97, z 98, z 99, z 100, z 101, z 102, z 103, z 104, z 105, z 106, z 107, z 108, z 109, z 110, z 111, z 112, z 113, z 114, z 115, z 116, z 117, z 118, z 119, z 120, z 121, z 122, z 123, z 124, z 125, z 126, z 127, z 128, z 129, z 130, z 131, z 132, z 133, z 134, z 135, z 136, z 137, z 138, z 139, z 140, z 141, z 142, z 143, z 144, z 145, z 146, z 147, z 148, z 149, z 150, z 151, z 152, z 153], [(0, ⟨13, 0, true, zo 0⟩), (1, ⟨13, 0, true, zo 1⟩)], 2242⟩
def P_ref19_SameMeta_b1 (p0 : Meta) (p1 : Meta) (e : En) : R_ref19_SameMeta_b1 → Prop
  | .k0 => ∃ z zo, Tells G e (.st (.exit 2) (S_ref19_SameMeta_b1_0 p0 p1 z zo))
  | .k1 => ∃ z zo, Tells G e (.st .ret (S_ref19_SameMeta_b1_1 p0 p1 z zo))
theorem P_ref19_SameMeta_b1_mono (p0 : Meta) (p1 : Meta) {e e' : En} (h : ∀ r, Tells G e r → Tells G e' r) : ∀ q, P_ref19_SameMeta_b1 p0 p1 e q → P_ref19_SameMeta_b1 p0 p1 e' q
  | .k0, ⟨z, zo, hz⟩ => ⟨z, zo, h _ hz⟩
  | .k1, ⟨z, zo, hz⟩ => ⟨z, zo, h _ hz⟩
def H_ref19_SameMeta_b1 (p0 : Meta) (p1 : Meta) : Prop := (List.length p0.managers ≤ 4611686018427387904) ∧ (∀ (i1 : Nat) (x1 : Manager), p0.managers[i1]? = some x1 → i1 < List.length p1.managers) ∧ (∀ x1 ∈ p0.managers, H_ref03_SameStrings x1.fields) ∧ True
def Z_ref19_SameMeta_b1_0 (p0 : Meta) (_p1 : Meta) (i1 : Nat) : List PV :=
  [.un, .un, .bx 0 0, .bx 1 0, .un, .un, .int .i64 (i1 : Int), .un, .un, .un, .un, .un, .un, .un, .un, .un, .un, .un, .un, .un, .un, .un, .un, .un, .un, .un, .un, .un, .un, .un, .un, .un, .un, .un, .un, .un, .un, .un, .un, .un, .un, .un, .un, .un, .un, .un, .un, .un, .un, .un, .un, .un, .un, .un, .un, .un, .un, .un, .un, .un, .un, .un, .un, .un, .un, .un, .un, .un, .un, .un, .un, .un, .un, .un, .un, .un, .un, .un, .un, .un, .un, .un, .un, .un, .un, .un, .un, .un, .un, .un, .un, .un, .un, .un, .un, .un, .un, .un, .un, .un, .un, .un, .un, .un, .un, .un, .un, .un, .un, .un, .un, .un, .un, .un, .un, .un, .un, .un, .int .i64 (i1 : Int), .bx 0 12, .sl (Manager.rows p0.managers), .int .i64 ((List.length p0.managers) : Int), .bool false, .un, .un, .un, .un, .un, .un, .un, .un, .un, .un, .un, .un, .un, .un, .un, .un, .un, .un, .un, .un, .un, .un, .un, .un, .un, .un, .un, .un, .un, .un, .un]
def ZO_ref19_SameMeta_b1_0 (_p0 : Meta) (_p1 : Meta) (_i1 : Nat) : List (Nat × List PV) :=
  []
theorem x_ref19_SameMeta_b1_0 (p0 : Meta) (p1 : Meta) (_H : H_ref19_SameMeta_b1 p0 p1) (i1 : Nat) (hc1 : (decide ((i1 : Int) < ((List.length p0.managers) : Int))) = false) : P_ref19_SameMeta_b1 p0 p1 (E_ref19_SameMeta_b1 p0 p1 i1) (.k0) := by
  exact ⟨(envF (Z_ref19_SameMeta_b1_0 p0 p1 i1)), (zoF (ZO_ref19_SameMeta_b1_0 p0 p1 i1)), tells_outV (h := HO_ref19_SameMeta_b1 p0 p1 i1) (vw := []) VOK.nil (x := ((.exit 2), S_ref19_SameMeta_b1_0 p0 p1 (envF (Z_ref19_SameMeta_b1_0 p0 p1 i1)) (zoF (ZO_ref19_SameMeta_b1_0 p0 p1 i1)))) (hs := [(3, (vE (.int .i64 ((List.length p0.managers) : Int)), [])), (0, (bE false, []))]) (as := []) (Met.cons (len_ok (Manager.rows p0.managers) (List.length p0.managers) (Manager.rowsLen p0.managers)) (Met.cons (dec (decide ((i1 : Int) < ((List.length p0.managers) : Int))) false hc1) Met.nil)) Told.nil (by kernel_rfl)⟩
theorem n_ref19_SameMeta_b1_1 (p0 : Meta) (p1 : Meta) (H : H_ref19_SameMeta_b1 p0 p1) (x1 : Manager) (i1 : Nat) (hx1 : p0.managers[i1]? = some x1) (hi1 : i1 < List.length p0.managers) (hc1 : (decide ((i1 : Int) < ((List.length p0.managers) : Int))) = true) (h0 : (sEq x1.name (List.getD p1.managers i1 (Manager.mk (⟨#[]⟩ : ByteArray) [])).name) = true) (h1 : (s_ref03_SameStrings x1.fields (List.getD p1.managers i1 (Manager.mk (⟨#[]⟩ : ByteArray) [])).fields) = true) {r : Rs} (hr : Tells G (E_ref19_SameMeta_b1 p0 p1 (i1 + 1)) r) : Tells G (E_ref19_SameMeta_b1 p0 p1 i1) r := by
  have hB := H.1
  exact tells_nextV (h := HO_ref19_SameMeta_b1 p0 p1 i1) (vw := []) VOK.nil (y := (HE_ref19_SameMeta_b1 p0 p1 (i1 + 1), HO_ref19_SameMeta_b1 p0 p1 (i1 + 1))) (hs := [(3, (vE (.int .i64 ((List.length p0.managers) : Int)), [])), (0, (bE true, [])), (3, (vE (.rf (Manager.cells x1)), [])), (5, (vE (.rf (Manager.cells (List.getD p1.managers i1 (Manager.mk (⟨#[]⟩ : ByteArray) [])))), [])), (2, (bE false, [])), (4, (vE (.rf (Manager.cells x1)), [])), (5, (vE (.rf (Manager.cells (List.getD p1.managers i1 (Manager.mk (⟨#[]⟩ : ByteArray) [])))), [])), (6, (vE (.int .i64 ((i1 + 1 : Nat) : Int)), []))]) (as := [⟨.ret (.bool true) [], []⟩]) (Met.cons (len_ok (Manager.rows p0.managers) (List.length p0.managers) (Manager.rowsLen p0.managers)) (Met.cons (dec (decide ((i1 : Int) < ((List.length p0.managers) : Int))) true hc1) (Met.cons (ix_ok 2 (Manager.rows p0.managers) i1 _ (Manager.rowsGet hx1) rfl) (Met.cons (ix_ok 2 (Manager.rows p1.managers) i1 _ (Manager.rowsGet (getD_ok p1.managers i1 (Manager.mk (⟨#[]⟩ : ByteArray) []) ((H.2.1 i1 x1 hx1)))) rfl) (Met.cons (dec (!(sEq x1.name (List.getD p1.managers i1 (Manager.mk (⟨#[]⟩ : ByteArray) [])).name)) false (by rw [h0]; rfl)) (Met.cons (ix_ok 2 (Manager.rows p0.managers) i1 _ (Manager.rowsGet hx1) rfl) (Met.cons (ix_ok 2 (Manager.rows p1.managers) i1 _ (Manager.rowsGet (getD_ok p1.managers i1 (Manager.mk (⟨#[]⟩ : ByteArray) []) ((H.2.1 i1 x1 hx1)))) rfl) (Met.cons (inc_ok i1 (by omega)) Met.nil)))))))) (Told.cons (toldOf (t_ref03_SameStrings x1.fields (List.getD p1.managers i1 (Manager.mk (⟨#[]⟩ : ByteArray) [])).fields (H.2.2.1 x1 (mem_get hx1))) (congrArg (fun b => Rs.ret (.bool b) []) h1)) Told.nil) (by kernel_rfl) hr
def Z_ref19_SameMeta_b1_2 (p0 : Meta) (p1 : Meta) (i1 : Nat) (x1 : Manager) : List PV :=
  [.un, .un, .bx 0 0, .bx 1 0, .un, .un, .int .i64 (i1 : Int), .un, .un, .un, .un, .un, .un, .un, .un, .un, .un, .un, .un, .un, .un, .un, .un, .un, .un, .un, .un, .un, .un, .un, .un, .un, .un, .un, .un, .un, .un, .un, .un, .un, .un, .un, .un, .un, .un, .un, .un, .un, .un, .un, .un, .un, .un, .un, .un, .un, .un, .un, .un, .un, .un, .un, .un, .un, .un, .un, .un, .un, .un, .un, .un, .un, .un, .un, .un, .un, .un, .un, .un, .un, .un, .un, .un, .un, .un, .un, .un, .un, .un, .un, .un, .un, .un, .un, .un, .un, .un, .un, .un, .un, .un, .un, .un, .un, .un, .un, .un, .un, .un, .un, .un, .un, .un, .un, .un, .un, .un, .un, .int .i64 (i1 : Int), .bx 0 12, .sl (Manager.rows p0.managers), .int .i64 ((List.length p0.managers) : Int), .bool true, .un, .un, .bx 0 12, .sl (Manager.rows p0.managers), .int .i64 (i1 : Int), .rf [.str x1.name, .sl (strRows x1.fields)], .rf [.str x1.name, .sl (strRows x1.fields)], .str x1.name, .bx 1 12, .sl (Manager.rows p1.managers), .int .i64 (i1 : Int), .rf [.str (List.getD p1.managers i1 (Manager.mk (⟨#[]⟩ : ByteArray) [])).name, .sl (strRows (List.getD p1.managers i1 (Manager.mk (⟨#[]⟩ : ByteArray) [])).fields)], .rf [.str (List.getD p1.managers i1 (Manager.mk (⟨#[]⟩ : ByteArray) [])).name, .sl (strRows (List.getD p1.managers i1 (Manager.mk (⟨#[]⟩ : ByteArray) [])).fields)], .str (List.getD p1.managers i1 (Manager.mk (⟨#[]⟩ : ByteArray) [])).name, .bool false, .bool false, .bx 0 12, .sl (Manager.rows p0.managers), .int .i64 (i1 : Int), .rf [.str x1.name, .sl (strRows x1.fields)], .rf [.sl (strRows x1.fields)], .sl (strRows x1.fields), .bx 1 12, .sl (Manager.rows p1.managers), .int .i64 (i1 : Int), .rf [.str (List.getD p1.managers i1 (Manager.mk (⟨#[]⟩ : ByteArray) [])).name, .sl (strRows (List.getD p1.managers i1 (Manager.mk (⟨#[]⟩ : ByteArray) [])).fields)], .rf [.sl (strRows (List.getD p1.managers i1 (Manager.mk (⟨#[]⟩ : ByteArray) [])).fields)], .sl (strRows (List.getD p1.managers i1 (Manager.mk (⟨#[]⟩ : ByteArray) [])).fields), .bool false, .bool true, .bool true]
def ZO_ref19_SameMeta_b1_2 (p0 : Meta) (p1 : Meta) (_i1 : Nat) (_x1 : Manager) : List (Nat × List PV) :=
  [(0, [.str p0.kind, .str p0.namespace_, .str p0.name, .int .i64 p0.uid, .int .i64 p0.version, .int .i64 p0.generation, .int .i64 p0.created, .bool p0.deleting, .int .i64 p0.deleteAt, .sl (Label.rows p0.labels), .sl (Owner.rows p0.owners), .sl (strRows p0.finalizers), .sl (Manager.rows p0.managers)]), (1, [.str p1.kind, .str p1.namespace_, .str p1.name, .int .i64 p1.uid, .int .i64 p1.version, .int .i64 p1.generation, .int .i64 p1.created, .bool p1.deleting, .int .i64 p1.deleteAt, .sl (Label.rows p1.labels), .sl (Owner.rows p1.owners), .sl (strRows p1.finalizers), .sl (Manager.rows p1.managers)])]
theorem x_ref19_SameMeta_b1_2 (p0 : Meta) (p1 : Meta) (H : H_ref19_SameMeta_b1 p0 p1) (x1 : Manager) (i1 : Nat) (hx1 : p0.managers[i1]? = some x1) (_hi1 : i1 < List.length p0.managers) (hc1 : (decide ((i1 : Int) < ((List.length p0.managers) : Int))) = true) (h0 : (sEq x1.name (List.getD p1.managers i1 (Manager.mk (⟨#[]⟩ : ByteArray) [])).name) = true) (h1 : (s_ref03_SameStrings x1.fields (List.getD p1.managers i1 (Manager.mk (⟨#[]⟩ : ByteArray) [])).fields) = false) : P_ref19_SameMeta_b1 p0 p1 (E_ref19_SameMeta_b1 p0 p1 i1) (.k1) := by
  exact ⟨(envF (Z_ref19_SameMeta_b1_2 p0 p1 i1 x1)), (zoF (ZO_ref19_SameMeta_b1_2 p0 p1 i1 x1)), tells_outV (h := HO_ref19_SameMeta_b1 p0 p1 i1) (vw := []) VOK.nil (x := (.ret, S_ref19_SameMeta_b1_1 p0 p1 (envF (Z_ref19_SameMeta_b1_2 p0 p1 i1 x1)) (zoF (ZO_ref19_SameMeta_b1_2 p0 p1 i1 x1)))) (hs := [(3, (vE (.int .i64 ((List.length p0.managers) : Int)), [])), (0, (bE true, [])), (3, (vE (.rf (Manager.cells x1)), [])), (5, (vE (.rf (Manager.cells (List.getD p1.managers i1 (Manager.mk (⟨#[]⟩ : ByteArray) [])))), [])), (2, (bE false, [])), (4, (vE (.rf (Manager.cells x1)), [])), (5, (vE (.rf (Manager.cells (List.getD p1.managers i1 (Manager.mk (⟨#[]⟩ : ByteArray) [])))), []))]) (as := [⟨.ret (.bool false) [], []⟩]) (Met.cons (len_ok (Manager.rows p0.managers) (List.length p0.managers) (Manager.rowsLen p0.managers)) (Met.cons (dec (decide ((i1 : Int) < ((List.length p0.managers) : Int))) true hc1) (Met.cons (ix_ok 2 (Manager.rows p0.managers) i1 _ (Manager.rowsGet hx1) rfl) (Met.cons (ix_ok 2 (Manager.rows p1.managers) i1 _ (Manager.rowsGet (getD_ok p1.managers i1 (Manager.mk (⟨#[]⟩ : ByteArray) []) ((H.2.1 i1 x1 hx1)))) rfl) (Met.cons (dec (!(sEq x1.name (List.getD p1.managers i1 (Manager.mk (⟨#[]⟩ : ByteArray) [])).name)) false (by rw [h0]; rfl)) (Met.cons (ix_ok 2 (Manager.rows p0.managers) i1 _ (Manager.rowsGet hx1) rfl) (Met.cons (ix_ok 2 (Manager.rows p1.managers) i1 _ (Manager.rowsGet (getD_ok p1.managers i1 (Manager.mk (⟨#[]⟩ : ByteArray) []) ((H.2.1 i1 x1 hx1)))) rfl) Met.nil))))))) (Told.cons (toldOf (t_ref03_SameStrings x1.fields (List.getD p1.managers i1 (Manager.mk (⟨#[]⟩ : ByteArray) [])).fields (H.2.2.1 x1 (mem_get hx1))) (congrArg (fun b => Rs.ret (.bool b) []) h1)) Told.nil) (by kernel_rfl)⟩
def Z_ref19_SameMeta_b1_3 (p0 : Meta) (p1 : Meta) (i1 : Nat) (x1 : Manager) : List PV :=
  [.un, .un, .bx 0 0, .bx 1 0, .un, .un, .int .i64 (i1 : Int), .un, .un, .un, .un, .un, .un, .un, .un, .un, .un, .un, .un, .un, .un, .un, .un, .un, .un, .un, .un, .un, .un, .un, .un, .un, .un, .un, .un, .un, .un, .un, .un, .un, .un, .un, .un, .un, .un, .un, .un, .un, .un, .un, .un, .un, .un, .un, .un, .un, .un, .un, .un, .un, .un, .un, .un, .un, .un, .un, .un, .un, .un, .un, .un, .un, .un, .un, .un, .un, .un, .un, .un, .un, .un, .un, .un, .un, .un, .un, .un, .un, .un, .un, .un, .un, .un, .un, .un, .un, .un, .un, .un, .un, .un, .un, .un, .un, .un, .un, .un, .un, .un, .un, .un, .un, .un, .un, .un, .un, .un, .un, .int .i64 (i1 : Int), .bx 0 12, .sl (Manager.rows p0.managers), .int .i64 ((List.length p0.managers) : Int), .bool true, .un, .un, .bx 0 12, .sl (Manager.rows p0.managers), .int .i64 (i1 : Int), .rf [.str x1.name, .sl (strRows x1.fields)], .rf [.str x1.name, .sl (strRows x1.fields)], .str x1.name, .bx 1 12, .sl (Manager.rows p1.managers), .int .i64 (i1 : Int), .rf [.str (List.getD p1.managers i1 (Manager.mk (⟨#[]⟩ : ByteArray) [])).name, .sl (strRows (List.getD p1.managers i1 (Manager.mk (⟨#[]⟩ : ByteArray) [])).fields)], .rf [.str (List.getD p1.managers i1 (Manager.mk (⟨#[]⟩ : ByteArray) [])).name, .sl (strRows (List.getD p1.managers i1 (Manager.mk (⟨#[]⟩ : ByteArray) [])).fields)], .str (List.getD p1.managers i1 (Manager.mk (⟨#[]⟩ : ByteArray) [])).name, .bool true, .bool true, .tup [], .tup [], .tup [], .tup [], .tup [], .tup [], .tup [], .tup [], .tup [], .tup [], .tup [], .tup [], .tup [], .tup [], .bool true]
def ZO_ref19_SameMeta_b1_3 (p0 : Meta) (p1 : Meta) (_i1 : Nat) (_x1 : Manager) : List (Nat × List PV) :=
  [(0, [.str p0.kind, .str p0.namespace_, .str p0.name, .int .i64 p0.uid, .int .i64 p0.version, .int .i64 p0.generation, .int .i64 p0.created, .bool p0.deleting, .int .i64 p0.deleteAt, .sl (Label.rows p0.labels), .sl (Owner.rows p0.owners), .sl (strRows p0.finalizers), .sl (Manager.rows p0.managers)]), (1, [.str p1.kind, .str p1.namespace_, .str p1.name, .int .i64 p1.uid, .int .i64 p1.version, .int .i64 p1.generation, .int .i64 p1.created, .bool p1.deleting, .int .i64 p1.deleteAt, .sl (Label.rows p1.labels), .sl (Owner.rows p1.owners), .sl (strRows p1.finalizers), .sl (Manager.rows p1.managers)])]
theorem x_ref19_SameMeta_b1_3 (p0 : Meta) (p1 : Meta) (H : H_ref19_SameMeta_b1 p0 p1) (x1 : Manager) (i1 : Nat) (hx1 : p0.managers[i1]? = some x1) (_hi1 : i1 < List.length p0.managers) (hc1 : (decide ((i1 : Int) < ((List.length p0.managers) : Int))) = true) (h0 : (sEq x1.name (List.getD p1.managers i1 (Manager.mk (⟨#[]⟩ : ByteArray) [])).name) = false) : P_ref19_SameMeta_b1 p0 p1 (E_ref19_SameMeta_b1 p0 p1 i1) (.k1) := by
  exact ⟨(envF (Z_ref19_SameMeta_b1_3 p0 p1 i1 x1)), (zoF (ZO_ref19_SameMeta_b1_3 p0 p1 i1 x1)), tells_outV (h := HO_ref19_SameMeta_b1 p0 p1 i1) (vw := []) VOK.nil (x := (.ret, S_ref19_SameMeta_b1_1 p0 p1 (envF (Z_ref19_SameMeta_b1_3 p0 p1 i1 x1)) (zoF (ZO_ref19_SameMeta_b1_3 p0 p1 i1 x1)))) (hs := [(3, (vE (.int .i64 ((List.length p0.managers) : Int)), [])), (0, (bE true, [])), (3, (vE (.rf (Manager.cells x1)), [])), (5, (vE (.rf (Manager.cells (List.getD p1.managers i1 (Manager.mk (⟨#[]⟩ : ByteArray) [])))), [])), (2, (bE true, []))]) (as := []) (Met.cons (len_ok (Manager.rows p0.managers) (List.length p0.managers) (Manager.rowsLen p0.managers)) (Met.cons (dec (decide ((i1 : Int) < ((List.length p0.managers) : Int))) true hc1) (Met.cons (ix_ok 2 (Manager.rows p0.managers) i1 _ (Manager.rowsGet hx1) rfl) (Met.cons (ix_ok 2 (Manager.rows p1.managers) i1 _ (Manager.rowsGet (getD_ok p1.managers i1 (Manager.mk (⟨#[]⟩ : ByteArray) []) ((H.2.1 i1 x1 hx1)))) rfl) (Met.cons (dec (!(sEq x1.name (List.getD p1.managers i1 (Manager.mk (⟨#[]⟩ : ByteArray) [])).name)) true (by rw [h0]; rfl)) Met.nil))))) Told.nil (by kernel_rfl)⟩
theorem lt_ref19_SameMeta_b1 (p0 : Meta) (p1 : Meta) (H : H_ref19_SameMeta_b1 p0 p1) : ∀ (r1 : List Manager) (i1 : Nat), List.drop i1 p0.managers = r1 → P_ref19_SameMeta_b1 p0 p1 (E_ref19_SameMeta_b1 p0 p1 i1) (l_ref19_SameMeta_b1 p0 p1 r1 i1)
  | [], i1, hd => by
    have hc1 : (decide ((i1 : Int) < ((List.length p0.managers) : Int))) = false := by have := drop_end hd; simp; omega
    rw [l_ref19_SameMeta_b1]
    exact x_ref19_SameMeta_b1_0 p0 p1 H i1 hc1
  | x1 :: r1, i1, hd => by
    obtain ⟨hx1, hi1, hd'⟩ := drop_get hd
    have hc1 : (decide ((i1 : Int) < ((List.length p0.managers) : Int))) = true := by simp; omega
    rw [l_ref19_SameMeta_b1]
    cases h0 : (sEq x1.name (List.getD p1.managers i1 (Manager.mk (⟨#[]⟩ : ByteArray) [])).name) with
    | true =>
      cases h1 : (s_ref03_SameStrings x1.fields (List.getD p1.managers i1 (Manager.mk (⟨#[]⟩ : ByteArray) [])).fields) with
      | true =>
        exact P_ref19_SameMeta_b1_mono p0 p1 (fun r hr => n_ref19_SameMeta_b1_1 p0 p1 H x1 i1 hx1 hi1 hc1 h0 h1 hr) _ (lt_ref19_SameMeta_b1 p0 p1 H r1 (i1 + 1) hd')
      | false =>
        exact x_ref19_SameMeta_b1_2 p0 p1 H x1 i1 hx1 hi1 hc1 h0 h1
    | false =>
      exact x_ref19_SameMeta_b1_3 p0 p1 H x1 i1 hx1 hi1 hc1 h0
/-- orchestrator/ orchestratorref19.SameMeta -/
def s_ref19_SameMeta (p0 : Meta) (p1 : Meta) : Bool :=
  bif (sEq p0.kind p1.kind) then
    bif (sEq p0.namespace_ p1.namespace_) then
      bif (sEq p0.name p1.name) then
        bif (p0.uid == p1.uid) then
          bif (p0.version == p1.version) then
            bif (p0.generation == p1.generation) then
              bif (p0.created == p1.created) then
                bif (p0.deleting == p1.deleting) then
                  bif (p0.deleteAt == p1.deleteAt) then
                    bif (s_ref03_Same p0.labels p1.labels) then
                      bif (s_ref03_SameStrings p0.finalizers p1.finalizers) then
                        bif (((List.length p0.owners) : Int) == ((List.length p1.owners) : Int)) then
                          bif (((List.length p0.managers) : Int) == ((List.length p1.managers) : Int)) then
                            (match (l_ref19_SameMeta_b0 p0 p1 p0.owners 0) with
                            | .k0 => (match (l_ref19_SameMeta_b1 p0 p1 p0.managers 0) with
                              | .k0 => true
                              | .k1 => false)
                            | .k1 => false)
                          else
                            false
                        else
                          false
                      else
                        false
                    else
                      false
                  else
                    false
                else
                  false
              else
                false
            else
              false
          else
            false
        else
          false
      else
        false
    else
      false
  else
    false
def c_ref19_SameMeta (p0 : Meta) (p1 : Meta) : En := .call 33 [.agg (Meta.cells p0), .agg (Meta.cells p1)] []
def a_ref19_SameMeta (p0 : Meta) (p1 : Meta) : Rs := .ret (.bool (s_ref19_SameMeta p0 p1)) []
def H_ref19_SameMeta (p0 : Meta) (p1 : Meta) : Prop := (H_ref03_Same p0.labels) ∧ (H_ref03_SameStrings p0.finalizers) ∧ ((((List.length p0.owners) : Int) == ((List.length p1.owners) : Int)) = true → (((List.length p0.managers) : Int) == ((List.length p1.managers) : Int)) = true → H_ref19_SameMeta_b0 p0 p1) ∧ ((((List.length p0.owners) : Int) == ((List.length p1.owners) : Int)) = true → (((List.length p0.managers) : Int) == ((List.length p1.managers) : Int)) = true → H_ref19_SameMeta_b1 p0 p1) ∧ True
theorem t_ref19_SameMeta_0 (p0 : Meta) (p1 : Meta) (H : H_ref19_SameMeta p0 p1) (h0 : (sEq p0.kind p1.kind) = true) (h1 : (sEq p0.namespace_ p1.namespace_) = true) (h2 : (sEq p0.name p1.name) = true) (h3 : (p0.uid == p1.uid) = true) (h4 : (p0.version == p1.version) = true) (h5 : (p0.generation == p1.generation) = true) (h6 : (p0.created == p1.created) = true) (h7 : (p0.deleting == p1.deleting) = true) (h8 : (p0.deleteAt == p1.deleteAt) = true) (h9 : (s_ref03_Same p0.labels p1.labels) = true) (h10 : (s_ref03_SameStrings p0.finalizers p1.finalizers) = true) (h11 : (((List.length p0.owners) : Int) == ((List.length p1.owners) : Int)) = true) (h12 : (((List.length p0.managers) : Int) == ((List.length p1.managers) : Int)) = true) (z13 : Nat → PV) (zo13 : Nat → List PV) (hl13 : Tells G (E_ref19_SameMeta_b0 p0 p1 0) (.st (.exit 0) (S_ref19_SameMeta_b0_0 p0 p1 z13 zo13))) (z14 : Nat → PV) (zo14 : Nat → List PV) (hl14 : Tells G (E_ref19_SameMeta_b1 p0 p1 0) (.st (.exit 2) (S_ref19_SameMeta_b1_0 p0 p1 z14 zo14))) : Tells G (c_ref19_SameMeta p0 p1) (.ret (.bool true) []) :=
  tells_V (fn := Ir.ref19_SameMeta) rfl VOK.nil (hs := [(7, (bE false, [])), (5, (bE false, [])), (6, (bE false, [])), (6, (bE false, [])), (6, (bE false, [])), (6, (bE false, [])), (6, (bE false, [])), (6, (bE false, [])), (6, (bE false, [])), (18, (vE (.int .i64 ((List.length p0.owners) : Int)), [])), (2, (vE (.int .i64 ((List.length p1.owners) : Int)), [])), (0, (bE false, [])), (4, (vE (.int .i64 ((List.length p0.managers) : Int)), [])), (2, (vE (.int .i64 ((List.length p1.managers) : Int)), [])), (0, (bE false, []))]) (as := [⟨.ret (.bool true) [], []⟩, ⟨.ret (.bool true) [], []⟩, ⟨.st (.exit 0) (S_ref19_SameMeta_b0_0 p0 p1 z13 zo13), []⟩, ⟨.st (.exit 2) (S_ref19_SameMeta_b1_0 p0 p1 z14 zo14), []⟩]) (Met.cons (dec (!(sEq p0.kind p1.kind)) false (by rw [h0]; rfl)) (Met.cons (dec (!(sEq p0.namespace_ p1.namespace_)) false (by rw [h1]; rfl)) (Met.cons (dec (!(sEq p0.name p1.name)) false (by rw [h2]; rfl)) (Met.cons (dec (!(p0.uid == p1.uid)) false (by rw [h3]; rfl)) (Met.cons (dec (!(p0.version == p1.version)) false (by rw [h4]; rfl)) (Met.cons (dec (!(p0.generation == p1.generation)) false (by rw [h5]; rfl)) (Met.cons (dec (!(p0.created == p1.created)) false (by rw [h6]; rfl)) (Met.cons (dec (!(p0.deleting == p1.deleting)) false (by rw [h7]; rfl)) (Met.cons (dec (!(p0.deleteAt == p1.deleteAt)) false (by rw [h8]; rfl)) (Met.cons (len_ok (Owner.rows p0.owners) (List.length p0.owners) (Owner.rowsLen p0.owners)) (Met.cons (len_ok (Owner.rows p1.owners) (List.length p1.owners) (Owner.rowsLen p1.owners)) (Met.cons (dec (!(((List.length p0.owners) : Int) == ((List.length p1.owners) : Int))) false (by rw [h11]; rfl)) (Met.cons (len_ok (Manager.rows p0.managers) (List.length p0.managers) (Manager.rowsLen p0.managers)) (Met.cons (len_ok (Manager.rows p1.managers) (List.length p1.managers) (Manager.rowsLen p1.managers)) (Met.cons (dec (!(((List.length p0.managers) : Int) == ((List.length p1.managers) : Int))) false (by rw [h12]; rfl)) Met.nil))))))))))))))) (Told.cons (toldOf (t_ref03_Same p0.labels p1.labels H.1) (congrArg (fun b => Rs.ret (.bool b) []) h9)) (Told.cons (toldOf (t_ref03_SameStrings p0.finalizers p1.finalizers H.2.1) (congrArg (fun b => Rs.ret (.bool b) []) h10)) (Told.cons hl13 (Told.cons hl14 Told.nil)))) (by kernel_rfl)
theorem t_ref19_SameMeta_1 (p0 : Meta) (p1 : Meta) (H : H_ref19_SameMeta p0 p1) (h0 : (sEq p0.kind p1.kind) = true) (h1 : (sEq p0.namespace_ p1.namespace_) = true) (h2 : (sEq p0.name p1.name) = true) (h3 : (p0.uid == p1.uid) = true) (h4 : (p0.version == p1.version) = true) (h5 : (p0.generation == p1.generation) = true) (h6 : (p0.created == p1.created) = true) (h7 : (p0.deleting == p1.deleting) = true) (h8 : (p0.deleteAt == p1.deleteAt) = true) (h9 : (s_ref03_Same p0.labels p1.labels) = true) (h10 : (s_ref03_SameStrings p0.finalizers p1.finalizers) = true) (h11 : (((List.length p0.owners) : Int) == ((List.length p1.owners) : Int)) = true) (h12 : (((List.length p0.managers) : Int) == ((List.length p1.managers) : Int)) = true) (z13 : Nat → PV) (zo13 : Nat → List PV) (hl13 : Tells G (E_ref19_SameMeta_b0 p0 p1 0) (.st (.exit 0) (S_ref19_SameMeta_b0_0 p0 p1 z13 zo13))) (z14 : Nat → PV) (zo14 : Nat → List PV) (hl14 : Tells G (E_ref19_SameMeta_b1 p0 p1 0) (.st .ret (S_ref19_SameMeta_b1_1 p0 p1 z14 zo14))) : Tells G (c_ref19_SameMeta p0 p1) (.ret (.bool false) []) :=
  tells_V (fn := Ir.ref19_SameMeta) rfl VOK.nil (hs := [(7, (bE false, [])), (5, (bE false, [])), (6, (bE false, [])), (6, (bE false, [])), (6, (bE false, [])), (6, (bE false, [])), (6, (bE false, [])), (6, (bE false, [])), (6, (bE false, [])), (18, (vE (.int .i64 ((List.length p0.owners) : Int)), [])), (2, (vE (.int .i64 ((List.length p1.owners) : Int)), [])), (0, (bE false, [])), (4, (vE (.int .i64 ((List.length p0.managers) : Int)), [])), (2, (vE (.int .i64 ((List.length p1.managers) : Int)), [])), (0, (bE false, []))]) (as := [⟨.ret (.bool true) [], []⟩, ⟨.ret (.bool true) [], []⟩, ⟨.st (.exit 0) (S_ref19_SameMeta_b0_0 p0 p1 z13 zo13), []⟩, ⟨.st .ret (S_ref19_SameMeta_b1_1 p0 p1 z14 zo14), []⟩]) (Met.cons (dec (!(sEq p0.kind p1.kind)) false (by rw [h0]; rfl)) (Met.cons (dec (!(sEq p0.namespace_ p1.namespace_)) false (by rw [h1]; rfl)) (Met.cons (dec (!(sEq p0.name p1.name)) false (by rw [h2]; rfl)) (Met.cons (dec (!(p0.uid == p1.uid)) false (by rw [h3]; rfl)) (Met.cons (dec (!(p0.version == p1.version)) false (by rw [h4]; rfl)) (Met.cons (dec (!(p0.generation == p1.generation)) false (by rw [h5]; rfl)) (Met.cons (dec (!(p0.created == p1.created)) false (by rw [h6]; rfl)) (Met.cons (dec (!(p0.deleting == p1.deleting)) false (by rw [h7]; rfl)) (Met.cons (dec (!(p0.deleteAt == p1.deleteAt)) false (by rw [h8]; rfl)) (Met.cons (len_ok (Owner.rows p0.owners) (List.length p0.owners) (Owner.rowsLen p0.owners)) (Met.cons (len_ok (Owner.rows p1.owners) (List.length p1.owners) (Owner.rowsLen p1.owners)) (Met.cons (dec (!(((List.length p0.owners) : Int) == ((List.length p1.owners) : Int))) false (by rw [h11]; rfl)) (Met.cons (len_ok (Manager.rows p0.managers) (List.length p0.managers) (Manager.rowsLen p0.managers)) (Met.cons (len_ok (Manager.rows p1.managers) (List.length p1.managers) (Manager.rowsLen p1.managers)) (Met.cons (dec (!(((List.length p0.managers) : Int) == ((List.length p1.managers) : Int))) false (by rw [h12]; rfl)) Met.nil))))))))))))))) (Told.cons (toldOf (t_ref03_Same p0.labels p1.labels H.1) (congrArg (fun b => Rs.ret (.bool b) []) h9)) (Told.cons (toldOf (t_ref03_SameStrings p0.finalizers p1.finalizers H.2.1) (congrArg (fun b => Rs.ret (.bool b) []) h10)) (Told.cons hl13 (Told.cons hl14 Told.nil)))) (by kernel_rfl)
theorem t_ref19_SameMeta_2 (p0 : Meta) (p1 : Meta) (H : H_ref19_SameMeta p0 p1) (h0 : (sEq p0.kind p1.kind) = true) (h1 : (sEq p0.namespace_ p1.namespace_) = true) (h2 : (sEq p0.name p1.name) = true) (h3 : (p0.uid == p1.uid) = true) (h4 : (p0.version == p1.version) = true) (h5 : (p0.generation == p1.generation) = true) (h6 : (p0.created == p1.created) = true) (h7 : (p0.deleting == p1.deleting) = true) (h8 : (p0.deleteAt == p1.deleteAt) = true) (h9 : (s_ref03_Same p0.labels p1.labels) = true) (h10 : (s_ref03_SameStrings p0.finalizers p1.finalizers) = true) (h11 : (((List.length p0.owners) : Int) == ((List.length p1.owners) : Int)) = true) (h12 : (((List.length p0.managers) : Int) == ((List.length p1.managers) : Int)) = true) (z13 : Nat → PV) (zo13 : Nat → List PV) (hl13 : Tells G (E_ref19_SameMeta_b0 p0 p1 0) (.st .ret (S_ref19_SameMeta_b0_1 p0 p1 z13 zo13))) : Tells G (c_ref19_SameMeta p0 p1) (.ret (.bool false) []) :=
  tells_V (fn := Ir.ref19_SameMeta) rfl VOK.nil (hs := [(7, (bE false, [])), (5, (bE false, [])), (6, (bE false, [])), (6, (bE false, [])), (6, (bE false, [])), (6, (bE false, [])), (6, (bE false, [])), (6, (bE false, [])), (6, (bE false, [])), (18, (vE (.int .i64 ((List.length p0.owners) : Int)), [])), (2, (vE (.int .i64 ((List.length p1.owners) : Int)), [])), (0, (bE false, [])), (4, (vE (.int .i64 ((List.length p0.managers) : Int)), [])), (2, (vE (.int .i64 ((List.length p1.managers) : Int)), [])), (0, (bE false, []))]) (as := [⟨.ret (.bool true) [], []⟩, ⟨.ret (.bool true) [], []⟩, ⟨.st .ret (S_ref19_SameMeta_b0_1 p0 p1 z13 zo13), []⟩]) (Met.cons (dec (!(sEq p0.kind p1.kind)) false (by rw [h0]; rfl)) (Met.cons (dec (!(sEq p0.namespace_ p1.namespace_)) false (by rw [h1]; rfl)) (Met.cons (dec (!(sEq p0.name p1.name)) false (by rw [h2]; rfl)) (Met.cons (dec (!(p0.uid == p1.uid)) false (by rw [h3]; rfl)) (Met.cons (dec (!(p0.version == p1.version)) false (by rw [h4]; rfl)) (Met.cons (dec (!(p0.generation == p1.generation)) false (by rw [h5]; rfl)) (Met.cons (dec (!(p0.created == p1.created)) false (by rw [h6]; rfl)) (Met.cons (dec (!(p0.deleting == p1.deleting)) false (by rw [h7]; rfl)) (Met.cons (dec (!(p0.deleteAt == p1.deleteAt)) false (by rw [h8]; rfl)) (Met.cons (len_ok (Owner.rows p0.owners) (List.length p0.owners) (Owner.rowsLen p0.owners)) (Met.cons (len_ok (Owner.rows p1.owners) (List.length p1.owners) (Owner.rowsLen p1.owners)) (Met.cons (dec (!(((List.length p0.owners) : Int) == ((List.length p1.owners) : Int))) false (by rw [h11]; rfl)) (Met.cons (len_ok (Manager.rows p0.managers) (List.length p0.managers) (Manager.rowsLen p0.managers)) (Met.cons (len_ok (Manager.rows p1.managers) (List.length p1.managers) (Manager.rowsLen p1.managers)) (Met.cons (dec (!(((List.length p0.managers) : Int) == ((List.length p1.managers) : Int))) false (by rw [h12]; rfl)) Met.nil))))))))))))))) (Told.cons (toldOf (t_ref03_Same p0.labels p1.labels H.1) (congrArg (fun b => Rs.ret (.bool b) []) h9)) (Told.cons (toldOf (t_ref03_SameStrings p0.finalizers p1.finalizers H.2.1) (congrArg (fun b => Rs.ret (.bool b) []) h10)) (Told.cons hl13 Told.nil))) (by kernel_rfl)
theorem t_ref19_SameMeta_3 (p0 : Meta) (p1 : Meta) (H : H_ref19_SameMeta p0 p1) (h0 : (sEq p0.kind p1.kind) = true) (h1 : (sEq p0.namespace_ p1.namespace_) = true) (h2 : (sEq p0.name p1.name) = true) (h3 : (p0.uid == p1.uid) = true) (h4 : (p0.version == p1.version) = true) (h5 : (p0.generation == p1.generation) = true) (h6 : (p0.created == p1.created) = true) (h7 : (p0.deleting == p1.deleting) = true) (h8 : (p0.deleteAt == p1.deleteAt) = true) (h9 : (s_ref03_Same p0.labels p1.labels) = true) (h10 : (s_ref03_SameStrings p0.finalizers p1.finalizers) = true) (h11 : (((List.length p0.owners) : Int) == ((List.length p1.owners) : Int)) = true) (h12 : (((List.length p0.managers) : Int) == ((List.length p1.managers) : Int)) = false) : Tells G (c_ref19_SameMeta p0 p1) (.ret (.bool false) []) :=
  tells_V (fn := Ir.ref19_SameMeta) rfl VOK.nil (hs := [(7, (bE false, [])), (5, (bE false, [])), (6, (bE false, [])), (6, (bE false, [])), (6, (bE false, [])), (6, (bE false, [])), (6, (bE false, [])), (6, (bE false, [])), (6, (bE false, [])), (18, (vE (.int .i64 ((List.length p0.owners) : Int)), [])), (2, (vE (.int .i64 ((List.length p1.owners) : Int)), [])), (0, (bE false, [])), (4, (vE (.int .i64 ((List.length p0.managers) : Int)), [])), (2, (vE (.int .i64 ((List.length p1.managers) : Int)), [])), (0, (bE true, []))]) (as := [⟨.ret (.bool true) [], []⟩, ⟨.ret (.bool true) [], []⟩]) (Met.cons (dec (!(sEq p0.kind p1.kind)) false (by rw [h0]; rfl)) (Met.cons (dec (!(sEq p0.namespace_ p1.namespace_)) false (by rw [h1]; rfl)) (Met.cons (dec (!(sEq p0.name p1.name)) false (by rw [h2]; rfl)) (Met.cons (dec (!(p0.uid == p1.uid)) false (by rw [h3]; rfl)) (Met.cons (dec (!(p0.version == p1.version)) false (by rw [h4]; rfl)) (Met.cons (dec (!(p0.generation == p1.generation)) false (by rw [h5]; rfl)) (Met.cons (dec (!(p0.created == p1.created)) false (by rw [h6]; rfl)) (Met.cons (dec (!(p0.deleting == p1.deleting)) false (by rw [h7]; rfl)) (Met.cons (dec (!(p0.deleteAt == p1.deleteAt)) false (by rw [h8]; rfl)) (Met.cons (len_ok (Owner.rows p0.owners) (List.length p0.owners) (Owner.rowsLen p0.owners)) (Met.cons (len_ok (Owner.rows p1.owners) (List.length p1.owners) (Owner.rowsLen p1.owners)) (Met.cons (dec (!(((List.length p0.owners) : Int) == ((List.length p1.owners) : Int))) false (by rw [h11]; rfl)) (Met.cons (len_ok (Manager.rows p0.managers) (List.length p0.managers) (Manager.rowsLen p0.managers)) (Met.cons (len_ok (Manager.rows p1.managers) (List.length p1.managers) (Manager.rowsLen p1.managers)) (Met.cons (dec (!(((List.length p0.managers) : Int) == ((List.length p1.managers) : Int))) true (by rw [h12]; rfl)) Met.nil))))))))))))))) (Told.cons (toldOf (t_ref03_Same p0.labels p1.labels H.1) (congrArg (fun b => Rs.ret (.bool b) []) h9)) (Told.cons (toldOf (t_ref03_SameStrings p0.finalizers p1.finalizers H.2.1) (congrArg (fun b => Rs.ret (.bool b) []) h10)) Told.nil)) (by kernel_rfl)
theorem t_ref19_SameMeta_4 (p0 : Meta) (p1 : Meta) (H : H_ref19_SameMeta p0 p1) (h0 : (sEq p0.kind p1.kind) = true) (h1 : (sEq p0.namespace_ p1.namespace_) = true) (h2 : (sEq p0.name p1.name) = true) (h3 : (p0.uid == p1.uid) = true) (h4 : (p0.version == p1.version) = true) (h5 : (p0.generation == p1.generation) = true) (h6 : (p0.created == p1.created) = true) (h7 : (p0.deleting == p1.deleting) = true) (h8 : (p0.deleteAt == p1.deleteAt) = true) (h9 : (s_ref03_Same p0.labels p1.labels) = true) (h10 : (s_ref03_SameStrings p0.finalizers p1.finalizers) = true) (h11 : (((List.length p0.owners) : Int) == ((List.length p1.owners) : Int)) = false) : Tells G (c_ref19_SameMeta p0 p1) (.ret (.bool false) []) :=
  tells_V (fn := Ir.ref19_SameMeta) rfl VOK.nil (hs := [(7, (bE false, [])), (5, (bE false, [])), (6, (bE false, [])), (6, (bE false, [])), (6, (bE false, [])), (6, (bE false, [])), (6, (bE false, [])), (6, (bE false, [])), (6, (bE false, [])), (18, (vE (.int .i64 ((List.length p0.owners) : Int)), [])), (2, (vE (.int .i64 ((List.length p1.owners) : Int)), [])), (0, (bE true, []))]) (as := [⟨.ret (.bool true) [], []⟩, ⟨.ret (.bool true) [], []⟩]) (Met.cons (dec (!(sEq p0.kind p1.kind)) false (by rw [h0]; rfl)) (Met.cons (dec (!(sEq p0.namespace_ p1.namespace_)) false (by rw [h1]; rfl)) (Met.cons (dec (!(sEq p0.name p1.name)) false (by rw [h2]; rfl)) (Met.cons (dec (!(p0.uid == p1.uid)) false (by rw [h3]; rfl)) (Met.cons (dec (!(p0.version == p1.version)) false (by rw [h4]; rfl)) (Met.cons (dec (!(p0.generation == p1.generation)) false (by rw [h5]; rfl)) (Met.cons (dec (!(p0.created == p1.created)) false (by rw [h6]; rfl)) (Met.cons (dec (!(p0.deleting == p1.deleting)) false (by rw [h7]; rfl)) (Met.cons (dec (!(p0.deleteAt == p1.deleteAt)) false (by rw [h8]; rfl)) (Met.cons (len_ok (Owner.rows p0.owners) (List.length p0.owners) (Owner.rowsLen p0.owners)) (Met.cons (len_ok (Owner.rows p1.owners) (List.length p1.owners) (Owner.rowsLen p1.owners)) (Met.cons (dec (!(((List.length p0.owners) : Int) == ((List.length p1.owners) : Int))) true (by rw [h11]; rfl)) Met.nil)))))))))))) (Told.cons (toldOf (t_ref03_Same p0.labels p1.labels H.1) (congrArg (fun b => Rs.ret (.bool b) []) h9)) (Told.cons (toldOf (t_ref03_SameStrings p0.finalizers p1.finalizers H.2.1) (congrArg (fun b => Rs.ret (.bool b) []) h10)) Told.nil)) (by kernel_rfl)
theorem t_ref19_SameMeta_5 (p0 : Meta) (p1 : Meta) (H : H_ref19_SameMeta p0 p1) (h0 : (sEq p0.kind p1.kind) = true) (h1 : (sEq p0.namespace_ p1.namespace_) = true) (h2 : (sEq p0.name p1.name) = true) (h3 : (p0.uid == p1.uid) = true) (h4 : (p0.version == p1.version) = true) (h5 : (p0.generation == p1.generation) = true) (h6 : (p0.created == p1.created) = true) (h7 : (p0.deleting == p1.deleting) = true) (h8 : (p0.deleteAt == p1.deleteAt) = true) (h9 : (s_ref03_Same p0.labels p1.labels) = true) (h10 : (s_ref03_SameStrings p0.finalizers p1.finalizers) = false) : Tells G (c_ref19_SameMeta p0 p1) (.ret (.bool false) []) :=
  tells_V (fn := Ir.ref19_SameMeta) rfl VOK.nil (hs := [(7, (bE false, [])), (5, (bE false, [])), (6, (bE false, [])), (6, (bE false, [])), (6, (bE false, [])), (6, (bE false, [])), (6, (bE false, [])), (6, (bE false, [])), (6, (bE false, []))]) (as := [⟨.ret (.bool true) [], []⟩, ⟨.ret (.bool false) [], []⟩]) (Met.cons (dec (!(sEq p0.kind p1.kind)) false (by rw [h0]; rfl)) (Met.cons (dec (!(sEq p0.namespace_ p1.namespace_)) false (by rw [h1]; rfl)) (Met.cons (dec (!(sEq p0.name p1.name)) false (by rw [h2]; rfl)) (Met.cons (dec (!(p0.uid == p1.uid)) false (by rw [h3]; rfl)) (Met.cons (dec (!(p0.version == p1.version)) false (by rw [h4]; rfl)) (Met.cons (dec (!(p0.generation == p1.generation)) false (by rw [h5]; rfl)) (Met.cons (dec (!(p0.created == p1.created)) false (by rw [h6]; rfl)) (Met.cons (dec (!(p0.deleting == p1.deleting)) false (by rw [h7]; rfl)) (Met.cons (dec (!(p0.deleteAt == p1.deleteAt)) false (by rw [h8]; rfl)) Met.nil))))))))) (Told.cons (toldOf (t_ref03_Same p0.labels p1.labels H.1) (congrArg (fun b => Rs.ret (.bool b) []) h9)) (Told.cons (toldOf (t_ref03_SameStrings p0.finalizers p1.finalizers H.2.1) (congrArg (fun b => Rs.ret (.bool b) []) h10)) Told.nil)) (by kernel_rfl)
theorem t_ref19_SameMeta_6 (p0 : Meta) (p1 : Meta) (H : H_ref19_SameMeta p0 p1) (h0 : (sEq p0.kind p1.kind) = true) (h1 : (sEq p0.namespace_ p1.namespace_) = true) (h2 : (sEq p0.name p1.name) = true) (h3 : (p0.uid == p1.uid) = true) (h4 : (p0.version == p1.version) = true) (h5 : (p0.generation == p1.generation) = true) (h6 : (p0.created == p1.created) = true) (h7 : (p0.deleting == p1.deleting) = true) (h8 : (p0.deleteAt == p1.deleteAt) = true) (h9 : (s_ref03_Same p0.labels p1.labels) = false) : Tells G (c_ref19_SameMeta p0 p1) (.ret (.bool false) []) :=
  tells_V (fn := Ir.ref19_SameMeta) rfl VOK.nil (hs := [(7, (bE false, [])), (5, (bE false, [])), (6, (bE false, [])), (6, (bE false, [])), (6, (bE false, [])), (6, (bE false, [])), (6, (bE false, [])), (6, (bE false, [])), (6, (bE false, []))]) (as := [⟨.ret (.bool false) [], []⟩]) (Met.cons (dec (!(sEq p0.kind p1.kind)) false (by rw [h0]; rfl)) (Met.cons (dec (!(sEq p0.namespace_ p1.namespace_)) false (by rw [h1]; rfl)) (Met.cons (dec (!(sEq p0.name p1.name)) false (by rw [h2]; rfl)) (Met.cons (dec (!(p0.uid == p1.uid)) false (by rw [h3]; rfl)) (Met.cons (dec (!(p0.version == p1.version)) false (by rw [h4]; rfl)) (Met.cons (dec (!(p0.generation == p1.generation)) false (by rw [h5]; rfl)) (Met.cons (dec (!(p0.created == p1.created)) false (by rw [h6]; rfl)) (Met.cons (dec (!(p0.deleting == p1.deleting)) false (by rw [h7]; rfl)) (Met.cons (dec (!(p0.deleteAt == p1.deleteAt)) false (by rw [h8]; rfl)) Met.nil))))))))) (Told.cons (toldOf (t_ref03_Same p0.labels p1.labels H.1) (congrArg (fun b => Rs.ret (.bool b) []) h9)) Told.nil) (by kernel_rfl)
theorem t_ref19_SameMeta_7 (p0 : Meta) (p1 : Meta) (_H : H_ref19_SameMeta p0 p1) (h0 : (sEq p0.kind p1.kind) = true) (h1 : (sEq p0.namespace_ p1.namespace_) = true) (h2 : (sEq p0.name p1.name) = true) (h3 : (p0.uid == p1.uid) = true) (h4 : (p0.version == p1.version) = true) (h5 : (p0.generation == p1.generation) = true) (h6 : (p0.created == p1.created) = true) (h7 : (p0.deleting == p1.deleting) = true) (h8 : (p0.deleteAt == p1.deleteAt) = false) : Tells G (c_ref19_SameMeta p0 p1) (.ret (.bool false) []) :=
  tells_V (fn := Ir.ref19_SameMeta) rfl VOK.nil (hs := [(7, (bE false, [])), (5, (bE false, [])), (6, (bE false, [])), (6, (bE false, [])), (6, (bE false, [])), (6, (bE false, [])), (6, (bE false, [])), (6, (bE false, [])), (6, (bE true, []))]) (as := []) (Met.cons (dec (!(sEq p0.kind p1.kind)) false (by rw [h0]; rfl)) (Met.cons (dec (!(sEq p0.namespace_ p1.namespace_)) false (by rw [h1]; rfl)) (Met.cons (dec (!(sEq p0.name p1.name)) false (by rw [h2]; rfl)) (Met.cons (dec (!(p0.uid == p1.uid)) false (by rw [h3]; rfl)) (Met.cons (dec (!(p0.version == p1.version)) false (by rw [h4]; rfl)) (Met.cons (dec (!(p0.generation == p1.generation)) false (by rw [h5]; rfl)) (Met.cons (dec (!(p0.created == p1.created)) false (by rw [h6]; rfl)) (Met.cons (dec (!(p0.deleting == p1.deleting)) false (by rw [h7]; rfl)) (Met.cons (dec (!(p0.deleteAt == p1.deleteAt)) true (by rw [h8]; rfl)) Met.nil))))))))) Told.nil (by kernel_rfl)
theorem t_ref19_SameMeta_8 (p0 : Meta) (p1 : Meta) (_H : H_ref19_SameMeta p0 p1) (h0 : (sEq p0.kind p1.kind) = true) (h1 : (sEq p0.namespace_ p1.namespace_) = true) (h2 : (sEq p0.name p1.name) = true) (h3 : (p0.uid == p1.uid) = true) (h4 : (p0.version == p1.version) = true) (h5 : (p0.generation == p1.generation) = true) (h6 : (p0.created == p1.created) = true) (h7 : (p0.deleting == p1.deleting) = false) : Tells G (c_ref19_SameMeta p0 p1) (.ret (.bool false) []) :=
  tells_V (fn := Ir.ref19_SameMeta) rfl VOK.nil (hs := [(7, (bE false, [])), (5, (bE false, [])), (6, (bE false, [])), (6, (bE false, [])), (6, (bE false, [])), (6, (bE false, [])), (6, (bE false, [])), (6, (bE true, []))]) (as := []) (Met.cons (dec (!(sEq p0.kind p1.kind)) false (by rw [h0]; rfl)) (Met.cons (dec (!(sEq p0.namespace_ p1.namespace_)) false (by rw [h1]; rfl)) (Met.cons (dec (!(sEq p0.name p1.name)) false (by rw [h2]; rfl)) (Met.cons (dec (!(p0.uid == p1.uid)) false (by rw [h3]; rfl)) (Met.cons (dec (!(p0.version == p1.version)) false (by rw [h4]; rfl)) (Met.cons (dec (!(p0.generation == p1.generation)) false (by rw [h5]; rfl)) (Met.cons (dec (!(p0.created == p1.created)) false (by rw [h6]; rfl)) (Met.cons (dec (!(p0.deleting == p1.deleting)) true (by rw [h7]; rfl)) Met.nil)))))))) Told.nil (by kernel_rfl)
theorem t_ref19_SameMeta_9 (p0 : Meta) (p1 : Meta) (_H : H_ref19_SameMeta p0 p1) (h0 : (sEq p0.kind p1.kind) = true) (h1 : (sEq p0.namespace_ p1.namespace_) = true) (h2 : (sEq p0.name p1.name) = true) (h3 : (p0.uid == p1.uid) = true) (h4 : (p0.version == p1.version) = true) (h5 : (p0.generation == p1.generation) = true) (h6 : (p0.created == p1.created) = false) : Tells G (c_ref19_SameMeta p0 p1) (.ret (.bool false) []) :=
  tells_V (fn := Ir.ref19_SameMeta) rfl VOK.nil (hs := [(7, (bE false, [])), (5, (bE false, [])), (6, (bE false, [])), (6, (bE false, [])), (6, (bE false, [])), (6, (bE false, [])), (6, (bE true, []))]) (as := []) (Met.cons (dec (!(sEq p0.kind p1.kind)) false (by rw [h0]; rfl)) (Met.cons (dec (!(sEq p0.namespace_ p1.namespace_)) false (by rw [h1]; rfl)) (Met.cons (dec (!(sEq p0.name p1.name)) false (by rw [h2]; rfl)) (Met.cons (dec (!(p0.uid == p1.uid)) false (by rw [h3]; rfl)) (Met.cons (dec (!(p0.version == p1.version)) false (by rw [h4]; rfl)) (Met.cons (dec (!(p0.generation == p1.generation)) false (by rw [h5]; rfl)) (Met.cons (dec (!(p0.created == p1.created)) true (by rw [h6]; rfl)) Met.nil))))))) Told.nil (by kernel_rfl)
theorem t_ref19_SameMeta_10 (p0 : Meta) (p1 : Meta) (_H : H_ref19_SameMeta p0 p1) (h0 : (sEq p0.kind p1.kind) = true) (h1 : (sEq p0.namespace_ p1.namespace_) = true) (h2 : (sEq p0.name p1.name) = true) (h3 : (p0.uid == p1.uid) = true) (h4 : (p0.version == p1.version) = true) (h5 : (p0.generation == p1.generation) = false) : Tells G (c_ref19_SameMeta p0 p1) (.ret (.bool false) []) :=
  tells_V (fn := Ir.ref19_SameMeta) rfl VOK.nil (hs := [(7, (bE false, [])), (5, (bE false, [])), (6, (bE false, [])), (6, (bE false, [])), (6, (bE false, [])), (6, (bE true, []))]) (as := []) (Met.cons (dec (!(sEq p0.kind p1.kind)) false (by rw [h0]; rfl)) (Met.cons (dec (!(sEq p0.namespace_ p1.namespace_)) false (by rw [h1]; rfl)) (Met.cons (dec (!(sEq p0.name p1.name)) false (by rw [h2]; rfl)) (Met.cons (dec (!(p0.uid == p1.uid)) false (by rw [h3]; rfl)) (Met.cons (dec (!(p0.version == p1.version)) false (by rw [h4]; rfl)) (Met.cons (dec (!(p0.generation == p1.generation)) true (by rw [h5]; rfl)) Met.nil)))))) Told.nil (by kernel_rfl)
theorem t_ref19_SameMeta_11 (p0 : Meta) (p1 : Meta) (_H : H_ref19_SameMeta p0 p1) (h0 : (sEq p0.kind p1.kind) = true) (h1 : (sEq p0.namespace_ p1.namespace_) = true) (h2 : (sEq p0.name p1.name) = true) (h3 : (p0.uid == p1.uid) = true) (h4 : (p0.version == p1.version) = false) : Tells G (c_ref19_SameMeta p0 p1) (.ret (.bool false) []) :=
  tells_V (fn := Ir.ref19_SameMeta) rfl VOK.nil (hs := [(7, (bE false, [])), (5, (bE false, [])), (6, (bE false, [])), (6, (bE false, [])), (6, (bE true, []))]) (as := []) (Met.cons (dec (!(sEq p0.kind p1.kind)) false (by rw [h0]; rfl)) (Met.cons (dec (!(sEq p0.namespace_ p1.namespace_)) false (by rw [h1]; rfl)) (Met.cons (dec (!(sEq p0.name p1.name)) false (by rw [h2]; rfl)) (Met.cons (dec (!(p0.uid == p1.uid)) false (by rw [h3]; rfl)) (Met.cons (dec (!(p0.version == p1.version)) true (by rw [h4]; rfl)) Met.nil))))) Told.nil (by kernel_rfl)
theorem t_ref19_SameMeta_12 (p0 : Meta) (p1 : Meta) (_H : H_ref19_SameMeta p0 p1) (h0 : (sEq p0.kind p1.kind) = true) (h1 : (sEq p0.namespace_ p1.namespace_) = true) (h2 : (sEq p0.name p1.name) = true) (h3 : (p0.uid == p1.uid) = false) : Tells G (c_ref19_SameMeta p0 p1) (.ret (.bool false) []) :=
  tells_V (fn := Ir.ref19_SameMeta) rfl VOK.nil (hs := [(7, (bE false, [])), (5, (bE false, [])), (6, (bE false, [])), (6, (bE true, []))]) (as := []) (Met.cons (dec (!(sEq p0.kind p1.kind)) false (by rw [h0]; rfl)) (Met.cons (dec (!(sEq p0.namespace_ p1.namespace_)) false (by rw [h1]; rfl)) (Met.cons (dec (!(sEq p0.name p1.name)) false (by rw [h2]; rfl)) (Met.cons (dec (!(p0.uid == p1.uid)) true (by rw [h3]; rfl)) Met.nil)))) Told.nil (by kernel_rfl)
theorem t_ref19_SameMeta_13 (p0 : Meta) (p1 : Meta) (_H : H_ref19_SameMeta p0 p1) (h0 : (sEq p0.kind p1.kind) = true) (h1 : (sEq p0.namespace_ p1.namespace_) = true) (h2 : (sEq p0.name p1.name) = false) : Tells G (c_ref19_SameMeta p0 p1) (.ret (.bool false) []) :=
  tells_V (fn := Ir.ref19_SameMeta) rfl VOK.nil (hs := [(7, (bE false, [])), (5, (bE false, [])), (6, (bE true, []))]) (as := []) (Met.cons (dec (!(sEq p0.kind p1.kind)) false (by rw [h0]; rfl)) (Met.cons (dec (!(sEq p0.namespace_ p1.namespace_)) false (by rw [h1]; rfl)) (Met.cons (dec (!(sEq p0.name p1.name)) true (by rw [h2]; rfl)) Met.nil))) Told.nil (by kernel_rfl)
theorem t_ref19_SameMeta_14 (p0 : Meta) (p1 : Meta) (_H : H_ref19_SameMeta p0 p1) (h0 : (sEq p0.kind p1.kind) = true) (h1 : (sEq p0.namespace_ p1.namespace_) = false) : Tells G (c_ref19_SameMeta p0 p1) (.ret (.bool false) []) :=
  tells_V (fn := Ir.ref19_SameMeta) rfl VOK.nil (hs := [(7, (bE false, [])), (5, (bE true, []))]) (as := []) (Met.cons (dec (!(sEq p0.kind p1.kind)) false (by rw [h0]; rfl)) (Met.cons (dec (!(sEq p0.namespace_ p1.namespace_)) true (by rw [h1]; rfl)) Met.nil)) Told.nil (by kernel_rfl)
theorem t_ref19_SameMeta_15 (p0 : Meta) (p1 : Meta) (_H : H_ref19_SameMeta p0 p1) (h0 : (sEq p0.kind p1.kind) = false) : Tells G (c_ref19_SameMeta p0 p1) (.ret (.bool false) []) :=
  tells_V (fn := Ir.ref19_SameMeta) rfl VOK.nil (hs := [(7, (bE true, []))]) (as := []) (Met.cons (dec (!(sEq p0.kind p1.kind)) true (by rw [h0]; rfl)) Met.nil) Told.nil (by kernel_rfl)
theorem t_ref19_SameMeta (p0 : Meta) (p1 : Meta) (H : H_ref19_SameMeta p0 p1) : Tells G (c_ref19_SameMeta p0 p1) (a_ref19_SameMeta p0 p1) := by
  unfold a_ref19_SameMeta s_ref19_SameMeta
  cases h0 : (sEq p0.kind p1.kind) with
  | true =>
    cases h1 : (sEq p0.namespace_ p1.namespace_) with
    | true =>
      cases h2 : (sEq p0.name p1.name) with
      | true =>
        cases h3 : (p0.uid == p1.uid) with
        | true =>
          cases h4 : (p0.version == p1.version) with
          | true =>
            cases h5 : (p0.generation == p1.generation) with
            | true =>
              cases h6 : (p0.created == p1.created) with
              | true =>
                cases h7 : (p0.deleting == p1.deleting) with
                | true =>
                  cases h8 : (p0.deleteAt == p1.deleteAt) with
                  | true =>
                    cases h9 : (s_ref03_Same p0.labels p1.labels) with
                    | true =>
                      cases h10 : (s_ref03_SameStrings p0.finalizers p1.finalizers) with
                      | true =>
                        cases h11 : (((List.length p0.owners) : Int) == ((List.length p1.owners) : Int)) with
                        | true =>
                          cases h12 : (((List.length p0.managers) : Int) == ((List.length p1.managers) : Int)) with
                          | true =>
                            have hl13 := lt_ref19_SameMeta_b0 p0 p1 (H.2.2.1 h11 h12) p0.owners 0 (by simp)
                            cases hr13 : (l_ref19_SameMeta_b0 p0 p1 p0.owners 0) with
                            | k0 =>
                              rw [hr13] at hl13
                              obtain ⟨z13, zo13, hl13⟩ := hl13
                              have hl14 := lt_ref19_SameMeta_b1 p0 p1 (H.2.2.2.1 h11 h12) p0.managers 0 (by simp)
                              cases hr14 : (l_ref19_SameMeta_b1 p0 p1 p0.managers 0) with
                              | k0 =>
                                rw [hr14] at hl14
                                obtain ⟨z14, zo14, hl14⟩ := hl14
                                exact t_ref19_SameMeta_0 p0 p1 H h0 h1 h2 h3 h4 h5 h6 h7 h8 h9 h10 h11 h12 z13 zo13 hl13 z14 zo14 hl14
                              | k1 =>
                                rw [hr14] at hl14
                                obtain ⟨z14, zo14, hl14⟩ := hl14
                                exact t_ref19_SameMeta_1 p0 p1 H h0 h1 h2 h3 h4 h5 h6 h7 h8 h9 h10 h11 h12 z13 zo13 hl13 z14 zo14 hl14
                            | k1 =>
                              rw [hr13] at hl13
                              obtain ⟨z13, zo13, hl13⟩ := hl13
                              exact t_ref19_SameMeta_2 p0 p1 H h0 h1 h2 h3 h4 h5 h6 h7 h8 h9 h10 h11 h12 z13 zo13 hl13
                          | false =>
                            exact t_ref19_SameMeta_3 p0 p1 H h0 h1 h2 h3 h4 h5 h6 h7 h8 h9 h10 h11 h12
                        | false =>
                          exact t_ref19_SameMeta_4 p0 p1 H h0 h1 h2 h3 h4 h5 h6 h7 h8 h9 h10 h11
                      | false =>
                        exact t_ref19_SameMeta_5 p0 p1 H h0 h1 h2 h3 h4 h5 h6 h7 h8 h9 h10
                    | false =>
                      exact t_ref19_SameMeta_6 p0 p1 H h0 h1 h2 h3 h4 h5 h6 h7 h8 h9
                  | false =>
                    exact t_ref19_SameMeta_7 p0 p1 H h0 h1 h2 h3 h4 h5 h6 h7 h8
                | false =>
                  exact t_ref19_SameMeta_8 p0 p1 H h0 h1 h2 h3 h4 h5 h6 h7
              | false =>
                exact t_ref19_SameMeta_9 p0 p1 H h0 h1 h2 h3 h4 h5 h6
            | false =>
              exact t_ref19_SameMeta_10 p0 p1 H h0 h1 h2 h3 h4 h5
          | false =>
            exact t_ref19_SameMeta_11 p0 p1 H h0 h1 h2 h3 h4
        | false =>
          exact t_ref19_SameMeta_12 p0 p1 H h0 h1 h2 h3
      | false =>
        exact t_ref19_SameMeta_13 p0 p1 H h0 h1 h2
    | false =>
      exact t_ref19_SameMeta_14 p0 p1 H h0 h1
  | false =>
    exact t_ref19_SameMeta_15 p0 p1 H h0

/-- orchestrator/ orchestratorlaw22.QuotaSays -/
def s_law22_QuotaSays (p0 : Quota) (p1 : List Pod) (p2 : Pod) : Bool :=
  bif (s_law22_Small p1) then
    bif (s_law19_SmallPod p2) then
      bif (s_law19_SmallMeta p0.meta_) then
        bif (((s_quota_Usage p1).1.cPU == (s_ref22_Usage p1).1.cPU) && (((s_quota_Usage p1).1.memory == (s_ref22_Usage p1).1.memory) && (((s_quota_Usage p1).1.disk == (s_ref22_Usage p1).1.disk) && true))) then
          bif ((s_quota_Usage p1).2 == (s_ref22_Usage p1).2) then
            bif ((s_quota_Admit p0 p1 p2) == (s_ref22_Admit p0 p1 p2)) then
              bif (s_ref19_SameMeta (s_quota_Status p0 p1).meta_ (s_ref22_Status p0 p1).meta_) then
                bif (((s_quota_Status p0 p1).hard.cPU == (s_ref22_Status p0 p1).hard.cPU) && (((s_quota_Status p0 p1).hard.memory == (s_ref22_Status p0 p1).hard.memory) && (((s_quota_Status p0 p1).hard.disk == (s_ref22_Status p0 p1).hard.disk) && true))) then
                  bif (((s_quota_Status p0 p1).used.cPU == (s_ref22_Status p0 p1).used.cPU) && (((s_quota_Status p0 p1).used.memory == (s_ref22_Status p0 p1).used.memory) && (((s_quota_Status p0 p1).used.disk == (s_ref22_Status p0 p1).used.disk) && true))) then
                    bif ((s_quota_Status p0 p1).pods == (s_ref22_Status p0 p1).pods) then
                      bif ((s_quota_Status p0 p1).has == (s_ref22_Status p0 p1).has) then
                        true
                      else
                        false
                    else
                      false
                  else
                    false
                else
                  false
              else
                false
            else
              false
          else
            false
        else
          false
      else
        true
    else
      true
  else
    true
def c_law22_QuotaSays (p0 : Quota) (p1 : List Pod) (p2 : Pod) : En := .call 8 [.agg (Quota.cells p0), .sl (Pod.rows p1), .agg (Pod.cells p2)] []
def a_law22_QuotaSays (p0 : Quota) (p1 : List Pod) (p2 : Pod) : Rs := .ret (.bool (s_law22_QuotaSays p0 p1 p2)) []
def H_law22_QuotaSays (p0 : Quota) (p1 : List Pod) (p2 : Pod) : Prop := (H_law22_Small p1) ∧ (H_law19_SmallPod p2) ∧ (H_law19_SmallMeta p0.meta_) ∧ (H_quota_Usage p1) ∧ (H_ref22_Usage p1) ∧ (H_quota_Status p0 p1) ∧ (H_ref22_Status p0 p1) ∧ (H_quota_Admit p0 p1 p2) ∧ (H_ref22_Admit p0 p1 p2) ∧ (H_ref19_SameMeta (s_quota_Status p0 p1).meta_ (s_ref22_Status p0 p1).meta_) ∧ True
theorem t_law22_QuotaSays_0 (p0 : Quota) (p1 : List Pod) (p2 : Pod) (H : H_law22_QuotaSays p0 p1 p2) (h0 : (s_law22_Small p1) = true) (h1 : (s_law19_SmallPod p2) = true) (h2 : (s_law19_SmallMeta p0.meta_) = true) (h3 : (((s_quota_Usage p1).1.cPU == (s_ref22_Usage p1).1.cPU) && (((s_quota_Usage p1).1.memory == (s_ref22_Usage p1).1.memory) && (((s_quota_Usage p1).1.disk == (s_ref22_Usage p1).1.disk) && true))) = true) (h4 : ((s_quota_Usage p1).2 == (s_ref22_Usage p1).2) = true) (h5 : ((s_quota_Admit p0 p1 p2) == (s_ref22_Admit p0 p1 p2)) = true) (h6 : (s_ref19_SameMeta (s_quota_Status p0 p1).meta_ (s_ref22_Status p0 p1).meta_) = true) (h7 : (((s_quota_Status p0 p1).hard.cPU == (s_ref22_Status p0 p1).hard.cPU) && (((s_quota_Status p0 p1).hard.memory == (s_ref22_Status p0 p1).hard.memory) && (((s_quota_Status p0 p1).hard.disk == (s_ref22_Status p0 p1).hard.disk) && true))) = true) (h8 : (((s_quota_Status p0 p1).used.cPU == (s_ref22_Status p0 p1).used.cPU) && (((s_quota_Status p0 p1).used.memory == (s_ref22_Status p0 p1).used.memory) && (((s_quota_Status p0 p1).used.disk == (s_ref22_Status p0 p1).used.disk) && true))) = true) (h9 : ((s_quota_Status p0 p1).pods == (s_ref22_Status p0 p1).pods) = true) (h10 : ((s_quota_Status p0 p1).has == (s_ref22_Status p0 p1).has) = true) : Tells G (c_law22_QuotaSays p0 p1 p2) (.ret (.bool true) []) :=
  tells_V (fn := Ir.law22_QuotaSays) rfl VOK.nil (hs := [(45, (bE true, [])), (3, (bE true, [])), (10, (bE true, [])), (13, (bE true, [])), (6, (bE true, [])), (6, (bE true, [])), (6, (bE true, []))]) (as := [⟨.ret (.bool true) [], []⟩, ⟨.ret (.bool true) [], []⟩, ⟨.ret (.bool true) [], []⟩, ⟨a_quota_Usage p1, []⟩, ⟨a_ref22_Usage p1, []⟩, ⟨a_quota_Status p0 p1, []⟩, ⟨a_ref22_Status p0 p1, []⟩, ⟨a_quota_Admit p0 p1 p2, []⟩, ⟨a_ref22_Admit p0 p1 p2, []⟩, ⟨.ret (.bool true) [], []⟩, ⟨.ret (.bool true) [], []⟩]) (Met.cons (dec (((s_quota_Usage p1).1.cPU == (s_ref22_Usage p1).1.cPU) && (((s_quota_Usage p1).1.memory == (s_ref22_Usage p1).1.memory) && (((s_quota_Usage p1).1.disk == (s_ref22_Usage p1).1.disk) && true))) true h3) (Met.cons (dec ((s_quota_Usage p1).2 == (s_ref22_Usage p1).2) true h4) (Met.cons (dec ((s_quota_Admit p0 p1 p2) == (s_ref22_Admit p0 p1 p2)) true h5) (Met.cons (dec (((s_quota_Status p0 p1).hard.cPU == (s_ref22_Status p0 p1).hard.cPU) && (((s_quota_Status p0 p1).hard.memory == (s_ref22_Status p0 p1).hard.memory) && (((s_quota_Status p0 p1).hard.disk == (s_ref22_Status p0 p1).hard.disk) && true))) true h7) (Met.cons (dec (((s_quota_Status p0 p1).used.cPU == (s_ref22_Status p0 p1).used.cPU) && (((s_quota_Status p0 p1).used.memory == (s_ref22_Status p0 p1).used.memory) && (((s_quota_Status p0 p1).used.disk == (s_ref22_Status p0 p1).used.disk) && true))) true h8) (Met.cons (dec ((s_quota_Status p0 p1).pods == (s_ref22_Status p0 p1).pods) true h9) (Met.cons (dec ((s_quota_Status p0 p1).has == (s_ref22_Status p0 p1).has) true h10) Met.nil))))))) (Told.cons (toldOf (t_law22_Small p1 H.1) (congrArg (fun b => Rs.ret (.bool b) []) h0)) (Told.cons (toldOf (t_law19_SmallPod p2 H.2.1) (congrArg (fun b => Rs.ret (.bool b) []) h1)) (Told.cons (toldOf (t_law19_SmallMeta p0.meta_ H.2.2.1) (congrArg (fun b => Rs.ret (.bool b) []) h2)) (Told.cons (t_quota_Usage p1 H.2.2.2.1) (Told.cons (t_ref22_Usage p1 H.2.2.2.2.1) (Told.cons (t_quota_Status p0 p1 H.2.2.2.2.2.1) (Told.cons (t_ref22_Status p0 p1 H.2.2.2.2.2.2.1) (Told.cons (t_quota_Admit p0 p1 p2 H.2.2.2.2.2.2.2.1) (Told.cons (t_ref22_Admit p0 p1 p2 H.2.2.2.2.2.2.2.2.1) (Told.cons (toldOf (t_ref19_SameMeta (s_quota_Status p0 p1).meta_ (s_ref22_Status p0 p1).meta_ H.2.2.2.2.2.2.2.2.2.1) (congrArg (fun b => Rs.ret (.bool b) []) h6)) (Told.cons t_law22_lives Told.nil))))))))))) (by kernel_rfl)
theorem t_law22_QuotaSays_1 (p0 : Quota) (p1 : List Pod) (p2 : Pod) (H : H_law22_QuotaSays p0 p1 p2) (h0 : (s_law22_Small p1) = true) (h1 : (s_law19_SmallPod p2) = true) (h2 : (s_law19_SmallMeta p0.meta_) = true) (h3 : (((s_quota_Usage p1).1.cPU == (s_ref22_Usage p1).1.cPU) && (((s_quota_Usage p1).1.memory == (s_ref22_Usage p1).1.memory) && (((s_quota_Usage p1).1.disk == (s_ref22_Usage p1).1.disk) && true))) = true) (h4 : ((s_quota_Usage p1).2 == (s_ref22_Usage p1).2) = true) (h5 : ((s_quota_Admit p0 p1 p2) == (s_ref22_Admit p0 p1 p2)) = true) (h6 : (s_ref19_SameMeta (s_quota_Status p0 p1).meta_ (s_ref22_Status p0 p1).meta_) = true) (h7 : (((s_quota_Status p0 p1).hard.cPU == (s_ref22_Status p0 p1).hard.cPU) && (((s_quota_Status p0 p1).hard.memory == (s_ref22_Status p0 p1).hard.memory) && (((s_quota_Status p0 p1).hard.disk == (s_ref22_Status p0 p1).hard.disk) && true))) = true) (h8 : (((s_quota_Status p0 p1).used.cPU == (s_ref22_Status p0 p1).used.cPU) && (((s_quota_Status p0 p1).used.memory == (s_ref22_Status p0 p1).used.memory) && (((s_quota_Status p0 p1).used.disk == (s_ref22_Status p0 p1).used.disk) && true))) = true) (h9 : ((s_quota_Status p0 p1).pods == (s_ref22_Status p0 p1).pods) = true) (h10 : ((s_quota_Status p0 p1).has == (s_ref22_Status p0 p1).has) = false) : Tells G (c_law22_QuotaSays p0 p1 p2) (.ret (.bool false) []) :=
  tells_V (fn := Ir.law22_QuotaSays) rfl VOK.nil (hs := [(45, (bE true, [])), (3, (bE true, [])), (10, (bE true, [])), (13, (bE true, [])), (6, (bE true, [])), (6, (bE true, [])), (6, (bE false, []))]) (as := [⟨.ret (.bool true) [], []⟩, ⟨.ret (.bool true) [], []⟩, ⟨.ret (.bool true) [], []⟩, ⟨a_quota_Usage p1, []⟩, ⟨a_ref22_Usage p1, []⟩, ⟨a_quota_Status p0 p1, []⟩, ⟨a_ref22_Status p0 p1, []⟩, ⟨a_quota_Admit p0 p1 p2, []⟩, ⟨a_ref22_Admit p0 p1 p2, []⟩, ⟨.ret (.bool true) [], []⟩]) (Met.cons (dec (((s_quota_Usage p1).1.cPU == (s_ref22_Usage p1).1.cPU) && (((s_quota_Usage p1).1.memory == (s_ref22_Usage p1).1.memory) && (((s_quota_Usage p1).1.disk == (s_ref22_Usage p1).1.disk) && true))) true h3) (Met.cons (dec ((s_quota_Usage p1).2 == (s_ref22_Usage p1).2) true h4) (Met.cons (dec ((s_quota_Admit p0 p1 p2) == (s_ref22_Admit p0 p1 p2)) true h5) (Met.cons (dec (((s_quota_Status p0 p1).hard.cPU == (s_ref22_Status p0 p1).hard.cPU) && (((s_quota_Status p0 p1).hard.memory == (s_ref22_Status p0 p1).hard.memory) && (((s_quota_Status p0 p1).hard.disk == (s_ref22_Status p0 p1).hard.disk) && true))) true h7) (Met.cons (dec (((s_quota_Status p0 p1).used.cPU == (s_ref22_Status p0 p1).used.cPU) && (((s_quota_Status p0 p1).used.memory == (s_ref22_Status p0 p1).used.memory) && (((s_quota_Status p0 p1).used.disk == (s_ref22_Status p0 p1).used.disk) && true))) true h8) (Met.cons (dec ((s_quota_Status p0 p1).pods == (s_ref22_Status p0 p1).pods) true h9) (Met.cons (dec ((s_quota_Status p0 p1).has == (s_ref22_Status p0 p1).has) false h10) Met.nil))))))) (Told.cons (toldOf (t_law22_Small p1 H.1) (congrArg (fun b => Rs.ret (.bool b) []) h0)) (Told.cons (toldOf (t_law19_SmallPod p2 H.2.1) (congrArg (fun b => Rs.ret (.bool b) []) h1)) (Told.cons (toldOf (t_law19_SmallMeta p0.meta_ H.2.2.1) (congrArg (fun b => Rs.ret (.bool b) []) h2)) (Told.cons (t_quota_Usage p1 H.2.2.2.1) (Told.cons (t_ref22_Usage p1 H.2.2.2.2.1) (Told.cons (t_quota_Status p0 p1 H.2.2.2.2.2.1) (Told.cons (t_ref22_Status p0 p1 H.2.2.2.2.2.2.1) (Told.cons (t_quota_Admit p0 p1 p2 H.2.2.2.2.2.2.2.1) (Told.cons (t_ref22_Admit p0 p1 p2 H.2.2.2.2.2.2.2.2.1) (Told.cons (toldOf (t_ref19_SameMeta (s_quota_Status p0 p1).meta_ (s_ref22_Status p0 p1).meta_ H.2.2.2.2.2.2.2.2.2.1) (congrArg (fun b => Rs.ret (.bool b) []) h6)) Told.nil)))))))))) (by kernel_rfl)
theorem t_law22_QuotaSays_2 (p0 : Quota) (p1 : List Pod) (p2 : Pod) (H : H_law22_QuotaSays p0 p1 p2) (h0 : (s_law22_Small p1) = true) (h1 : (s_law19_SmallPod p2) = true) (h2 : (s_law19_SmallMeta p0.meta_) = true) (h3 : (((s_quota_Usage p1).1.cPU == (s_ref22_Usage p1).1.cPU) && (((s_quota_Usage p1).1.memory == (s_ref22_Usage p1).1.memory) && (((s_quota_Usage p1).1.disk == (s_ref22_Usage p1).1.disk) && true))) = true) (h4 : ((s_quota_Usage p1).2 == (s_ref22_Usage p1).2) = true) (h5 : ((s_quota_Admit p0 p1 p2) == (s_ref22_Admit p0 p1 p2)) = true) (h6 : (s_ref19_SameMeta (s_quota_Status p0 p1).meta_ (s_ref22_Status p0 p1).meta_) = true) (h7 : (((s_quota_Status p0 p1).hard.cPU == (s_ref22_Status p0 p1).hard.cPU) && (((s_quota_Status p0 p1).hard.memory == (s_ref22_Status p0 p1).hard.memory) && (((s_quota_Status p0 p1).hard.disk == (s_ref22_Status p0 p1).hard.disk) && true))) = true) (h8 : (((s_quota_Status p0 p1).used.cPU == (s_ref22_Status p0 p1).used.cPU) && (((s_quota_Status p0 p1).used.memory == (s_ref22_Status p0 p1).used.memory) && (((s_quota_Status p0 p1).used.disk == (s_ref22_Status p0 p1).used.disk) && true))) = true) (h9 : ((s_quota_Status p0 p1).pods == (s_ref22_Status p0 p1).pods) = false) : Tells G (c_law22_QuotaSays p0 p1 p2) (.ret (.bool false) []) :=
  tells_V (fn := Ir.law22_QuotaSays) rfl VOK.nil (hs := [(45, (bE true, [])), (3, (bE true, [])), (10, (bE true, [])), (13, (bE true, [])), (6, (bE true, [])), (6, (bE false, []))]) (as := [⟨.ret (.bool true) [], []⟩, ⟨.ret (.bool true) [], []⟩, ⟨.ret (.bool true) [], []⟩, ⟨a_quota_Usage p1, []⟩, ⟨a_ref22_Usage p1, []⟩, ⟨a_quota_Status p0 p1, []⟩, ⟨a_ref22_Status p0 p1, []⟩, ⟨a_quota_Admit p0 p1 p2, []⟩, ⟨a_ref22_Admit p0 p1 p2, []⟩, ⟨.ret (.bool true) [], []⟩]) (Met.cons (dec (((s_quota_Usage p1).1.cPU == (s_ref22_Usage p1).1.cPU) && (((s_quota_Usage p1).1.memory == (s_ref22_Usage p1).1.memory) && (((s_quota_Usage p1).1.disk == (s_ref22_Usage p1).1.disk) && true))) true h3) (Met.cons (dec ((s_quota_Usage p1).2 == (s_ref22_Usage p1).2) true h4) (Met.cons (dec ((s_quota_Admit p0 p1 p2) == (s_ref22_Admit p0 p1 p2)) true h5) (Met.cons (dec (((s_quota_Status p0 p1).hard.cPU == (s_ref22_Status p0 p1).hard.cPU) && (((s_quota_Status p0 p1).hard.memory == (s_ref22_Status p0 p1).hard.memory) && (((s_quota_Status p0 p1).hard.disk == (s_ref22_Status p0 p1).hard.disk) && true))) true h7) (Met.cons (dec (((s_quota_Status p0 p1).used.cPU == (s_ref22_Status p0 p1).used.cPU) && (((s_quota_Status p0 p1).used.memory == (s_ref22_Status p0 p1).used.memory) && (((s_quota_Status p0 p1).used.disk == (s_ref22_Status p0 p1).used.disk) && true))) true h8) (Met.cons (dec ((s_quota_Status p0 p1).pods == (s_ref22_Status p0 p1).pods) false h9) Met.nil)))))) (Told.cons (toldOf (t_law22_Small p1 H.1) (congrArg (fun b => Rs.ret (.bool b) []) h0)) (Told.cons (toldOf (t_law19_SmallPod p2 H.2.1) (congrArg (fun b => Rs.ret (.bool b) []) h1)) (Told.cons (toldOf (t_law19_SmallMeta p0.meta_ H.2.2.1) (congrArg (fun b => Rs.ret (.bool b) []) h2)) (Told.cons (t_quota_Usage p1 H.2.2.2.1) (Told.cons (t_ref22_Usage p1 H.2.2.2.2.1) (Told.cons (t_quota_Status p0 p1 H.2.2.2.2.2.1) (Told.cons (t_ref22_Status p0 p1 H.2.2.2.2.2.2.1) (Told.cons (t_quota_Admit p0 p1 p2 H.2.2.2.2.2.2.2.1) (Told.cons (t_ref22_Admit p0 p1 p2 H.2.2.2.2.2.2.2.2.1) (Told.cons (toldOf (t_ref19_SameMeta (s_quota_Status p0 p1).meta_ (s_ref22_Status p0 p1).meta_ H.2.2.2.2.2.2.2.2.2.1) (congrArg (fun b => Rs.ret (.bool b) []) h6)) Told.nil)))))))))) (by kernel_rfl)
theorem t_law22_QuotaSays_3 (p0 : Quota) (p1 : List Pod) (p2 : Pod) (H : H_law22_QuotaSays p0 p1 p2) (h0 : (s_law22_Small p1) = true) (h1 : (s_law19_SmallPod p2) = true) (h2 : (s_law19_SmallMeta p0.meta_) = true) (h3 : (((s_quota_Usage p1).1.cPU == (s_ref22_Usage p1).1.cPU) && (((s_quota_Usage p1).1.memory == (s_ref22_Usage p1).1.memory) && (((s_quota_Usage p1).1.disk == (s_ref22_Usage p1).1.disk) && true))) = true) (h4 : ((s_quota_Usage p1).2 == (s_ref22_Usage p1).2) = true) (h5 : ((s_quota_Admit p0 p1 p2) == (s_ref22_Admit p0 p1 p2)) = true) (h6 : (s_ref19_SameMeta (s_quota_Status p0 p1).meta_ (s_ref22_Status p0 p1).meta_) = true) (h7 : (((s_quota_Status p0 p1).hard.cPU == (s_ref22_Status p0 p1).hard.cPU) && (((s_quota_Status p0 p1).hard.memory == (s_ref22_Status p0 p1).hard.memory) && (((s_quota_Status p0 p1).hard.disk == (s_ref22_Status p0 p1).hard.disk) && true))) = true) (h8 : (((s_quota_Status p0 p1).used.cPU == (s_ref22_Status p0 p1).used.cPU) && (((s_quota_Status p0 p1).used.memory == (s_ref22_Status p0 p1).used.memory) && (((s_quota_Status p0 p1).used.disk == (s_ref22_Status p0 p1).used.disk) && true))) = false) : Tells G (c_law22_QuotaSays p0 p1 p2) (.ret (.bool false) []) :=
  tells_V (fn := Ir.law22_QuotaSays) rfl VOK.nil (hs := [(45, (bE true, [])), (3, (bE true, [])), (10, (bE true, [])), (13, (bE true, [])), (6, (bE false, []))]) (as := [⟨.ret (.bool true) [], []⟩, ⟨.ret (.bool true) [], []⟩, ⟨.ret (.bool true) [], []⟩, ⟨a_quota_Usage p1, []⟩, ⟨a_ref22_Usage p1, []⟩, ⟨a_quota_Status p0 p1, []⟩, ⟨a_ref22_Status p0 p1, []⟩, ⟨a_quota_Admit p0 p1 p2, []⟩, ⟨a_ref22_Admit p0 p1 p2, []⟩, ⟨.ret (.bool true) [], []⟩]) (Met.cons (dec (((s_quota_Usage p1).1.cPU == (s_ref22_Usage p1).1.cPU) && (((s_quota_Usage p1).1.memory == (s_ref22_Usage p1).1.memory) && (((s_quota_Usage p1).1.disk == (s_ref22_Usage p1).1.disk) && true))) true h3) (Met.cons (dec ((s_quota_Usage p1).2 == (s_ref22_Usage p1).2) true h4) (Met.cons (dec ((s_quota_Admit p0 p1 p2) == (s_ref22_Admit p0 p1 p2)) true h5) (Met.cons (dec (((s_quota_Status p0 p1).hard.cPU == (s_ref22_Status p0 p1).hard.cPU) && (((s_quota_Status p0 p1).hard.memory == (s_ref22_Status p0 p1).hard.memory) && (((s_quota_Status p0 p1).hard.disk == (s_ref22_Status p0 p1).hard.disk) && true))) true h7) (Met.cons (dec (((s_quota_Status p0 p1).used.cPU == (s_ref22_Status p0 p1).used.cPU) && (((s_quota_Status p0 p1).used.memory == (s_ref22_Status p0 p1).used.memory) && (((s_quota_Status p0 p1).used.disk == (s_ref22_Status p0 p1).used.disk) && true))) false h8) Met.nil))))) (Told.cons (toldOf (t_law22_Small p1 H.1) (congrArg (fun b => Rs.ret (.bool b) []) h0)) (Told.cons (toldOf (t_law19_SmallPod p2 H.2.1) (congrArg (fun b => Rs.ret (.bool b) []) h1)) (Told.cons (toldOf (t_law19_SmallMeta p0.meta_ H.2.2.1) (congrArg (fun b => Rs.ret (.bool b) []) h2)) (Told.cons (t_quota_Usage p1 H.2.2.2.1) (Told.cons (t_ref22_Usage p1 H.2.2.2.2.1) (Told.cons (t_quota_Status p0 p1 H.2.2.2.2.2.1) (Told.cons (t_ref22_Status p0 p1 H.2.2.2.2.2.2.1) (Told.cons (t_quota_Admit p0 p1 p2 H.2.2.2.2.2.2.2.1) (Told.cons (t_ref22_Admit p0 p1 p2 H.2.2.2.2.2.2.2.2.1) (Told.cons (toldOf (t_ref19_SameMeta (s_quota_Status p0 p1).meta_ (s_ref22_Status p0 p1).meta_ H.2.2.2.2.2.2.2.2.2.1) (congrArg (fun b => Rs.ret (.bool b) []) h6)) Told.nil)))))))))) (by kernel_rfl)
theorem t_law22_QuotaSays_4 (p0 : Quota) (p1 : List Pod) (p2 : Pod) (H : H_law22_QuotaSays p0 p1 p2) (h0 : (s_law22_Small p1) = true) (h1 : (s_law19_SmallPod p2) = true) (h2 : (s_law19_SmallMeta p0.meta_) = true) (h3 : (((s_quota_Usage p1).1.cPU == (s_ref22_Usage p1).1.cPU) && (((s_quota_Usage p1).1.memory == (s_ref22_Usage p1).1.memory) && (((s_quota_Usage p1).1.disk == (s_ref22_Usage p1).1.disk) && true))) = true) (h4 : ((s_quota_Usage p1).2 == (s_ref22_Usage p1).2) = true) (h5 : ((s_quota_Admit p0 p1 p2) == (s_ref22_Admit p0 p1 p2)) = true) (h6 : (s_ref19_SameMeta (s_quota_Status p0 p1).meta_ (s_ref22_Status p0 p1).meta_) = true) (h7 : (((s_quota_Status p0 p1).hard.cPU == (s_ref22_Status p0 p1).hard.cPU) && (((s_quota_Status p0 p1).hard.memory == (s_ref22_Status p0 p1).hard.memory) && (((s_quota_Status p0 p1).hard.disk == (s_ref22_Status p0 p1).hard.disk) && true))) = false) : Tells G (c_law22_QuotaSays p0 p1 p2) (.ret (.bool false) []) :=
  tells_V (fn := Ir.law22_QuotaSays) rfl VOK.nil (hs := [(45, (bE true, [])), (3, (bE true, [])), (10, (bE true, [])), (13, (bE false, []))]) (as := [⟨.ret (.bool true) [], []⟩, ⟨.ret (.bool true) [], []⟩, ⟨.ret (.bool true) [], []⟩, ⟨a_quota_Usage p1, []⟩, ⟨a_ref22_Usage p1, []⟩, ⟨a_quota_Status p0 p1, []⟩, ⟨a_ref22_Status p0 p1, []⟩, ⟨a_quota_Admit p0 p1 p2, []⟩, ⟨a_ref22_Admit p0 p1 p2, []⟩, ⟨.ret (.bool true) [], []⟩]) (Met.cons (dec (((s_quota_Usage p1).1.cPU == (s_ref22_Usage p1).1.cPU) && (((s_quota_Usage p1).1.memory == (s_ref22_Usage p1).1.memory) && (((s_quota_Usage p1).1.disk == (s_ref22_Usage p1).1.disk) && true))) true h3) (Met.cons (dec ((s_quota_Usage p1).2 == (s_ref22_Usage p1).2) true h4) (Met.cons (dec ((s_quota_Admit p0 p1 p2) == (s_ref22_Admit p0 p1 p2)) true h5) (Met.cons (dec (((s_quota_Status p0 p1).hard.cPU == (s_ref22_Status p0 p1).hard.cPU) && (((s_quota_Status p0 p1).hard.memory == (s_ref22_Status p0 p1).hard.memory) && (((s_quota_Status p0 p1).hard.disk == (s_ref22_Status p0 p1).hard.disk) && true))) false h7) Met.nil)))) (Told.cons (toldOf (t_law22_Small p1 H.1) (congrArg (fun b => Rs.ret (.bool b) []) h0)) (Told.cons (toldOf (t_law19_SmallPod p2 H.2.1) (congrArg (fun b => Rs.ret (.bool b) []) h1)) (Told.cons (toldOf (t_law19_SmallMeta p0.meta_ H.2.2.1) (congrArg (fun b => Rs.ret (.bool b) []) h2)) (Told.cons (t_quota_Usage p1 H.2.2.2.1) (Told.cons (t_ref22_Usage p1 H.2.2.2.2.1) (Told.cons (t_quota_Status p0 p1 H.2.2.2.2.2.1) (Told.cons (t_ref22_Status p0 p1 H.2.2.2.2.2.2.1) (Told.cons (t_quota_Admit p0 p1 p2 H.2.2.2.2.2.2.2.1) (Told.cons (t_ref22_Admit p0 p1 p2 H.2.2.2.2.2.2.2.2.1) (Told.cons (toldOf (t_ref19_SameMeta (s_quota_Status p0 p1).meta_ (s_ref22_Status p0 p1).meta_ H.2.2.2.2.2.2.2.2.2.1) (congrArg (fun b => Rs.ret (.bool b) []) h6)) Told.nil)))))))))) (by kernel_rfl)
theorem t_law22_QuotaSays_5 (p0 : Quota) (p1 : List Pod) (p2 : Pod) (H : H_law22_QuotaSays p0 p1 p2) (h0 : (s_law22_Small p1) = true) (h1 : (s_law19_SmallPod p2) = true) (h2 : (s_law19_SmallMeta p0.meta_) = true) (h3 : (((s_quota_Usage p1).1.cPU == (s_ref22_Usage p1).1.cPU) && (((s_quota_Usage p1).1.memory == (s_ref22_Usage p1).1.memory) && (((s_quota_Usage p1).1.disk == (s_ref22_Usage p1).1.disk) && true))) = true) (h4 : ((s_quota_Usage p1).2 == (s_ref22_Usage p1).2) = true) (h5 : ((s_quota_Admit p0 p1 p2) == (s_ref22_Admit p0 p1 p2)) = true) (h6 : (s_ref19_SameMeta (s_quota_Status p0 p1).meta_ (s_ref22_Status p0 p1).meta_) = false) : Tells G (c_law22_QuotaSays p0 p1 p2) (.ret (.bool false) []) :=
  tells_V (fn := Ir.law22_QuotaSays) rfl VOK.nil (hs := [(45, (bE true, [])), (3, (bE true, [])), (10, (bE true, []))]) (as := [⟨.ret (.bool true) [], []⟩, ⟨.ret (.bool true) [], []⟩, ⟨.ret (.bool true) [], []⟩, ⟨a_quota_Usage p1, []⟩, ⟨a_ref22_Usage p1, []⟩, ⟨a_quota_Status p0 p1, []⟩, ⟨a_ref22_Status p0 p1, []⟩, ⟨a_quota_Admit p0 p1 p2, []⟩, ⟨a_ref22_Admit p0 p1 p2, []⟩, ⟨.ret (.bool false) [], []⟩]) (Met.cons (dec (((s_quota_Usage p1).1.cPU == (s_ref22_Usage p1).1.cPU) && (((s_quota_Usage p1).1.memory == (s_ref22_Usage p1).1.memory) && (((s_quota_Usage p1).1.disk == (s_ref22_Usage p1).1.disk) && true))) true h3) (Met.cons (dec ((s_quota_Usage p1).2 == (s_ref22_Usage p1).2) true h4) (Met.cons (dec ((s_quota_Admit p0 p1 p2) == (s_ref22_Admit p0 p1 p2)) true h5) Met.nil))) (Told.cons (toldOf (t_law22_Small p1 H.1) (congrArg (fun b => Rs.ret (.bool b) []) h0)) (Told.cons (toldOf (t_law19_SmallPod p2 H.2.1) (congrArg (fun b => Rs.ret (.bool b) []) h1)) (Told.cons (toldOf (t_law19_SmallMeta p0.meta_ H.2.2.1) (congrArg (fun b => Rs.ret (.bool b) []) h2)) (Told.cons (t_quota_Usage p1 H.2.2.2.1) (Told.cons (t_ref22_Usage p1 H.2.2.2.2.1) (Told.cons (t_quota_Status p0 p1 H.2.2.2.2.2.1) (Told.cons (t_ref22_Status p0 p1 H.2.2.2.2.2.2.1) (Told.cons (t_quota_Admit p0 p1 p2 H.2.2.2.2.2.2.2.1) (Told.cons (t_ref22_Admit p0 p1 p2 H.2.2.2.2.2.2.2.2.1) (Told.cons (toldOf (t_ref19_SameMeta (s_quota_Status p0 p1).meta_ (s_ref22_Status p0 p1).meta_ H.2.2.2.2.2.2.2.2.2.1) (congrArg (fun b => Rs.ret (.bool b) []) h6)) Told.nil)))))))))) (by kernel_rfl)
theorem t_law22_QuotaSays_6 (p0 : Quota) (p1 : List Pod) (p2 : Pod) (H : H_law22_QuotaSays p0 p1 p2) (h0 : (s_law22_Small p1) = true) (h1 : (s_law19_SmallPod p2) = true) (h2 : (s_law19_SmallMeta p0.meta_) = true) (h3 : (((s_quota_Usage p1).1.cPU == (s_ref22_Usage p1).1.cPU) && (((s_quota_Usage p1).1.memory == (s_ref22_Usage p1).1.memory) && (((s_quota_Usage p1).1.disk == (s_ref22_Usage p1).1.disk) && true))) = true) (h4 : ((s_quota_Usage p1).2 == (s_ref22_Usage p1).2) = true) (h5 : ((s_quota_Admit p0 p1 p2) == (s_ref22_Admit p0 p1 p2)) = false) : Tells G (c_law22_QuotaSays p0 p1 p2) (.ret (.bool false) []) :=
  tells_V (fn := Ir.law22_QuotaSays) rfl VOK.nil (hs := [(45, (bE true, [])), (3, (bE true, [])), (10, (bE false, []))]) (as := [⟨.ret (.bool true) [], []⟩, ⟨.ret (.bool true) [], []⟩, ⟨.ret (.bool true) [], []⟩, ⟨a_quota_Usage p1, []⟩, ⟨a_ref22_Usage p1, []⟩, ⟨a_quota_Status p0 p1, []⟩, ⟨a_ref22_Status p0 p1, []⟩, ⟨a_quota_Admit p0 p1 p2, []⟩, ⟨a_ref22_Admit p0 p1 p2, []⟩]) (Met.cons (dec (((s_quota_Usage p1).1.cPU == (s_ref22_Usage p1).1.cPU) && (((s_quota_Usage p1).1.memory == (s_ref22_Usage p1).1.memory) && (((s_quota_Usage p1).1.disk == (s_ref22_Usage p1).1.disk) && true))) true h3) (Met.cons (dec ((s_quota_Usage p1).2 == (s_ref22_Usage p1).2) true h4) (Met.cons (dec ((s_quota_Admit p0 p1 p2) == (s_ref22_Admit p0 p1 p2)) false h5) Met.nil))) (Told.cons (toldOf (t_law22_Small p1 H.1) (congrArg (fun b => Rs.ret (.bool b) []) h0)) (Told.cons (toldOf (t_law19_SmallPod p2 H.2.1) (congrArg (fun b => Rs.ret (.bool b) []) h1)) (Told.cons (toldOf (t_law19_SmallMeta p0.meta_ H.2.2.1) (congrArg (fun b => Rs.ret (.bool b) []) h2)) (Told.cons (t_quota_Usage p1 H.2.2.2.1) (Told.cons (t_ref22_Usage p1 H.2.2.2.2.1) (Told.cons (t_quota_Status p0 p1 H.2.2.2.2.2.1) (Told.cons (t_ref22_Status p0 p1 H.2.2.2.2.2.2.1) (Told.cons (t_quota_Admit p0 p1 p2 H.2.2.2.2.2.2.2.1) (Told.cons (t_ref22_Admit p0 p1 p2 H.2.2.2.2.2.2.2.2.1) Told.nil))))))))) (by kernel_rfl)
theorem t_law22_QuotaSays_7 (p0 : Quota) (p1 : List Pod) (p2 : Pod) (H : H_law22_QuotaSays p0 p1 p2) (h0 : (s_law22_Small p1) = true) (h1 : (s_law19_SmallPod p2) = true) (h2 : (s_law19_SmallMeta p0.meta_) = true) (h3 : (((s_quota_Usage p1).1.cPU == (s_ref22_Usage p1).1.cPU) && (((s_quota_Usage p1).1.memory == (s_ref22_Usage p1).1.memory) && (((s_quota_Usage p1).1.disk == (s_ref22_Usage p1).1.disk) && true))) = true) (h4 : ((s_quota_Usage p1).2 == (s_ref22_Usage p1).2) = false) : Tells G (c_law22_QuotaSays p0 p1 p2) (.ret (.bool false) []) :=
  tells_V (fn := Ir.law22_QuotaSays) rfl VOK.nil (hs := [(45, (bE true, [])), (3, (bE false, []))]) (as := [⟨.ret (.bool true) [], []⟩, ⟨.ret (.bool true) [], []⟩, ⟨.ret (.bool true) [], []⟩, ⟨a_quota_Usage p1, []⟩, ⟨a_ref22_Usage p1, []⟩, ⟨a_quota_Status p0 p1, []⟩, ⟨a_ref22_Status p0 p1, []⟩]) (Met.cons (dec (((s_quota_Usage p1).1.cPU == (s_ref22_Usage p1).1.cPU) && (((s_quota_Usage p1).1.memory == (s_ref22_Usage p1).1.memory) && (((s_quota_Usage p1).1.disk == (s_ref22_Usage p1).1.disk) && true))) true h3) (Met.cons (dec ((s_quota_Usage p1).2 == (s_ref22_Usage p1).2) false h4) Met.nil)) (Told.cons (toldOf (t_law22_Small p1 H.1) (congrArg (fun b => Rs.ret (.bool b) []) h0)) (Told.cons (toldOf (t_law19_SmallPod p2 H.2.1) (congrArg (fun b => Rs.ret (.bool b) []) h1)) (Told.cons (toldOf (t_law19_SmallMeta p0.meta_ H.2.2.1) (congrArg (fun b => Rs.ret (.bool b) []) h2)) (Told.cons (t_quota_Usage p1 H.2.2.2.1) (Told.cons (t_ref22_Usage p1 H.2.2.2.2.1) (Told.cons (t_quota_Status p0 p1 H.2.2.2.2.2.1) (Told.cons (t_ref22_Status p0 p1 H.2.2.2.2.2.2.1) Told.nil))))))) (by kernel_rfl)
theorem t_law22_QuotaSays_8 (p0 : Quota) (p1 : List Pod) (p2 : Pod) (H : H_law22_QuotaSays p0 p1 p2) (h0 : (s_law22_Small p1) = true) (h1 : (s_law19_SmallPod p2) = true) (h2 : (s_law19_SmallMeta p0.meta_) = true) (h3 : (((s_quota_Usage p1).1.cPU == (s_ref22_Usage p1).1.cPU) && (((s_quota_Usage p1).1.memory == (s_ref22_Usage p1).1.memory) && (((s_quota_Usage p1).1.disk == (s_ref22_Usage p1).1.disk) && true))) = false) : Tells G (c_law22_QuotaSays p0 p1 p2) (.ret (.bool false) []) :=
  tells_V (fn := Ir.law22_QuotaSays) rfl VOK.nil (hs := [(45, (bE false, []))]) (as := [⟨.ret (.bool true) [], []⟩, ⟨.ret (.bool true) [], []⟩, ⟨.ret (.bool true) [], []⟩, ⟨a_quota_Usage p1, []⟩, ⟨a_ref22_Usage p1, []⟩, ⟨a_quota_Status p0 p1, []⟩, ⟨a_ref22_Status p0 p1, []⟩]) (Met.cons (dec (((s_quota_Usage p1).1.cPU == (s_ref22_Usage p1).1.cPU) && (((s_quota_Usage p1).1.memory == (s_ref22_Usage p1).1.memory) && (((s_quota_Usage p1).1.disk == (s_ref22_Usage p1).1.disk) && true))) false h3) Met.nil) (Told.cons (toldOf (t_law22_Small p1 H.1) (congrArg (fun b => Rs.ret (.bool b) []) h0)) (Told.cons (toldOf (t_law19_SmallPod p2 H.2.1) (congrArg (fun b => Rs.ret (.bool b) []) h1)) (Told.cons (toldOf (t_law19_SmallMeta p0.meta_ H.2.2.1) (congrArg (fun b => Rs.ret (.bool b) []) h2)) (Told.cons (t_quota_Usage p1 H.2.2.2.1) (Told.cons (t_ref22_Usage p1 H.2.2.2.2.1) (Told.cons (t_quota_Status p0 p1 H.2.2.2.2.2.1) (Told.cons (t_ref22_Status p0 p1 H.2.2.2.2.2.2.1) Told.nil))))))) (by kernel_rfl)
theorem t_law22_QuotaSays_9 (p0 : Quota) (p1 : List Pod) (p2 : Pod) (H : H_law22_QuotaSays p0 p1 p2) (h0 : (s_law22_Small p1) = true) (h1 : (s_law19_SmallPod p2) = true) (h2 : (s_law19_SmallMeta p0.meta_) = false) : Tells G (c_law22_QuotaSays p0 p1 p2) (.ret (.bool true) []) :=
  tells_V (fn := Ir.law22_QuotaSays) rfl VOK.nil (hs := []) (as := [⟨.ret (.bool true) [], []⟩, ⟨.ret (.bool true) [], []⟩, ⟨.ret (.bool false) [], []⟩, ⟨.ret (.bool true) [], []⟩]) Met.nil (Told.cons (toldOf (t_law22_Small p1 H.1) (congrArg (fun b => Rs.ret (.bool b) []) h0)) (Told.cons (toldOf (t_law19_SmallPod p2 H.2.1) (congrArg (fun b => Rs.ret (.bool b) []) h1)) (Told.cons (toldOf (t_law19_SmallMeta p0.meta_ H.2.2.1) (congrArg (fun b => Rs.ret (.bool b) []) h2)) (Told.cons t_law22_lives Told.nil)))) (by kernel_rfl)
theorem t_law22_QuotaSays_10 (p0 : Quota) (p1 : List Pod) (p2 : Pod) (H : H_law22_QuotaSays p0 p1 p2) (h0 : (s_law22_Small p1) = true) (h1 : (s_law19_SmallPod p2) = false) : Tells G (c_law22_QuotaSays p0 p1 p2) (.ret (.bool true) []) :=
  tells_V (fn := Ir.law22_QuotaSays) rfl VOK.nil (hs := []) (as := [⟨.ret (.bool true) [], []⟩, ⟨.ret (.bool false) [], []⟩, ⟨.ret (.bool true) [], []⟩]) Met.nil (Told.cons (toldOf (t_law22_Small p1 H.1) (congrArg (fun b => Rs.ret (.bool b) []) h0)) (Told.cons (toldOf (t_law19_SmallPod p2 H.2.1) (congrArg (fun b => Rs.ret (.bool b) []) h1)) (Told.cons t_law22_lives Told.nil))) (by kernel_rfl)
theorem t_law22_QuotaSays_11 (p0 : Quota) (p1 : List Pod) (p2 : Pod) (H : H_law22_QuotaSays p0 p1 p2) (h0 : (s_law22_Small p1) = false) : Tells G (c_law22_QuotaSays p0 p1 p2) (.ret (.bool true) []) :=
  tells_V (fn := Ir.law22_QuotaSays) rfl VOK.nil (hs := []) (as := [⟨.ret (.bool false) [], []⟩, ⟨.ret (.bool true) [], []⟩]) Met.nil (Told.cons (toldOf (t_law22_Small p1 H.1) (congrArg (fun b => Rs.ret (.bool b) []) h0)) (Told.cons t_law22_lives Told.nil)) (by kernel_rfl)
theorem t_law22_QuotaSays (p0 : Quota) (p1 : List Pod) (p2 : Pod) (H : H_law22_QuotaSays p0 p1 p2) : Tells G (c_law22_QuotaSays p0 p1 p2) (a_law22_QuotaSays p0 p1 p2) := by
  unfold a_law22_QuotaSays s_law22_QuotaSays
  cases h0 : (s_law22_Small p1) with
  | true =>
    cases h1 : (s_law19_SmallPod p2) with
    | true =>
      cases h2 : (s_law19_SmallMeta p0.meta_) with
      | true =>
        cases h3 : (((s_quota_Usage p1).1.cPU == (s_ref22_Usage p1).1.cPU) && (((s_quota_Usage p1).1.memory == (s_ref22_Usage p1).1.memory) && (((s_quota_Usage p1).1.disk == (s_ref22_Usage p1).1.disk) && true))) with
        | true =>
          cases h4 : ((s_quota_Usage p1).2 == (s_ref22_Usage p1).2) with
          | true =>
            cases h5 : ((s_quota_Admit p0 p1 p2) == (s_ref22_Admit p0 p1 p2)) with
            | true =>
              cases h6 : (s_ref19_SameMeta (s_quota_Status p0 p1).meta_ (s_ref22_Status p0 p1).meta_) with
              | true =>
                cases h7 : (((s_quota_Status p0 p1).hard.cPU == (s_ref22_Status p0 p1).hard.cPU) && (((s_quota_Status p0 p1).hard.memory == (s_ref22_Status p0 p1).hard.memory) && (((s_quota_Status p0 p1).hard.disk == (s_ref22_Status p0 p1).hard.disk) && true))) with
                | true =>
                  cases h8 : (((s_quota_Status p0 p1).used.cPU == (s_ref22_Status p0 p1).used.cPU) && (((s_quota_Status p0 p1).used.memory == (s_ref22_Status p0 p1).used.memory) && (((s_quota_Status p0 p1).used.disk == (s_ref22_Status p0 p1).used.disk) && true))) with
                  | true =>
                    cases h9 : ((s_quota_Status p0 p1).pods == (s_ref22_Status p0 p1).pods) with
                    | true =>
                      cases h10 : ((s_quota_Status p0 p1).has == (s_ref22_Status p0 p1).has) with
                      | true =>
                        exact t_law22_QuotaSays_0 p0 p1 p2 H h0 h1 h2 h3 h4 h5 h6 h7 h8 h9 h10
                      | false =>
                        exact t_law22_QuotaSays_1 p0 p1 p2 H h0 h1 h2 h3 h4 h5 h6 h7 h8 h9 h10
                    | false =>
                      exact t_law22_QuotaSays_2 p0 p1 p2 H h0 h1 h2 h3 h4 h5 h6 h7 h8 h9
                  | false =>
                    exact t_law22_QuotaSays_3 p0 p1 p2 H h0 h1 h2 h3 h4 h5 h6 h7 h8
                | false =>
                  exact t_law22_QuotaSays_4 p0 p1 p2 H h0 h1 h2 h3 h4 h5 h6 h7
              | false =>
                exact t_law22_QuotaSays_5 p0 p1 p2 H h0 h1 h2 h3 h4 h5 h6
            | false =>
              exact t_law22_QuotaSays_6 p0 p1 p2 H h0 h1 h2 h3 h4 h5
          | false =>
            exact t_law22_QuotaSays_7 p0 p1 p2 H h0 h1 h2 h3 h4
        | false =>
          exact t_law22_QuotaSays_8 p0 p1 p2 H h0 h1 h2 h3
      | false =>
        exact t_law22_QuotaSays_9 p0 p1 p2 H h0 h1 h2
    | false =>
      exact t_law22_QuotaSays_10 p0 p1 p2 H h0 h1
  | false =>
    exact t_law22_QuotaSays_11 p0 p1 p2 H h0

def tysQuotaSays : List Ty := [Quota_ty, .sl 480 Pod_ty, Pod_ty]
theorem pureQuotaSays {N : Nat} (hp : ∀ (p0 : Quota) (p1 : List Pod) (p2 : Pod), Quota_ok p0 → (okL 480 Pod_ok) p1 → Pod_ok p2 → (Quota_cap N) p0 → (fun l : List Pod => l.length ≤ N ∧ ∀ x ∈ l, (Pod_cap N) x) p1 → (Pod_cap N) p2 → H_law22_QuotaSays p0 p1 p2 ∧ s_law22_QuotaSays p0 p1 p2 = true) : ∀ qs, ArgsB Γ N tysQuotaSays qs → ∃ n, runs G n (.call 8 qs []) = some (.ret (.bool true) []) := by
  intro qs h
  cases qs with
  | nil => cases h
  | cons q0 qs =>
  obtain ⟨h0, h⟩ := h
  cases qs with
  | nil => cases h
  | cons q1 qs =>
  obtain ⟨h1, h⟩ := h
  cases qs with
  | nil => cases h
  | cons q2 qs =>
  obtain ⟨h2, h⟩ := h
  cases qs with
  | cons _ _ => cases h
  | nil =>
  obtain ⟨c0, rfl, g0, b0⟩ := h0.agg rfl
  obtain ⟨p0, rfl, k0⟩ := (Quota_open g0)
  obtain ⟨g1, b1⟩ := h1.one rfl
  obtain ⟨p1, e1, k1⟩ := (g1.sl1 (f := Pod.cells) (ok := Pod_ok) fun r hr => (Pod_open hr))
  injection e1 with e1
  subst e1
  obtain ⟨c2, rfl, g2, b2⟩ := h2.agg rfl
  obtain ⟨p2, rfl, k2⟩ := (Pod_open g2)
  have e := hp p0 p1 p2 k0 k1 k2 (Quota_capOf b0) (let r := Cap.rowsI (f := Pod.cells) (b1 _ List.mem_cons_self); ⟨r.1, fun x hx => (Pod_capOf (r.2 x hx))⟩) (Pod_capOf b2)
  have t := t_law22_QuotaSays p0 p1 p2 e.1
  unfold a_law22_QuotaSays at t
  rw [e.2] at t
  exact t

end Go.Proofs.Ytpmdkaecfoakkaa
