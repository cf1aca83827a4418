/- What the functions of the law QosClass compute (printed by a program). -/
import Derived.Test.YtnicmdfafihmpaaIr
import Derived.Test.YtnicmdfafihmpaaPvX
import Derived.Test.YtnicmdfafihmpaaPvX2
import Derived.Test.YtnicmdfafihmpaaPvY
import Derived.Test.YtnicmdfafihmpaaPvZ
import Derived.Test.YtnicmdfafihmpaaPvS2
namespace Go.Proofs.Ytnicmdfafihmpaa
open Go.Pv

abbrev G : Nat → Option Fun := tabG Ir.table
abbrev Γ : Nat → Option Ty := fun _ => none

structure Resources where
  cPU : Int
  memory : Int
  disk : Int
def Resources.cells (x : Resources) : List PV :=
  [.int .i64 x.cPU, .int .i64 x.memory, .int .i64 x.disk]
def Resources.rows (l : List Resources) : List (List PV) := l.map Resources.cells
theorem Resources.rowsLen (l : List Resources) : (Resources.rows l).length = l.length := by simp [Resources.rows]
theorem Resources.rowsGet {l : List Resources} {i : Nat} {x : Resources} (h : l[i]? = some x) : (Resources.rows l)[i]? = some (Resources.cells x) := Go.Pv.rowsGet h
theorem Resources.rowsSnoc (l : List Resources) (x : Resources) : Resources.rows (l ++ [x]) = Resources.rows l ++ [Resources.cells x] := by simp [Resources.rows]
theorem Resources.rowsApp (l m : List Resources) : Resources.rows (l ++ m) = Resources.rows l ++ Resources.rows m := by simp [Resources.rows]
theorem Resources.rowsTake (l : List Resources) (n : Nat) : Resources.rows (l.take n) = (Resources.rows l).take n := by simp [Resources.rows, List.map_take]
theorem Resources.rowsDrop (l : List Resources) (n : Nat) : Resources.rows (l.drop n) = (Resources.rows l).drop n := by simp [Resources.rows, List.map_drop]
theorem Resources.rowsSize (l : List Resources) : ∀ r ∈ Resources.rows l, r.length = 3 := mapSize (f := Resources.cells) (fun _ => rfl) l
theorem Resources.rowsView (l : List Resources) (sz : Nat) (h : sz = 3) : ViewOK sz (Resources.rows l).flatten (Resources.rows l) := by subst h; exact ⟨rfl, Resources.rowsSize l, mapPlain (f := Resources.cells) (fun _ => rfl) l⟩

structure Probe where
  delay : Int
  period : Int
  success : Int
  failure : Int
def Probe.cells (x : Probe) : List PV :=
  [.int .i64 x.delay, .int .i64 x.period, .int .i64 x.success, .int .i64 x.failure]
def Probe.rows (l : List Probe) : List (List PV) := l.map Probe.cells
theorem Probe.rowsLen (l : List Probe) : (Probe.rows l).length = l.length := by simp [Probe.rows]
theorem Probe.rowsGet {l : List Probe} {i : Nat} {x : Probe} (h : l[i]? = some x) : (Probe.rows l)[i]? = some (Probe.cells x) := Go.Pv.rowsGet h
theorem Probe.rowsSnoc (l : List Probe) (x : Probe) : Probe.rows (l ++ [x]) = Probe.rows l ++ [Probe.cells x] := by simp [Probe.rows]
theorem Probe.rowsApp (l m : List Probe) : Probe.rows (l ++ m) = Probe.rows l ++ Probe.rows m := by simp [Probe.rows]
theorem Probe.rowsTake (l : List Probe) (n : Nat) : Probe.rows (l.take n) = (Probe.rows l).take n := by simp [Probe.rows, List.map_take]
theorem Probe.rowsDrop (l : List Probe) (n : Nat) : Probe.rows (l.drop n) = (Probe.rows l).drop n := by simp [Probe.rows, List.map_drop]
theorem Probe.rowsSize (l : List Probe) : ∀ r ∈ Probe.rows l, r.length = 4 := mapSize (f := Probe.cells) (fun _ => rfl) l
theorem Probe.rowsView (l : List Probe) (sz : Nat) (h : sz = 4) : ViewOK sz (Probe.rows l).flatten (Probe.rows l) := by subst h; exact ⟨rfl, Probe.rowsSize l, mapPlain (f := Probe.cells) (fun _ => rfl) l⟩

structure Container where
  name : ByteArray
  image : ByteArray
  request : Resources
  limit : Resources
  live : List Probe
  ready : List Probe
  startup : List Probe
def Container.cells (x : Container) : List PV :=
  [.str x.name, .str x.image, .int .i64 x.request.cPU, .int .i64 x.request.memory, .int .i64 x.request.disk, .int .i64 x.limit.cPU, .int .i64 x.limit.memory, .int .i64 x.limit.disk, .sl (Probe.rows x.live), .sl (Probe.rows x.ready), .sl (Probe.rows x.startup)]
def Container.rows (l : List Container) : List (List PV) := l.map Container.cells
theorem Container.rowsLen (l : List Container) : (Container.rows l).length = l.length := by simp [Container.rows]
theorem Container.rowsGet {l : List Container} {i : Nat} {x : Container} (h : l[i]? = some x) : (Container.rows l)[i]? = some (Container.cells x) := Go.Pv.rowsGet h
theorem Container.rowsSnoc (l : List Container) (x : Container) : Container.rows (l ++ [x]) = Container.rows l ++ [Container.cells x] := by simp [Container.rows]
theorem Container.rowsApp (l m : List Container) : Container.rows (l ++ m) = Container.rows l ++ Container.rows m := by simp [Container.rows]
theorem Container.rowsTake (l : List Container) (n : Nat) : Container.rows (l.take n) = (Container.rows l).take n := by simp [Container.rows, List.map_take]
theorem Container.rowsDrop (l : List Container) (n : Nat) : Container.rows (l.drop n) = (Container.rows l).drop n := by simp [Container.rows, List.map_drop]
theorem Container.rowsSize (l : List Container) : ∀ r ∈ Container.rows l, r.length = 11 := mapSize (f := Container.cells) (fun _ => rfl) l
theorem Container.rowsView (l : List Container) (sz : Nat) (h : sz = 11) : ViewOK sz (Container.rows l).flatten (Container.rows l) := by subst h; exact ⟨rfl, Container.rowsSize l, mapPlain (f := Container.cells) (fun _ => rfl) l⟩

structure Requirement where
  key : ByteArray
  op : Int
  values : List ByteArray
def Requirement.cells (x : Requirement) : List PV :=
  [.str x.key, .int .i64 x.op, .sl (strRows x.values)]
def Requirement.rows (l : List Requirement) : List (List PV) := l.map Requirement.cells
theorem Requirement.rowsLen (l : List Requirement) : (Requirement.rows l).length = l.length := by simp [Requirement.rows]
theorem Requirement.rowsGet {l : List Requirement} {i : Nat} {x : Requirement} (h : l[i]? = some x) : (Requirement.rows l)[i]? = some (Requirement.cells x) := Go.Pv.rowsGet h
theorem Requirement.rowsSnoc (l : List Requirement) (x : Requirement) : Requirement.rows (l ++ [x]) = Requirement.rows l ++ [Requirement.cells x] := by simp [Requirement.rows]
theorem Requirement.rowsApp (l m : List Requirement) : Requirement.rows (l ++ m) = Requirement.rows l ++ Requirement.rows m := by simp [Requirement.rows]
theorem Requirement.rowsTake (l : List Requirement) (n : Nat) : Requirement.rows (l.take n) = (Requirement.rows l).take n := by simp [Requirement.rows, List.map_take]
theorem Requirement.rowsDrop (l : List Requirement) (n : Nat) : Requirement.rows (l.drop n) = (Requirement.rows l).drop n := by simp [Requirement.rows, List.map_drop]
theorem Requirement.rowsSize (l : List Requirement) : ∀ r ∈ Requirement.rows l, r.length = 3 := mapSize (f := Requirement.cells) (fun _ => rfl) l
theorem Requirement.rowsView (l : List Requirement) (sz : Nat) (h : sz = 3) : ViewOK sz (Requirement.rows l).flatten (Requirement.rows l) := by subst h; exact ⟨rfl, Requirement.rowsSize l, mapPlain (f := Requirement.cells) (fun _ => rfl) l⟩

structure NodeTerm where
  required : Bool
  selector : List Requirement
  weight : Int
def NodeTerm.cells (x : NodeTerm) : List PV :=
  [.bool x.required, .sl (Requirement.rows x.selector), .int .i64 x.weight]
def NodeTerm.rows (l : List NodeTerm) : List (List PV) := l.map NodeTerm.cells
theorem NodeTerm.rowsLen (l : List NodeTerm) : (NodeTerm.rows l).length = l.length := by simp [NodeTerm.rows]
theorem NodeTerm.rowsGet {l : List NodeTerm} {i : Nat} {x : NodeTerm} (h : l[i]? = some x) : (NodeTerm.rows l)[i]? = some (NodeTerm.cells x) := Go.Pv.rowsGet h
theorem NodeTerm.rowsSnoc (l : List NodeTerm) (x : NodeTerm) : NodeTerm.rows (l ++ [x]) = NodeTerm.rows l ++ [NodeTerm.cells x] := by simp [NodeTerm.rows]
theorem NodeTerm.rowsApp (l m : List NodeTerm) : NodeTerm.rows (l ++ m) = NodeTerm.rows l ++ NodeTerm.rows m := by simp [NodeTerm.rows]
theorem NodeTerm.rowsTake (l : List NodeTerm) (n : Nat) : NodeTerm.rows (l.take n) = (NodeTerm.rows l).take n := by simp [NodeTerm.rows, List.map_take]
theorem NodeTerm.rowsDrop (l : List NodeTerm) (n : Nat) : NodeTerm.rows (l.drop n) = (NodeTerm.rows l).drop n := by simp [NodeTerm.rows, List.map_drop]
theorem NodeTerm.rowsSize (l : List NodeTerm) : ∀ r ∈ NodeTerm.rows l, r.length = 3 := mapSize (f := NodeTerm.cells) (fun _ => rfl) l
theorem NodeTerm.rowsView (l : List NodeTerm) (sz : Nat) (h : sz = 3) : ViewOK sz (NodeTerm.rows l).flatten (NodeTerm.rows l) := by subst h; exact ⟨rfl, NodeTerm.rowsSize l, mapPlain (f := NodeTerm.cells) (fun _ => rfl) l⟩

structure PodTerm where
  required : Bool
  anti : Bool
  selector : List Requirement
  topology : ByteArray
  weight : Int
def PodTerm.cells (x : PodTerm) : List PV :=
  [.bool x.required, .bool x.anti, .sl (Requirement.rows x.selector), .str x.topology, .int .i64 x.weight]
def PodTerm.rows (l : List PodTerm) : List (List PV) := l.map PodTerm.cells
theorem PodTerm.rowsLen (l : List PodTerm) : (PodTerm.rows l).length = l.length := by simp [PodTerm.rows]
theorem PodTerm.rowsGet {l : List PodTerm} {i : Nat} {x : PodTerm} (h : l[i]? = some x) : (PodTerm.rows l)[i]? = some (PodTerm.cells x) := Go.Pv.rowsGet h
theorem PodTerm.rowsSnoc (l : List PodTerm) (x : PodTerm) : PodTerm.rows (l ++ [x]) = PodTerm.rows l ++ [PodTerm.cells x] := by simp [PodTerm.rows]
theorem PodTerm.rowsApp (l m : List PodTerm) : PodTerm.rows (l ++ m) = PodTerm.rows l ++ PodTerm.rows m := by simp [PodTerm.rows]
theorem PodTerm.rowsTake (l : List PodTerm) (n : Nat) : PodTerm.rows (l.take n) = (PodTerm.rows l).take n := by simp [PodTerm.rows, List.map_take]
theorem PodTerm.rowsDrop (l : List PodTerm) (n : Nat) : PodTerm.rows (l.drop n) = (PodTerm.rows l).drop n := by simp [PodTerm.rows, List.map_drop]
theorem PodTerm.rowsSize (l : List PodTerm) : ∀ r ∈ PodTerm.rows l, r.length = 5 := mapSize (f := PodTerm.cells) (fun _ => rfl) l
theorem PodTerm.rowsView (l : List PodTerm) (sz : Nat) (h : sz = 5) : ViewOK sz (PodTerm.rows l).flatten (PodTerm.rows l) := by subst h; exact ⟨rfl, PodTerm.rowsSize l, mapPlain (f := PodTerm.cells) (fun _ => rfl) l⟩

structure SpreadRule where
  maxSkew : Int
  topology : ByteArray
  selector : List Requirement
  required : Bool
def SpreadRule.cells (x : SpreadRule) : List PV :=
  [.int .i64 x.maxSkew, .str x.topology, .sl (Requirement.rows x.selector), .bool x.required]
def SpreadRule.rows (l : List SpreadRule) : List (List PV) := l.map SpreadRule.cells
theorem SpreadRule.rowsLen (l : List SpreadRule) : (SpreadRule.rows l).length = l.length := by simp [SpreadRule.rows]
theorem SpreadRule.rowsGet {l : List SpreadRule} {i : Nat} {x : SpreadRule} (h : l[i]? = some x) : (SpreadRule.rows l)[i]? = some (SpreadRule.cells x) := Go.Pv.rowsGet h
theorem SpreadRule.rowsSnoc (l : List SpreadRule) (x : SpreadRule) : SpreadRule.rows (l ++ [x]) = SpreadRule.rows l ++ [SpreadRule.cells x] := by simp [SpreadRule.rows]
theorem SpreadRule.rowsApp (l m : List SpreadRule) : SpreadRule.rows (l ++ m) = SpreadRule.rows l ++ SpreadRule.rows m := by simp [SpreadRule.rows]
theorem SpreadRule.rowsTake (l : List SpreadRule) (n : Nat) : SpreadRule.rows (l.take n) = (SpreadRule.rows l).take n := by simp [SpreadRule.rows, List.map_take]
theorem SpreadRule.rowsDrop (l : List SpreadRule) (n : Nat) : SpreadRule.rows (l.drop n) = (SpreadRule.rows l).drop n := by simp [SpreadRule.rows, List.map_drop]
theorem SpreadRule.rowsSize (l : List SpreadRule) : ∀ r ∈ SpreadRule.rows l, r.length = 4 := mapSize (f := SpreadRule.cells) (fun _ => rfl) l
theorem SpreadRule.rowsView (l : List SpreadRule) (sz : Nat) (h : sz = 4) : ViewOK sz (SpreadRule.rows l).flatten (SpreadRule.rows l) := by subst h; exact ⟨rfl, SpreadRule.rowsSize l, mapPlain (f := SpreadRule.cells) (fun _ => rfl) l⟩

structure Toleration where
  key : ByteArray
  value : ByteArray
  exists_ : Bool
  effect : Int
  seconds : Int
def Toleration.cells (x : Toleration) : List PV :=
  [.str x.key, .str x.value, .bool x.exists_, .int .i64 x.effect, .int .i64 x.seconds]
def Toleration.rows (l : List Toleration) : List (List PV) := l.map Toleration.cells
theorem Toleration.rowsLen (l : List Toleration) : (Toleration.rows l).length = l.length := by simp [Toleration.rows]
theorem Toleration.rowsGet {l : List Toleration} {i : Nat} {x : Toleration} (h : l[i]? = some x) : (Toleration.rows l)[i]? = some (Toleration.cells x) := Go.Pv.rowsGet h
theorem Toleration.rowsSnoc (l : List Toleration) (x : Toleration) : Toleration.rows (l ++ [x]) = Toleration.rows l ++ [Toleration.cells x] := by simp [Toleration.rows]
theorem Toleration.rowsApp (l m : List Toleration) : Toleration.rows (l ++ m) = Toleration.rows l ++ Toleration.rows m := by simp [Toleration.rows]
theorem Toleration.rowsTake (l : List Toleration) (n : Nat) : Toleration.rows (l.take n) = (Toleration.rows l).take n := by simp [Toleration.rows, List.map_take]
theorem Toleration.rowsDrop (l : List Toleration) (n : Nat) : Toleration.rows (l.drop n) = (Toleration.rows l).drop n := by simp [Toleration.rows, List.map_drop]
theorem Toleration.rowsSize (l : List Toleration) : ∀ r ∈ Toleration.rows l, r.length = 5 := mapSize (f := Toleration.cells) (fun _ => rfl) l
theorem Toleration.rowsView (l : List Toleration) (sz : Nat) (h : sz = 5) : ViewOK sz (Toleration.rows l).flatten (Toleration.rows l) := by subst h; exact ⟨rfl, Toleration.rowsSize l, mapPlain (f := Toleration.cells) (fun _ => rfl) l⟩

structure PodSpec where
  node : ByteArray
  priority : Int
  restart : Int
  grace : Int
  containers : List Container
  nodeSelector : List Requirement
  nodeTerms : List NodeTerm
  podTerms : List PodTerm
  spread : List SpreadRule
  tolerations : List Toleration
def PodSpec.cells (x : PodSpec) : List PV :=
  [.str x.node, .int .i64 x.priority, .int .i64 x.restart, .int .i64 x.grace, .sl (Container.rows x.containers), .sl (Requirement.rows x.nodeSelector), .sl (NodeTerm.rows x.nodeTerms), .sl (PodTerm.rows x.podTerms), .sl (SpreadRule.rows x.spread), .sl (Toleration.rows x.tolerations)]
def PodSpec.rows (l : List PodSpec) : List (List PV) := l.map PodSpec.cells
theorem PodSpec.rowsLen (l : List PodSpec) : (PodSpec.rows l).length = l.length := by simp [PodSpec.rows]
theorem PodSpec.rowsGet {l : List PodSpec} {i : Nat} {x : PodSpec} (h : l[i]? = some x) : (PodSpec.rows l)[i]? = some (PodSpec.cells x) := Go.Pv.rowsGet h
theorem PodSpec.rowsSnoc (l : List PodSpec) (x : PodSpec) : PodSpec.rows (l ++ [x]) = PodSpec.rows l ++ [PodSpec.cells x] := by simp [PodSpec.rows]
theorem PodSpec.rowsApp (l m : List PodSpec) : PodSpec.rows (l ++ m) = PodSpec.rows l ++ PodSpec.rows m := by simp [PodSpec.rows]
theorem PodSpec.rowsTake (l : List PodSpec) (n : Nat) : PodSpec.rows (l.take n) = (PodSpec.rows l).take n := by simp [PodSpec.rows, List.map_take]
theorem PodSpec.rowsDrop (l : List PodSpec) (n : Nat) : PodSpec.rows (l.drop n) = (PodSpec.rows l).drop n := by simp [PodSpec.rows, List.map_drop]
theorem PodSpec.rowsSize (l : List PodSpec) : ∀ r ∈ PodSpec.rows l, r.length = 10 := mapSize (f := PodSpec.cells) (fun _ => rfl) l
theorem PodSpec.rowsView (l : List PodSpec) (sz : Nat) (h : sz = 10) : ViewOK sz (PodSpec.rows l).flatten (PodSpec.rows l) := by subst h; exact ⟨rfl, PodSpec.rowsSize l, mapPlain (f := PodSpec.cells) (fun _ => rfl) l⟩

/-- orchestrator/ orchestratorlaw51.lives -/
theorem t_law51_lives : Tells G (.call 7 [] []) (.ret (.bool true) []) := ⟨200, by kernel_rfl⟩

/-- orchestrator/ qos.clamp -/
def s_qos_clamp (p0 : Int) : Int :=
  (mn (mx p0 0) 1000000000000000)
def c_qos_clamp (p0 : Int) : En := .call 20 [.int .i64 p0] []
def a_qos_clamp (p0 : Int) : Rs := .ret (.int .i64 (s_qos_clamp p0)) []
theorem t_qos_clamp (p0 : Int) : Tells G (c_qos_clamp p0) (a_qos_clamp p0) := by
  unfold a_qos_clamp s_qos_clamp
  exact tells_V (fn := Ir.qos_clamp) rfl VOK.nil (hs := []) (as := []) Met.nil Told.nil (by kernel_rfl)

def l_qos_Class_b0 (p0 : PodSpec) : List Container → Nat → Int → Bool → Int × Bool
  | [], _i0, v0_1, v0_2 =>
    (v0_1, v0_2)
  | x0 :: r0, i0, v0_1, v0_2 =>
    bif ((s_qos_clamp x0.request.cPU) == 0) then
      bif (v0_2 == true) then
        l_qos_Class_b0 p0 r0 (i0 + 1) 1 true
      else
        l_qos_Class_b0 p0 r0 (i0 + 1) 1 (decide (0 < (w64 ((w64 ((w64 ((s_qos_clamp x0.request.cPU) + (s_qos_clamp x0.request.memory))) + (s_qos_clamp x0.limit.cPU))) + (s_qos_clamp x0.limit.memory)))))
    else
      bif ((s_qos_clamp x0.request.memory) == 0) then
        bif (v0_2 == true) then
          l_qos_Class_b0 p0 r0 (i0 + 1) 1 true
        else
          l_qos_Class_b0 p0 r0 (i0 + 1) 1 (decide (0 < (w64 ((w64 ((w64 ((s_qos_clamp x0.request.cPU) + (s_qos_clamp x0.request.memory))) + (s_qos_clamp x0.limit.cPU))) + (s_qos_clamp x0.limit.memory)))))
      else
        bif ((s_qos_clamp x0.request.cPU) == (s_qos_clamp x0.limit.cPU)) then
          bif ((s_qos_clamp x0.request.memory) == (s_qos_clamp x0.limit.memory)) then
            bif (v0_2 == true) then
              l_qos_Class_b0 p0 r0 (i0 + 1) v0_1 true
            else
              l_qos_Class_b0 p0 r0 (i0 + 1) v0_1 (decide (0 < (w64 ((w64 ((w64 ((s_qos_clamp x0.request.cPU) + (s_qos_clamp x0.request.memory))) + (s_qos_clamp x0.limit.cPU))) + (s_qos_clamp x0.limit.memory)))))
          else
            bif (v0_2 == true) then
              l_qos_Class_b0 p0 r0 (i0 + 1) 1 true
            else
              l_qos_Class_b0 p0 r0 (i0 + 1) 1 (decide (0 < (w64 ((w64 ((w64 ((s_qos_clamp x0.request.cPU) + (s_qos_clamp x0.request.memory))) + (s_qos_clamp x0.limit.cPU))) + (s_qos_clamp x0.limit.memory)))))
        else
          bif (v0_2 == true) then
            l_qos_Class_b0 p0 r0 (i0 + 1) 1 true
          else
            l_qos_Class_b0 p0 r0 (i0 + 1) 1 (decide (0 < (w64 ((w64 ((w64 ((s_qos_clamp x0.request.cPU) + (s_qos_clamp x0.request.memory))) + (s_qos_clamp x0.limit.cPU))) + (s_qos_clamp x0.limit.memory)))))
def HE_qos_Class_b0 (p0 : PodSpec) (i0 : Nat) (v0_1 : Int) (v0_2 : Bool) : List PV :=
  [.un, .un, .un, .int .i64 v0_1, .bool v0_2, .un, .un, .un, .un, .un, .un, .un, .sl (Container.rows p0.containers), .int .i64 ((List.length p0.containers) : Int), .int .i64 (i0 : Int), .un, .un, .un, .un, .un, .un, .un, .un, .un, .un, .un, .un, .un, .un, .un, .un, .un, .un, .un, .un, .un, .un, .un, .un, .un, .un, .un, .un, .un, .un, .un, .un, .un, .un, .un, .un, .un, .un, .un, .un, .un, .un, .un, .un, .un, .un, .un, .un, .un, .un]
def HO_qos_Class_b0 (_p0 : PodSpec) (_i0 : Nat) (_v0_1 : Int) (_v0_2 : Bool) : List Ob :=
  []
def E_qos_Class_b0 (p0 : PodSpec) (i0 : Nat) (v0_1 : Int) (v0_2 : Bool) : En := .loop 0 Ir.qos_Class_b0_live Ir.qos_Class_b0 (HE_qos_Class_b0 p0 i0 v0_1 v0_2) (HO_qos_Class_b0 p0 i0 v0_1 v0_2)
def S_qos_Class_b0_0 (_p0 : PodSpec) (q0 : Int) (q1 : Bool) (z : Nat → PV) (_zo : Nat → List PV) : St :=
  ⟨[z 0, z 1, z 2, .int .i64 q0, .bool q1, z 5, z 6, z 7, z 8, z 9, z 10, z 11, z 12, z 13, z 14, z 15, z 16, z 17, z 18, z 19, z 20, z 21, z 22, z 23, z 24, z 25, z 26, z 27, z 28, z 29, z 30, z 31, z 32, z 33, z 34, z 35, z 36, z 37, z 38, z 39, z 40, z 41, z 42, z 43, z 44, z 45, z 46, z 47, z 48, z 49, z 50, z 51, z 52, z 53, z 54, z 55, z 56, z 57, z 58, z 59, z 60, z 61, z 62, z 63, z 64], [], 64⟩
def P_qos_Class_b0 (p0 : PodSpec) (e : En) (q : Int × Bool) : Prop := ∃ z zo, Tells G e (.st (.exit 0) (S_qos_Class_b0_0 p0 q.1 q.2 z zo))
theorem P_qos_Class_b0_mono (p0 : PodSpec) {e e' : En} (h : ∀ r, Tells G e r → Tells G e' r) : ∀ q, P_qos_Class_b0 p0 e q → P_qos_Class_b0 p0 e' q
  | _, ⟨z, zo, hz⟩ => ⟨z, zo, h _ hz⟩
def H_qos_Class_b0 (p0 : PodSpec) : Prop := (List.length p0.containers ≤ 4611686018427387904) ∧ True
def Z_qos_Class_b0_0 (p0 : PodSpec) (i0 : Nat) (_v0_1 : Int) (_v0_2 : Bool) : List PV :=
  [.un, .un, .un, .un, .un, .un, .un, .un, .un, .un, .un, .un, .sl (Container.rows p0.containers), .int .i64 ((List.length p0.containers) : Int), .int .i64 (i0 : Int), .bool false, .un, .un, .un, .un, .un, .un, .un, .un, .un, .un, .un, .un, .un, .un, .un, .un, .un, .un, .un, .un, .un, .un, .un, .un, .un, .un, .un, .un, .un, .un, .un, .un, .un, .un, .un, .un, .un, .un, .un, .un, .un, .un, .un, .un, .un, .un, .un, .un, .un]
def ZO_qos_Class_b0_0 (_p0 : PodSpec) (_i0 : Nat) (_v0_1 : Int) (_v0_2 : Bool) : List (Nat × List PV) :=
  []
theorem x_qos_Class_b0_0 (p0 : PodSpec) (_H : H_qos_Class_b0 p0) (i0 : Nat) (v0_1 : Int) (v0_2 : Bool) (hc0 : (decide ((i0 : Int) < ((List.length p0.containers) : Int))) = false) : P_qos_Class_b0 p0 (E_qos_Class_b0 p0 i0 v0_1 v0_2) (v0_1, v0_2) := by
  exact ⟨(envF (Z_qos_Class_b0_0 p0 i0 v0_1 v0_2)), (zoF (ZO_qos_Class_b0_0 p0 i0 v0_1 v0_2)), tells_outV (h := HO_qos_Class_b0 p0 i0 v0_1 v0_2) (vw := []) VOK.nil (x := ((.exit 0), S_qos_Class_b0_0 p0 v0_1 v0_2 (envF (Z_qos_Class_b0_0 p0 i0 v0_1 v0_2)) (zoF (ZO_qos_Class_b0_0 p0 i0 v0_1 v0_2)))) (hs := [(0, (bE false, []))]) (as := []) (Met.cons (dec (decide ((i0 : Int) < ((List.length p0.containers) : Int))) false hc0) Met.nil) Told.nil (by kernel_rfl)⟩
theorem n_qos_Class_b0_1 (p0 : PodSpec) (H : H_qos_Class_b0 p0) (x0 : Container) (i0 : Nat) (v0_1 : Int) (v0_2 : Bool) (hx0 : p0.containers[i0]? = some x0) (hi0 : i0 < List.length p0.containers) (hc0 : (decide ((i0 : Int) < ((List.length p0.containers) : Int))) = true) (h0 : ((s_qos_clamp x0.request.cPU) == 0) = true) (h1 : (v0_2 == true) = true) {r : Rs} (hr : Tells G (E_qos_Class_b0 p0 (i0 + 1) 1 true) r) : Tells G (E_qos_Class_b0 p0 i0 v0_1 v0_2) r := by
  have hB := H.1
  exact tells_nextV (h := HO_qos_Class_b0 p0 i0 v0_1 v0_2) (vw := []) VOK.nil (y := (HE_qos_Class_b0 p0 (i0 + 1) 1 true, HO_qos_Class_b0 p0 (i0 + 1) 1 true)) (hs := [(0, (bE true, [])), (0, (vE (.rf (Container.cells x0)), [])), (24, (bE true, [])), (15, (bE true, [])), (11, (vE (.int .i64 ((i0 + 1 : Nat) : Int)), []))]) (as := [⟨a_qos_clamp x0.request.cPU, []⟩, ⟨a_qos_clamp x0.request.memory, []⟩, ⟨a_qos_clamp x0.limit.cPU, []⟩, ⟨a_qos_clamp x0.limit.memory, []⟩]) (Met.cons (dec (decide ((i0 : Int) < ((List.length p0.containers) : Int))) true hc0) (Met.cons (ix_ok 11 (Container.rows p0.containers) i0 _ (Container.rowsGet hx0) rfl) (Met.cons (dec ((s_qos_clamp x0.request.cPU) == 0) true h0) (Met.cons (dec v0_2 true (beqT h1)) (Met.cons (inc_ok i0 (by omega)) Met.nil))))) (Told.cons (t_qos_clamp x0.request.cPU) (Told.cons (t_qos_clamp x0.request.memory) (Told.cons (t_qos_clamp x0.limit.cPU) (Told.cons (t_qos_clamp x0.limit.memory) Told.nil)))) (by kernel_rfl) hr
theorem n_qos_Class_b0_2 (p0 : PodSpec) (H : H_qos_Class_b0 p0) (x0 : Container) (i0 : Nat) (v0_1 : Int) (v0_2 : Bool) (hx0 : p0.containers[i0]? = some x0) (hi0 : i0 < List.length p0.containers) (hc0 : (decide ((i0 : Int) < ((List.length p0.containers) : Int))) = true) (h0 : ((s_qos_clamp x0.request.cPU) == 0) = true) (h1 : (v0_2 == true) = false) {r : Rs} (hr : Tells G (E_qos_Class_b0 p0 (i0 + 1) 1 (decide (0 < (w64 ((w64 ((w64 ((s_qos_clamp x0.request.cPU) + (s_qos_clamp x0.request.memory))) + (s_qos_clamp x0.limit.cPU))) + (s_qos_clamp x0.limit.memory)))))) r) : Tells G (E_qos_Class_b0 p0 i0 v0_1 v0_2) r := by
  have hB := H.1
  exact tells_nextV (h := HO_qos_Class_b0 p0 i0 v0_1 v0_2) (vw := []) VOK.nil (y := (HE_qos_Class_b0 p0 (i0 + 1) 1 (decide (0 < (w64 ((w64 ((w64 ((s_qos_clamp x0.request.cPU) + (s_qos_clamp x0.request.memory))) + (s_qos_clamp x0.limit.cPU))) + (s_qos_clamp x0.limit.memory))))), HO_qos_Class_b0 p0 (i0 + 1) 1 (decide (0 < (w64 ((w64 ((w64 ((s_qos_clamp x0.request.cPU) + (s_qos_clamp x0.request.memory))) + (s_qos_clamp x0.limit.cPU))) + (s_qos_clamp x0.limit.memory))))))) (hs := [(0, (bE true, [])), (0, (vE (.rf (Container.cells x0)), [])), (24, (bE true, [])), (15, (bE false, [])), (11, (vE (.int .i64 ((i0 + 1 : Nat) : Int)), []))]) (as := [⟨a_qos_clamp x0.request.cPU, []⟩, ⟨a_qos_clamp x0.request.memory, []⟩, ⟨a_qos_clamp x0.limit.cPU, []⟩, ⟨a_qos_clamp x0.limit.memory, []⟩]) (Met.cons (dec (decide ((i0 : Int) < ((List.length p0.containers) : Int))) true hc0) (Met.cons (ix_ok 11 (Container.rows p0.containers) i0 _ (Container.rowsGet hx0) rfl) (Met.cons (dec ((s_qos_clamp x0.request.cPU) == 0) true h0) (Met.cons (dec v0_2 false (beqT h1)) (Met.cons (inc_ok i0 (by omega)) Met.nil))))) (Told.cons (t_qos_clamp x0.request.cPU) (Told.cons (t_qos_clamp x0.request.memory) (Told.cons (t_qos_clamp x0.limit.cPU) (Told.cons (t_qos_clamp x0.limit.memory) Told.nil)))) (by kernel_rfl) hr
theorem n_qos_Class_b0_3 (p0 : PodSpec) (H : H_qos_Class_b0 p0) (x0 : Container) (i0 : Nat) (v0_1 : Int) (v0_2 : Bool) (hx0 : p0.containers[i0]? = some x0) (hi0 : i0 < List.length p0.containers) (hc0 : (decide ((i0 : Int) < ((List.length p0.containers) : Int))) = true) (h0 : ((s_qos_clamp x0.request.cPU) == 0) = false) (h1 : ((s_qos_clamp x0.request.memory) == 0) = true) (h2 : (v0_2 == true) = true) {r : Rs} (hr : Tells G (E_qos_Class_b0 p0 (i0 + 1) 1 true) r) : Tells G (E_qos_Class_b0 p0 i0 v0_1 v0_2) r := by
  have hB := H.1
  exact tells_nextV (h := HO_qos_Class_b0 p0 i0 v0_1 v0_2) (vw := []) VOK.nil (y := (HE_qos_Class_b0 p0 (i0 + 1) 1 true, HO_qos_Class_b0 p0 (i0 + 1) 1 true)) (hs := [(0, (bE true, [])), (0, (vE (.rf (Container.cells x0)), [])), (24, (bE false, [])), (2, (bE true, [])), (12, (bE true, [])), (11, (vE (.int .i64 ((i0 + 1 : Nat) : Int)), []))]) (as := [⟨a_qos_clamp x0.request.cPU, []⟩, ⟨a_qos_clamp x0.request.memory, []⟩, ⟨a_qos_clamp x0.limit.cPU, []⟩, ⟨a_qos_clamp x0.limit.memory, []⟩]) (Met.cons (dec (decide ((i0 : Int) < ((List.length p0.containers) : Int))) true hc0) (Met.cons (ix_ok 11 (Container.rows p0.containers) i0 _ (Container.rowsGet hx0) rfl) (Met.cons (dec ((s_qos_clamp x0.request.cPU) == 0) false h0) (Met.cons (dec ((s_qos_clamp x0.request.memory) == 0) true h1) (Met.cons (dec v0_2 true (beqT h2)) (Met.cons (inc_ok i0 (by omega)) Met.nil)))))) (Told.cons (t_qos_clamp x0.request.cPU) (Told.cons (t_qos_clamp x0.request.memory) (Told.cons (t_qos_clamp x0.limit.cPU) (Told.cons (t_qos_clamp x0.limit.memory) Told.nil)))) (by kernel_rfl) hr
theorem n_qos_Class_b0_4 (p0 : PodSpec) (H : H_qos_Class_b0 p0) (x0 : Container) (i0 : Nat) (v0_1 : Int) (v0_2 : Bool) (hx0 : p0.containers[i0]? = some x0) (hi0 : i0 < List.length p0.containers) (hc0 : (decide ((i0 : Int) < ((List.length p0.containers) : Int))) = true) (h0 : ((s_qos_clamp x0.request.cPU) == 0) = false) (h1 : ((s_qos_clamp x0.request.memory) == 0) = true) (h2 : (v0_2 == true) = false) {r : Rs} (hr : Tells G (E_qos_Class_b0 p0 (i0 + 1) 1 (decide (0 < (w64 ((w64 ((w64 ((s_qos_clamp x0.request.cPU) + (s_qos_clamp x0.request.memory))) + (s_qos_clamp x0.limit.cPU))) + (s_qos_clamp x0.limit.memory)))))) r) : Tells G (E_qos_Class_b0 p0 i0 v0_1 v0_2) r := by
  have hB := H.1
  exact tells_nextV (h := HO_qos_Class_b0 p0 i0 v0_1 v0_2) (vw := []) VOK.nil (y := (HE_qos_Class_b0 p0 (i0 + 1) 1 (decide (0 < (w64 ((w64 ((w64 ((s_qos_clamp x0.request.cPU) + (s_qos_clamp x0.request.memory))) + (s_qos_clamp x0.limit.cPU))) + (s_qos_clamp x0.limit.memory))))), HO_qos_Class_b0 p0 (i0 + 1) 1 (decide (0 < (w64 ((w64 ((w64 ((s_qos_clamp x0.request.cPU) + (s_qos_clamp x0.request.memory))) + (s_qos_clamp x0.limit.cPU))) + (s_qos_clamp x0.limit.memory))))))) (hs := [(0, (bE true, [])), (0, (vE (.rf (Container.cells x0)), [])), (24, (bE false, [])), (2, (bE true, [])), (12, (bE false, [])), (11, (vE (.int .i64 ((i0 + 1 : Nat) : Int)), []))]) (as := [⟨a_qos_clamp x0.request.cPU, []⟩, ⟨a_qos_clamp x0.request.memory, []⟩, ⟨a_qos_clamp x0.limit.cPU, []⟩, ⟨a_qos_clamp x0.limit.memory, []⟩]) (Met.cons (dec (decide ((i0 : Int) < ((List.length p0.containers) : Int))) true hc0) (Met.cons (ix_ok 11 (Container.rows p0.containers) i0 _ (Container.rowsGet hx0) rfl) (Met.cons (dec ((s_qos_clamp x0.request.cPU) == 0) false h0) (Met.cons (dec ((s_qos_clamp x0.request.memory) == 0) true h1) (Met.cons (dec v0_2 false (beqT h2)) (Met.cons (inc_ok i0 (by omega)) Met.nil)))))) (Told.cons (t_qos_clamp x0.request.cPU) (Told.cons (t_qos_clamp x0.request.memory) (Told.cons (t_qos_clamp x0.limit.cPU) (Told.cons (t_qos_clamp x0.limit.memory) Told.nil)))) (by kernel_rfl) hr
theorem n_qos_Class_b0_5 (p0 : PodSpec) (H : H_qos_Class_b0 p0) (x0 : Container) (i0 : Nat) (v0_1 : Int) (v0_2 : Bool) (hx0 : p0.containers[i0]? = some x0) (hi0 : i0 < List.length p0.containers) (hc0 : (decide ((i0 : Int) < ((List.length p0.containers) : Int))) = true) (h0 : ((s_qos_clamp x0.request.cPU) == 0) = false) (h1 : ((s_qos_clamp x0.request.memory) == 0) = false) (h2 : ((s_qos_clamp x0.request.cPU) == (s_qos_clamp x0.limit.cPU)) = true) (h3 : ((s_qos_clamp x0.request.memory) == (s_qos_clamp x0.limit.memory)) = true) (h4 : (v0_2 == true) = true) {r : Rs} (hr : Tells G (E_qos_Class_b0 p0 (i0 + 1) v0_1 true) r) : Tells G (E_qos_Class_b0 p0 i0 v0_1 v0_2) r := by
  have hB := H.1
  exact tells_nextV (h := HO_qos_Class_b0 p0 i0 v0_1 v0_2) (vw := []) VOK.nil (y := (HE_qos_Class_b0 p0 (i0 + 1) v0_1 true, HO_qos_Class_b0 p0 (i0 + 1) v0_1 true)) (hs := [(0, (bE true, [])), (0, (vE (.rf (Container.cells x0)), [])), (24, (bE false, [])), (2, (bE false, [])), (4, (bE false, [])), (4, (bE false, [])), (1, (bE true, [])), (11, (vE (.int .i64 ((i0 + 1 : Nat) : Int)), []))]) (as := [⟨a_qos_clamp x0.request.cPU, []⟩, ⟨a_qos_clamp x0.request.memory, []⟩, ⟨a_qos_clamp x0.limit.cPU, []⟩, ⟨a_qos_clamp x0.limit.memory, []⟩]) (Met.cons (dec (decide ((i0 : Int) < ((List.length p0.containers) : Int))) true hc0) (Met.cons (ix_ok 11 (Container.rows p0.containers) i0 _ (Container.rowsGet hx0) rfl) (Met.cons (dec ((s_qos_clamp x0.request.cPU) == 0) false h0) (Met.cons (dec ((s_qos_clamp x0.request.memory) == 0) false h1) (Met.cons (dec (!((s_qos_clamp x0.request.cPU) == (s_qos_clamp x0.limit.cPU))) false (by rw [h2]; rfl)) (Met.cons (dec (!((s_qos_clamp x0.request.memory) == (s_qos_clamp x0.limit.memory))) false (by rw [h3]; rfl)) (Met.cons (dec v0_2 true (beqT h4)) (Met.cons (inc_ok i0 (by omega)) Met.nil)))))))) (Told.cons (t_qos_clamp x0.request.cPU) (Told.cons (t_qos_clamp x0.request.memory) (Told.cons (t_qos_clamp x0.limit.cPU) (Told.cons (t_qos_clamp x0.limit.memory) Told.nil)))) (by kernel_rfl) hr
theorem n_qos_Class_b0_6 (p0 : PodSpec) (H : H_qos_Class_b0 p0) (x0 : Container) (i0 : Nat) (v0_1 : Int) (v0_2 : Bool) (hx0 : p0.containers[i0]? = some x0) (hi0 : i0 < List.length p0.containers) (hc0 : (decide ((i0 : Int) < ((List.length p0.containers) : Int))) = true) (h0 : ((s_qos_clamp x0.request.cPU) == 0) = false) (h1 : ((s_qos_clamp x0.request.memory) == 0) = false) (h2 : ((s_qos_clamp x0.request.cPU) == (s_qos_clamp x0.limit.cPU)) = true) (h3 : ((s_qos_clamp x0.request.memory) == (s_qos_clamp x0.limit.memory)) = true) (h4 : (v0_2 == true) = false) {r : Rs} (hr : Tells G (E_qos_Class_b0 p0 (i0 + 1) v0_1 (decide (0 < (w64 ((w64 ((w64 ((s_qos_clamp x0.request.cPU) + (s_qos_clamp x0.request.memory))) + (s_qos_clamp x0.limit.cPU))) + (s_qos_clamp x0.limit.memory)))))) r) : Tells G (E_qos_Class_b0 p0 i0 v0_1 v0_2) r := by
  have hB := H.1
  exact tells_nextV (h := HO_qos_Class_b0 p0 i0 v0_1 v0_2) (vw := []) VOK.nil (y := (HE_qos_Class_b0 p0 (i0 + 1) v0_1 (decide (0 < (w64 ((w64 ((w64 ((s_qos_clamp x0.request.cPU) + (s_qos_clamp x0.request.memory))) + (s_qos_clamp x0.limit.cPU))) + (s_qos_clamp x0.limit.memory))))), HO_qos_Class_b0 p0 (i0 + 1) v0_1 (decide (0 < (w64 ((w64 ((w64 ((s_qos_clamp x0.request.cPU) + (s_qos_clamp x0.request.memory))) + (s_qos_clamp x0.limit.cPU))) + (s_qos_clamp x0.limit.memory))))))) (hs := [(0, (bE true, [])), (0, (vE (.rf (Container.cells x0)), [])), (24, (bE false, [])), (2, (bE false, [])), (4, (bE false, [])), (4, (bE false, [])), (1, (bE false, [])), (11, (vE (.int .i64 ((i0 + 1 : Nat) : Int)), []))]) (as := [⟨a_qos_clamp x0.request.cPU, []⟩, ⟨a_qos_clamp x0.request.memory, []⟩, ⟨a_qos_clamp x0.limit.cPU, []⟩, ⟨a_qos_clamp x0.limit.memory, []⟩]) (Met.cons (dec (decide ((i0 : Int) < ((List.length p0.containers) : Int))) true hc0) (Met.cons (ix_ok 11 (Container.rows p0.containers) i0 _ (Container.rowsGet hx0) rfl) (Met.cons (dec ((s_qos_clamp x0.request.cPU) == 0) false h0) (Met.cons (dec ((s_qos_clamp x0.request.memory) == 0) false h1) (Met.cons (dec (!((s_qos_clamp x0.request.cPU) == (s_qos_clamp x0.limit.cPU))) false (by rw [h2]; rfl)) (Met.cons (dec (!((s_qos_clamp x0.request.memory) == (s_qos_clamp x0.limit.memory))) false (by rw [h3]; rfl)) (Met.cons (dec v0_2 false (beqT h4)) (Met.cons (inc_ok i0 (by omega)) Met.nil)))))))) (Told.cons (t_qos_clamp x0.request.cPU) (Told.cons (t_qos_clamp x0.request.memory) (Told.cons (t_qos_clamp x0.limit.cPU) (Told.cons (t_qos_clamp x0.limit.memory) Told.nil)))) (by kernel_rfl) hr
theorem n_qos_Class_b0_7 (p0 : PodSpec) (H : H_qos_Class_b0 p0) (x0 : Container) (i0 : Nat) (v0_1 : Int) (v0_2 : Bool) (hx0 : p0.containers[i0]? = some x0) (hi0 : i0 < List.length p0.containers) (hc0 : (decide ((i0 : Int) < ((List.length p0.containers) : Int))) = true) (h0 : ((s_qos_clamp x0.request.cPU) == 0) = false) (h1 : ((s_qos_clamp x0.request.memory) == 0) = false) (h2 : ((s_qos_clamp x0.request.cPU) == (s_qos_clamp x0.limit.cPU)) = true) (h3 : ((s_qos_clamp x0.request.memory) == (s_qos_clamp x0.limit.memory)) = false) (h4 : (v0_2 == true) = true) {r : Rs} (hr : Tells G (E_qos_Class_b0 p0 (i0 + 1) 1 true) r) : Tells G (E_qos_Class_b0 p0 i0 v0_1 v0_2) r := by
  have hB := H.1
  exact tells_nextV (h := HO_qos_Class_b0 p0 i0 v0_1 v0_2) (vw := []) VOK.nil (y := (HE_qos_Class_b0 p0 (i0 + 1) 1 true, HO_qos_Class_b0 p0 (i0 + 1) 1 true)) (hs := [(0, (bE true, [])), (0, (vE (.rf (Container.cells x0)), [])), (24, (bE false, [])), (2, (bE false, [])), (4, (bE false, [])), (4, (bE true, [])), (2, (bE true, [])), (11, (vE (.int .i64 ((i0 + 1 : Nat) : Int)), []))]) (as := [⟨a_qos_clamp x0.request.cPU, []⟩, ⟨a_qos_clamp x0.request.memory, []⟩, ⟨a_qos_clamp x0.limit.cPU, []⟩, ⟨a_qos_clamp x0.limit.memory, []⟩]) (Met.cons (dec (decide ((i0 : Int) < ((List.length p0.containers) : Int))) true hc0) (Met.cons (ix_ok 11 (Container.rows p0.containers) i0 _ (Container.rowsGet hx0) rfl) (Met.cons (dec ((s_qos_clamp x0.request.cPU) == 0) false h0) (Met.cons (dec ((s_qos_clamp x0.request.memory) == 0) false h1) (Met.cons (dec (!((s_qos_clamp x0.request.cPU) == (s_qos_clamp x0.limit.cPU))) false (by rw [h2]; rfl)) (Met.cons (dec (!((s_qos_clamp x0.request.memory) == (s_qos_clamp x0.limit.memory))) true (by rw [h3]; rfl)) (Met.cons (dec v0_2 true (beqT h4)) (Met.cons (inc_ok i0 (by omega)) Met.nil)))))))) (Told.cons (t_qos_clamp x0.request.cPU) (Told.cons (t_qos_clamp x0.request.memory) (Told.cons (t_qos_clamp x0.limit.cPU) (Told.cons (t_qos_clamp x0.limit.memory) Told.nil)))) (by kernel_rfl) hr
theorem n_qos_Class_b0_8 (p0 : PodSpec) (H : H_qos_Class_b0 p0) (x0 : Container) (i0 : Nat) (v0_1 : Int) (v0_2 : Bool) (hx0 : p0.containers[i0]? = some x0) (hi0 : i0 < List.length p0.containers) (hc0 : (decide ((i0 : Int) < ((List.length p0.containers) : Int))) = true) (h0 : ((s_qos_clamp x0.request.cPU) == 0) = false) (h1 : ((s_qos_clamp x0.request.memory) == 0) = false) (h2 : ((s_qos_clamp x0.request.cPU) == (s_qos_clamp x0.limit.cPU)) = true) (h3 : ((s_qos_clamp x0.request.memory) == (s_qos_clamp x0.limit.memory)) = false) (h4 : (v0_2 == true) = false) {r : Rs} (hr : Tells G (E_qos_Class_b0 p0 (i0 + 1) 1 (decide (0 < (w64 ((w64 ((w64 ((s_qos_clamp x0.request.cPU) + (s_qos_clamp x0.request.memory))) + (s_qos_clamp x0.limit.cPU))) + (s_qos_clamp x0.limit.memory)))))) r) : Tells G (E_qos_Class_b0 p0 i0 v0_1 v0_2) r := by
  have hB := H.1
  exact tells_nextV (h := HO_qos_Class_b0 p0 i0 v0_1 v0_2) (vw := []) VOK.nil (y := (HE_qos_Class_b0 p0 (i0 + 1) 1 (decide (0 < (w64 ((w64 ((w64 ((s_qos_clamp x0.request.cPU) + (s_qos_clamp x0.request.memory))) + (s_qos_clamp x0.limit.cPU))) + (s_qos_clamp x0.limit.memory))))), HO_qos_Class_b0 p0 (i0 + 1) 1 (decide (0 < (w64 ((w64 ((w64 ((s_qos_clamp x0.request.cPU) + (s_qos_clamp x0.request.memory))) + (s_qos_clamp x0.limit.cPU))) + (s_qos_clamp x0.limit.memory))))))) (hs := [(0, (bE true, [])), (0, (vE (.rf (Container.cells x0)), [])), (24, (bE false, [])), (2, (bE false, [])), (4, (bE false, [])), (4, (bE true, [])), (2, (bE false, [])), (11, (vE (.int .i64 ((i0 + 1 : Nat) : Int)), []))]) (as := [⟨a_qos_clamp x0.request.cPU, []⟩, ⟨a_qos_clamp x0.request.memory, []⟩, ⟨a_qos_clamp x0.limit.cPU, []⟩, ⟨a_qos_clamp x0.limit.memory, []⟩]) (Met.cons (dec (decide ((i0 : Int) < ((List.length p0.containers) : Int))) true hc0) (Met.cons (ix_ok 11 (Container.rows p0.containers) i0 _ (Container.rowsGet hx0) rfl) (Met.cons (dec ((s_qos_clamp x0.request.cPU) == 0) false h0) (Met.cons (dec ((s_qos_clamp x0.request.memory) == 0) false h1) (Met.cons (dec (!((s_qos_clamp x0.request.cPU) == (s_qos_clamp x0.limit.cPU))) false (by rw [h2]; rfl)) (Met.cons (dec (!((s_qos_clamp x0.request.memory) == (s_qos_clamp x0.limit.memory))) true (by rw [h3]; rfl)) (Met.cons (dec v0_2 false (beqT h4)) (Met.cons (inc_ok i0 (by omega)) Met.nil)))))))) (Told.cons (t_qos_clamp x0.request.cPU) (Told.cons (t_qos_clamp x0.request.memory) (Told.cons (t_qos_clamp x0.limit.cPU) (Told.cons (t_qos_clamp x0.limit.memory) Told.nil)))) (by kernel_rfl) hr
theorem n_qos_Class_b0_9 (p0 : PodSpec) (H : H_qos_Class_b0 p0) (x0 : Container) (i0 : Nat) (v0_1 : Int) (v0_2 : Bool) (hx0 : p0.containers[i0]? = some x0) (hi0 : i0 < List.length p0.containers) (hc0 : (decide ((i0 : Int) < ((List.length p0.containers) : Int))) = true) (h0 : ((s_qos_clamp x0.request.cPU) == 0) = false) (h1 : ((s_qos_clamp x0.request.memory) == 0) = false) (h2 : ((s_qos_clamp x0.request.cPU) == (s_qos_clamp x0.limit.cPU)) = false) (h3 : (v0_2 == true) = true) {r : Rs} (hr : Tells G (E_qos_Class_b0 p0 (i0 + 1) 1 true) r) : Tells G (E_qos_Class_b0 p0 i0 v0_1 v0_2) r := by
  have hB := H.1
  exact tells_nextV (h := HO_qos_Class_b0 p0 i0 v0_1 v0_2) (vw := []) VOK.nil (y := (HE_qos_Class_b0 p0 (i0 + 1) 1 true, HO_qos_Class_b0 p0 (i0 + 1) 1 true)) (hs := [(0, (bE true, [])), (0, (vE (.rf (Container.cells x0)), [])), (24, (bE false, [])), (2, (bE false, [])), (4, (bE true, [])), (7, (bE true, [])), (11, (vE (.int .i64 ((i0 + 1 : Nat) : Int)), []))]) (as := [⟨a_qos_clamp x0.request.cPU, []⟩, ⟨a_qos_clamp x0.request.memory, []⟩, ⟨a_qos_clamp x0.limit.cPU, []⟩, ⟨a_qos_clamp x0.limit.memory, []⟩]) (Met.cons (dec (decide ((i0 : Int) < ((List.length p0.containers) : Int))) true hc0) (Met.cons (ix_ok 11 (Container.rows p0.containers) i0 _ (Container.rowsGet hx0) rfl) (Met.cons (dec ((s_qos_clamp x0.request.cPU) == 0) false h0) (Met.cons (dec ((s_qos_clamp x0.request.memory) == 0) false h1) (Met.cons (dec (!((s_qos_clamp x0.request.cPU) == (s_qos_clamp x0.limit.cPU))) true (by rw [h2]; rfl)) (Met.cons (dec v0_2 true (beqT h3)) (Met.cons (inc_ok i0 (by omega)) Met.nil))))))) (Told.cons (t_qos_clamp x0.request.cPU) (Told.cons (t_qos_clamp x0.request.memory) (Told.cons (t_qos_clamp x0.limit.cPU) (Told.cons (t_qos_clamp x0.limit.memory) Told.nil)))) (by kernel_rfl) hr
theorem n_qos_Class_b0_10 (p0 : PodSpec) (H : H_qos_Class_b0 p0) (x0 : Container) (i0 : Nat) (v0_1 : Int) (v0_2 : Bool) (hx0 : p0.containers[i0]? = some x0) (hi0 : i0 < List.length p0.containers) (hc0 : (decide ((i0 : Int) < ((List.length p0.containers) : Int))) = true) (h0 : ((s_qos_clamp x0.request.cPU) == 0) = false) (h1 : ((s_qos_clamp x0.request.memory) == 0) = false) (h2 : ((s_qos_clamp x0.request.cPU) == (s_qos_clamp x0.limit.cPU)) = false) (h3 : (v0_2 == true) = false) {r : Rs} (hr : Tells G (E_qos_Class_b0 p0 (i0 + 1) 1 (decide (0 < (w64 ((w64 ((w64 ((s_qos_clamp x0.request.cPU) + (s_qos_clamp x0.request.memory))) + (s_qos_clamp x0.limit.cPU))) + (s_qos_clamp x0.limit.memory)))))) r) : Tells G (E_qos_Class_b0 p0 i0 v0_1 v0_2) r := by
  have hB := H.1
  exact tells_nextV (h := HO_qos_Class_b0 p0 i0 v0_1 v0_2) (vw := []) VOK.nil (y := (HE_qos_Class_b0 p0 (i0 + 1) 1 (decide (0 < (w64 ((w64 ((w64 ((s_qos_clamp x0.request.cPU) + (s_qos_clamp x0.request.memory))) + (s_qos_clamp x0.limit.cPU))) + (s_qos_clamp x0.limit.memory))))), HO_qos_Class_b0 p0 (i0 + 1) 1 (decide (0 < (w64 ((w64 ((w64 ((s_qos_clamp x0.request.cPU) + (s_qos_clamp x0.request.memory))) + (s_qos_clamp x0.limit.cPU))) + (s_qos_clamp x0.limit.memory))))))) (hs := [(0, (bE true, [])), (0, (vE (.rf (Container.cells x0)), [])), (24, (bE false, [])), (2, (bE false, [])), (4, (bE true, [])), (7, (bE false, [])), (11, (vE (.int .i64 ((i0 + 1 : Nat) : Int)), []))]) (as := [⟨a_qos_clamp x0.request.cPU, []⟩, ⟨a_qos_clamp x0.request.memory, []⟩, ⟨a_qos_clamp x0.limit.cPU, []⟩, ⟨a_qos_clamp x0.limit.memory, []⟩]) (Met.cons (dec (decide ((i0 : Int) < ((List.length p0.containers) : Int))) true hc0) (Met.cons (ix_ok 11 (Container.rows p0.containers) i0 _ (Container.rowsGet hx0) rfl) (Met.cons (dec ((s_qos_clamp x0.request.cPU) == 0) false h0) (Met.cons (dec ((s_qos_clamp x0.request.memory) == 0) false h1) (Met.cons (dec (!((s_qos_clamp x0.request.cPU) == (s_qos_clamp x0.limit.cPU))) true (by rw [h2]; rfl)) (Met.cons (dec v0_2 false (beqT h3)) (Met.cons (inc_ok i0 (by omega)) Met.nil))))))) (Told.cons (t_qos_clamp x0.request.cPU) (Told.cons (t_qos_clamp x0.request.memory) (Told.cons (t_qos_clamp x0.limit.cPU) (Told.cons (t_qos_clamp x0.limit.memory) Told.nil)))) (by kernel_rfl) hr
theorem lt_qos_Class_b0 (p0 : PodSpec) (H : H_qos_Class_b0 p0) : ∀ (r0 : List Container) (i0 : Nat) (v0_1 : Int) (v0_2 : Bool), List.drop i0 p0.containers = r0 → P_qos_Class_b0 p0 (E_qos_Class_b0 p0 i0 v0_1 v0_2) (l_qos_Class_b0 p0 r0 i0 v0_1 v0_2)
  | [], i0, v0_1, v0_2, hd => by
    have hc0 : (decide ((i0 : Int) < ((List.length p0.containers) : Int))) = false := by have := drop_end hd; simp; omega
    rw [l_qos_Class_b0]
    exact x_qos_Class_b0_0 p0 H i0 v0_1 v0_2 hc0
  | x0 :: r0, i0, v0_1, v0_2, hd => by
    obtain ⟨hx0, hi0, hd'⟩ := drop_get hd
    have hc0 : (decide ((i0 : Int) < ((List.length p0.containers) : Int))) = true := by simp; omega
    rw [l_qos_Class_b0]
    cases h0 : ((s_qos_clamp x0.request.cPU) == 0) with
    | true =>
      cases h1 : (v0_2 == true) with
      | true =>
        exact P_qos_Class_b0_mono p0 (fun r hr => n_qos_Class_b0_1 p0 H x0 i0 v0_1 v0_2 hx0 hi0 hc0 h0 h1 hr) _ (lt_qos_Class_b0 p0 H r0 (i0 + 1) 1 true hd')
      | false =>
        exact P_qos_Class_b0_mono p0 (fun r hr => n_qos_Class_b0_2 p0 H x0 i0 v0_1 v0_2 hx0 hi0 hc0 h0 h1 hr) _ (lt_qos_Class_b0 p0 H r0 (i0 + 1) 1 (decide (0 < (w64 ((w64 ((w64 ((s_qos_clamp x0.request.cPU) + (s_qos_clamp x0.request.memory))) + (s_qos_clamp x0.limit.cPU))) + (s_qos_clamp x0.limit.memory))))) hd')
    | false =>
      cases h1 : ((s_qos_clamp x0.request.memory) == 0) with
      | true =>
        cases h2 : (v0_2 == true) with
        | true =>
          exact P_qos_Class_b0_mono p0 (fun r hr => n_qos_Class_b0_3 p0 H x0 i0 v0_1 v0_2 hx0 hi0 hc0 h0 h1 h2 hr) _ (lt_qos_Class_b0 p0 H r0 (i0 + 1) 1 true hd')
        | false =>
          exact P_qos_Class_b0_mono p0 (fun r hr => n_qos_Class_b0_4 p0 H x0 i0 v0_1 v0_2 hx0 hi0 hc0 h0 h1 h2 hr) _ (lt_qos_Class_b0 p0 H r0 (i0 + 1) 1 (decide (0 < (w64 ((w64 ((w64 ((s_qos_clamp x0.request.cPU) + (s_qos_clamp x0.request.memory))) + (s_qos_clamp x0.limit.cPU))) + (s_qos_clamp x0.limit.memory))))) hd')
      | false =>
        cases h2 : ((s_qos_clamp x0.request.cPU) == (s_qos_clamp x0.limit.cPU)) with
        | true =>
          cases h3 : ((s_qos_clamp x0.request.memory) == (s_qos_clamp x0.limit.memory)) with
          | true =>
            cases h4 : (v0_2 == true) with
            | true =>
              exact P_qos_Class_b0_mono p0 (fun r hr => n_qos_Class_b0_5 p0 H x0 i0 v0_1 v0_2 hx0 hi0 hc0 h0 h1 h2 h3 h4 hr) _ (lt_qos_Class_b0 p0 H r0 (i0 + 1) v0_1 true hd')
            | false =>
              exact P_qos_Class_b0_mono p0 (fun r hr => n_qos_Class_b0_6 p0 H x0 i0 v0_1 v0_2 hx0 hi0 hc0 h0 h1 h2 h3 h4 hr) _ (lt_qos_Class_b0 p0 H r0 (i0 + 1) v0_1 (decide (0 < (w64 ((w64 ((w64 ((s_qos_clamp x0.request.cPU) + (s_qos_clamp x0.request.memory))) + (s_qos_clamp x0.limit.cPU))) + (s_qos_clamp x0.limit.memory))))) hd')
          | false =>
            cases h4 : (v0_2 == true) with
            | true =>
              exact P_qos_Class_b0_mono p0 (fun r hr => n_qos_Class_b0_7 p0 H x0 i0 v0_1 v0_2 hx0 hi0 hc0 h0 h1 h2 h3 h4 hr) _ (lt_qos_Class_b0 p0 H r0 (i0 + 1) 1 true hd')
            | false =>
              exact P_qos_Class_b0_mono p0 (fun r hr => n_qos_Class_b0_8 p0 H x0 i0 v0_1 v0_2 hx0 hi0 hc0 h0 h1 h2 h3 h4 hr) _ (lt_qos_Class_b0 p0 H r0 (i0 + 1) 1 (decide (0 < (w64 ((w64 ((w64 ((s_qos_clamp x0.request.cPU) + (s_qos_clamp x0.request.memory))) + (s_qos_clamp x0.limit.cPU))) + (s_qos_clamp x0.limit.memory))))) hd')
        | false =>
          cases h3 : (v0_2 == true) with
          | true =>
            exact P_qos_Class_b0_mono p0 (fun r hr => n_qos_Class_b0_9 p0 H x0 i0 v0_1 v0_2 hx0 hi0 hc0 h0 h1 h2 h3 hr) _ (lt_qos_Class_b0 p0 H r0 (i0 + 1) 1 true hd')
          | false =>
            exact P_qos_Class_b0_mono p0 (fun r hr => n_qos_Class_b0_10 p0 H x0 i0 v0_1 v0_2 hx0 hi0 hc0 h0 h1 h2 h3 hr) _ (lt_qos_Class_b0 p0 H r0 (i0 + 1) 1 (decide (0 < (w64 ((w64 ((w64 ((s_qos_clamp x0.request.cPU) + (s_qos_clamp x0.request.memory))) + (s_qos_clamp x0.limit.cPU))) + (s_qos_clamp x0.limit.memory))))) hd')
/-- orchestrator/ qos.Class -/
def s_qos_Class (p0 : PodSpec) : Int :=
  bif (l_qos_Class_b0 p0 p0.containers 0 2 false).2 then
    (l_qos_Class_b0 p0 p0.containers 0 2 false).1
  else
    0
def c_qos_Class (p0 : PodSpec) : En := .call 8 [.agg (PodSpec.cells p0)] []
def a_qos_Class (p0 : PodSpec) : Rs := .ret (.int .i64 (s_qos_Class p0)) []
def H_qos_Class (p0 : PodSpec) : Prop := (H_qos_Class_b0 p0) ∧ True
theorem t_qos_Class (p0 : PodSpec) (H : H_qos_Class p0) : Tells G (c_qos_Class p0) (a_qos_Class p0) := by
  unfold a_qos_Class s_qos_Class
  have hl0 := lt_qos_Class_b0 p0 (H.1) p0.containers 0 2 false (by simp)
  obtain ⟨z0, zo0, hl0⟩ := hl0
  cases h0 : (l_qos_Class_b0 p0 p0.containers 0 2 false).2 with
  | true =>
    exact tells_V (fn := Ir.qos_Class) rfl VOK.nil (hs := [(6, (vE (.int .i64 ((List.length p0.containers) : Int)), [])), (1, (bE true, []))]) (as := [⟨.st (.exit 0) (S_qos_Class_b0_0 p0 (l_qos_Class_b0 p0 p0.containers 0 2 false).1 (l_qos_Class_b0 p0 p0.containers 0 2 false).2 z0 zo0), []⟩]) (Met.cons (len_ok (Container.rows p0.containers) (List.length p0.containers) (Container.rowsLen p0.containers)) (Met.cons (dec (l_qos_Class_b0 p0 p0.containers 0 2 false).2 true h0) Met.nil)) (Told.cons hl0 Told.nil) (by kernel_rfl)
  | false =>
    exact tells_V (fn := Ir.qos_Class) rfl VOK.nil (hs := [(6, (vE (.int .i64 ((List.length p0.containers) : Int)), [])), (1, (bE false, []))]) (as := [⟨.st (.exit 0) (S_qos_Class_b0_0 p0 (l_qos_Class_b0 p0 p0.containers 0 2 false).1 (l_qos_Class_b0 p0 p0.containers 0 2 false).2 z0 zo0), []⟩]) (Met.cons (len_ok (Container.rows p0.containers) (List.length p0.containers) (Container.rowsLen p0.containers)) (Met.cons (dec (l_qos_Class_b0 p0 p0.containers 0 2 false).2 false h0) Met.nil)) (Told.cons hl0 Told.nil) (by kernel_rfl)

/-- orchestrator/ orchestratorref51.limit -/
def s_ref51_limit (p0 : Int) : Int :=
  (mn 1000000000000000 (mx 0 p0))
def c_ref51_limit (p0 : Int) : En := .call 21 [.int .i64 p0] []
def a_ref51_limit (p0 : Int) : Rs := .ret (.int .i64 (s_ref51_limit p0)) []
theorem t_ref51_limit (p0 : Int) : Tells G (c_ref51_limit p0) (a_ref51_limit p0) := by
  unfold a_ref51_limit s_ref51_limit
  exact tells_V (fn := Ir.ref51_limit) rfl VOK.nil (hs := []) (as := []) Met.nil Told.nil (by kernel_rfl)

def l_ref51_Class_b0 (p0 : PodSpec) : List Container → Nat → Bool → Bool → Bool × Bool
  | [], _i0, v0_1, v0_2 =>
    (v0_1, v0_2)
  | x0 :: r0, i0, v0_1, v0_2 =>
    bif (v0_1 == true) then
      bif (decide (0 < (s_ref51_limit x0.request.cPU))) then
        bif (decide (0 < (s_ref51_limit x0.request.memory))) then
          bif ((s_ref51_limit x0.request.cPU) == (s_ref51_limit x0.limit.cPU)) then
            bif (v0_2 == true) then
              bif ((s_ref51_limit x0.request.cPU) == 0) then
                bif ((s_ref51_limit x0.request.memory) == 0) then
                  bif ((s_ref51_limit x0.limit.cPU) == 0) then
                    l_ref51_Class_b0 p0 r0 (i0 + 1) ((s_ref51_limit x0.request.memory) == (s_ref51_limit x0.limit.memory)) ((s_ref51_limit x0.limit.memory) == 0)
                  else
                    l_ref51_Class_b0 p0 r0 (i0 + 1) ((s_ref51_limit x0.request.memory) == (s_ref51_limit x0.limit.memory)) false
                else
                  l_ref51_Class_b0 p0 r0 (i0 + 1) ((s_ref51_limit x0.request.memory) == (s_ref51_limit x0.limit.memory)) false
              else
                l_ref51_Class_b0 p0 r0 (i0 + 1) ((s_ref51_limit x0.request.memory) == (s_ref51_limit x0.limit.memory)) false
            else
              l_ref51_Class_b0 p0 r0 (i0 + 1) ((s_ref51_limit x0.request.memory) == (s_ref51_limit x0.limit.memory)) false
          else
            bif (v0_2 == true) then
              bif ((s_ref51_limit x0.request.cPU) == 0) then
                bif ((s_ref51_limit x0.request.memory) == 0) then
                  bif ((s_ref51_limit x0.limit.cPU) == 0) then
                    l_ref51_Class_b0 p0 r0 (i0 + 1) false ((s_ref51_limit x0.limit.memory) == 0)
                  else
                    l_ref51_Class_b0 p0 r0 (i0 + 1) false false
                else
                  l_ref51_Class_b0 p0 r0 (i0 + 1) false false
              else
                l_ref51_Class_b0 p0 r0 (i0 + 1) false false
            else
              l_ref51_Class_b0 p0 r0 (i0 + 1) false false
        else
          bif (v0_2 == true) then
            bif ((s_ref51_limit x0.request.cPU) == 0) then
              bif ((s_ref51_limit x0.request.memory) == 0) then
                bif ((s_ref51_limit x0.limit.cPU) == 0) then
                  l_ref51_Class_b0 p0 r0 (i0 + 1) false ((s_ref51_limit x0.limit.memory) == 0)
                else
                  l_ref51_Class_b0 p0 r0 (i0 + 1) false false
              else
                l_ref51_Class_b0 p0 r0 (i0 + 1) false false
            else
              l_ref51_Class_b0 p0 r0 (i0 + 1) false false
          else
            l_ref51_Class_b0 p0 r0 (i0 + 1) false false
      else
        bif (v0_2 == true) then
          bif ((s_ref51_limit x0.request.cPU) == 0) then
            bif ((s_ref51_limit x0.request.memory) == 0) then
              bif ((s_ref51_limit x0.limit.cPU) == 0) then
                l_ref51_Class_b0 p0 r0 (i0 + 1) false ((s_ref51_limit x0.limit.memory) == 0)
              else
                l_ref51_Class_b0 p0 r0 (i0 + 1) false false
            else
              l_ref51_Class_b0 p0 r0 (i0 + 1) false false
          else
            l_ref51_Class_b0 p0 r0 (i0 + 1) false false
        else
          l_ref51_Class_b0 p0 r0 (i0 + 1) false false
    else
      bif (v0_2 == true) then
        bif ((s_ref51_limit x0.request.cPU) == 0) then
          bif ((s_ref51_limit x0.request.memory) == 0) then
            bif ((s_ref51_limit x0.limit.cPU) == 0) then
              l_ref51_Class_b0 p0 r0 (i0 + 1) false ((s_ref51_limit x0.limit.memory) == 0)
            else
              l_ref51_Class_b0 p0 r0 (i0 + 1) false false
          else
            l_ref51_Class_b0 p0 r0 (i0 + 1) false false
        else
          l_ref51_Class_b0 p0 r0 (i0 + 1) false false
      else
        l_ref51_Class_b0 p0 r0 (i0 + 1) false false
def HE_ref51_Class_b0 (_p0 : PodSpec) (i0 : Nat) (v0_1 : Bool) (v0_2 : Bool) : List PV :=
  [.un, .bx 0 0, .un, .bool v0_1, .bool v0_2, .int .i64 (i0 : Int), .un, .un, .un, .un, .un, .un, .un, .un, .un, .un, .un, .un, .un, .un, .un, .un, .un, .un, .un, .un, .un, .un, .un, .un, .un, .un, .un, .un, .un, .un, .un, .un, .un, .un, .un, .un, .un, .un, .un, .un, .un, .un, .un, .un, .un, .un, .un, .un, .un, .un, .un, .un, .un, .un, .un, .un, .un, .un, .un, .un, .un, .un, .un, .un, .un, .un, .un, .un, .un, .un, .un, .un, .un, .un, .un]
def HO_ref51_Class_b0 (p0 : PodSpec) (_i0 : Nat) (_v0_1 : Bool) (_v0_2 : Bool) : List Ob :=
  [⟨10, 0, true, [.str p0.node, .int .i64 p0.priority, .int .i64 p0.restart, .int .i64 p0.grace, .sl (Container.rows p0.containers), .sl (Requirement.rows p0.nodeSelector), .sl (NodeTerm.rows p0.nodeTerms), .sl (PodTerm.rows p0.podTerms), .sl (SpreadRule.rows p0.spread), .sl (Toleration.rows p0.tolerations)]⟩]
def E_ref51_Class_b0 (p0 : PodSpec) (i0 : Nat) (v0_1 : Bool) (v0_2 : Bool) : En := .loop 0 Ir.ref51_Class_b0_live Ir.ref51_Class_b0 (HE_ref51_Class_b0 p0 i0 v0_1 v0_2) (HO_ref51_Class_b0 p0 i0 v0_1 v0_2)
def S_ref51_Class_b0_0 (p0 : PodSpec) (q0 : Bool) (q1 : Bool) (z : Nat → PV) (_zo : Nat → List PV) : St :=
  ⟨[z 0, z 1, z 2, .bool q0, .bool q1, z 5, z 6, z 7, z 8, z 9, z 10, z 11, z 12, z 13, z 14, z 15, z 16, z 17, z 18, z 19, z 20, z 21, z 22, z 23, z 24, z 25, z 26, z 27, z 28, z 29, z 30, z 31, z 32, z 33, z 34, z 35, z 36, z 37, z 38, z 39, z 40, z 41, z 42, z 43, z 44, z 45, z 46, z 47, z 48, z 49, z 50, z 51, z 52, z 53, z 54, z 55, z 56, z 57, z 58, z 59, z 60, z 61, z 62, z 63, z 64, z 65, z 66, z 67, z 68, z 69, z 70, z 71, z 72, z 73, z 74, z 75, z 76, z 77, z 78, z 79, z 80], [(0, ⟨10, 0, true, [.str p0.node, .int .i64 p0.priority, .int .i64 p0.restart, .int .i64 p0.grace, .sl (Container.rows p0.containers), .sl (Requirement.rows p0.nodeSelector), .sl (NodeTerm.rows p0.nodeTerms), .sl (PodTerm.rows p0.podTerms), .sl (SpreadRule.rows p0.spread), .sl (Toleration.rows p0.tolerations)]⟩)], 321⟩
def P_ref51_Class_b0 (p0 : PodSpec) (e : En) (q : Bool × Bool) : Prop := ∃ z zo, Tells G e (.st (.exit 0) (S_ref51_Class_b0_0 p0 q.1 q.2 z zo))
theorem P_ref51_Class_b0_mono (p0 : PodSpec) {e e' : En} (h : ∀ r, Tells G e r → Tells G e' r) : ∀ q, P_ref51_Class_b0 p0 e q → P_ref51_Class_b0 p0 e' q
  | _, ⟨z, zo, hz⟩ => ⟨z, zo, h _ hz⟩
def H_ref51_Class_b0 (p0 : PodSpec) : Prop := (List.length p0.containers ≤ 4611686018427387904) ∧ True
def Z_ref51_Class_b0_0 (p0 : PodSpec) (i0 : Nat) (_v0_1 : Bool) (_v0_2 : Bool) : List PV :=
  [.un, .bx 0 0, .un, .un, .un, .int .i64 (i0 : Int), .un, .un, .un, .un, .un, .un, .un, .un, .un, .int .i64 (i0 : Int), .bx 0 4, .sl (Container.rows p0.containers), .int .i64 ((List.length p0.containers) : Int), .bool false, .un, .un, .un, .un, .un, .un, .un, .un, .un, .un, .un, .un, .un, .un, .un, .un, .un, .un, .un, .un, .un, .un, .un, .un, .un, .un, .un, .un, .un, .un, .un, .un, .un, .un, .un, .un, .un, .un, .un, .un, .un, .un, .un, .un, .un, .un, .un, .un, .un, .un, .un, .un, .un, .un, .un, .un, .un, .un, .un, .un, .un]
def ZO_ref51_Class_b0_0 (_p0 : PodSpec) (_i0 : Nat) (_v0_1 : Bool) (_v0_2 : Bool) : List (Nat × List PV) :=
  []
theorem x_ref51_Class_b0_0 (p0 : PodSpec) (_H : H_ref51_Class_b0 p0) (i0 : Nat) (v0_1 : Bool) (v0_2 : Bool) (hc0 : (decide ((i0 : Int) < ((List.length p0.containers) : Int))) = false) : P_ref51_Class_b0 p0 (E_ref51_Class_b0 p0 i0 v0_1 v0_2) (v0_1, v0_2) := by
  exact ⟨(envF (Z_ref51_Class_b0_0 p0 i0 v0_1 v0_2)), (zoF (ZO_ref51_Class_b0_0 p0 i0 v0_1 v0_2)), tells_outV (h := HO_ref51_Class_b0 p0 i0 v0_1 v0_2) (vw := []) VOK.nil (x := ((.exit 0), S_ref51_Class_b0_0 p0 v0_1 v0_2 (envF (Z_ref51_Class_b0_0 p0 i0 v0_1 v0_2)) (zoF (ZO_ref51_Class_b0_0 p0 i0 v0_1 v0_2)))) (hs := [(3, (vE (.int .i64 ((List.length p0.containers) : Int)), [])), (0, (bE false, []))]) (as := []) (Met.cons (len_ok (Container.rows p0.containers) (List.length p0.containers) (Container.rowsLen p0.containers)) (Met.cons (dec (decide ((i0 : Int) < ((List.length p0.containers) : Int))) false hc0) Met.nil)) Told.nil (by kernel_rfl)⟩
theorem n_ref51_Class_b0_1 (p0 : PodSpec) (H : H_ref51_Class_b0 p0) (x0 : Container) (i0 : Nat) (v0_1 : Bool) (v0_2 : Bool) (hx0 : p0.containers[i0]? = some x0) (hi0 : i0 < List.length p0.containers) (hc0 : (decide ((i0 : Int) < ((List.length p0.containers) : Int))) = true) (h0 : (v0_1 == true) = true) (h1 : (decide (0 < (s_ref51_limit x0.request.cPU))) = true) (h2 : (decide (0 < (s_ref51_limit x0.request.memory))) = true) (h3 : ((s_ref51_limit x0.request.cPU) == (s_ref51_limit x0.limit.cPU)) = true) (h4 : (v0_2 == true) = true) (h5 : ((s_ref51_limit x0.request.cPU) == 0) = true) (h6 : ((s_ref51_limit x0.request.memory) == 0) = true) (h7 : ((s_ref51_limit x0.limit.cPU) == 0) = true) {r : Rs} (hr : Tells G (E_ref51_Class_b0 p0 (i0 + 1) ((s_ref51_limit x0.request.memory) == (s_ref51_limit x0.limit.memory)) ((s_ref51_limit x0.limit.memory) == 0)) r) : Tells G (E_ref51_Class_b0 p0 i0 v0_1 v0_2) r := by
  have hB := H.1
  exact tells_nextV (h := HO_ref51_Class_b0 p0 i0 v0_1 v0_2) (vw := []) VOK.nil (y := (HE_ref51_Class_b0 p0 (i0 + 1) ((s_ref51_limit x0.request.memory) == (s_ref51_limit x0.limit.memory)) ((s_ref51_limit x0.limit.memory) == 0), HO_ref51_Class_b0 p0 (i0 + 1) ((s_ref51_limit x0.request.memory) == (s_ref51_limit x0.limit.memory)) ((s_ref51_limit x0.limit.memory) == 0))) (hs := [(3, (vE (.int .i64 ((List.length p0.containers) : Int)), [])), (0, (bE true, [])), (3, (vE (.rf (Container.cells x0)), [])), (23, (bE true, [])), (2, (bE true, [])), (3, (bE true, [])), (4, (bE true, [])), (7, (bE true, [])), (2, (bE true, [])), (3, (bE true, [])), (3, (bE true, [])), (7, (vE (.int .i64 ((i0 + 1 : Nat) : Int)), []))]) (as := [⟨a_ref51_limit x0.request.cPU, []⟩, ⟨a_ref51_limit x0.request.memory, []⟩, ⟨a_ref51_limit x0.limit.cPU, []⟩, ⟨a_ref51_limit x0.limit.memory, []⟩]) (Met.cons (len_ok (Container.rows p0.containers) (List.length p0.containers) (Container.rowsLen p0.containers)) (Met.cons (dec (decide ((i0 : Int) < ((List.length p0.containers) : Int))) true hc0) (Met.cons (ix_ok 11 (Container.rows p0.containers) i0 _ (Container.rowsGet hx0) rfl) (Met.cons (dec v0_1 true (beqT h0)) (Met.cons (dec (decide (0 < (s_ref51_limit x0.request.cPU))) true h1) (Met.cons (dec (decide (0 < (s_ref51_limit x0.request.memory))) true h2) (Met.cons (dec ((s_ref51_limit x0.request.cPU) == (s_ref51_limit x0.limit.cPU)) true h3) (Met.cons (dec v0_2 true (beqT h4)) (Met.cons (dec ((s_ref51_limit x0.request.cPU) == 0) true h5) (Met.cons (dec ((s_ref51_limit x0.request.memory) == 0) true h6) (Met.cons (dec ((s_ref51_limit x0.limit.cPU) == 0) true h7) (Met.cons (inc_ok i0 (by omega)) Met.nil)))))))))))) (Told.cons (t_ref51_limit x0.request.cPU) (Told.cons (t_ref51_limit x0.request.memory) (Told.cons (t_ref51_limit x0.limit.cPU) (Told.cons (t_ref51_limit x0.limit.memory) Told.nil)))) (by kernel_rfl) hr
theorem n_ref51_Class_b0_2 (p0 : PodSpec) (H : H_ref51_Class_b0 p0) (x0 : Container) (i0 : Nat) (v0_1 : Bool) (v0_2 : Bool) (hx0 : p0.containers[i0]? = some x0) (hi0 : i0 < List.length p0.containers) (hc0 : (decide ((i0 : Int) < ((List.length p0.containers) : Int))) = true) (h0 : (v0_1 == true) = true) (h1 : (decide (0 < (s_ref51_limit x0.request.cPU))) = true) (h2 : (decide (0 < (s_ref51_limit x0.request.memory))) = true) (h3 : ((s_ref51_limit x0.request.cPU) == (s_ref51_limit x0.limit.cPU)) = true) (h4 : (v0_2 == true) = true) (h5 : ((s_ref51_limit x0.request.cPU) == 0) = true) (h6 : ((s_ref51_limit x0.request.memory) == 0) = true) (h7 : ((s_ref51_limit x0.limit.cPU) == 0) = false) {r : Rs} (hr : Tells G (E_ref51_Class_b0 p0 (i0 + 1) ((s_ref51_limit x0.request.memory) == (s_ref51_limit x0.limit.memory)) false) r) : Tells G (E_ref51_Class_b0 p0 i0 v0_1 v0_2) r := by
  have hB := H.1
  exact tells_nextV (h := HO_ref51_Class_b0 p0 i0 v0_1 v0_2) (vw := []) VOK.nil (y := (HE_ref51_Class_b0 p0 (i0 + 1) ((s_ref51_limit x0.request.memory) == (s_ref51_limit x0.limit.memory)) false, HO_ref51_Class_b0 p0 (i0 + 1) ((s_ref51_limit x0.request.memory) == (s_ref51_limit x0.limit.memory)) false)) (hs := [(3, (vE (.int .i64 ((List.length p0.containers) : Int)), [])), (0, (bE true, [])), (3, (vE (.rf (Container.cells x0)), [])), (23, (bE true, [])), (2, (bE true, [])), (3, (bE true, [])), (4, (bE true, [])), (7, (bE true, [])), (2, (bE true, [])), (3, (bE true, [])), (3, (bE false, [])), (7, (vE (.int .i64 ((i0 + 1 : Nat) : Int)), []))]) (as := [⟨a_ref51_limit x0.request.cPU, []⟩, ⟨a_ref51_limit x0.request.memory, []⟩, ⟨a_ref51_limit x0.limit.cPU, []⟩, ⟨a_ref51_limit x0.limit.memory, []⟩]) (Met.cons (len_ok (Container.rows p0.containers) (List.length p0.containers) (Container.rowsLen p0.containers)) (Met.cons (dec (decide ((i0 : Int) < ((List.length p0.containers) : Int))) true hc0) (Met.cons (ix_ok 11 (Container.rows p0.containers) i0 _ (Container.rowsGet hx0) rfl) (Met.cons (dec v0_1 true (beqT h0)) (Met.cons (dec (decide (0 < (s_ref51_limit x0.request.cPU))) true h1) (Met.cons (dec (decide (0 < (s_ref51_limit x0.request.memory))) true h2) (Met.cons (dec ((s_ref51_limit x0.request.cPU) == (s_ref51_limit x0.limit.cPU)) true h3) (Met.cons (dec v0_2 true (beqT h4)) (Met.cons (dec ((s_ref51_limit x0.request.cPU) == 0) true h5) (Met.cons (dec ((s_ref51_limit x0.request.memory) == 0) true h6) (Met.cons (dec ((s_ref51_limit x0.limit.cPU) == 0) false h7) (Met.cons (inc_ok i0 (by omega)) Met.nil)))))))))))) (Told.cons (t_ref51_limit x0.request.cPU) (Told.cons (t_ref51_limit x0.request.memory) (Told.cons (t_ref51_limit x0.limit.cPU) (Told.cons (t_ref51_limit x0.limit.memory) Told.nil)))) (by kernel_rfl) hr
theorem n_ref51_Class_b0_3 (p0 : PodSpec) (H : H_ref51_Class_b0 p0) (x0 : Container) (i0 : Nat) (v0_1 : Bool) (v0_2 : Bool) (hx0 : p0.containers[i0]? = some x0) (hi0 : i0 < List.length p0.containers) (hc0 : (decide ((i0 : Int) < ((List.length p0.containers) : Int))) = true) (h0 : (v0_1 == true) = true) (h1 : (decide (0 < (s_ref51_limit x0.request.cPU))) = true) (h2 : (decide (0 < (s_ref51_limit x0.request.memory))) = true) (h3 : ((s_ref51_limit x0.request.cPU) == (s_ref51_limit x0.limit.cPU)) = true) (h4 : (v0_2 == true) = true) (h5 : ((s_ref51_limit x0.request.cPU) == 0) = true) (h6 : ((s_ref51_limit x0.request.memory) == 0) = false) {r : Rs} (hr : Tells G (E_ref51_Class_b0 p0 (i0 + 1) ((s_ref51_limit x0.request.memory) == (s_ref51_limit x0.limit.memory)) false) r) : Tells G (E_ref51_Class_b0 p0 i0 v0_1 v0_2) r := by
  have hB := H.1
  exact tells_nextV (h := HO_ref51_Class_b0 p0 i0 v0_1 v0_2) (vw := []) VOK.nil (y := (HE_ref51_Class_b0 p0 (i0 + 1) ((s_ref51_limit x0.request.memory) == (s_ref51_limit x0.limit.memory)) false, HO_ref51_Class_b0 p0 (i0 + 1) ((s_ref51_limit x0.request.memory) == (s_ref51_limit x0.limit.memory)) false)) (hs := [(3, (vE (.int .i64 ((List.length p0.containers) : Int)), [])), (0, (bE true, [])), (3, (vE (.rf (Container.cells x0)), [])), (23, (bE true, [])), (2, (bE true, [])), (3, (bE true, [])), (4, (bE true, [])), (7, (bE true, [])), (2, (bE true, [])), (3, (bE false, [])), (11, (vE (.int .i64 ((i0 + 1 : Nat) : Int)), []))]) (as := [⟨a_ref51_limit x0.request.cPU, []⟩, ⟨a_ref51_limit x0.request.memory, []⟩, ⟨a_ref51_limit x0.limit.cPU, []⟩, ⟨a_ref51_limit x0.limit.memory, []⟩]) (Met.cons (len_ok (Container.rows p0.containers) (List.length p0.containers) (Container.rowsLen p0.containers)) (Met.cons (dec (decide ((i0 : Int) < ((List.length p0.containers) : Int))) true hc0) (Met.cons (ix_ok 11 (Container.rows p0.containers) i0 _ (Container.rowsGet hx0) rfl) (Met.cons (dec v0_1 true (beqT h0)) (Met.cons (dec (decide (0 < (s_ref51_limit x0.request.cPU))) true h1) (Met.cons (dec (decide (0 < (s_ref51_limit x0.request.memory))) true h2) (Met.cons (dec ((s_ref51_limit x0.request.cPU) == (s_ref51_limit x0.limit.cPU)) true h3) (Met.cons (dec v0_2 true (beqT h4)) (Met.cons (dec ((s_ref51_limit x0.request.cPU) == 0) true h5) (Met.cons (dec ((s_ref51_limit x0.request.memory) == 0) false h6) (Met.cons (inc_ok i0 (by omega)) Met.nil))))))))))) (Told.cons (t_ref51_limit x0.request.cPU) (Told.cons (t_ref51_limit x0.request.memory) (Told.cons (t_ref51_limit x0.limit.cPU) (Told.cons (t_ref51_limit x0.limit.memory) Told.nil)))) (by kernel_rfl) hr
theorem n_ref51_Class_b0_4 (p0 : PodSpec) (H : H_ref51_Class_b0 p0) (x0 : Container) (i0 : Nat) (v0_1 : Bool) (v0_2 : Bool) (hx0 : p0.containers[i0]? = some x0) (hi0 : i0 < List.length p0.containers) (hc0 : (decide ((i0 : Int) < ((List.length p0.containers) : Int))) = true) (h0 : (v0_1 == true) = true) (h1 : (decide (0 < (s_ref51_limit x0.request.cPU))) = true) (h2 : (decide (0 < (s_ref51_limit x0.request.memory))) = true) (h3 : ((s_ref51_limit x0.request.cPU) == (s_ref51_limit x0.limit.cPU)) = true) (h4 : (v0_2 == true) = true) (h5 : ((s_ref51_limit x0.request.cPU) == 0) = false) {r : Rs} (hr : Tells G (E_ref51_Class_b0 p0 (i0 + 1) ((s_ref51_limit x0.request.memory) == (s_ref51_limit x0.limit.memory)) false) r) : Tells G (E_ref51_Class_b0 p0 i0 v0_1 v0_2) r := by
  have hB := H.1
  exact tells_nextV (h := HO_ref51_Class_b0 p0 i0 v0_1 v0_2) (vw := []) VOK.nil (y := (HE_ref51_Class_b0 p0 (i0 + 1) ((s_ref51_limit x0.request.memory) == (s_ref51_limit x0.limit.memory)) false, HO_ref51_Class_b0 p0 (i0 + 1) ((s_ref51_limit x0.request.memory) == (s_ref51_limit x0.limit.memory)) false)) (hs := [(3, (vE (.int .i64 ((List.length p0.containers) : Int)), [])), (0, (bE true, [])), (3, (vE (.rf (Container.cells x0)), [])), (23, (bE true, [])), (2, (bE true, [])), (3, (bE true, [])), (4, (bE true, [])), (7, (bE true, [])), (2, (bE false, [])), (15, (vE (.int .i64 ((i0 + 1 : Nat) : Int)), []))]) (as := [⟨a_ref51_limit x0.request.cPU, []⟩, ⟨a_ref51_limit x0.request.memory, []⟩, ⟨a_ref51_limit x0.limit.cPU, []⟩, ⟨a_ref51_limit x0.limit.memory, []⟩]) (Met.cons (len_ok (Container.rows p0.containers) (List.length p0.containers) (Container.rowsLen p0.containers)) (Met.cons (dec (decide ((i0 : Int) < ((List.length p0.containers) : Int))) true hc0) (Met.cons (ix_ok 11 (Container.rows p0.containers) i0 _ (Container.rowsGet hx0) rfl) (Met.cons (dec v0_1 true (beqT h0)) (Met.cons (dec (decide (0 < (s_ref51_limit x0.request.cPU))) true h1) (Met.cons (dec (decide (0 < (s_ref51_limit x0.request.memory))) true h2) (Met.cons (dec ((s_ref51_limit x0.request.cPU) == (s_ref51_limit x0.limit.cPU)) true h3) (Met.cons (dec v0_2 true (beqT h4)) (Met.cons (dec ((s_ref51_limit x0.request.cPU) == 0) false h5) (Met.cons (inc_ok i0 (by omega)) Met.nil)))))))))) (Told.cons (t_ref51_limit x0.request.cPU) (Told.cons (t_ref51_limit x0.request.memory) (Told.cons (t_ref51_limit x0.limit.cPU) (Told.cons (t_ref51_limit x0.limit.memory) Told.nil)))) (by kernel_rfl) hr
theorem n_ref51_Class_b0_5 (p0 : PodSpec) (H : H_ref51_Class_b0 p0) (x0 : Container) (i0 : Nat) (v0_1 : Bool) (v0_2 : Bool) (hx0 : p0.containers[i0]? = some x0) (hi0 : i0 < List.length p0.containers) (hc0 : (decide ((i0 : Int) < ((List.length p0.containers) : Int))) = true) (h0 : (v0_1 == true) = true) (h1 : (decide (0 < (s_ref51_limit x0.request.cPU))) = true) (h2 : (decide (0 < (s_ref51_limit x0.request.memory))) = true) (h3 : ((s_ref51_limit x0.request.cPU) == (s_ref51_limit x0.limit.cPU)) = true) (h4 : (v0_2 == true) = false) {r : Rs} (hr : Tells G (E_ref51_Class_b0 p0 (i0 + 1) ((s_ref51_limit x0.request.memory) == (s_ref51_limit x0.limit.memory)) false) r) : Tells G (E_ref51_Class_b0 p0 i0 v0_1 v0_2) r := by
  have hB := H.1
  exact tells_nextV (h := HO_ref51_Class_b0 p0 i0 v0_1 v0_2) (vw := []) VOK.nil (y := (HE_ref51_Class_b0 p0 (i0 + 1) ((s_ref51_limit x0.request.memory) == (s_ref51_limit x0.limit.memory)) false, HO_ref51_Class_b0 p0 (i0 + 1) ((s_ref51_limit x0.request.memory) == (s_ref51_limit x0.limit.memory)) false)) (hs := [(3, (vE (.int .i64 ((List.length p0.containers) : Int)), [])), (0, (bE true, [])), (3, (vE (.rf (Container.cells x0)), [])), (23, (bE true, [])), (2, (bE true, [])), (3, (bE true, [])), (4, (bE true, [])), (7, (bE false, [])), (18, (vE (.int .i64 ((i0 + 1 : Nat) : Int)), []))]) (as := [⟨a_ref51_limit x0.request.cPU, []⟩, ⟨a_ref51_limit x0.request.memory, []⟩, ⟨a_ref51_limit x0.limit.cPU, []⟩, ⟨a_ref51_limit x0.limit.memory, []⟩]) (Met.cons (len_ok (Container.rows p0.containers) (List.length p0.containers) (Container.rowsLen p0.containers)) (Met.cons (dec (decide ((i0 : Int) < ((List.length p0.containers) : Int))) true hc0) (Met.cons (ix_ok 11 (Container.rows p0.containers) i0 _ (Container.rowsGet hx0) rfl) (Met.cons (dec v0_1 true (beqT h0)) (Met.cons (dec (decide (0 < (s_ref51_limit x0.request.cPU))) true h1) (Met.cons (dec (decide (0 < (s_ref51_limit x0.request.memory))) true h2) (Met.cons (dec ((s_ref51_limit x0.request.cPU) == (s_ref51_limit x0.limit.cPU)) true h3) (Met.cons (dec v0_2 false (beqT h4)) (Met.cons (inc_ok i0 (by omega)) Met.nil))))))))) (Told.cons (t_ref51_limit x0.request.cPU) (Told.cons (t_ref51_limit x0.request.memory) (Told.cons (t_ref51_limit x0.limit.cPU) (Told.cons (t_ref51_limit x0.limit.memory) Told.nil)))) (by kernel_rfl) hr
theorem n_ref51_Class_b0_6 (p0 : PodSpec) (H : H_ref51_Class_b0 p0) (x0 : Container) (i0 : Nat) (v0_1 : Bool) (v0_2 : Bool) (hx0 : p0.containers[i0]? = some x0) (hi0 : i0 < List.length p0.containers) (hc0 : (decide ((i0 : Int) < ((List.length p0.containers) : Int))) = true) (h0 : (v0_1 == true) = true) (h1 : (decide (0 < (s_ref51_limit x0.request.cPU))) = true) (h2 : (decide (0 < (s_ref51_limit x0.request.memory))) = true) (h3 : ((s_ref51_limit x0.request.cPU) == (s_ref51_limit x0.limit.cPU)) = false) (h4 : (v0_2 == true) = true) (h5 : ((s_ref51_limit x0.request.cPU) == 0) = true) (h6 : ((s_ref51_limit x0.request.memory) == 0) = true) (h7 : ((s_ref51_limit x0.limit.cPU) == 0) = true) {r : Rs} (hr : Tells G (E_ref51_Class_b0 p0 (i0 + 1) false ((s_ref51_limit x0.limit.memory) == 0)) r) : Tells G (E_ref51_Class_b0 p0 i0 v0_1 v0_2) r := by
  have hB := H.1
  exact tells_nextV (h := HO_ref51_Class_b0 p0 i0 v0_1 v0_2) (vw := []) VOK.nil (y := (HE_ref51_Class_b0 p0 (i0 + 1) false ((s_ref51_limit x0.limit.memory) == 0), HO_ref51_Class_b0 p0 (i0 + 1) false ((s_ref51_limit x0.limit.memory) == 0))) (hs := [(3, (vE (.int .i64 ((List.length p0.containers) : Int)), [])), (0, (bE true, [])), (3, (vE (.rf (Container.cells x0)), [])), (23, (bE true, [])), (2, (bE true, [])), (3, (bE true, [])), (4, (bE false, [])), (7, (bE true, [])), (2, (bE true, [])), (3, (bE true, [])), (3, (bE true, [])), (7, (vE (.int .i64 ((i0 + 1 : Nat) : Int)), []))]) (as := [⟨a_ref51_limit x0.request.cPU, []⟩, ⟨a_ref51_limit x0.request.memory, []⟩, ⟨a_ref51_limit x0.limit.cPU, []⟩, ⟨a_ref51_limit x0.limit.memory, []⟩]) (Met.cons (len_ok (Container.rows p0.containers) (List.length p0.containers) (Container.rowsLen p0.containers)) (Met.cons (dec (decide ((i0 : Int) < ((List.length p0.containers) : Int))) true hc0) (Met.cons (ix_ok 11 (Container.rows p0.containers) i0 _ (Container.rowsGet hx0) rfl) (Met.cons (dec v0_1 true (beqT h0)) (Met.cons (dec (decide (0 < (s_ref51_limit x0.request.cPU))) true h1) (Met.cons (dec (decide (0 < (s_ref51_limit x0.request.memory))) true h2) (Met.cons (dec ((s_ref51_limit x0.request.cPU) == (s_ref51_limit x0.limit.cPU)) false h3) (Met.cons (dec v0_2 true (beqT h4)) (Met.cons (dec ((s_ref51_limit x0.request.cPU) == 0) true h5) (Met.cons (dec ((s_ref51_limit x0.request.memory) == 0) true h6) (Met.cons (dec ((s_ref51_limit x0.limit.cPU) == 0) true h7) (Met.cons (inc_ok i0 (by omega)) Met.nil)))))))))))) (Told.cons (t_ref51_limit x0.request.cPU) (Told.cons (t_ref51_limit x0.request.memory) (Told.cons (t_ref51_limit x0.limit.cPU) (Told.cons (t_ref51_limit x0.limit.memory) Told.nil)))) (by kernel_rfl) hr
theorem n_ref51_Class_b0_7 (p0 : PodSpec) (H : H_ref51_Class_b0 p0) (x0 : Container) (i0 : Nat) (v0_1 : Bool) (v0_2 : Bool) (hx0 : p0.containers[i0]? = some x0) (hi0 : i0 < List.length p0.containers) (hc0 : (decide ((i0 : Int) < ((List.length p0.containers) : Int))) = true) (h0 : (v0_1 == true) = true) (h1 : (decide (0 < (s_ref51_limit x0.request.cPU))) = true) (h2 : (decide (0 < (s_ref51_limit x0.request.memory))) = true) (h3 : ((s_ref51_limit x0.request.cPU) == (s_ref51_limit x0.limit.cPU)) = false) (h4 : (v0_2 == true) = true) (h5 : ((s_ref51_limit x0.request.cPU) == 0) = true) (h6 : ((s_ref51_limit x0.request.memory) == 0) = true) (h7 : ((s_ref51_limit x0.limit.cPU) == 0) = false) {r : Rs} (hr : Tells G (E_ref51_Class_b0 p0 (i0 + 1) false false) r) : Tells G (E_ref51_Class_b0 p0 i0 v0_1 v0_2) r := by
  have hB := H.1
  exact tells_nextV (h := HO_ref51_Class_b0 p0 i0 v0_1 v0_2) (vw := []) VOK.nil (y := (HE_ref51_Class_b0 p0 (i0 + 1) false false, HO_ref51_Class_b0 p0 (i0 + 1) false false)) (hs := [(3, (vE (.int .i64 ((List.length p0.containers) : Int)), [])), (0, (bE true, [])), (3, (vE (.rf (Container.cells x0)), [])), (23, (bE true, [])), (2, (bE true, [])), (3, (bE true, [])), (4, (bE false, [])), (7, (bE true, [])), (2, (bE true, [])), (3, (bE true, [])), (3, (bE false, [])), (7, (vE (.int .i64 ((i0 + 1 : Nat) : Int)), []))]) (as := [⟨a_ref51_limit x0.request.cPU, []⟩, ⟨a_ref51_limit x0.request.memory, []⟩, ⟨a_ref51_limit x0.limit.cPU, []⟩, ⟨a_ref51_limit x0.limit.memory, []⟩]) (Met.cons (len_ok (Container.rows p0.containers) (List.length p0.containers) (Container.rowsLen p0.containers)) (Met.cons (dec (decide ((i0 : Int) < ((List.length p0.containers) : Int))) true hc0) (Met.cons (ix_ok 11 (Container.rows p0.containers) i0 _ (Container.rowsGet hx0) rfl) (Met.cons (dec v0_1 true (beqT h0)) (Met.cons (dec (decide (0 < (s_ref51_limit x0.request.cPU))) true h1) (Met.cons (dec (decide (0 < (s_ref51_limit x0.request.memory))) true h2) (Met.cons (dec ((s_ref51_limit x0.request.cPU) == (s_ref51_limit x0.limit.cPU)) false h3) (Met.cons (dec v0_2 true (beqT h4)) (Met.cons (dec ((s_ref51_limit x0.request.cPU) == 0) true h5) (Met.cons (dec ((s_ref51_limit x0.request.memory) == 0) true h6) (Met.cons (dec ((s_ref51_limit x0.limit.cPU) == 0) false h7) (Met.cons (inc_ok i0 (by omega)) Met.nil)))))))))))) (Told.cons (t_ref51_limit x0.request.cPU) (Told.cons (t_ref51_limit x0.request.memory) (Told.cons (t_ref51_limit x0.limit.cPU) (Told.cons (t_ref51_limit x0.limit.memory) Told.nil)))) (by kernel_rfl) hr
theorem n_ref51_Class_b0_8 (p0 : PodSpec) (H : H_ref51_Class_b0 p0) (x0 : Container) (i0 : Nat) (v0_1 : Bool) (v0_2 : Bool) (hx0 : p0.containers[i0]? = some x0) (hi0 : i0 < List.length p0.containers) (hc0 : (decide ((i0 : Int) < ((List.length p0.containers) : Int))) = true) (h0 : (v0_1 == true) = true) (h1 : (decide (0 < (s_ref51_limit x0.request.cPU))) = true) (h2 : (decide (0 < (s_ref51_limit x0.request.memory))) = true) (h3 : ((s_ref51_limit x0.request.cPU) == (s_ref51_limit x0.limit.cPU)) = false) (h4 : (v0_2 == true) = true) (h5 : ((s_ref51_limit x0.request.cPU) == 0) = true) (h6 : ((s_ref51_limit x0.request.memory) == 0) = false) {r : Rs} (hr : Tells G (E_ref51_Class_b0 p0 (i0 + 1) false false) r) : Tells G (E_ref51_Class_b0 p0 i0 v0_1 v0_2) r := by
  have hB := H.1
  exact tells_nextV (h := HO_ref51_Class_b0 p0 i0 v0_1 v0_2) (vw := []) VOK.nil (y := (HE_ref51_Class_b0 p0 (i0 + 1) false false, HO_ref51_Class_b0 p0 (i0 + 1) false false)) (hs := [(3, (vE (.int .i64 ((List.length p0.containers) : Int)), [])), (0, (bE true, [])), (3, (vE (.rf (Container.cells x0)), [])), (23, (bE true, [])), (2, (bE true, [])), (3, (bE true, [])), (4, (bE false, [])), (7, (bE true, [])), (2, (bE true, [])), (3, (bE false, [])), (11, (vE (.int .i64 ((i0 + 1 : Nat) : Int)), []))]) (as := [⟨a_ref51_limit x0.request.cPU, []⟩, ⟨a_ref51_limit x0.request.memory, []⟩, ⟨a_ref51_limit x0.limit.cPU, []⟩, ⟨a_ref51_limit x0.limit.memory, []⟩]) (Met.cons (len_ok (Container.rows p0.containers) (List.length p0.containers) (Container.rowsLen p0.containers)) (Met.cons (dec (decide ((i0 : Int) < ((List.length p0.containers) : Int))) true hc0) (Met.cons (ix_ok 11 (Container.rows p0.containers) i0 _ (Container.rowsGet hx0) rfl) (Met.cons (dec v0_1 true (beqT h0)) (Met.cons (dec (decide (0 < (s_ref51_limit x0.request.cPU))) true h1) (Met.cons (dec (decide (0 < (s_ref51_limit x0.request.memory))) true h2) (Met.cons (dec ((s_ref51_limit x0.request.cPU) == (s_ref51_limit x0.limit.cPU)) false h3) (Met.cons (dec v0_2 true (beqT h4)) (Met.cons (dec ((s_ref51_limit x0.request.cPU) == 0) true h5) (Met.cons (dec ((s_ref51_limit x0.request.memory) == 0) false h6) (Met.cons (inc_ok i0 (by omega)) Met.nil))))))))))) (Told.cons (t_ref51_limit x0.request.cPU) (Told.cons (t_ref51_limit x0.request.memory) (Told.cons (t_ref51_limit x0.limit.cPU) (Told.cons (t_ref51_limit x0.limit.memory) Told.nil)))) (by kernel_rfl) hr
theorem n_ref51_Class_b0_9 (p0 : PodSpec) (H : H_ref51_Class_b0 p0) (x0 : Container) (i0 : Nat) (v0_1 : Bool) (v0_2 : Bool) (hx0 : p0.containers[i0]? = some x0) (hi0 : i0 < List.length p0.containers) (hc0 : (decide ((i0 : Int) < ((List.length p0.containers) : Int))) = true) (h0 : (v0_1 == true) = true) (h1 : (decide (0 < (s_ref51_limit x0.request.cPU))) = true) (h2 : (decide (0 < (s_ref51_limit x0.request.memory))) = true) (h3 : ((s_ref51_limit x0.request.cPU) == (s_ref51_limit x0.limit.cPU)) = false) (h4 : (v0_2 == true) = true) (h5 : ((s_ref51_limit x0.request.cPU) == 0) = false) {r : Rs} (hr : Tells G (E_ref51_Class_b0 p0 (i0 + 1) false false) r) : Tells G (E_ref51_Class_b0 p0 i0 v0_1 v0_2) r := by
  have hB := H.1
  exact tells_nextV (h := HO_ref51_Class_b0 p0 i0 v0_1 v0_2) (vw := []) VOK.nil (y := (HE_ref51_Class_b0 p0 (i0 + 1) false false, HO_ref51_Class_b0 p0 (i0 + 1) false false)) (hs := [(3, (vE (.int .i64 ((List.length p0.containers) : Int)), [])), (0, (bE true, [])), (3, (vE (.rf (Container.cells x0)), [])), (23, (bE true, [])), (2, (bE true, [])), (3, (bE true, [])), (4, (bE false, [])), (7, (bE true, [])), (2, (bE false, [])), (15, (vE (.int .i64 ((i0 + 1 : Nat) : Int)), []))]) (as := [⟨a_ref51_limit x0.request.cPU, []⟩, ⟨a_ref51_limit x0.request.memory, []⟩, ⟨a_ref51_limit x0.limit.cPU, []⟩, ⟨a_ref51_limit x0.limit.memory, []⟩]) (Met.cons (len_ok (Container.rows p0.containers) (List.length p0.containers) (Container.rowsLen p0.containers)) (Met.cons (dec (decide ((i0 : Int) < ((List.length p0.containers) : Int))) true hc0) (Met.cons (ix_ok 11 (Container.rows p0.containers) i0 _ (Container.rowsGet hx0) rfl) (Met.cons (dec v0_1 true (beqT h0)) (Met.cons (dec (decide (0 < (s_ref51_limit x0.request.cPU))) true h1) (Met.cons (dec (decide (0 < (s_ref51_limit x0.request.memory))) true h2) (Met.cons (dec ((s_ref51_limit x0.request.cPU) == (s_ref51_limit x0.limit.cPU)) false h3) (Met.cons (dec v0_2 true (beqT h4)) (Met.cons (dec ((s_ref51_limit x0.request.cPU) == 0) false h5) (Met.cons (inc_ok i0 (by omega)) Met.nil)))))))))) (Told.cons (t_ref51_limit x0.request.cPU) (Told.cons (t_ref51_limit x0.request.memory) (Told.cons (t_ref51_limit x0.limit.cPU) (Told.cons (t_ref51_limit x0.limit.memory) Told.nil)))) (by kernel_rfl) hr
theorem n_ref51_Class_b0_10 (p0 : PodSpec) (H : H_ref51_Class_b0 p0) (x0 : Container) (i0 : Nat) (v0_1 : Bool) (v0_2 : Bool) (hx0 : p0.containers[i0]? = some x0) (hi0 : i0 < List.length p0.containers) (hc0 : (decide ((i0 : Int) < ((List.length p0.containers) : Int))) = true) (h0 : (v0_1 == true) = true) (h1 : (decide (0 < (s_ref51_limit x0.request.cPU))) = true) (h2 : (decide (0 < (s_ref51_limit x0.request.memory))) = true) (h3 : ((s_ref51_limit x0.request.cPU) == (s_ref51_limit x0.limit.cPU)) = false) (h4 : (v0_2 == true) = false) {r : Rs} (hr : Tells G (E_ref51_Class_b0 p0 (i0 + 1) false false) r) : Tells G (E_ref51_Class_b0 p0 i0 v0_1 v0_2) r := by
  have hB := H.1
  exact tells_nextV (h := HO_ref51_Class_b0 p0 i0 v0_1 v0_2) (vw := []) VOK.nil (y := (HE_ref51_Class_b0 p0 (i0 + 1) false false, HO_ref51_Class_b0 p0 (i0 + 1) false false)) (hs := [(3, (vE (.int .i64 ((List.length p0.containers) : Int)), [])), (0, (bE true, [])), (3, (vE (.rf (Container.cells x0)), [])), (23, (bE true, [])), (2, (bE true, [])), (3, (bE true, [])), (4, (bE false, [])), (7, (bE false, [])), (18, (vE (.int .i64 ((i0 + 1 : Nat) : Int)), []))]) (as := [⟨a_ref51_limit x0.request.cPU, []⟩, ⟨a_ref51_limit x0.request.memory, []⟩, ⟨a_ref51_limit x0.limit.cPU, []⟩, ⟨a_ref51_limit x0.limit.memory, []⟩]) (Met.cons (len_ok (Container.rows p0.containers) (List.length p0.containers) (Container.rowsLen p0.containers)) (Met.cons (dec (decide ((i0 : Int) < ((List.length p0.containers) : Int))) true hc0) (Met.cons (ix_ok 11 (Container.rows p0.containers) i0 _ (Container.rowsGet hx0) rfl) (Met.cons (dec v0_1 true (beqT h0)) (Met.cons (dec (decide (0 < (s_ref51_limit x0.request.cPU))) true h1) (Met.cons (dec (decide (0 < (s_ref51_limit x0.request.memory))) true h2) (Met.cons (dec ((s_ref51_limit x0.request.cPU) == (s_ref51_limit x0.limit.cPU)) false h3) (Met.cons (dec v0_2 false (beqT h4)) (Met.cons (inc_ok i0 (by omega)) Met.nil))))))))) (Told.cons (t_ref51_limit x0.request.cPU) (Told.cons (t_ref51_limit x0.request.memory) (Told.cons (t_ref51_limit x0.limit.cPU) (Told.cons (t_ref51_limit x0.limit.memory) Told.nil)))) (by kernel_rfl) hr
theorem n_ref51_Class_b0_11 (p0 : PodSpec) (H : H_ref51_Class_b0 p0) (x0 : Container) (i0 : Nat) (v0_1 : Bool) (v0_2 : Bool) (hx0 : p0.containers[i0]? = some x0) (hi0 : i0 < List.length p0.containers) (hc0 : (decide ((i0 : Int) < ((List.length p0.containers) : Int))) = true) (h0 : (v0_1 == true) = true) (h1 : (decide (0 < (s_ref51_limit x0.request.cPU))) = true) (h2 : (decide (0 < (s_ref51_limit x0.request.memory))) = false) (h3 : (v0_2 == true) = true) (h4 : ((s_ref51_limit x0.request.cPU) == 0) = true) (h5 : ((s_ref51_limit x0.request.memory) == 0) = true) (h6 : ((s_ref51_limit x0.limit.cPU) == 0) = true) {r : Rs} (hr : Tells G (E_ref51_Class_b0 p0 (i0 + 1) false ((s_ref51_limit x0.limit.memory) == 0)) r) : Tells G (E_ref51_Class_b0 p0 i0 v0_1 v0_2) r := by
  have hB := H.1
  exact tells_nextV (h := HO_ref51_Class_b0 p0 i0 v0_1 v0_2) (vw := []) VOK.nil (y := (HE_ref51_Class_b0 p0 (i0 + 1) false ((s_ref51_limit x0.limit.memory) == 0), HO_ref51_Class_b0 p0 (i0 + 1) false ((s_ref51_limit x0.limit.memory) == 0))) (hs := [(3, (vE (.int .i64 ((List.length p0.containers) : Int)), [])), (0, (bE true, [])), (3, (vE (.rf (Container.cells x0)), [])), (23, (bE true, [])), (2, (bE true, [])), (3, (bE false, [])), (12, (bE true, [])), (2, (bE true, [])), (3, (bE true, [])), (3, (bE true, [])), (7, (vE (.int .i64 ((i0 + 1 : Nat) : Int)), []))]) (as := [⟨a_ref51_limit x0.request.cPU, []⟩, ⟨a_ref51_limit x0.request.memory, []⟩, ⟨a_ref51_limit x0.limit.cPU, []⟩, ⟨a_ref51_limit x0.limit.memory, []⟩]) (Met.cons (len_ok (Container.rows p0.containers) (List.length p0.containers) (Container.rowsLen p0.containers)) (Met.cons (dec (decide ((i0 : Int) < ((List.length p0.containers) : Int))) true hc0) (Met.cons (ix_ok 11 (Container.rows p0.containers) i0 _ (Container.rowsGet hx0) rfl) (Met.cons (dec v0_1 true (beqT h0)) (Met.cons (dec (decide (0 < (s_ref51_limit x0.request.cPU))) true h1) (Met.cons (dec (decide (0 < (s_ref51_limit x0.request.memory))) false h2) (Met.cons (dec v0_2 true (beqT h3)) (Met.cons (dec ((s_ref51_limit x0.request.cPU) == 0) true h4) (Met.cons (dec ((s_ref51_limit x0.request.memory) == 0) true h5) (Met.cons (dec ((s_ref51_limit x0.limit.cPU) == 0) true h6) (Met.cons (inc_ok i0 (by omega)) Met.nil))))))))))) (Told.cons (t_ref51_limit x0.request.cPU) (Told.cons (t_ref51_limit x0.request.memory) (Told.cons (t_ref51_limit x0.limit.cPU) (Told.cons (t_ref51_limit x0.limit.memory) Told.nil)))) (by kernel_rfl) hr
theorem n_ref51_Class_b0_12 (p0 : PodSpec) (H : H_ref51_Class_b0 p0) (x0 : Container) (i0 : Nat) (v0_1 : Bool) (v0_2 : Bool) (hx0 : p0.containers[i0]? = some x0) (hi0 : i0 < List.length p0.containers) (hc0 : (decide ((i0 : Int) < ((List.length p0.containers) : Int))) = true) (h0 : (v0_1 == true) = true) (h1 : (decide (0 < (s_ref51_limit x0.request.cPU))) = true) (h2 : (decide (0 < (s_ref51_limit x0.request.memory))) = false) (h3 : (v0_2 == true) = true) (h4 : ((s_ref51_limit x0.request.cPU) == 0) = true) (h5 : ((s_ref51_limit x0.request.memory) == 0) = true) (h6 : ((s_ref51_limit x0.limit.cPU) == 0) = false) {r : Rs} (hr : Tells G (E_ref51_Class_b0 p0 (i0 + 1) false false) r) : Tells G (E_ref51_Class_b0 p0 i0 v0_1 v0_2) r := by
  have hB := H.1
  exact tells_nextV (h := HO_ref51_Class_b0 p0 i0 v0_1 v0_2) (vw := []) VOK.nil (y := (HE_ref51_Class_b0 p0 (i0 + 1) false false, HO_ref51_Class_b0 p0 (i0 + 1) false false)) (hs := [(3, (vE (.int .i64 ((List.length p0.containers) : Int)), [])), (0, (bE true, [])), (3, (vE (.rf (Container.cells x0)), [])), (23, (bE true, [])), (2, (bE true, [])), (3, (bE false, [])), (12, (bE true, [])), (2, (bE true, [])), (3, (bE true, [])), (3, (bE false, [])), (7, (vE (.int .i64 ((i0 + 1 : Nat) : Int)), []))]) (as := [⟨a_ref51_limit x0.request.cPU, []⟩, ⟨a_ref51_limit x0.request.memory, []⟩, ⟨a_ref51_limit x0.limit.cPU, []⟩, ⟨a_ref51_limit x0.limit.memory, []⟩]) (Met.cons (len_ok (Container.rows p0.containers) (List.length p0.containers) (Container.rowsLen p0.containers)) (Met.cons (dec (decide ((i0 : Int) < ((List.length p0.containers) : Int))) true hc0) (Met.cons (ix_ok 11 (Container.rows p0.containers) i0 _ (Container.rowsGet hx0) rfl) (Met.cons (dec v0_1 true (beqT h0)) (Met.cons (dec (decide (0 < (s_ref51_limit x0.request.cPU))) true h1) (Met.cons (dec (decide (0 < (s_ref51_limit x0.request.memory))) false h2) (Met.cons (dec v0_2 true (beqT h3)) (Met.cons (dec ((s_ref51_limit x0.request.cPU) == 0) true h4) (Met.cons (dec ((s_ref51_limit x0.request.memory) == 0) true h5) (Met.cons (dec ((s_ref51_limit x0.limit.cPU) == 0) false h6) (Met.cons (inc_ok i0 (by omega)) Met.nil))))))))))) (Told.cons (t_ref51_limit x0.request.cPU) (Told.cons (t_ref51_limit x0.request.memory) (Told.cons (t_ref51_limit x0.limit.cPU) (Told.cons (t_ref51_limit x0.limit.memory) Told.nil)))) (by kernel_rfl) hr
theorem n_ref51_Class_b0_13 (p0 : PodSpec) (H : H_ref51_Class_b0 p0) (x0 : Container) (i0 : Nat) (v0_1 : Bool) (v0_2 : Bool) (hx0 : p0.containers[i0]? = some x0) (hi0 : i0 < List.length p0.containers) (hc0 : (decide ((i0 : Int) < ((List.length p0.containers) : Int))) = true) (h0 : (v0_1 == true) = true) (h1 : (decide (0 < (s_ref51_limit x0.request.cPU))) = true) (h2 : (decide (0 < (s_ref51_limit x0.request.memory))) = false) (h3 : (v0_2 == true) = true) (h4 : ((s_ref51_limit x0.request.cPU) == 0) = true) (h5 : ((s_ref51_limit x0.request.memory) == 0) = false) {r : Rs} (hr : Tells G (E_ref51_Class_b0 p0 (i0 + 1) false false) r) : Tells G (E_ref51_Class_b0 p0 i0 v0_1 v0_2) r := by
  have hB := H.1
  exact tells_nextV (h := HO_ref51_Class_b0 p0 i0 v0_1 v0_2) (vw := []) VOK.nil (y := (HE_ref51_Class_b0 p0 (i0 + 1) false false, HO_ref51_Class_b0 p0 (i0 + 1) false false)) (hs := [(3, (vE (.int .i64 ((List.length p0.containers) : Int)), [])), (0, (bE true, [])), (3, (vE (.rf (Container.cells x0)), [])), (23, (bE true, [])), (2, (bE true, [])), (3, (bE false, [])), (12, (bE true, [])), (2, (bE true, [])), (3, (bE false, [])), (11, (vE (.int .i64 ((i0 + 1 : Nat) : Int)), []))]) (as := [⟨a_ref51_limit x0.request.cPU, []⟩, ⟨a_ref51_limit x0.request.memory, []⟩, ⟨a_ref51_limit x0.limit.cPU, []⟩, ⟨a_ref51_limit x0.limit.memory, []⟩]) (Met.cons (len_ok (Container.rows p0.containers) (List.length p0.containers) (Container.rowsLen p0.containers)) (Met.cons (dec (decide ((i0 : Int) < ((List.length p0.containers) : Int))) true hc0) (Met.cons (ix_ok 11 (Container.rows p0.containers) i0 _ (Container.rowsGet hx0) rfl) (Met.cons (dec v0_1 true (beqT h0)) (Met.cons (dec (decide (0 < (s_ref51_limit x0.request.cPU))) true h1) (Met.cons (dec (decide (0 < (s_ref51_limit x0.request.memory))) false h2) (Met.cons (dec v0_2 true (beqT h3)) (Met.cons (dec ((s_ref51_limit x0.request.cPU) == 0) true h4) (Met.cons (dec ((s_ref51_limit x0.request.memory) == 0) false h5) (Met.cons (inc_ok i0 (by omega)) Met.nil)))))))))) (Told.cons (t_ref51_limit x0.request.cPU) (Told.cons (t_ref51_limit x0.request.memory) (Told.cons (t_ref51_limit x0.limit.cPU) (Told.cons (t_ref51_limit x0.limit.memory) Told.nil)))) (by kernel_rfl) hr
theorem n_ref51_Class_b0_14 (p0 : PodSpec) (H : H_ref51_Class_b0 p0) (x0 : Container) (i0 : Nat) (v0_1 : Bool) (v0_2 : Bool) (hx0 : p0.containers[i0]? = some x0) (hi0 : i0 < List.length p0.containers) (hc0 : (decide ((i0 : Int) < ((List.length p0.containers) : Int))) = true) (h0 : (v0_1 == true) = true) (h1 : (decide (0 < (s_ref51_limit x0.request.cPU))) = true) (h2 : (decide (0 < (s_ref51_limit x0.request.memory))) = false) (h3 : (v0_2 == true) = true) (h4 : ((s_ref51_limit x0.request.cPU) == 0) = false) {r : Rs} (hr : Tells G (E_ref51_Class_b0 p0 (i0 + 1) false false) r) : Tells G (E_ref51_Class_b0 p0 i0 v0_1 v0_2) r := by
  have hB := H.1
  exact tells_nextV (h := HO_ref51_Class_b0 p0 i0 v0_1 v0_2) (vw := []) VOK.nil (y := (HE_ref51_Class_b0 p0 (i0 + 1) false false, HO_ref51_Class_b0 p0 (i0 + 1) false false)) (hs := [(3, (vE (.int .i64 ((List.length p0.containers) : Int)), [])), (0, (bE true, [])), (3, (vE (.rf (Container.cells x0)), [])), (23, (bE true, [])), (2, (bE true, [])), (3, (bE false, [])), (12, (bE true, [])), (2, (bE false, [])), (15, (vE (.int .i64 ((i0 + 1 : Nat) : Int)), []))]) (as := [⟨a_ref51_limit x0.request.cPU, []⟩, ⟨a_ref51_limit x0.request.memory, []⟩, ⟨a_ref51_limit x0.limit.cPU, []⟩, ⟨a_ref51_limit x0.limit.memory, []⟩]) (Met.cons (len_ok (Container.rows p0.containers) (List.length p0.containers) (Container.rowsLen p0.containers)) (Met.cons (dec (decide ((i0 : Int) < ((List.length p0.containers) : Int))) true hc0) (Met.cons (ix_ok 11 (Container.rows p0.containers) i0 _ (Container.rowsGet hx0) rfl) (Met.cons (dec v0_1 true (beqT h0)) (Met.cons (dec (decide (0 < (s_ref51_limit x0.request.cPU))) true h1) (Met.cons (dec (decide (0 < (s_ref51_limit x0.request.memory))) false h2) (Met.cons (dec v0_2 true (beqT h3)) (Met.cons (dec ((s_ref51_limit x0.request.cPU) == 0) false h4) (Met.cons (inc_ok i0 (by omega)) Met.nil))))))))) (Told.cons (t_ref51_limit x0.request.cPU) (Told.cons (t_ref51_limit x0.request.memory) (Told.cons (t_ref51_limit x0.limit.cPU) (Told.cons (t_ref51_limit x0.limit.memory) Told.nil)))) (by kernel_rfl) hr
theorem n_ref51_Class_b0_15 (p0 : PodSpec) (H : H_ref51_Class_b0 p0) (x0 : Container) (i0 : Nat) (v0_1 : Bool) (v0_2 : Bool) (hx0 : p0.containers[i0]? = some x0) (hi0 : i0 < List.length p0.containers) (hc0 : (decide ((i0 : Int) < ((List.length p0.containers) : Int))) = true) (h0 : (v0_1 == true) = true) (h1 : (decide (0 < (s_ref51_limit x0.request.cPU))) = true) (h2 : (decide (0 < (s_ref51_limit x0.request.memory))) = false) (h3 : (v0_2 == true) = false) {r : Rs} (hr : Tells G (E_ref51_Class_b0 p0 (i0 + 1) false false) r) : Tells G (E_ref51_Class_b0 p0 i0 v0_1 v0_2) r := by
  have hB := H.1
  exact tells_nextV (h := HO_ref51_Class_b0 p0 i0 v0_1 v0_2) (vw := []) VOK.nil (y := (HE_ref51_Class_b0 p0 (i0 + 1) false false, HO_ref51_Class_b0 p0 (i0 + 1) false false)) (hs := [(3, (vE (.int .i64 ((List.length p0.containers) : Int)), [])), (0, (bE true, [])), (3, (vE (.rf (Container.cells x0)), [])), (23, (bE true, [])), (2, (bE true, [])), (3, (bE false, [])), (12, (bE false, [])), (18, (vE (.int .i64 ((i0 + 1 : Nat) : Int)), []))]) (as := [⟨a_ref51_limit x0.request.cPU, []⟩, ⟨a_ref51_limit x0.request.memory, []⟩, ⟨a_ref51_limit x0.limit.cPU, []⟩, ⟨a_ref51_limit x0.limit.memory, []⟩]) (Met.cons (len_ok (Container.rows p0.containers) (List.length p0.containers) (Container.rowsLen p0.containers)) (Met.cons (dec (decide ((i0 : Int) < ((List.length p0.containers) : Int))) true hc0) (Met.cons (ix_ok 11 (Container.rows p0.containers) i0 _ (Container.rowsGet hx0) rfl) (Met.cons (dec v0_1 true (beqT h0)) (Met.cons (dec (decide (0 < (s_ref51_limit x0.request.cPU))) true h1) (Met.cons (dec (decide (0 < (s_ref51_limit x0.request.memory))) false h2) (Met.cons (dec v0_2 false (beqT h3)) (Met.cons (inc_ok i0 (by omega)) Met.nil)))))))) (Told.cons (t_ref51_limit x0.request.cPU) (Told.cons (t_ref51_limit x0.request.memory) (Told.cons (t_ref51_limit x0.limit.cPU) (Told.cons (t_ref51_limit x0.limit.memory) Told.nil)))) (by kernel_rfl) hr
theorem n_ref51_Class_b0_16 (p0 : PodSpec) (H : H_ref51_Class_b0 p0) (x0 : Container) (i0 : Nat) (v0_1 : Bool) (v0_2 : Bool) (hx0 : p0.containers[i0]? = some x0) (hi0 : i0 < List.length p0.containers) (hc0 : (decide ((i0 : Int) < ((List.length p0.containers) : Int))) = true) (h0 : (v0_1 == true) = true) (h1 : (decide (0 < (s_ref51_limit x0.request.cPU))) = false) (h2 : (v0_2 == true) = true) (h3 : ((s_ref51_limit x0.request.cPU) == 0) = true) (h4 : ((s_ref51_limit x0.request.memory) == 0) = true) (h5 : ((s_ref51_limit x0.limit.cPU) == 0) = true) {r : Rs} (hr : Tells G (E_ref51_Class_b0 p0 (i0 + 1) false ((s_ref51_limit x0.limit.memory) == 0)) r) : Tells G (E_ref51_Class_b0 p0 i0 v0_1 v0_2) r := by
  have hB := H.1
  exact tells_nextV (h := HO_ref51_Class_b0 p0 i0 v0_1 v0_2) (vw := []) VOK.nil (y := (HE_ref51_Class_b0 p0 (i0 + 1) false ((s_ref51_limit x0.limit.memory) == 0), HO_ref51_Class_b0 p0 (i0 + 1) false ((s_ref51_limit x0.limit.memory) == 0))) (hs := [(3, (vE (.int .i64 ((List.length p0.containers) : Int)), [])), (0, (bE true, [])), (3, (vE (.rf (Container.cells x0)), [])), (23, (bE true, [])), (2, (bE false, [])), (16, (bE true, [])), (2, (bE true, [])), (3, (bE true, [])), (3, (bE true, [])), (7, (vE (.int .i64 ((i0 + 1 : Nat) : Int)), []))]) (as := [⟨a_ref51_limit x0.request.cPU, []⟩, ⟨a_ref51_limit x0.request.memory, []⟩, ⟨a_ref51_limit x0.limit.cPU, []⟩, ⟨a_ref51_limit x0.limit.memory, []⟩]) (Met.cons (len_ok (Container.rows p0.containers) (List.length p0.containers) (Container.rowsLen p0.containers)) (Met.cons (dec (decide ((i0 : Int) < ((List.length p0.containers) : Int))) true hc0) (Met.cons (ix_ok 11 (Container.rows p0.containers) i0 _ (Container.rowsGet hx0) rfl) (Met.cons (dec v0_1 true (beqT h0)) (Met.cons (dec (decide (0 < (s_ref51_limit x0.request.cPU))) false h1) (Met.cons (dec v0_2 true (beqT h2)) (Met.cons (dec ((s_ref51_limit x0.request.cPU) == 0) true h3) (Met.cons (dec ((s_ref51_limit x0.request.memory) == 0) true h4) (Met.cons (dec ((s_ref51_limit x0.limit.cPU) == 0) true h5) (Met.cons (inc_ok i0 (by omega)) Met.nil)))))))))) (Told.cons (t_ref51_limit x0.request.cPU) (Told.cons (t_ref51_limit x0.request.memory) (Told.cons (t_ref51_limit x0.limit.cPU) (Told.cons (t_ref51_limit x0.limit.memory) Told.nil)))) (by kernel_rfl) hr
theorem n_ref51_Class_b0_17 (p0 : PodSpec) (H : H_ref51_Class_b0 p0) (x0 : Container) (i0 : Nat) (v0_1 : Bool) (v0_2 : Bool) (hx0 : p0.containers[i0]? = some x0) (hi0 : i0 < List.length p0.containers) (hc0 : (decide ((i0 : Int) < ((List.length p0.containers) : Int))) = true) (h0 : (v0_1 == true) = true) (h1 : (decide (0 < (s_ref51_limit x0.request.cPU))) = false) (h2 : (v0_2 == true) = true) (h3 : ((s_ref51_limit x0.request.cPU) == 0) = true) (h4 : ((s_ref51_limit x0.request.memory) == 0) = true) (h5 : ((s_ref51_limit x0.limit.cPU) == 0) = false) {r : Rs} (hr : Tells G (E_ref51_Class_b0 p0 (i0 + 1) false false) r) : Tells G (E_ref51_Class_b0 p0 i0 v0_1 v0_2) r := by
  have hB := H.1
  exact tells_nextV (h := HO_ref51_Class_b0 p0 i0 v0_1 v0_2) (vw := []) VOK.nil (y := (HE_ref51_Class_b0 p0 (i0 + 1) false false, HO_ref51_Class_b0 p0 (i0 + 1) false false)) (hs := [(3, (vE (.int .i64 ((List.length p0.containers) : Int)), [])), (0, (bE true, [])), (3, (vE (.rf (Container.cells x0)), [])), (23, (bE true, [])), (2, (bE false, [])), (16, (bE true, [])), (2, (bE true, [])), (3, (bE true, [])), (3, (bE false, [])), (7, (vE (.int .i64 ((i0 + 1 : Nat) : Int)), []))]) (as := [⟨a_ref51_limit x0.request.cPU, []⟩, ⟨a_ref51_limit x0.request.memory, []⟩, ⟨a_ref51_limit x0.limit.cPU, []⟩, ⟨a_ref51_limit x0.limit.memory, []⟩]) (Met.cons (len_ok (Container.rows p0.containers) (List.length p0.containers) (Container.rowsLen p0.containers)) (Met.cons (dec (decide ((i0 : Int) < ((List.length p0.containers) : Int))) true hc0) (Met.cons (ix_ok 11 (Container.rows p0.containers) i0 _ (Container.rowsGet hx0) rfl) (Met.cons (dec v0_1 true (beqT h0)) (Met.cons (dec (decide (0 < (s_ref51_limit x0.request.cPU))) false h1) (Met.cons (dec v0_2 true (beqT h2)) (Met.cons (dec ((s_ref51_limit x0.request.cPU) == 0) true h3) (Met.cons (dec ((s_ref51_limit x0.request.memory) == 0) true h4) (Met.cons (dec ((s_ref51_limit x0.limit.cPU) == 0) false h5) (Met.cons (inc_ok i0 (by omega)) Met.nil)))))))))) (Told.cons (t_ref51_limit x0.request.cPU) (Told.cons (t_ref51_limit x0.request.memory) (Told.cons (t_ref51_limit x0.limit.cPU) (Told.cons (t_ref51_limit x0.limit.memory) Told.nil)))) (by kernel_rfl) hr
theorem n_ref51_Class_b0_18 (p0 : PodSpec) (H : H_ref51_Class_b0 p0) (x0 : Container) (i0 : Nat) (v0_1 : Bool) (v0_2 : Bool) (hx0 : p0.containers[i0]? = some x0) (hi0 : i0 < List.length p0.containers) (hc0 : (decide ((i0 : Int) < ((List.length p0.containers) : Int))) = true) (h0 : (v0_1 == true) = true) (h1 : (decide (0 < (s_ref51_limit x0.request.cPU))) = false) (h2 : (v0_2 == true) = true) (h3 : ((s_ref51_limit x0.request.cPU) == 0) = true) (h4 : ((s_ref51_limit x0.request.memory) == 0) = false) {r : Rs} (hr : Tells G (E_ref51_Class_b0 p0 (i0 + 1) false false) r) : Tells G (E_ref51_Class_b0 p0 i0 v0_1 v0_2) r := by
  have hB := H.1
  exact tells_nextV (h := HO_ref51_Class_b0 p0 i0 v0_1 v0_2) (vw := []) VOK.nil (y := (HE_ref51_Class_b0 p0 (i0 + 1) false false, HO_ref51_Class_b0 p0 (i0 + 1) false false)) (hs := [(3, (vE (.int .i64 ((List.length p0.containers) : Int)), [])), (0, (bE true, [])), (3, (vE (.rf (Container.cells x0)), [])), (23, (bE true, [])), (2, (bE false, [])), (16, (bE true, [])), (2, (bE true, [])), (3, (bE false, [])), (11, (vE (.int .i64 ((i0 + 1 : Nat) : Int)), []))]) (as := [⟨a_ref51_limit x0.request.cPU, []⟩, ⟨a_ref51_limit x0.request.memory, []⟩, ⟨a_ref51_limit x0.limit.cPU, []⟩, ⟨a_ref51_limit x0.limit.memory, []⟩]) (Met.cons (len_ok (Container.rows p0.containers) (List.length p0.containers) (Container.rowsLen p0.containers)) (Met.cons (dec (decide ((i0 : Int) < ((List.length p0.containers) : Int))) true hc0) (Met.cons (ix_ok 11 (Container.rows p0.containers) i0 _ (Container.rowsGet hx0) rfl) (Met.cons (dec v0_1 true (beqT h0)) (Met.cons (dec (decide (0 < (s_ref51_limit x0.request.cPU))) false h1) (Met.cons (dec v0_2 true (beqT h2)) (Met.cons (dec ((s_ref51_limit x0.request.cPU) == 0) true h3) (Met.cons (dec ((s_ref51_limit x0.request.memory) == 0) false h4) (Met.cons (inc_ok i0 (by omega)) Met.nil))))))))) (Told.cons (t_ref51_limit x0.request.cPU) (Told.cons (t_ref51_limit x0.request.memory) (Told.cons (t_ref51_limit x0.limit.cPU) (Told.cons (t_ref51_limit x0.limit.memory) Told.nil)))) (by kernel_rfl) hr
theorem n_ref51_Class_b0_19 (p0 : PodSpec) (H : H_ref51_Class_b0 p0) (x0 : Container) (i0 : Nat) (v0_1 : Bool) (v0_2 : Bool) (hx0 : p0.containers[i0]? = some x0) (hi0 : i0 < List.length p0.containers) (hc0 : (decide ((i0 : Int) < ((List.length p0.containers) : Int))) = true) (h0 : (v0_1 == true) = true) (h1 : (decide (0 < (s_ref51_limit x0.request.cPU))) = false) (h2 : (v0_2 == true) = true) (h3 : ((s_ref51_limit x0.request.cPU) == 0) = false) {r : Rs} (hr : Tells G (E_ref51_Class_b0 p0 (i0 + 1) false false) r) : Tells G (E_ref51_Class_b0 p0 i0 v0_1 v0_2) r := by
  have hB := H.1
  exact tells_nextV (h := HO_ref51_Class_b0 p0 i0 v0_1 v0_2) (vw := []) VOK.nil (y := (HE_ref51_Class_b0 p0 (i0 + 1) false false, HO_ref51_Class_b0 p0 (i0 + 1) false false)) (hs := [(3, (vE (.int .i64 ((List.length p0.containers) : Int)), [])), (0, (bE true, [])), (3, (vE (.rf (Container.cells x0)), [])), (23, (bE true, [])), (2, (bE false, [])), (16, (bE true, [])), (2, (bE false, [])), (15, (vE (.int .i64 ((i0 + 1 : Nat) : Int)), []))]) (as := [⟨a_ref51_limit x0.request.cPU, []⟩, ⟨a_ref51_limit x0.request.memory, []⟩, ⟨a_ref51_limit x0.limit.cPU, []⟩, ⟨a_ref51_limit x0.limit.memory, []⟩]) (Met.cons (len_ok (Container.rows p0.containers) (List.length p0.containers) (Container.rowsLen p0.containers)) (Met.cons (dec (decide ((i0 : Int) < ((List.length p0.containers) : Int))) true hc0) (Met.cons (ix_ok 11 (Container.rows p0.containers) i0 _ (Container.rowsGet hx0) rfl) (Met.cons (dec v0_1 true (beqT h0)) (Met.cons (dec (decide (0 < (s_ref51_limit x0.request.cPU))) false h1) (Met.cons (dec v0_2 true (beqT h2)) (Met.cons (dec ((s_ref51_limit x0.request.cPU) == 0) false h3) (Met.cons (inc_ok i0 (by omega)) Met.nil)))))))) (Told.cons (t_ref51_limit x0.request.cPU) (Told.cons (t_ref51_limit x0.request.memory) (Told.cons (t_ref51_limit x0.limit.cPU) (Told.cons (t_ref51_limit x0.limit.memory) Told.nil)))) (by kernel_rfl) hr
theorem n_ref51_Class_b0_20 (p0 : PodSpec) (H : H_ref51_Class_b0 p0) (x0 : Container) (i0 : Nat) (v0_1 : Bool) (v0_2 : Bool) (hx0 : p0.containers[i0]? = some x0) (hi0 : i0 < List.length p0.containers) (hc0 : (decide ((i0 : Int) < ((List.length p0.containers) : Int))) = true) (h0 : (v0_1 == true) = true) (h1 : (decide (0 < (s_ref51_limit x0.request.cPU))) = false) (h2 : (v0_2 == true) = false) {r : Rs} (hr : Tells G (E_ref51_Class_b0 p0 (i0 + 1) false false) r) : Tells G (E_ref51_Class_b0 p0 i0 v0_1 v0_2) r := by
  have hB := H.1
  exact tells_nextV (h := HO_ref51_Class_b0 p0 i0 v0_1 v0_2) (vw := []) VOK.nil (y := (HE_ref51_Class_b0 p0 (i0 + 1) false false, HO_ref51_Class_b0 p0 (i0 + 1) false false)) (hs := [(3, (vE (.int .i64 ((List.length p0.containers) : Int)), [])), (0, (bE true, [])), (3, (vE (.rf (Container.cells x0)), [])), (23, (bE true, [])), (2, (bE false, [])), (16, (bE false, [])), (18, (vE (.int .i64 ((i0 + 1 : Nat) : Int)), []))]) (as := [⟨a_ref51_limit x0.request.cPU, []⟩, ⟨a_ref51_limit x0.request.memory, []⟩, ⟨a_ref51_limit x0.limit.cPU, []⟩, ⟨a_ref51_limit x0.limit.memory, []⟩]) (Met.cons (len_ok (Container.rows p0.containers) (List.length p0.containers) (Container.rowsLen p0.containers)) (Met.cons (dec (decide ((i0 : Int) < ((List.length p0.containers) : Int))) true hc0) (Met.cons (ix_ok 11 (Container.rows p0.containers) i0 _ (Container.rowsGet hx0) rfl) (Met.cons (dec v0_1 true (beqT h0)) (Met.cons (dec (decide (0 < (s_ref51_limit x0.request.cPU))) false h1) (Met.cons (dec v0_2 false (beqT h2)) (Met.cons (inc_ok i0 (by omega)) Met.nil))))))) (Told.cons (t_ref51_limit x0.request.cPU) (Told.cons (t_ref51_limit x0.request.memory) (Told.cons (t_ref51_limit x0.limit.cPU) (Told.cons (t_ref51_limit x0.limit.memory) Told.nil)))) (by kernel_rfl) hr
theorem n_ref51_Class_b0_21 (p0 : PodSpec) (H : H_ref51_Class_b0 p0) (x0 : Container) (i0 : Nat) (v0_1 : Bool) (v0_2 : Bool) (hx0 : p0.containers[i0]? = some x0) (hi0 : i0 < List.length p0.containers) (hc0 : (decide ((i0 : Int) < ((List.length p0.containers) : Int))) = true) (h0 : (v0_1 == true) = false) (h1 : (v0_2 == true) = true) (h2 : ((s_ref51_limit x0.request.cPU) == 0) = true) (h3 : ((s_ref51_limit x0.request.memory) == 0) = true) (h4 : ((s_ref51_limit x0.limit.cPU) == 0) = true) {r : Rs} (hr : Tells G (E_ref51_Class_b0 p0 (i0 + 1) false ((s_ref51_limit x0.limit.memory) == 0)) r) : Tells G (E_ref51_Class_b0 p0 i0 v0_1 v0_2) r := by
  have hB := H.1
  exact tells_nextV (h := HO_ref51_Class_b0 p0 i0 v0_1 v0_2) (vw := []) VOK.nil (y := (HE_ref51_Class_b0 p0 (i0 + 1) false ((s_ref51_limit x0.limit.memory) == 0), HO_ref51_Class_b0 p0 (i0 + 1) false ((s_ref51_limit x0.limit.memory) == 0))) (hs := [(3, (vE (.int .i64 ((List.length p0.containers) : Int)), [])), (0, (bE true, [])), (3, (vE (.rf (Container.cells x0)), [])), (23, (bE false, [])), (19, (bE true, [])), (2, (bE true, [])), (3, (bE true, [])), (3, (bE true, [])), (7, (vE (.int .i64 ((i0 + 1 : Nat) : Int)), []))]) (as := [⟨a_ref51_limit x0.request.cPU, []⟩, ⟨a_ref51_limit x0.request.memory, []⟩, ⟨a_ref51_limit x0.limit.cPU, []⟩, ⟨a_ref51_limit x0.limit.memory, []⟩]) (Met.cons (len_ok (Container.rows p0.containers) (List.length p0.containers) (Container.rowsLen p0.containers)) (Met.cons (dec (decide ((i0 : Int) < ((List.length p0.containers) : Int))) true hc0) (Met.cons (ix_ok 11 (Container.rows p0.containers) i0 _ (Container.rowsGet hx0) rfl) (Met.cons (dec v0_1 false (beqT h0)) (Met.cons (dec v0_2 true (beqT h1)) (Met.cons (dec ((s_ref51_limit x0.request.cPU) == 0) true h2) (Met.cons (dec ((s_ref51_limit x0.request.memory) == 0) true h3) (Met.cons (dec ((s_ref51_limit x0.limit.cPU) == 0) true h4) (Met.cons (inc_ok i0 (by omega)) Met.nil))))))))) (Told.cons (t_ref51_limit x0.request.cPU) (Told.cons (t_ref51_limit x0.request.memory) (Told.cons (t_ref51_limit x0.limit.cPU) (Told.cons (t_ref51_limit x0.limit.memory) Told.nil)))) (by kernel_rfl) hr
theorem n_ref51_Class_b0_22 (p0 : PodSpec) (H : H_ref51_Class_b0 p0) (x0 : Container) (i0 : Nat) (v0_1 : Bool) (v0_2 : Bool) (hx0 : p0.containers[i0]? = some x0) (hi0 : i0 < List.length p0.containers) (hc0 : (decide ((i0 : Int) < ((List.length p0.containers) : Int))) = true) (h0 : (v0_1 == true) = false) (h1 : (v0_2 == true) = true) (h2 : ((s_ref51_limit x0.request.cPU) == 0) = true) (h3 : ((s_ref51_limit x0.request.memory) == 0) = true) (h4 : ((s_ref51_limit x0.limit.cPU) == 0) = false) {r : Rs} (hr : Tells G (E_ref51_Class_b0 p0 (i0 + 1) false false) r) : Tells G (E_ref51_Class_b0 p0 i0 v0_1 v0_2) r := by
  have hB := H.1
  exact tells_nextV (h := HO_ref51_Class_b0 p0 i0 v0_1 v0_2) (vw := []) VOK.nil (y := (HE_ref51_Class_b0 p0 (i0 + 1) false false, HO_ref51_Class_b0 p0 (i0 + 1) false false)) (hs := [(3, (vE (.int .i64 ((List.length p0.containers) : Int)), [])), (0, (bE true, [])), (3, (vE (.rf (Container.cells x0)), [])), (23, (bE false, [])), (19, (bE true, [])), (2, (bE true, [])), (3, (bE true, [])), (3, (bE false, [])), (7, (vE (.int .i64 ((i0 + 1 : Nat) : Int)), []))]) (as := [⟨a_ref51_limit x0.request.cPU, []⟩, ⟨a_ref51_limit x0.request.memory, []⟩, ⟨a_ref51_limit x0.limit.cPU, []⟩, ⟨a_ref51_limit x0.limit.memory, []⟩]) (Met.cons (len_ok (Container.rows p0.containers) (List.length p0.containers) (Container.rowsLen p0.containers)) (Met.cons (dec (decide ((i0 : Int) < ((List.length p0.containers) : Int))) true hc0) (Met.cons (ix_ok 11 (Container.rows p0.containers) i0 _ (Container.rowsGet hx0) rfl) (Met.cons (dec v0_1 false (beqT h0)) (Met.cons (dec v0_2 true (beqT h1)) (Met.cons (dec ((s_ref51_limit x0.request.cPU) == 0) true h2) (Met.cons (dec ((s_ref51_limit x0.request.memory) == 0) true h3) (Met.cons (dec ((s_ref51_limit x0.limit.cPU) == 0) false h4) (Met.cons (inc_ok i0 (by omega)) Met.nil))))))))) (Told.cons (t_ref51_limit x0.request.cPU) (Told.cons (t_ref51_limit x0.request.memory) (Told.cons (t_ref51_limit x0.limit.cPU) (Told.cons (t_ref51_limit x0.limit.memory) Told.nil)))) (by kernel_rfl) hr
theorem n_ref51_Class_b0_23 (p0 : PodSpec) (H : H_ref51_Class_b0 p0) (x0 : Container) (i0 : Nat) (v0_1 : Bool) (v0_2 : Bool) (hx0 : p0.containers[i0]? = some x0) (hi0 : i0 < List.length p0.containers) (hc0 : (decide ((i0 : Int) < ((List.length p0.containers) : Int))) = true) (h0 : (v0_1 == true) = false) (h1 : (v0_2 == true) = true) (h2 : ((s_ref51_limit x0.request.cPU) == 0) = true) (h3 : ((s_ref51_limit x0.request.memory) == 0) = false) {r : Rs} (hr : Tells G (E_ref51_Class_b0 p0 (i0 + 1) false false) r) : Tells G (E_ref51_Class_b0 p0 i0 v0_1 v0_2) r := by
  have hB := H.1
  exact tells_nextV (h := HO_ref51_Class_b0 p0 i0 v0_1 v0_2) (vw := []) VOK.nil (y := (HE_ref51_Class_b0 p0 (i0 + 1) false false, HO_ref51_Class_b0 p0 (i0 + 1) false false)) (hs := [(3, (vE (.int .i64 ((List.length p0.containers) : Int)), [])), (0, (bE true, [])), (3, (vE (.rf (Container.cells x0)), [])), (23, (bE false, [])), (19, (bE true, [])), (2, (bE true, [])), (3, (bE false, [])), (11, (vE (.int .i64 ((i0 + 1 : Nat) : Int)), []))]) (as := [⟨a_ref51_limit x0.request.cPU, []⟩, ⟨a_ref51_limit x0.request.memory, []⟩, ⟨a_ref51_limit x0.limit.cPU, []⟩, ⟨a_ref51_limit x0.limit.memory, []⟩]) (Met.cons (len_ok (Container.rows p0.containers) (List.length p0.containers) (Container.rowsLen p0.containers)) (Met.cons (dec (decide ((i0 : Int) < ((List.length p0.containers) : Int))) true hc0) (Met.cons (ix_ok 11 (Container.rows p0.containers) i0 _ (Container.rowsGet hx0) rfl) (Met.cons (dec v0_1 false (beqT h0)) (Met.cons (dec v0_2 true (beqT h1)) (Met.cons (dec ((s_ref51_limit x0.request.cPU) == 0) true h2) (Met.cons (dec ((s_ref51_limit x0.request.memory) == 0) false h3) (Met.cons (inc_ok i0 (by omega)) Met.nil)))))))) (Told.cons (t_ref51_limit x0.request.cPU) (Told.cons (t_ref51_limit x0.request.memory) (Told.cons (t_ref51_limit x0.limit.cPU) (Told.cons (t_ref51_limit x0.limit.memory) Told.nil)))) (by kernel_rfl) hr
theorem n_ref51_Class_b0_24 (p0 : PodSpec) (H : H_ref51_Class_b0 p0) (x0 : Container) (i0 : Nat) (v0_1 : Bool) (v0_2 : Bool) (hx0 : p0.containers[i0]? = some x0) (hi0 : i0 < List.length p0.containers) (hc0 : (decide ((i0 : Int) < ((List.length p0.containers) : Int))) = true) (h0 : (v0_1 == true) = false) (h1 : (v0_2 == true) = true) (h2 : ((s_ref51_limit x0.request.cPU) == 0) = false) {r : Rs} (hr : Tells G (E_ref51_Class_b0 p0 (i0 + 1) false false) r) : Tells G (E_ref51_Class_b0 p0 i0 v0_1 v0_2) r := by
  have hB := H.1
  exact tells_nextV (h := HO_ref51_Class_b0 p0 i0 v0_1 v0_2) (vw := []) VOK.nil (y := (HE_ref51_Class_b0 p0 (i0 + 1) false false, HO_ref51_Class_b0 p0 (i0 + 1) false false)) (hs := [(3, (vE (.int .i64 ((List.length p0.containers) : Int)), [])), (0, (bE true, [])), (3, (vE (.rf (Container.cells x0)), [])), (23, (bE false, [])), (19, (bE true, [])), (2, (bE false, [])), (15, (vE (.int .i64 ((i0 + 1 : Nat) : Int)), []))]) (as := [⟨a_ref51_limit x0.request.cPU, []⟩, ⟨a_ref51_limit x0.request.memory, []⟩, ⟨a_ref51_limit x0.limit.cPU, []⟩, ⟨a_ref51_limit x0.limit.memory, []⟩]) (Met.cons (len_ok (Container.rows p0.containers) (List.length p0.containers) (Container.rowsLen p0.containers)) (Met.cons (dec (decide ((i0 : Int) < ((List.length p0.containers) : Int))) true hc0) (Met.cons (ix_ok 11 (Container.rows p0.containers) i0 _ (Container.rowsGet hx0) rfl) (Met.cons (dec v0_1 false (beqT h0)) (Met.cons (dec v0_2 true (beqT h1)) (Met.cons (dec ((s_ref51_limit x0.request.cPU) == 0) false h2) (Met.cons (inc_ok i0 (by omega)) Met.nil))))))) (Told.cons (t_ref51_limit x0.request.cPU) (Told.cons (t_ref51_limit x0.request.memory) (Told.cons (t_ref51_limit x0.limit.cPU) (Told.cons (t_ref51_limit x0.limit.memory) Told.nil)))) (by kernel_rfl) hr
theorem n_ref51_Class_b0_25 (p0 : PodSpec) (H : H_ref51_Class_b0 p0) (x0 : Container) (i0 : Nat) (v0_1 : Bool) (v0_2 : Bool) (hx0 : p0.containers[i0]? = some x0) (hi0 : i0 < List.length p0.containers) (hc0 : (decide ((i0 : Int) < ((List.length p0.containers) : Int))) = true) (h0 : (v0_1 == true) = false) (h1 : (v0_2 == true) = false) {r : Rs} (hr : Tells G (E_ref51_Class_b0 p0 (i0 + 1) false false) r) : Tells G (E_ref51_Class_b0 p0 i0 v0_1 v0_2) r := by
  have hB := H.1
  exact tells_nextV (h := HO_ref51_Class_b0 p0 i0 v0_1 v0_2) (vw := []) VOK.nil (y := (HE_ref51_Class_b0 p0 (i0 + 1) false false, HO_ref51_Class_b0 p0 (i0 + 1) false false)) (hs := [(3, (vE (.int .i64 ((List.length p0.containers) : Int)), [])), (0, (bE true, [])), (3, (vE (.rf (Container.cells x0)), [])), (23, (bE false, [])), (19, (bE false, [])), (18, (vE (.int .i64 ((i0 + 1 : Nat) : Int)), []))]) (as := [⟨a_ref51_limit x0.request.cPU, []⟩, ⟨a_ref51_limit x0.request.memory, []⟩, ⟨a_ref51_limit x0.limit.cPU, []⟩, ⟨a_ref51_limit x0.limit.memory, []⟩]) (Met.cons (len_ok (Container.rows p0.containers) (List.length p0.containers) (Container.rowsLen p0.containers)) (Met.cons (dec (decide ((i0 : Int) < ((List.length p0.containers) : Int))) true hc0) (Met.cons (ix_ok 11 (Container.rows p0.containers) i0 _ (Container.rowsGet hx0) rfl) (Met.cons (dec v0_1 false (beqT h0)) (Met.cons (dec v0_2 false (beqT h1)) (Met.cons (inc_ok i0 (by omega)) Met.nil)))))) (Told.cons (t_ref51_limit x0.request.cPU) (Told.cons (t_ref51_limit x0.request.memory) (Told.cons (t_ref51_limit x0.limit.cPU) (Told.cons (t_ref51_limit x0.limit.memory) Told.nil)))) (by kernel_rfl) hr
theorem lt_ref51_Class_b0 (p0 : PodSpec) (H : H_ref51_Class_b0 p0) : ∀ (r0 : List Container) (i0 : Nat) (v0_1 : Bool) (v0_2 : Bool), List.drop i0 p0.containers = r0 → P_ref51_Class_b0 p0 (E_ref51_Class_b0 p0 i0 v0_1 v0_2) (l_ref51_Class_b0 p0 r0 i0 v0_1 v0_2)
  | [], i0, v0_1, v0_2, hd => by
    have hc0 : (decide ((i0 : Int) < ((List.length p0.containers) : Int))) = false := by have := drop_end hd; simp; omega
    rw [l_ref51_Class_b0]
    exact x_ref51_Class_b0_0 p0 H i0 v0_1 v0_2 hc0
  | x0 :: r0, i0, v0_1, v0_2, hd => by
    obtain ⟨hx0, hi0, hd'⟩ := drop_get hd
    have hc0 : (decide ((i0 : Int) < ((List.length p0.containers) : Int))) = true := by simp; omega
    rw [l_ref51_Class_b0]
    cases h0 : (v0_1 == true) with
    | true =>
      cases h1 : (decide (0 < (s_ref51_limit x0.request.cPU))) with
      | true =>
        cases h2 : (decide (0 < (s_ref51_limit x0.request.memory))) with
        | true =>
          cases h3 : ((s_ref51_limit x0.request.cPU) == (s_ref51_limit x0.limit.cPU)) with
          | true =>
            cases h4 : (v0_2 == true) with
            | true =>
              cases h5 : ((s_ref51_limit x0.request.cPU) == 0) with
              | true =>
                cases h6 : ((s_ref51_limit x0.request.memory) == 0) with
                | true =>
                  cases h7 : ((s_ref51_limit x0.limit.cPU) == 0) with
                  | true =>
                    exact P_ref51_Class_b0_mono p0 (fun r hr => n_ref51_Class_b0_1 p0 H x0 i0 v0_1 v0_2 hx0 hi0 hc0 h0 h1 h2 h3 h4 h5 h6 h7 hr) _ (lt_ref51_Class_b0 p0 H r0 (i0 + 1) ((s_ref51_limit x0.request.memory) == (s_ref51_limit x0.limit.memory)) ((s_ref51_limit x0.limit.memory) == 0) hd')
                  | false =>
                    exact P_ref51_Class_b0_mono p0 (fun r hr => n_ref51_Class_b0_2 p0 H x0 i0 v0_1 v0_2 hx0 hi0 hc0 h0 h1 h2 h3 h4 h5 h6 h7 hr) _ (lt_ref51_Class_b0 p0 H r0 (i0 + 1) ((s_ref51_limit x0.request.memory) == (s_ref51_limit x0.limit.memory)) false hd')
                | false =>
                  exact P_ref51_Class_b0_mono p0 (fun r hr => n_ref51_Class_b0_3 p0 H x0 i0 v0_1 v0_2 hx0 hi0 hc0 h0 h1 h2 h3 h4 h5 h6 hr) _ (lt_ref51_Class_b0 p0 H r0 (i0 + 1) ((s_ref51_limit x0.request.memory) == (s_ref51_limit x0.limit.memory)) false hd')
              | false =>
                exact P_ref51_Class_b0_mono p0 (fun r hr => n_ref51_Class_b0_4 p0 H x0 i0 v0_1 v0_2 hx0 hi0 hc0 h0 h1 h2 h3 h4 h5 hr) _ (lt_ref51_Class_b0 p0 H r0 (i0 + 1) ((s_ref51_limit x0.request.memory) == (s_ref51_limit x0.limit.memory)) false hd')
            | false =>
              exact P_ref51_Class_b0_mono p0 (fun r hr => n_ref51_Class_b0_5 p0 H x0 i0 v0_1 v0_2 hx0 hi0 hc0 h0 h1 h2 h3 h4 hr) _ (lt_ref51_Class_b0 p0 H r0 (i0 + 1) ((s_ref51_limit x0.request.memory) == (s_ref51_limit x0.limit.memory)) false hd')
          | false =>
            cases h4 : (v0_2 == true) with
            | true =>
              cases h5 : ((s_ref51_limit x0.request.cPU) == 0) with
              | true =>
                cases h6 : ((s_ref51_limit x0.request.memory) == 0) with
                | true =>
                  cases h7 : ((s_ref51_limit x0.limit.cPU) == 0) with
                  | true =>
                    exact P_ref51_Class_b0_mono p0 (fun r hr => n_ref51_Class_b0_6 p0 H x0 i0 v0_1 v0_2 hx0 hi0 hc0 h0 h1 h2 h3 h4 h5 h6 h7 hr) _ (lt_ref51_Class_b0 p0 H r0 (i0 + 1) false ((s_ref51_limit x0.limit.memory) == 0) hd')
                  | false =>
                    exact P_ref51_Class_b0_mono p0 (fun r hr => n_ref51_Class_b0_7 p0 H x0 i0 v0_1 v0_2 hx0 hi0 hc0 h0 h1 h2 h3 h4 h5 h6 h7 hr) _ (lt_ref51_Class_b0 p0 H r0 (i0 + 1) false false hd')
                | false =>
                  exact P_ref51_Class_b0_mono p0 (fun r hr => n_ref51_Class_b0_8 p0 H x0 i0 v0_1 v0_2 hx0 hi0 hc0 h0 h1 h2 h3 h4 h5 h6 hr) _ (lt_ref51_Class_b0 p0 H r0 (i0 + 1) false false hd')
              | false =>
                exact P_ref51_Class_b0_mono p0 (fun r hr => n_ref51_Class_b0_9 p0 H x0 i0 v0_1 v0_2 hx0 hi0 hc0 h0 h1 h2 h3 h4 h5 hr) _ (lt_ref51_Class_b0 p0 H r0 (i0 + 1) false false hd')
            | false =>
              exact P_ref51_Class_b0_mono p0 (fun r hr => n_ref51_Class_b0_10 p0 H x0 i0 v0_1 v0_2 hx0 hi0 hc0 h0 h1 h2 h3 h4 hr) _ (lt_ref51_Class_b0 p0 H r0 (i0 + 1) false false hd')
        | false =>
          cases h3 : (v0_2 == true) with
          | true =>
            cases h4 : ((s_ref51_limit x0.request.cPU) == 0) with
            | true =>
              cases h5 : ((s_ref51_limit x0.request.memory) == 0) with
              | true =>
                cases h6 : ((s_ref51_limit x0.limit.cPU) == 0) with
                | true =>
                  exact P_ref51_Class_b0_mono p0 (fun r hr => n_ref51_Class_b0_11 p0 H x0 i0 v0_1 v0_2 hx0 hi0 hc0 h0 h1 h2 h3 h4 h5 h6 hr) _ (lt_ref51_Class_b0 p0 H r0 (i0 + 1) false ((s_ref51_limit x0.limit.memory) == 0) hd')
                | false =>
                  exact P_ref51_Class_b0_mono p0 (fun r hr => n_ref51_Class_b0_12 p0 H x0 i0 v0_1 v0_2 hx0 hi0 hc0 h0 h1 h2 h3 h4 h5 h6 hr) _ (lt_ref51_Class_b0 p0 H r0 (i0 + 1) false false hd')
              | false =>
                exact P_ref51_Class_b0_mono p0 (fun r hr => n_ref51_Class_b0_13 p0 H x0 i0 v0_1 v0_2 hx0 hi0 hc0 h0 h1 h2 h3 h4 h5 hr) _ (lt_ref51_Class_b0 p0 H r0 (i0 + 1) false false hd')
            | false =>
              exact P_ref51_Class_b0_mono p0 (fun r hr => n_ref51_Class_b0_14 p0 H x0 i0 v0_1 v0_2 hx0 hi0 hc0 h0 h1 h2 h3 h4 hr) _ (lt_ref51_Class_b0 p0 H r0 (i0 + 1) false false hd')
          | false =>
            exact P_ref51_Class_b0_mono p0 (fun r hr => n_ref51_Class_b0_15 p0 H x0 i0 v0_1 v0_2 hx0 hi0 hc0 h0 h1 h2 h3 hr) _ (lt_ref51_Class_b0 p0 H r0 (i0 + 1) false false hd')
      | false =>
        cases h2 : (v0_2 == true) with
        | true =>
          cases h3 : ((s_ref51_limit x0.request.cPU) == 0) with
          | true =>
            cases h4 : ((s_ref51_limit x0.request.memory) == 0) with
            | true =>
              cases h5 : ((s_ref51_limit x0.limit.cPU) == 0) with
              | true =>
                exact P_ref51_Class_b0_mono p0 (fun r hr => n_ref51_Class_b0_16 p0 H x0 i0 v0_1 v0_2 hx0 hi0 hc0 h0 h1 h2 h3 h4 h5 hr) _ (lt_ref51_Class_b0 p0 H r0 (i0 + 1) false ((s_ref51_limit x0.limit.memory) == 0) hd')
              | false =>
                exact P_ref51_Class_b0_mono p0 (fun r hr => n_ref51_Class_b0_17 p0 H x0 i0 v0_1 v0_2 hx0 hi0 hc0 h0 h1 h2 h3 h4 h5 hr) _ (lt_ref51_Class_b0 p0 H r0 (i0 + 1) false false hd')
            | false =>
              exact P_ref51_Class_b0_mono p0 (fun r hr => n_ref51_Class_b0_18 p0 H x0 i0 v0_1 v0_2 hx0 hi0 hc0 h0 h1 h2 h3 h4 hr) _ (lt_ref51_Class_b0 p0 H r0 (i0 + 1) false false hd')
          | false =>
            exact P_ref51_Class_b0_mono p0 (fun r hr => n_ref51_Class_b0_19 p0 H x0 i0 v0_1 v0_2 hx0 hi0 hc0 h0 h1 h2 h3 hr) _ (lt_ref51_Class_b0 p0 H r0 (i0 + 1) false false hd')
        | false =>
          exact P_ref51_Class_b0_mono p0 (fun r hr => n_ref51_Class_b0_20 p0 H x0 i0 v0_1 v0_2 hx0 hi0 hc0 h0 h1 h2 hr) _ (lt_ref51_Class_b0 p0 H r0 (i0 + 1) false false hd')
    | false =>
      cases h1 : (v0_2 == true) with
      | true =>
        cases h2 : ((s_ref51_limit x0.request.cPU) == 0) with
        | true =>
          cases h3 : ((s_ref51_limit x0.request.memory) == 0) with
          | true =>
            cases h4 : ((s_ref51_limit x0.limit.cPU) == 0) with
            | true =>
              exact P_ref51_Class_b0_mono p0 (fun r hr => n_ref51_Class_b0_21 p0 H x0 i0 v0_1 v0_2 hx0 hi0 hc0 h0 h1 h2 h3 h4 hr) _ (lt_ref51_Class_b0 p0 H r0 (i0 + 1) false ((s_ref51_limit x0.limit.memory) == 0) hd')
            | false =>
              exact P_ref51_Class_b0_mono p0 (fun r hr => n_ref51_Class_b0_22 p0 H x0 i0 v0_1 v0_2 hx0 hi0 hc0 h0 h1 h2 h3 h4 hr) _ (lt_ref51_Class_b0 p0 H r0 (i0 + 1) false false hd')
          | false =>
            exact P_ref51_Class_b0_mono p0 (fun r hr => n_ref51_Class_b0_23 p0 H x0 i0 v0_1 v0_2 hx0 hi0 hc0 h0 h1 h2 h3 hr) _ (lt_ref51_Class_b0 p0 H r0 (i0 + 1) false false hd')
        | false =>
          exact P_ref51_Class_b0_mono p0 (fun r hr => n_ref51_Class_b0_24 p0 H x0 i0 v0_1 v0_2 hx0 hi0 hc0 h0 h1 h2 hr) _ (lt_ref51_Class_b0 p0 H r0 (i0 + 1) false false hd')
      | false =>
        exact P_ref51_Class_b0_mono p0 (fun r hr => n_ref51_Class_b0_25 p0 H x0 i0 v0_1 v0_2 hx0 hi0 hc0 h0 h1 hr) _ (lt_ref51_Class_b0 p0 H r0 (i0 + 1) false false hd')
/-- orchestrator/ orchestratorref51.Class -/
def s_ref51_Class (p0 : PodSpec) : Int :=
  bif (l_ref51_Class_b0 p0 p0.containers 0 (decide (0 < ((List.length p0.containers) : Int))) true).1 then
    2
  else
    bif (l_ref51_Class_b0 p0 p0.containers 0 (decide (0 < ((List.length p0.containers) : Int))) true).2 then
      0
    else
      1
def c_ref51_Class (p0 : PodSpec) : En := .call 9 [.agg (PodSpec.cells p0)] []
def a_ref51_Class (p0 : PodSpec) : Rs := .ret (.int .i64 (s_ref51_Class p0)) []
def H_ref51_Class (p0 : PodSpec) : Prop := (H_ref51_Class_b0 p0) ∧ True
theorem t_ref51_Class (p0 : PodSpec) (H : H_ref51_Class p0) : Tells G (c_ref51_Class p0) (a_ref51_Class p0) := by
  unfold a_ref51_Class s_ref51_Class
  have hl0 := lt_ref51_Class_b0 p0 (H.1) p0.containers 0 (decide (0 < ((List.length p0.containers) : Int))) true (by simp)
  obtain ⟨z0, zo0, hl0⟩ := hl0
  cases h0 : (l_ref51_Class_b0 p0 p0.containers 0 (decide (0 < ((List.length p0.containers) : Int))) true).1 with
  | true =>
    exact tells_V (fn := Ir.ref51_Class) rfl VOK.nil (hs := [(4, (vE (.int .i64 ((List.length p0.containers) : Int)), [])), (4, (bE true, []))]) (as := [⟨.st (.exit 0) (S_ref51_Class_b0_0 p0 (l_ref51_Class_b0 p0 p0.containers 0 (decide (0 < ((List.length p0.containers) : Int))) true).1 (l_ref51_Class_b0 p0 p0.containers 0 (decide (0 < ((List.length p0.containers) : Int))) true).2 z0 zo0), []⟩]) (Met.cons (len_ok (Container.rows p0.containers) (List.length p0.containers) (Container.rowsLen p0.containers)) (Met.cons (dec (l_ref51_Class_b0 p0 p0.containers 0 (decide (0 < ((List.length p0.containers) : Int))) true).1 true h0) Met.nil)) (Told.cons hl0 Told.nil) (by kernel_rfl)
  | false =>
    cases h1 : (l_ref51_Class_b0 p0 p0.containers 0 (decide (0 < ((List.length p0.containers) : Int))) true).2 with
    | true =>
      exact tells_V (fn := Ir.ref51_Class) rfl VOK.nil (hs := [(4, (vE (.int .i64 ((List.length p0.containers) : Int)), [])), (4, (bE false, [])), (0, (bE true, []))]) (as := [⟨.st (.exit 0) (S_ref51_Class_b0_0 p0 (l_ref51_Class_b0 p0 p0.containers 0 (decide (0 < ((List.length p0.containers) : Int))) true).1 (l_ref51_Class_b0 p0 p0.containers 0 (decide (0 < ((List.length p0.containers) : Int))) true).2 z0 zo0), []⟩]) (Met.cons (len_ok (Container.rows p0.containers) (List.length p0.containers) (Container.rowsLen p0.containers)) (Met.cons (dec (l_ref51_Class_b0 p0 p0.containers 0 (decide (0 < ((List.length p0.containers) : Int))) true).1 false h0) (Met.cons (dec (l_ref51_Class_b0 p0 p0.containers 0 (decide (0 < ((List.length p0.containers) : Int))) true).2 true h1) Met.nil))) (Told.cons hl0 Told.nil) (by kernel_rfl)
    | false =>
      exact tells_V (fn := Ir.ref51_Class) rfl VOK.nil (hs := [(4, (vE (.int .i64 ((List.length p0.containers) : Int)), [])), (4, (bE false, [])), (0, (bE false, []))]) (as := [⟨.st (.exit 0) (S_ref51_Class_b0_0 p0 (l_ref51_Class_b0 p0 p0.containers 0 (decide (0 < ((List.length p0.containers) : Int))) true).1 (l_ref51_Class_b0 p0 p0.containers 0 (decide (0 < ((List.length p0.containers) : Int))) true).2 z0 zo0), []⟩]) (Met.cons (len_ok (Container.rows p0.containers) (List.length p0.containers) (Container.rowsLen p0.containers)) (Met.cons (dec (l_ref51_Class_b0 p0 p0.containers 0 (decide (0 < ((List.length p0.containers) : Int))) true).1 false h0) (Met.cons (dec (l_ref51_Class_b0 p0 p0.containers 0 (decide (0 < ((List.length p0.containers) : Int))) true).2 false h1) Met.nil))) (Told.cons hl0 Told.nil) (by kernel_rfl)

def l_law51_QosClass_b0 (p0 : PodSpec) : Nat → (List Container) → Int → List Container
  | 0, v0_0, _v0_1 => v0_0
  | k0 + 1, v0_0, v0_1 =>
    bif (decide (0 ≤ v0_1)) then
      l_law51_QosClass_b0 p0 k0 (v0_0 ++ [(List.getD p0.containers (Int.toNat v0_1) (Container.mk (⟨#[]⟩ : ByteArray) (⟨#[]⟩ : ByteArray) (Resources.mk 0 0 0) (Resources.mk 0 0 0) [] [] []))]) (v0_1 - 1)
    else
      v0_0
def HE_law51_QosClass_b0 (_p0 : PodSpec) (_v0_0 : List Container) (v0_1 : Int) : List PV :=
  [.un, .bx 0 0, .un, .bx 1 0, .int .i64 v0_1, .un, .un, .un, .un, .un, .un, .un, .un, .un, .un, .un, .un, .un, .un, .un, .un, .un, .un, .un, .un, .un, .un, .un, .un, .un, .un, .un, .un, .un, .un, .un, .un, .un, .un, .un, .un, .un, .un, .un, .un]
def HO_law51_QosClass_b0 (p0 : PodSpec) (v0_0 : List Container) (_v0_1 : Int) : List Ob :=
  [⟨10, 0, true, [.str p0.node, .int .i64 p0.priority, .int .i64 p0.restart, .int .i64 p0.grace, .sl (Container.rows p0.containers), .sl (Requirement.rows p0.nodeSelector), .sl (NodeTerm.rows p0.nodeTerms), .sl (PodTerm.rows p0.podTerms), .sl (SpreadRule.rows p0.spread), .sl (Toleration.rows p0.tolerations)]⟩, ⟨10, 0, true, [.str p0.node, .int .i64 p0.priority, .int .i64 p0.restart, .int .i64 p0.grace, .ms 2 11 0 (List.length v0_0), .sl (Requirement.rows p0.nodeSelector), .sl (NodeTerm.rows p0.nodeTerms), .sl (PodTerm.rows p0.podTerms), .sl (SpreadRule.rows p0.spread), .sl (Toleration.rows p0.tolerations)]⟩, ⟨11, 0, true, (Container.rows v0_0).flatten⟩]
def E_law51_QosClass_b0 (p0 : PodSpec) (v0_0 : List Container) (v0_1 : Int) : En := .loop 0 Ir.law51_QosClass_b0_live Ir.law51_QosClass_b0 (HE_law51_QosClass_b0 p0 v0_0 v0_1) (HO_law51_QosClass_b0 p0 v0_0 v0_1)
def S_law51_QosClass_b0_0 (p0 : PodSpec) (q0 : List Container) (z : Nat → PV) (_zo : Nat → List PV) : St :=
  ⟨[z 0, .bx 0 0, z 2, .bx 1 0, z 4, z 5, z 6, z 7, z 8, z 9, z 10, z 11, z 12, z 13, z 14, z 15, z 16, z 17, z 18, z 19, z 20, z 21, z 22, z 23, z 24, z 25, z 26, z 27, z 28, z 29, z 30, z 31, z 32, z 33, z 34, z 35, z 36, z 37, z 38, z 39, z 40, z 41, z 42, z 43, z 44], [(0, ⟨10, 0, true, [.str p0.node, .int .i64 p0.priority, .int .i64 p0.restart, .int .i64 p0.grace, .sl (Container.rows p0.containers), .sl (Requirement.rows p0.nodeSelector), .sl (NodeTerm.rows p0.nodeTerms), .sl (PodTerm.rows p0.podTerms), .sl (SpreadRule.rows p0.spread), .sl (Toleration.rows p0.tolerations)]⟩), (1, ⟨10, 0, true, [.str p0.node, .int .i64 p0.priority, .int .i64 p0.restart, .int .i64 p0.grace, .ms 2 11 0 (List.length q0), .sl (Requirement.rows p0.nodeSelector), .sl (NodeTerm.rows p0.nodeTerms), .sl (PodTerm.rows p0.podTerms), .sl (SpreadRule.rows p0.spread), .sl (Toleration.rows p0.tolerations)]⟩), (2, ⟨11, 0, true, (Container.rows q0).flatten⟩)], 131⟩
def P_law51_QosClass_b0 (p0 : PodSpec) (e : En) (q : List Container) : Prop := ∃ z zo, Tells G e (.st (.exit 0) (S_law51_QosClass_b0_0 p0 q z zo))
theorem P_law51_QosClass_b0_mono (p0 : PodSpec) {e e' : En} (h : ∀ r, Tells G e r → Tells G e' r) : ∀ q, P_law51_QosClass_b0 p0 e q → P_law51_QosClass_b0 p0 e' q
  | _, ⟨z, zo, hz⟩ => ⟨z, zo, h _ hz⟩
theorem n_law51_QosClass_b0_0 (p0 : PodSpec) (v0_0 : List Container) (v0_1 : Int) (ho0_0 : -1 ≤ v0_1) (ho0_1 : v0_1 < (List.length p0.containers : Int)) (ho0_2 : List.length p0.containers ≤ 50) (ho0_3 : (List.length v0_0 : Int) + v0_1 < 50) (h0 : (decide (0 ≤ v0_1)) = true) {r : Rs} (hr : Tells G (E_law51_QosClass_b0 p0 (v0_0 ++ [(List.getD p0.containers (Int.toNat v0_1) (Container.mk (⟨#[]⟩ : ByteArray) (⟨#[]⟩ : ByteArray) (Resources.mk 0 0 0) (Resources.mk 0 0 0) [] [] []))]) (v0_1 - 1)) r) : Tells G (E_law51_QosClass_b0 p0 v0_0 v0_1) r := by
  exact tells_nextV (h := HO_law51_QosClass_b0 p0 v0_0 v0_1) (vw := [(2, Container.rows v0_0)]) (VOK.cons (show Seen _ _ from seenV (ob := ⟨11, 0, true, (Container.rows v0_0).flatten⟩) (Container.rowsView v0_0 11 rfl)) VOK.nil) (y := (HE_law51_QosClass_b0 p0 (v0_0 ++ [(List.getD p0.containers (Int.toNat v0_1) (Container.mk (⟨#[]⟩ : ByteArray) (⟨#[]⟩ : ByteArray) (Resources.mk 0 0 0) (Resources.mk 0 0 0) [] [] []))]) (v0_1 - 1), HO_law51_QosClass_b0 p0 (v0_0 ++ [(List.getD p0.containers (Int.toNat v0_1) (Container.mk (⟨#[]⟩ : ByteArray) (⟨#[]⟩ : ByteArray) (Resources.mk 0 0 0) (Resources.mk 0 0 0) [] [] []))]) (v0_1 - 1))) (hs := [(1, (bE true, [])), (5, (vE (.rf (Container.cells (List.getD p0.containers (Int.toNat v0_1) (Container.mk (⟨#[]⟩ : ByteArray) (⟨#[]⟩ : ByteArray) (Resources.mk 0 0 0) (Resources.mk 0 0 0) [] [] [])))), [])), (2, (⟨.ms 643 11 0 (List.length (v0_0 ++ [(List.getD p0.containers (Int.toNat v0_1) (Container.mk (⟨#[]⟩ : ByteArray) (⟨#[]⟩ : ByteArray) (Resources.mk 0 0 0) (Resources.mk 0 0 0) [] [] []))])), [(2, none), (643, some ⟨11, 0, true, (Container.rows (v0_0 ++ [(List.getD p0.containers (Int.toNat v0_1) (Container.mk (⟨#[]⟩ : ByteArray) (⟨#[]⟩ : ByteArray) (Resources.mk 0 0 0) (Resources.mk 0 0 0) [] [] []))])).flatten⟩)], [2, 579]⟩, [(643, Container.rows (v0_0 ++ [(List.getD p0.containers (Int.toNat v0_1) (Container.mk (⟨#[]⟩ : ByteArray) (⟨#[]⟩ : ByteArray) (Resources.mk 0 0 0) (Resources.mk 0 0 0) [] [] []))]))])), (3, (vE (.int .i64 (v0_1 - 1)), []))]) (as := []) (Met.cons (dec (decide (0 ≤ v0_1)) true h0) (Met.cons (ixI_ok 11 (Container.rows p0.containers) v0_1 _ (by have e0 := of_decide_eq_true h0; omega) (Container.rowsGet (getD_ok p0.containers (Int.toNat v0_1) (Container.mk (⟨#[]⟩ : ByteArray) (⟨#[]⟩ : ByteArray) (Resources.mk 0 0 0) (Resources.mk 0 0 0) [] [] []) (by have e0 := of_decide_eq_true h0; omega))) rfl) (Met.cons (ap_ok 2 579 643 11 152 0 0 true (Container.rows v0_0) (Container.rows (v0_0 ++ [(List.getD p0.containers (Int.toNat v0_1) (Container.mk (⟨#[]⟩ : ByteArray) (⟨#[]⟩ : ByteArray) (Resources.mk 0 0 0) (Resources.mk 0 0 0) [] [] []))])) (Container.cells (List.getD p0.containers (Int.toNat v0_1) (Container.mk (⟨#[]⟩ : ByteArray) (⟨#[]⟩ : ByteArray) (Resources.mk 0 0 0) (Resources.mk 0 0 0) [] [] []))) (List.length v0_0) (List.length (v0_0 ++ [(List.getD p0.containers (Int.toNat v0_1) (Container.mk (⟨#[]⟩ : ByteArray) (⟨#[]⟩ : ByteArray) (Resources.mk 0 0 0) (Resources.mk 0 0 0) [] [] []))])) rfl (Container.rowsLen v0_0).symm (Container.rowsLen (v0_0 ++ [(List.getD p0.containers (Int.toNat v0_1) (Container.mk (⟨#[]⟩ : ByteArray) (⟨#[]⟩ : ByteArray) (Resources.mk 0 0 0) (Resources.mk 0 0 0) [] [] []))])).symm (Container.rowsSnoc v0_0 (List.getD p0.containers (Int.toNat v0_1) (Container.mk (⟨#[]⟩ : ByteArray) (⟨#[]⟩ : ByteArray) (Resources.mk 0 0 0) (Resources.mk 0 0 0) [] [] []))) (Container.rowsSize v0_0) rfl (by omega)) (Met.cons (seenV (ob := ⟨11, 0, true, (Container.rows (v0_0 ++ [(List.getD p0.containers (Int.toNat v0_1) (Container.mk (⟨#[]⟩ : ByteArray) (⟨#[]⟩ : ByteArray) (Resources.mk 0 0 0) (Resources.mk 0 0 0) [] [] []))])).flatten⟩) (Container.rowsView (v0_0 ++ [(List.getD p0.containers (Int.toNat v0_1) (Container.mk (⟨#[]⟩ : ByteArray) (⟨#[]⟩ : ByteArray) (Resources.mk 0 0 0) (Resources.mk 0 0 0) [] [] []))]) 11 rfl)) (Met.cons (w_ok (v0_1 - 1) (by have e0 := of_decide_eq_true h0; omega)) Met.nil))))) Told.nil (by kernel_rfl) hr
def Z_law51_QosClass_b0_1 (_p0 : PodSpec) (_v0_0 : List Container) (v0_1 : Int) : List PV :=
  [.un, .un, .un, .un, .int .i64 v0_1, .un, .un, .un, .un, .un, .un, .un, .un, .un, .un, .un, .int .i64 v0_1, .bool false, .un, .un, .un, .un, .un, .un, .un, .un, .un, .un, .un, .un, .un, .un, .un, .un, .un, .un, .un, .un, .un, .un, .un, .un, .un, .un, .un]
def ZO_law51_QosClass_b0_1 (_p0 : PodSpec) (_v0_0 : List Container) (_v0_1 : Int) : List (Nat × List PV) :=
  []
theorem x_law51_QosClass_b0_1 (p0 : PodSpec) (v0_0 : List Container) (v0_1 : Int) (_ho0_0 : -1 ≤ v0_1) (_ho0_1 : v0_1 < (List.length p0.containers : Int)) (_ho0_2 : List.length p0.containers ≤ 50) (_ho0_3 : (List.length v0_0 : Int) + v0_1 < 50) (h0 : (decide (0 ≤ v0_1)) = false) : P_law51_QosClass_b0 p0 (E_law51_QosClass_b0 p0 v0_0 v0_1) v0_0 := by
  exact ⟨(envF (Z_law51_QosClass_b0_1 p0 v0_0 v0_1)), (zoF (ZO_law51_QosClass_b0_1 p0 v0_0 v0_1)), tells_outV (h := HO_law51_QosClass_b0 p0 v0_0 v0_1) (vw := [(2, Container.rows v0_0)]) (VOK.cons (show Seen _ _ from seenV (ob := ⟨11, 0, true, (Container.rows v0_0).flatten⟩) (Container.rowsView v0_0 11 rfl)) VOK.nil) (x := ((.exit 0), S_law51_QosClass_b0_0 p0 v0_0 (envF (Z_law51_QosClass_b0_1 p0 v0_0 v0_1)) (zoF (ZO_law51_QosClass_b0_1 p0 v0_0 v0_1)))) (hs := [(1, (bE false, []))]) (as := []) (Met.cons (dec (decide (0 ≤ v0_1)) false h0) Met.nil) Told.nil (by kernel_rfl)⟩
theorem lt_law51_QosClass_b0 (p0 : PodSpec) : ∀ (k0 : Nat) (v0_0 : List Container) (v0_1 : Int), -1 ≤ v0_1 → v0_1 < (List.length p0.containers : Int) → List.length p0.containers ≤ 50 → (List.length v0_0 : Int) + v0_1 < 50 → Int.toNat (v0_1 + 1) < k0 → P_law51_QosClass_b0 p0 (E_law51_QosClass_b0 p0 v0_0 v0_1) (l_law51_QosClass_b0 p0 k0 v0_0 v0_1)
  | 0, v0_0, v0_1, _, _, _, _, hm => absurd hm (Nat.not_lt_zero _)
  | k0 + 1, v0_0, v0_1, ho0_0, ho0_1, ho0_2, ho0_3, hm => by
    rw [l_law51_QosClass_b0]
    cases h0 : (decide (0 ≤ v0_1)) with
    | true =>
      exact P_law51_QosClass_b0_mono p0 (fun r hr => n_law51_QosClass_b0_0 p0 v0_0 v0_1 ho0_0 ho0_1 ho0_2 ho0_3 h0 hr) _ (lt_law51_QosClass_b0 p0 k0 (v0_0 ++ [(List.getD p0.containers (Int.toNat v0_1) (Container.mk (⟨#[]⟩ : ByteArray) (⟨#[]⟩ : ByteArray) (Resources.mk 0 0 0) (Resources.mk 0 0 0) [] [] []))]) (v0_1 - 1) (by have e0 := of_decide_eq_true h0; omega) (by have e0 := of_decide_eq_true h0; omega) (by have e0 := of_decide_eq_true h0; omega) (by have e0 := of_decide_eq_true h0; try simp only [List.length_append, List.length_cons, List.length_nil]; omega) (by have e0 := of_decide_eq_true h0; omega))
    | false =>
      exact x_law51_QosClass_b0_1 p0 v0_0 v0_1 ho0_0 ho0_1 ho0_2 ho0_3 h0
/-- orchestrator/ orchestratorlaw51.QosClass -/
def s_law51_QosClass (p0 : PodSpec) : Bool :=
  bif (decide (50 < ((List.length p0.containers) : Int))) then
    true
  else
    bif ((s_qos_Class p0) == (s_ref51_Class p0)) then
      ((s_qos_Class (PodSpec.mk p0.node p0.priority p0.restart p0.grace (l_law51_QosClass_b0 p0 ((Int.toNat ((((List.length p0.containers) : Int) - 1) + 1)) + 1) [] (((List.length p0.containers) : Int) - 1)) p0.nodeSelector p0.nodeTerms p0.podTerms p0.spread p0.tolerations)) == (s_qos_Class p0))
    else
      false
def c_law51_QosClass (p0 : PodSpec) : En := .call 3 [.agg (PodSpec.cells p0)] []
def a_law51_QosClass (p0 : PodSpec) : Rs := .ret (.bool (s_law51_QosClass p0)) []
def H_law51_QosClass (p0 : PodSpec) : Prop := (H_qos_Class p0) ∧ (H_ref51_Class p0) ∧ (H_qos_Class (PodSpec.mk p0.node p0.priority p0.restart p0.grace (l_law51_QosClass_b0 p0 ((Int.toNat ((((List.length p0.containers) : Int) - 1) + 1)) + 1) [] (((List.length p0.containers) : Int) - 1)) p0.nodeSelector p0.nodeTerms p0.podTerms p0.spread p0.tolerations)) ∧ True
theorem t_law51_QosClass (p0 : PodSpec) (H : H_law51_QosClass p0) : Tells G (c_law51_QosClass p0) (a_law51_QosClass p0) := by
  unfold a_law51_QosClass s_law51_QosClass
  cases h0 : (decide (50 < ((List.length p0.containers) : Int))) with
  | true =>
    exact tells_V (fn := Ir.law51_QosClass) rfl VOK.nil (hs := [(4, (vE (.int .i64 ((List.length p0.containers) : Int)), [])), (0, (bE true, []))]) (as := [⟨.ret (.bool true) [], []⟩]) (Met.cons (len_ok (Container.rows p0.containers) (List.length p0.containers) (Container.rowsLen p0.containers)) (Met.cons (dec (decide (50 < ((List.length p0.containers) : Int))) true h0) Met.nil)) (Told.cons t_law51_lives Told.nil) (by kernel_rfl)
  | false =>
    have hl1 := lt_law51_QosClass_b0 p0 ((Int.toNat ((((List.length p0.containers) : Int) - 1) + 1)) + 1) [] (((List.length p0.containers) : Int) - 1) (by have e0 := of_decide_eq_false h0; omega) (by have e0 := of_decide_eq_false h0; omega) (by have e0 := of_decide_eq_false h0; omega) (by have e0 := of_decide_eq_false h0; try simp only [List.length_nil]; omega) (by omega)
    obtain ⟨z1, zo1, hl1⟩ := hl1
    cases h1 : ((s_qos_Class p0) == (s_ref51_Class p0)) with
    | true =>
      exact tells_V (fn := Ir.law51_QosClass) rfl VOK.nil (hs := [(4, (vE (.int .i64 ((List.length p0.containers) : Int)), [])), (0, (bE false, [])), (7, (vE (.int .i64 ((List.length p0.containers) : Int)), [])), (0, (vE (.int .i64 (((List.length p0.containers) : Int) - 1)), [])), (7, (bE true, []))]) (as := [⟨.st (.exit 0) (S_law51_QosClass_b0_0 p0 (l_law51_QosClass_b0 p0 ((Int.toNat ((((List.length p0.containers) : Int) - 1) + 1)) + 1) [] (((List.length p0.containers) : Int) - 1)) z1 zo1), [(2, Container.rows (l_law51_QosClass_b0 p0 ((Int.toNat ((((List.length p0.containers) : Int) - 1) + 1)) + 1) [] (((List.length p0.containers) : Int) - 1)))]⟩, ⟨.ret (.bool true) [], []⟩, ⟨a_qos_Class p0, []⟩, ⟨a_ref51_Class p0, []⟩, ⟨a_qos_Class (PodSpec.mk p0.node p0.priority p0.restart p0.grace (l_law51_QosClass_b0 p0 ((Int.toNat ((((List.length p0.containers) : Int) - 1) + 1)) + 1) [] (((List.length p0.containers) : Int) - 1)) p0.nodeSelector p0.nodeTerms p0.podTerms p0.spread p0.tolerations), []⟩, ⟨a_qos_Class p0, []⟩]) (Met.cons (len_ok (Container.rows p0.containers) (List.length p0.containers) (Container.rowsLen p0.containers)) (Met.cons (dec (decide (50 < ((List.length p0.containers) : Int))) false h0) (Met.cons (len_ok (Container.rows p0.containers) (List.length p0.containers) (Container.rowsLen p0.containers)) (Met.cons (w_ok (((List.length p0.containers) : Int) - 1) (by have e0 := of_decide_eq_false h0; omega)) (Met.cons (seenV (ob := ⟨11, 0, true, (Container.rows (l_law51_QosClass_b0 p0 ((Int.toNat ((((List.length p0.containers) : Int) - 1) + 1)) + 1) [] (((List.length p0.containers) : Int) - 1))).flatten⟩) (Container.rowsView (l_law51_QosClass_b0 p0 ((Int.toNat ((((List.length p0.containers) : Int) - 1) + 1)) + 1) [] (((List.length p0.containers) : Int) - 1)) 11 rfl)) (Met.cons (dec ((s_qos_Class p0) == (s_ref51_Class p0)) true h1) (Met.cons (Container.rowsLen (l_law51_QosClass_b0 p0 ((Int.toNat ((((List.length p0.containers) : Int) - 1) + 1)) + 1) [] (((List.length p0.containers) : Int) - 1))).symm Met.nil))))))) (Told.cons hl1 (Told.cons t_law51_lives (Told.cons (t_qos_Class p0 H.1) (Told.cons (t_ref51_Class p0 H.2.1) (Told.cons (t_qos_Class (PodSpec.mk p0.node p0.priority p0.restart p0.grace (l_law51_QosClass_b0 p0 ((Int.toNat ((((List.length p0.containers) : Int) - 1) + 1)) + 1) [] (((List.length p0.containers) : Int) - 1)) p0.nodeSelector p0.nodeTerms p0.podTerms p0.spread p0.tolerations) H.2.2.1) (Told.cons (t_qos_Class p0 H.1) Told.nil)))))) (by kernel_rfl)
    | false =>
      exact tells_V (fn := Ir.law51_QosClass) rfl VOK.nil (hs := [(4, (vE (.int .i64 ((List.length p0.containers) : Int)), [])), (0, (bE false, [])), (7, (vE (.int .i64 ((List.length p0.containers) : Int)), [])), (0, (vE (.int .i64 (((List.length p0.containers) : Int) - 1)), [])), (7, (bE false, []))]) (as := [⟨.st (.exit 0) (S_law51_QosClass_b0_0 p0 (l_law51_QosClass_b0 p0 ((Int.toNat ((((List.length p0.containers) : Int) - 1) + 1)) + 1) [] (((List.length p0.containers) : Int) - 1)) z1 zo1), [(2, Container.rows (l_law51_QosClass_b0 p0 ((Int.toNat ((((List.length p0.containers) : Int) - 1) + 1)) + 1) [] (((List.length p0.containers) : Int) - 1)))]⟩, ⟨.ret (.bool true) [], []⟩, ⟨a_qos_Class p0, []⟩, ⟨a_ref51_Class p0, []⟩]) (Met.cons (len_ok (Container.rows p0.containers) (List.length p0.containers) (Container.rowsLen p0.containers)) (Met.cons (dec (decide (50 < ((List.length p0.containers) : Int))) false h0) (Met.cons (len_ok (Container.rows p0.containers) (List.length p0.containers) (Container.rowsLen p0.containers)) (Met.cons (w_ok (((List.length p0.containers) : Int) - 1) (by have e0 := of_decide_eq_false h0; omega)) (Met.cons (seenV (ob := ⟨11, 0, true, (Container.rows (l_law51_QosClass_b0 p0 ((Int.toNat ((((List.length p0.containers) : Int) - 1) + 1)) + 1) [] (((List.length p0.containers) : Int) - 1))).flatten⟩) (Container.rowsView (l_law51_QosClass_b0 p0 ((Int.toNat ((((List.length p0.containers) : Int) - 1) + 1)) + 1) [] (((List.length p0.containers) : Int) - 1)) 11 rfl)) (Met.cons (dec ((s_qos_Class p0) == (s_ref51_Class p0)) false h1) Met.nil)))))) (Told.cons hl1 (Told.cons t_law51_lives (Told.cons (t_qos_Class p0 H.1) (Told.cons (t_ref51_Class p0 H.2.1) Told.nil)))) (by kernel_rfl)

def Resources_ty : Ty := .st [.int .i64, .int .i64, .int .i64]
def Resources_ok (x : Resources) : Prop := okI64 x.cPU ∧ okI64 x.memory ∧ okI64 x.disk
theorem Resources_open {c : List PV} (h : Of Γ Resources_ty c) : ∃ x : Resources, c = x.cells ∧ Resources_ok x := by
  have g0 := h.st1
  obtain ⟨a0, b0, rfl, h0, g1⟩ := g0.uncons
  obtain ⟨x0, rfl, k0⟩ := h0.i64
  obtain ⟨a1, b1, rfl, h1, g2⟩ := g1.uncons
  obtain ⟨x1, rfl, k1⟩ := h1.i64
  obtain ⟨a2, b2, rfl, h2, g3⟩ := g2.uncons
  obtain ⟨x2, rfl, k2⟩ := h2.i64
  have e := g3.empty
  subst e
  exact ⟨⟨x0, x1, x2⟩, rfl, ⟨k0, k1, k2⟩⟩

def Probe_ty : Ty := .st [.int .i64, .int .i64, .int .i64, .int .i64]
def Probe_ok (x : Probe) : Prop := okI64 x.delay ∧ okI64 x.period ∧ okI64 x.success ∧ okI64 x.failure
theorem Probe_open {c : List PV} (h : Of Γ Probe_ty c) : ∃ x : Probe, c = x.cells ∧ Probe_ok x := by
  have g0 := h.st1
  obtain ⟨a0, b0, rfl, h0, g1⟩ := g0.uncons
  obtain ⟨x0, rfl, k0⟩ := h0.i64
  obtain ⟨a1, b1, rfl, h1, g2⟩ := g1.uncons
  obtain ⟨x1, rfl, k1⟩ := h1.i64
  obtain ⟨a2, b2, rfl, h2, g3⟩ := g2.uncons
  obtain ⟨x2, rfl, k2⟩ := h2.i64
  obtain ⟨a3, b3, rfl, h3, g4⟩ := g3.uncons
  obtain ⟨x3, rfl, k3⟩ := h3.i64
  have e := g4.empty
  subst e
  exact ⟨⟨x0, x1, x2, x3⟩, rfl, ⟨k0, k1, k2, k3⟩⟩

def Container_ty : Ty := .st [.str, .str, Resources_ty, Resources_ty, .sl 32 Probe_ty, .sl 32 Probe_ty, .sl 32 Probe_ty]
def Container_ok (x : Container) : Prop := okS x.name ∧ okS x.image ∧ Resources_ok x.request ∧ Resources_ok x.limit ∧ (okL 32 Probe_ok) x.live ∧ (okL 32 Probe_ok) x.ready ∧ (okL 32 Probe_ok) x.startup
theorem Container_open {c : List PV} (h : Of Γ Container_ty c) : ∃ x : Container, c = x.cells ∧ Container_ok x := by
  have g0 := h.st1
  obtain ⟨a0, b0, rfl, h0, g1⟩ := g0.uncons
  obtain ⟨x0, rfl, k0⟩ := h0.str1
  obtain ⟨a1, b1, rfl, h1, g2⟩ := g1.uncons
  obtain ⟨x1, rfl, k1⟩ := h1.str1
  obtain ⟨a2, b2, rfl, h2, g3⟩ := g2.uncons
  obtain ⟨x2, rfl, k2⟩ := (Resources_open h2)
  obtain ⟨a3, b3, rfl, h3, g4⟩ := g3.uncons
  obtain ⟨x3, rfl, k3⟩ := (Resources_open h3)
  obtain ⟨a4, b4, rfl, h4, g5⟩ := g4.uncons
  obtain ⟨x4, rfl, k4⟩ := (h4.sl1 (f := Probe.cells) (ok := Probe_ok) fun r hr => (Probe_open hr))
  obtain ⟨a5, b5, rfl, h5, g6⟩ := g5.uncons
  obtain ⟨x5, rfl, k5⟩ := (h5.sl1 (f := Probe.cells) (ok := Probe_ok) fun r hr => (Probe_open hr))
  obtain ⟨a6, b6, rfl, h6, g7⟩ := g6.uncons
  obtain ⟨x6, rfl, k6⟩ := (h6.sl1 (f := Probe.cells) (ok := Probe_ok) fun r hr => (Probe_open hr))
  have e := g7.empty
  subst e
  exact ⟨⟨x0, x1, x2, x3, x4, x5, x6⟩, rfl, ⟨k0, k1, k2, k3, k4, k5, k6⟩⟩

def Requirement_ty : Ty := .st [.str, .int .i64, .sl 16 .str]
def Requirement_ok (x : Requirement) : Prop := okS x.key ∧ okI64 x.op ∧ (okL 16 okS) x.values
theorem Requirement_open {c : List PV} (h : Of Γ Requirement_ty c) : ∃ x : Requirement, c = x.cells ∧ Requirement_ok x := by
  have g0 := h.st1
  obtain ⟨a0, b0, rfl, h0, g1⟩ := g0.uncons
  obtain ⟨x0, rfl, k0⟩ := h0.str1
  obtain ⟨a1, b1, rfl, h1, g2⟩ := g1.uncons
  obtain ⟨x1, rfl, k1⟩ := h1.i64
  obtain ⟨a2, b2, rfl, h2, g3⟩ := g2.uncons
  obtain ⟨x2, rfl, k2⟩ := (h2.sl1 (f := (fun s : ByteArray => [.str s])) (ok := okS) fun r hr => hr.str1)
  have e := g3.empty
  subst e
  exact ⟨⟨x0, x1, x2⟩, rfl, ⟨k0, k1, k2⟩⟩

def NodeTerm_ty : Ty := .st [.bool, .sl 48 Requirement_ty, .int .i64]
def NodeTerm_ok (x : NodeTerm) : Prop := (fun _ : Bool => True) x.required ∧ (okL 48 Requirement_ok) x.selector ∧ okI64 x.weight
theorem NodeTerm_open {c : List PV} (h : Of Γ NodeTerm_ty c) : ∃ x : NodeTerm, c = x.cells ∧ NodeTerm_ok x := by
  have g0 := h.st1
  obtain ⟨a0, b0, rfl, h0, g1⟩ := g0.uncons
  obtain ⟨x0, rfl, k0⟩ := h0.bool2
  obtain ⟨a1, b1, rfl, h1, g2⟩ := g1.uncons
  obtain ⟨x1, rfl, k1⟩ := (h1.sl1 (f := Requirement.cells) (ok := Requirement_ok) fun r hr => (Requirement_open hr))
  obtain ⟨a2, b2, rfl, h2, g3⟩ := g2.uncons
  obtain ⟨x2, rfl, k2⟩ := h2.i64
  have e := g3.empty
  subst e
  exact ⟨⟨x0, x1, x2⟩, rfl, ⟨k0, k1, k2⟩⟩

def PodTerm_ty : Ty := .st [.bool, .bool, .sl 48 Requirement_ty, .str, .int .i64]
def PodTerm_ok (x : PodTerm) : Prop := (fun _ : Bool => True) x.required ∧ (fun _ : Bool => True) x.anti ∧ (okL 48 Requirement_ok) x.selector ∧ okS x.topology ∧ okI64 x.weight
theorem PodTerm_open {c : List PV} (h : Of Γ PodTerm_ty c) : ∃ x : PodTerm, c = x.cells ∧ PodTerm_ok x := by
  have g0 := h.st1
  obtain ⟨a0, b0, rfl, h0, g1⟩ := g0.uncons
  obtain ⟨x0, rfl, k0⟩ := h0.bool2
  obtain ⟨a1, b1, rfl, h1, g2⟩ := g1.uncons
  obtain ⟨x1, rfl, k1⟩ := h1.bool2
  obtain ⟨a2, b2, rfl, h2, g3⟩ := g2.uncons
  obtain ⟨x2, rfl, k2⟩ := (h2.sl1 (f := Requirement.cells) (ok := Requirement_ok) fun r hr => (Requirement_open hr))
  obtain ⟨a3, b3, rfl, h3, g4⟩ := g3.uncons
  obtain ⟨x3, rfl, k3⟩ := h3.str1
  obtain ⟨a4, b4, rfl, h4, g5⟩ := g4.uncons
  obtain ⟨x4, rfl, k4⟩ := h4.i64
  have e := g5.empty
  subst e
  exact ⟨⟨x0, x1, x2, x3, x4⟩, rfl, ⟨k0, k1, k2, k3, k4⟩⟩

def SpreadRule_ty : Ty := .st [.int .i64, .str, .sl 48 Requirement_ty, .bool]
def SpreadRule_ok (x : SpreadRule) : Prop := okI64 x.maxSkew ∧ okS x.topology ∧ (okL 48 Requirement_ok) x.selector ∧ (fun _ : Bool => True) x.required
theorem SpreadRule_open {c : List PV} (h : Of Γ SpreadRule_ty c) : ∃ x : SpreadRule, c = x.cells ∧ SpreadRule_ok x := by
  have g0 := h.st1
  obtain ⟨a0, b0, rfl, h0, g1⟩ := g0.uncons
  obtain ⟨x0, rfl, k0⟩ := h0.i64
  obtain ⟨a1, b1, rfl, h1, g2⟩ := g1.uncons
  obtain ⟨x1, rfl, k1⟩ := h1.str1
  obtain ⟨a2, b2, rfl, h2, g3⟩ := g2.uncons
  obtain ⟨x2, rfl, k2⟩ := (h2.sl1 (f := Requirement.cells) (ok := Requirement_ok) fun r hr => (Requirement_open hr))
  obtain ⟨a3, b3, rfl, h3, g4⟩ := g3.uncons
  obtain ⟨x3, rfl, k3⟩ := h3.bool2
  have e := g4.empty
  subst e
  exact ⟨⟨x0, x1, x2, x3⟩, rfl, ⟨k0, k1, k2, k3⟩⟩

def Toleration_ty : Ty := .st [.str, .str, .bool, .int .i64, .int .i64]
def Toleration_ok (x : Toleration) : Prop := okS x.key ∧ okS x.value ∧ (fun _ : Bool => True) x.exists_ ∧ okI64 x.effect ∧ okI64 x.seconds
theorem Toleration_open {c : List PV} (h : Of Γ Toleration_ty c) : ∃ x : Toleration, c = x.cells ∧ Toleration_ok x := by
  have g0 := h.st1
  obtain ⟨a0, b0, rfl, h0, g1⟩ := g0.uncons
  obtain ⟨x0, rfl, k0⟩ := h0.str1
  obtain ⟨a1, b1, rfl, h1, g2⟩ := g1.uncons
  obtain ⟨x1, rfl, k1⟩ := h1.str1
  obtain ⟨a2, b2, rfl, h2, g3⟩ := g2.uncons
  obtain ⟨x2, rfl, k2⟩ := h2.bool2
  obtain ⟨a3, b3, rfl, h3, g4⟩ := g3.uncons
  obtain ⟨x3, rfl, k3⟩ := h3.i64
  obtain ⟨a4, b4, rfl, h4, g5⟩ := g4.uncons
  obtain ⟨x4, rfl, k4⟩ := h4.i64
  have e := g5.empty
  subst e
  exact ⟨⟨x0, x1, x2, x3, x4⟩, rfl, ⟨k0, k1, k2, k3, k4⟩⟩

def PodSpec_ty : Ty := .st [.str, .int .i64, .int .i64, .int .i64, .sl 152 Container_ty, .sl 48 Requirement_ty, .sl 40 NodeTerm_ty, .sl 56 PodTerm_ty, .sl 56 SpreadRule_ty, .sl 56 Toleration_ty]
def PodSpec_ok (x : PodSpec) : Prop := okS x.node ∧ okI64 x.priority ∧ okI64 x.restart ∧ okI64 x.grace ∧ (okL 152 Container_ok) x.containers ∧ (okL 48 Requirement_ok) x.nodeSelector ∧ (okL 40 NodeTerm_ok) x.nodeTerms ∧ (okL 56 PodTerm_ok) x.podTerms ∧ (okL 56 SpreadRule_ok) x.spread ∧ (okL 56 Toleration_ok) x.tolerations
theorem PodSpec_open {c : List PV} (h : Of Γ PodSpec_ty c) : ∃ x : PodSpec, c = x.cells ∧ PodSpec_ok x := by
  have g0 := h.st1
  obtain ⟨a0, b0, rfl, h0, g1⟩ := g0.uncons
  obtain ⟨x0, rfl, k0⟩ := h0.str1
  obtain ⟨a1, b1, rfl, h1, g2⟩ := g1.uncons
  obtain ⟨x1, rfl, k1⟩ := h1.i64
  obtain ⟨a2, b2, rfl, h2, g3⟩ := g2.uncons
  obtain ⟨x2, rfl, k2⟩ := h2.i64
  obtain ⟨a3, b3, rfl, h3, g4⟩ := g3.uncons
  obtain ⟨x3, rfl, k3⟩ := h3.i64
  obtain ⟨a4, b4, rfl, h4, g5⟩ := g4.uncons
  obtain ⟨x4, rfl, k4⟩ := (h4.sl1 (f := Container.cells) (ok := Container_ok) fun r hr => (Container_open hr))
  obtain ⟨a5, b5, rfl, h5, g6⟩ := g5.uncons
  obtain ⟨x5, rfl, k5⟩ := (h5.sl1 (f := Requirement.cells) (ok := Requirement_ok) fun r hr => (Requirement_open hr))
  obtain ⟨a6, b6, rfl, h6, g7⟩ := g6.uncons
  obtain ⟨x6, rfl, k6⟩ := (h6.sl1 (f := NodeTerm.cells) (ok := NodeTerm_ok) fun r hr => (NodeTerm_open hr))
  obtain ⟨a7, b7, rfl, h7, g8⟩ := g7.uncons
  obtain ⟨x7, rfl, k7⟩ := (h7.sl1 (f := PodTerm.cells) (ok := PodTerm_ok) fun r hr => (PodTerm_open hr))
  obtain ⟨a8, b8, rfl, h8, g9⟩ := g8.uncons
  obtain ⟨x8, rfl, k8⟩ := (h8.sl1 (f := SpreadRule.cells) (ok := SpreadRule_ok) fun r hr => (SpreadRule_open hr))
  obtain ⟨a9, b9, rfl, h9, g10⟩ := g9.uncons
  obtain ⟨x9, rfl, k9⟩ := (h9.sl1 (f := Toleration.cells) (ok := Toleration_ok) fun r hr => (Toleration_open hr))
  have e := g10.empty
  subst e
  exact ⟨⟨x0, x1, x2, x3, x4, x5, x6, x7, x8, x9⟩, rfl, ⟨k0, k1, k2, k3, k4, k5, k6, k7, k8, k9⟩⟩

def tysQosClass : List Ty := [PodSpec_ty]
theorem pureQosClass (hp : ∀ (p0 : PodSpec), PodSpec_ok p0 → H_law51_QosClass p0 ∧ s_law51_QosClass p0 = true) : ∀ qs, Args Γ tysQosClass qs → ∃ n, runs G n (.call 3 qs []) = some (.ret (.bool true) []) := by
  intro qs h
  cases qs with
  | nil => cases h
  | cons q0 qs =>
  obtain ⟨h0, h⟩ := h
  cases qs with
  | cons _ _ => cases h
  | nil =>
  obtain ⟨c0, rfl, g0⟩ := h0.agg rfl
  obtain ⟨p0, rfl, k0⟩ := (PodSpec_open g0)
  have e := hp p0 k0
  have t := t_law51_QosClass p0 e.1
  unfold a_law51_QosClass at t
  rw [e.2] at t
  exact t

end Go.Proofs.Ytnicmdfafihmpaa
