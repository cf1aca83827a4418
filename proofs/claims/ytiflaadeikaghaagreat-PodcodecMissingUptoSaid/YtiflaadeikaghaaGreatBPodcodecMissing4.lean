/- Texts of the claim, merged by a program; what the statement does not reach is left out. -/
import Derived.Test.YtiflaadeikaghaaGreatBPodcodecMissing3

section
/- Structures as values: what encodes and what decodes them, in plain words (printed by a program). -/
namespace Go.Proofs.YtiflaadeikaghaaGreat
open Go.Pv
structure Probe where
  delay : Int
  period : Int
  success : Int
  failure : Int
def Probe.cells (x : Probe) : List PV :=
  [.int .i64 x.delay, .int .i64 x.period, .int .i64 x.success, .int .i64 x.failure]
def Probe.rows (l : List Probe) : List (List PV) := l.map Probe.cells
theorem Probe.Q0 (l : List Probe) : (Probe.rows l).length = l.length := by simp [Probe.rows]
theorem Probe.Qb {l : List Probe} {i : Nat} {x : Probe} (h : l[i]? = some x) : (Probe.rows l)[i]? = some (Probe.cells x) := Go.Pv.Qb h
theorem Probe.Q15 (l : List Probe) (x : Probe) : Probe.rows (l ++ [x]) = Probe.rows l ++ [Probe.cells x] := by simp [Probe.rows]
theorem Probe.Q2k (l m : List Probe) : Probe.rows (l ++ m) = Probe.rows l ++ Probe.rows m := by simp [Probe.rows]
theorem Probe.Q2j (l : List Probe) (k : Nat) (x : Probe) : Probe.rows (l.set k x) = (Probe.rows l).set k (Probe.cells x) := by simp [Probe.rows, List.map_set]
theorem Probe.Q2t (l : List Probe) (n : Nat) : Probe.rows (l.take n) = (Probe.rows l).take n := by simp [Probe.rows, List.map_take]
theorem Probe.Q2u (l : List Probe) (n : Nat) : Probe.rows (l.drop n) = (Probe.rows l).drop n := by simp [Probe.rows, List.map_drop]
theorem Probe.Qd (l : List Probe) : ∀ r ∈ Probe.rows l, r.length = 4 := Q35 (f := Probe.cells) (fun _ => rfl) l
theorem Probe.Q7 (l : List Probe) (sz : Nat) (h : sz = 4) : ViewOK sz (Probe.rows l).flatten (Probe.rows l) := by subst h; exact ⟨rfl, Probe.Qd l, Q2o (f := Probe.cells) (fun _ => rfl) l⟩
structure Resources where
  cPU : Int
  memory : Int
  disk : Int
def Resources.cells (x : Resources) : List PV :=
  [.int .i64 x.cPU, .int .i64 x.memory, .int .i64 x.disk]
def Resources.rows (l : List Resources) : List (List PV) := l.map Resources.cells
theorem Resources.Q0 (l : List Resources) : (Resources.rows l).length = l.length := by simp [Resources.rows]
theorem Resources.Qb {l : List Resources} {i : Nat} {x : Resources} (h : l[i]? = some x) : (Resources.rows l)[i]? = some (Resources.cells x) := Go.Pv.Qb h
theorem Resources.Q15 (l : List Resources) (x : Resources) : Resources.rows (l ++ [x]) = Resources.rows l ++ [Resources.cells x] := by simp [Resources.rows]
theorem Resources.Q2k (l m : List Resources) : Resources.rows (l ++ m) = Resources.rows l ++ Resources.rows m := by simp [Resources.rows]
theorem Resources.Q2j (l : List Resources) (k : Nat) (x : Resources) : Resources.rows (l.set k x) = (Resources.rows l).set k (Resources.cells x) := by simp [Resources.rows, List.map_set]
theorem Resources.Q2t (l : List Resources) (n : Nat) : Resources.rows (l.take n) = (Resources.rows l).take n := by simp [Resources.rows, List.map_take]
theorem Resources.Q2u (l : List Resources) (n : Nat) : Resources.rows (l.drop n) = (Resources.rows l).drop n := by simp [Resources.rows, List.map_drop]
theorem Resources.Qd (l : List Resources) : ∀ r ∈ Resources.rows l, r.length = 3 := Q35 (f := Resources.cells) (fun _ => rfl) l
theorem Resources.Q7 (l : List Resources) (sz : Nat) (h : sz = 3) : ViewOK sz (Resources.rows l).flatten (Resources.rows l) := by subst h; exact ⟨rfl, Resources.Qd l, Q2o (f := Resources.cells) (fun _ => rfl) l⟩
structure Container where
  name : ByteArray
  image : ByteArray
  request : Resources
  limit : Resources
  live : List Probe
  ready : List Probe
  startup : List Probe
def Container.cells (x : Container) : List PV :=
  [.str x.name, .str x.image, .int .i64 x.request.cPU, .int .i64 x.request.memory, .int .i64 x.request.disk, .int .i64 x.limit.cPU, .int .i64 x.limit.memory, .int .i64 x.limit.disk, .sl (Probe.rows x.live), .sl (Probe.rows x.ready), .sl (Probe.rows x.startup)]
def Container.rows (l : List Container) : List (List PV) := l.map Container.cells
theorem Container.Q0 (l : List Container) : (Container.rows l).length = l.length := by simp [Container.rows]
theorem Container.Qb {l : List Container} {i : Nat} {x : Container} (h : l[i]? = some x) : (Container.rows l)[i]? = some (Container.cells x) := Go.Pv.Qb h
theorem Container.Q15 (l : List Container) (x : Container) : Container.rows (l ++ [x]) = Container.rows l ++ [Container.cells x] := by simp [Container.rows]
theorem Container.Q2k (l m : List Container) : Container.rows (l ++ m) = Container.rows l ++ Container.rows m := by simp [Container.rows]
theorem Container.Q2j (l : List Container) (k : Nat) (x : Container) : Container.rows (l.set k x) = (Container.rows l).set k (Container.cells x) := by simp [Container.rows, List.map_set]
theorem Container.Q2t (l : List Container) (n : Nat) : Container.rows (l.take n) = (Container.rows l).take n := by simp [Container.rows, List.map_take]
theorem Container.Q2u (l : List Container) (n : Nat) : Container.rows (l.drop n) = (Container.rows l).drop n := by simp [Container.rows, List.map_drop]
theorem Container.Qd (l : List Container) : ∀ r ∈ Container.rows l, r.length = 11 := Q35 (f := Container.cells) (fun _ => rfl) l
theorem Container.Q7 (l : List Container) (sz : Nat) (h : sz = 11) : ViewOK sz (Container.rows l).flatten (Container.rows l) := by subst h; exact ⟨rfl, Container.Qd l, Q2o (f := Container.cells) (fun _ => rfl) l⟩
structure Requirement where
  key : ByteArray
  op : Int
  values : List ByteArray
def Requirement.cells (x : Requirement) : List PV :=
  [.str x.key, .int .i64 x.op, .sl (Qe x.values)]
def Requirement.rows (l : List Requirement) : List (List PV) := l.map Requirement.cells
theorem Requirement.Q0 (l : List Requirement) : (Requirement.rows l).length = l.length := by simp [Requirement.rows]
theorem Requirement.Qb {l : List Requirement} {i : Nat} {x : Requirement} (h : l[i]? = some x) : (Requirement.rows l)[i]? = some (Requirement.cells x) := Go.Pv.Qb h
theorem Requirement.Q15 (l : List Requirement) (x : Requirement) : Requirement.rows (l ++ [x]) = Requirement.rows l ++ [Requirement.cells x] := by simp [Requirement.rows]
theorem Requirement.Q2k (l m : List Requirement) : Requirement.rows (l ++ m) = Requirement.rows l ++ Requirement.rows m := by simp [Requirement.rows]
theorem Requirement.Q2j (l : List Requirement) (k : Nat) (x : Requirement) : Requirement.rows (l.set k x) = (Requirement.rows l).set k (Requirement.cells x) := by simp [Requirement.rows, List.map_set]
theorem Requirement.Q2t (l : List Requirement) (n : Nat) : Requirement.rows (l.take n) = (Requirement.rows l).take n := by simp [Requirement.rows, List.map_take]
theorem Requirement.Q2u (l : List Requirement) (n : Nat) : Requirement.rows (l.drop n) = (Requirement.rows l).drop n := by simp [Requirement.rows, List.map_drop]
theorem Requirement.Qd (l : List Requirement) : ∀ r ∈ Requirement.rows l, r.length = 3 := Q35 (f := Requirement.cells) (fun _ => rfl) l
theorem Requirement.Q7 (l : List Requirement) (sz : Nat) (h : sz = 3) : ViewOK sz (Requirement.rows l).flatten (Requirement.rows l) := by subst h; exact ⟨rfl, Requirement.Qd l, Q2o (f := Requirement.cells) (fun _ => rfl) l⟩
structure NodeTerm where
  required : Bool
  selector : List Requirement
  weight : Int
def NodeTerm.cells (x : NodeTerm) : List PV :=
  [.bool x.required, .sl (Requirement.rows x.selector), .int .i64 x.weight]
def NodeTerm.rows (l : List NodeTerm) : List (List PV) := l.map NodeTerm.cells
theorem NodeTerm.Q0 (l : List NodeTerm) : (NodeTerm.rows l).length = l.length := by simp [NodeTerm.rows]
theorem NodeTerm.Qb {l : List NodeTerm} {i : Nat} {x : NodeTerm} (h : l[i]? = some x) : (NodeTerm.rows l)[i]? = some (NodeTerm.cells x) := Go.Pv.Qb h
theorem NodeTerm.Q15 (l : List NodeTerm) (x : NodeTerm) : NodeTerm.rows (l ++ [x]) = NodeTerm.rows l ++ [NodeTerm.cells x] := by simp [NodeTerm.rows]
theorem NodeTerm.Q2k (l m : List NodeTerm) : NodeTerm.rows (l ++ m) = NodeTerm.rows l ++ NodeTerm.rows m := by simp [NodeTerm.rows]
theorem NodeTerm.Q2j (l : List NodeTerm) (k : Nat) (x : NodeTerm) : NodeTerm.rows (l.set k x) = (NodeTerm.rows l).set k (NodeTerm.cells x) := by simp [NodeTerm.rows, List.map_set]
theorem NodeTerm.Q2t (l : List NodeTerm) (n : Nat) : NodeTerm.rows (l.take n) = (NodeTerm.rows l).take n := by simp [NodeTerm.rows, List.map_take]
theorem NodeTerm.Q2u (l : List NodeTerm) (n : Nat) : NodeTerm.rows (l.drop n) = (NodeTerm.rows l).drop n := by simp [NodeTerm.rows, List.map_drop]
theorem NodeTerm.Qd (l : List NodeTerm) : ∀ r ∈ NodeTerm.rows l, r.length = 3 := Q35 (f := NodeTerm.cells) (fun _ => rfl) l
theorem NodeTerm.Q7 (l : List NodeTerm) (sz : Nat) (h : sz = 3) : ViewOK sz (NodeTerm.rows l).flatten (NodeTerm.rows l) := by subst h; exact ⟨rfl, NodeTerm.Qd l, Q2o (f := NodeTerm.cells) (fun _ => rfl) l⟩
structure PodTerm where
  required : Bool
  anti : Bool
  selector : List Requirement
  topology : ByteArray
  weight : Int
def PodTerm.cells (x : PodTerm) : List PV :=
  [.bool x.required, .bool x.anti, .sl (Requirement.rows x.selector), .str x.topology, .int .i64 x.weight]
def PodTerm.rows (l : List PodTerm) : List (List PV) := l.map PodTerm.cells
theorem PodTerm.Q0 (l : List PodTerm) : (PodTerm.rows l).length = l.length := by simp [PodTerm.rows]
theorem PodTerm.Qb {l : List PodTerm} {i : Nat} {x : PodTerm} (h : l[i]? = some x) : (PodTerm.rows l)[i]? = some (PodTerm.cells x) := Go.Pv.Qb h
theorem PodTerm.Q15 (l : List PodTerm) (x : PodTerm) : PodTerm.rows (l ++ [x]) = PodTerm.rows l ++ [PodTerm.cells x] := by simp [PodTerm.rows]
theorem PodTerm.Q2k (l m : List PodTerm) : PodTerm.rows (l ++ m) = PodTerm.rows l ++ PodTerm.rows m := by simp [PodTerm.rows]
theorem PodTerm.Q2j (l : List PodTerm) (k : Nat) (x : PodTerm) : PodTerm.rows (l.set k x) = (PodTerm.rows l).set k (PodTerm.cells x) := by simp [PodTerm.rows, List.map_set]
theorem PodTerm.Q2t (l : List PodTerm) (n : Nat) : PodTerm.rows (l.take n) = (PodTerm.rows l).take n := by simp [PodTerm.rows, List.map_take]
theorem PodTerm.Q2u (l : List PodTerm) (n : Nat) : PodTerm.rows (l.drop n) = (PodTerm.rows l).drop n := by simp [PodTerm.rows, List.map_drop]
theorem PodTerm.Qd (l : List PodTerm) : ∀ r ∈ PodTerm.rows l, r.length = 5 := Q35 (f := PodTerm.cells) (fun _ => rfl) l
theorem PodTerm.Q7 (l : List PodTerm) (sz : Nat) (h : sz = 5) : ViewOK sz (PodTerm.rows l).flatten (PodTerm.rows l) := by subst h; exact ⟨rfl, PodTerm.Qd l, Q2o (f := PodTerm.cells) (fun _ => rfl) l⟩
structure SpreadRule where
  maxSkew : Int
  topology : ByteArray
  selector : List Requirement
  required : Bool
def SpreadRule.cells (x : SpreadRule) : List PV :=
  [.int .i64 x.maxSkew, .str x.topology, .sl (Requirement.rows x.selector), .bool x.required]
def SpreadRule.rows (l : List SpreadRule) : List (List PV) := l.map SpreadRule.cells
theorem SpreadRule.Q0 (l : List SpreadRule) : (SpreadRule.rows l).length = l.length := by simp [SpreadRule.rows]
theorem SpreadRule.Qb {l : List SpreadRule} {i : Nat} {x : SpreadRule} (h : l[i]? = some x) : (SpreadRule.rows l)[i]? = some (SpreadRule.cells x) := Go.Pv.Qb h
theorem SpreadRule.Q15 (l : List SpreadRule) (x : SpreadRule) : SpreadRule.rows (l ++ [x]) = SpreadRule.rows l ++ [SpreadRule.cells x] := by simp [SpreadRule.rows]
theorem SpreadRule.Q2k (l m : List SpreadRule) : SpreadRule.rows (l ++ m) = SpreadRule.rows l ++ SpreadRule.rows m := by simp [SpreadRule.rows]
theorem SpreadRule.Q2j (l : List SpreadRule) (k : Nat) (x : SpreadRule) : SpreadRule.rows (l.set k x) = (SpreadRule.rows l).set k (SpreadRule.cells x) := by simp [SpreadRule.rows, List.map_set]
theorem SpreadRule.Q2t (l : List SpreadRule) (n : Nat) : SpreadRule.rows (l.take n) = (SpreadRule.rows l).take n := by simp [SpreadRule.rows, List.map_take]
theorem SpreadRule.Q2u (l : List SpreadRule) (n : Nat) : SpreadRule.rows (l.drop n) = (SpreadRule.rows l).drop n := by simp [SpreadRule.rows, List.map_drop]
theorem SpreadRule.Qd (l : List SpreadRule) : ∀ r ∈ SpreadRule.rows l, r.length = 4 := Q35 (f := SpreadRule.cells) (fun _ => rfl) l
theorem SpreadRule.Q7 (l : List SpreadRule) (sz : Nat) (h : sz = 4) : ViewOK sz (SpreadRule.rows l).flatten (SpreadRule.rows l) := by subst h; exact ⟨rfl, SpreadRule.Qd l, Q2o (f := SpreadRule.cells) (fun _ => rfl) l⟩
structure Toleration where
  key : ByteArray
  value : ByteArray
  exists_ : Bool
  effect : Int
  seconds : Int
def Toleration.cells (x : Toleration) : List PV :=
  [.str x.key, .str x.value, .bool x.exists_, .int .i64 x.effect, .int .i64 x.seconds]
def Toleration.rows (l : List Toleration) : List (List PV) := l.map Toleration.cells
theorem Toleration.Q0 (l : List Toleration) : (Toleration.rows l).length = l.length := by simp [Toleration.rows]
theorem Toleration.Qb {l : List Toleration} {i : Nat} {x : Toleration} (h : l[i]? = some x) : (Toleration.rows l)[i]? = some (Toleration.cells x) := Go.Pv.Qb h
theorem Toleration.Q15 (l : List Toleration) (x : Toleration) : Toleration.rows (l ++ [x]) = Toleration.rows l ++ [Toleration.cells x] := by simp [Toleration.rows]
theorem Toleration.Q2k (l m : List Toleration) : Toleration.rows (l ++ m) = Toleration.rows l ++ Toleration.rows m := by simp [Toleration.rows]
theorem Toleration.Q2j (l : List Toleration) (k : Nat) (x : Toleration) : Toleration.rows (l.set k x) = (Toleration.rows l).set k (Toleration.cells x) := by simp [Toleration.rows, List.map_set]
theorem Toleration.Q2t (l : List Toleration) (n : Nat) : Toleration.rows (l.take n) = (Toleration.rows l).take n := by simp [Toleration.rows, List.map_take]
theorem Toleration.Q2u (l : List Toleration) (n : Nat) : Toleration.rows (l.drop n) = (Toleration.rows l).drop n := by simp [Toleration.rows, List.map_drop]
theorem Toleration.Qd (l : List Toleration) : ∀ r ∈ Toleration.rows l, r.length = 5 := Q35 (f := Toleration.cells) (fun _ => rfl) l
theorem Toleration.Q7 (l : List Toleration) (sz : Nat) (h : sz = 5) : ViewOK sz (Toleration.rows l).flatten (Toleration.rows l) := by subst h; exact ⟨rfl, Toleration.Qd l, Q2o (f := Toleration.cells) (fun _ => rfl) l⟩
structure PodSpec where
  node : ByteArray
  priority : Int
  restart : Int
  grace : Int
  containers : List Container
  nodeSelector : List Requirement
  nodeTerms : List NodeTerm
  podTerms : List PodTerm
  spread : List SpreadRule
  tolerations : List Toleration
def PodSpec.cells (x : PodSpec) : List PV :=
  [.str x.node, .int .i64 x.priority, .int .i64 x.restart, .int .i64 x.grace, .sl (Container.rows x.containers), .sl (Requirement.rows x.nodeSelector), .sl (NodeTerm.rows x.nodeTerms), .sl (PodTerm.rows x.podTerms), .sl (SpreadRule.rows x.spread), .sl (Toleration.rows x.tolerations)]
def PodSpec.rows (l : List PodSpec) : List (List PV) := l.map PodSpec.cells
theorem PodSpec.Q0 (l : List PodSpec) : (PodSpec.rows l).length = l.length := by simp [PodSpec.rows]
theorem PodSpec.Qb {l : List PodSpec} {i : Nat} {x : PodSpec} (h : l[i]? = some x) : (PodSpec.rows l)[i]? = some (PodSpec.cells x) := Go.Pv.Qb h
theorem PodSpec.Q15 (l : List PodSpec) (x : PodSpec) : PodSpec.rows (l ++ [x]) = PodSpec.rows l ++ [PodSpec.cells x] := by simp [PodSpec.rows]
theorem PodSpec.Q2k (l m : List PodSpec) : PodSpec.rows (l ++ m) = PodSpec.rows l ++ PodSpec.rows m := by simp [PodSpec.rows]
theorem PodSpec.Q2j (l : List PodSpec) (k : Nat) (x : PodSpec) : PodSpec.rows (l.set k x) = (PodSpec.rows l).set k (PodSpec.cells x) := by simp [PodSpec.rows, List.map_set]
theorem PodSpec.Q2t (l : List PodSpec) (n : Nat) : PodSpec.rows (l.take n) = (PodSpec.rows l).take n := by simp [PodSpec.rows, List.map_take]
theorem PodSpec.Q2u (l : List PodSpec) (n : Nat) : PodSpec.rows (l.drop n) = (PodSpec.rows l).drop n := by simp [PodSpec.rows, List.map_drop]
theorem PodSpec.Qd (l : List PodSpec) : ∀ r ∈ PodSpec.rows l, r.length = 10 := Q35 (f := PodSpec.cells) (fun _ => rfl) l
theorem PodSpec.Q7 (l : List PodSpec) (sz : Nat) (h : sz = 10) : ViewOK sz (PodSpec.rows l).flatten (PodSpec.rows l) := by subst h; exact ⟨rfl, PodSpec.Qd l, Q2o (f := PodSpec.cells) (fun _ => rfl) l⟩
structure ContainerStatus where
  name : ByteArray
  state : Int
  restarts : Int
  exitCode : Int
  since : Int
  ready : Bool
  started : Bool
def ContainerStatus.cells (x : ContainerStatus) : List PV :=
  [.str x.name, .int .i64 x.state, .int .i64 x.restarts, .int .i64 x.exitCode, .int .i64 x.since, .bool x.ready, .bool x.started]
def ContainerStatus.rows (l : List ContainerStatus) : List (List PV) := l.map ContainerStatus.cells
theorem ContainerStatus.Q0 (l : List ContainerStatus) : (ContainerStatus.rows l).length = l.length := by simp [ContainerStatus.rows]
theorem ContainerStatus.Qb {l : List ContainerStatus} {i : Nat} {x : ContainerStatus} (h : l[i]? = some x) : (ContainerStatus.rows l)[i]? = some (ContainerStatus.cells x) := Go.Pv.Qb h
theorem ContainerStatus.Q15 (l : List ContainerStatus) (x : ContainerStatus) : ContainerStatus.rows (l ++ [x]) = ContainerStatus.rows l ++ [ContainerStatus.cells x] := by simp [ContainerStatus.rows]
theorem ContainerStatus.Q2k (l m : List ContainerStatus) : ContainerStatus.rows (l ++ m) = ContainerStatus.rows l ++ ContainerStatus.rows m := by simp [ContainerStatus.rows]
theorem ContainerStatus.Q2j (l : List ContainerStatus) (k : Nat) (x : ContainerStatus) : ContainerStatus.rows (l.set k x) = (ContainerStatus.rows l).set k (ContainerStatus.cells x) := by simp [ContainerStatus.rows, List.map_set]
theorem ContainerStatus.Q2t (l : List ContainerStatus) (n : Nat) : ContainerStatus.rows (l.take n) = (ContainerStatus.rows l).take n := by simp [ContainerStatus.rows, List.map_take]
theorem ContainerStatus.Q2u (l : List ContainerStatus) (n : Nat) : ContainerStatus.rows (l.drop n) = (ContainerStatus.rows l).drop n := by simp [ContainerStatus.rows, List.map_drop]
theorem ContainerStatus.Qd (l : List ContainerStatus) : ∀ r ∈ ContainerStatus.rows l, r.length = 7 := Q35 (f := ContainerStatus.cells) (fun _ => rfl) l
theorem ContainerStatus.Q7 (l : List ContainerStatus) (sz : Nat) (h : sz = 7) : ViewOK sz (ContainerStatus.rows l).flatten (ContainerStatus.rows l) := by subst h; exact ⟨rfl, ContainerStatus.Qd l, Q2o (f := ContainerStatus.cells) (fun _ => rfl) l⟩
structure PodStatus where
  phase : Int
  ready : Bool
  readySince : Int
  started : Int
  finished : Int
  containers : List ContainerStatus
  address : Int
  nominated : ByteArray
  reason : ByteArray
def PodStatus.cells (x : PodStatus) : List PV :=
  [.int .i64 x.phase, .bool x.ready, .int .i64 x.readySince, .int .i64 x.started, .int .i64 x.finished, .sl (ContainerStatus.rows x.containers), .int .i64 x.address, .str x.nominated, .str x.reason]
def PodStatus.rows (l : List PodStatus) : List (List PV) := l.map PodStatus.cells
theorem PodStatus.Q0 (l : List PodStatus) : (PodStatus.rows l).length = l.length := by simp [PodStatus.rows]
theorem PodStatus.Qb {l : List PodStatus} {i : Nat} {x : PodStatus} (h : l[i]? = some x) : (PodStatus.rows l)[i]? = some (PodStatus.cells x) := Go.Pv.Qb h
theorem PodStatus.Q15 (l : List PodStatus) (x : PodStatus) : PodStatus.rows (l ++ [x]) = PodStatus.rows l ++ [PodStatus.cells x] := by simp [PodStatus.rows]
theorem PodStatus.Q2k (l m : List PodStatus) : PodStatus.rows (l ++ m) = PodStatus.rows l ++ PodStatus.rows m := by simp [PodStatus.rows]
theorem PodStatus.Q2j (l : List PodStatus) (k : Nat) (x : PodStatus) : PodStatus.rows (l.set k x) = (PodStatus.rows l).set k (PodStatus.cells x) := by simp [PodStatus.rows, List.map_set]
theorem PodStatus.Q2t (l : List PodStatus) (n : Nat) : PodStatus.rows (l.take n) = (PodStatus.rows l).take n := by simp [PodStatus.rows, List.map_take]
theorem PodStatus.Q2u (l : List PodStatus) (n : Nat) : PodStatus.rows (l.drop n) = (PodStatus.rows l).drop n := by simp [PodStatus.rows, List.map_drop]
theorem PodStatus.Qd (l : List PodStatus) : ∀ r ∈ PodStatus.rows l, r.length = 9 := Q35 (f := PodStatus.cells) (fun _ => rfl) l
theorem PodStatus.Q7 (l : List PodStatus) (sz : Nat) (h : sz = 9) : ViewOK sz (PodStatus.rows l).flatten (PodStatus.rows l) := by subst h; exact ⟨rfl, PodStatus.Qd l, Q2o (f := PodStatus.cells) (fun _ => rfl) l⟩
structure Taint where
  key : ByteArray
  value : ByteArray
  effect : Int
  since : Int
def Taint.cells (x : Taint) : List PV :=
  [.str x.key, .str x.value, .int .i64 x.effect, .int .i64 x.since]
def Taint.rows (l : List Taint) : List (List PV) := l.map Taint.cells
theorem Taint.Q0 (l : List Taint) : (Taint.rows l).length = l.length := by simp [Taint.rows]
theorem Taint.Qb {l : List Taint} {i : Nat} {x : Taint} (h : l[i]? = some x) : (Taint.rows l)[i]? = some (Taint.cells x) := Go.Pv.Qb h
theorem Taint.Q15 (l : List Taint) (x : Taint) : Taint.rows (l ++ [x]) = Taint.rows l ++ [Taint.cells x] := by simp [Taint.rows]
theorem Taint.Q2k (l m : List Taint) : Taint.rows (l ++ m) = Taint.rows l ++ Taint.rows m := by simp [Taint.rows]
theorem Taint.Q2j (l : List Taint) (k : Nat) (x : Taint) : Taint.rows (l.set k x) = (Taint.rows l).set k (Taint.cells x) := by simp [Taint.rows, List.map_set]
theorem Taint.Q2t (l : List Taint) (n : Nat) : Taint.rows (l.take n) = (Taint.rows l).take n := by simp [Taint.rows, List.map_take]
theorem Taint.Q2u (l : List Taint) (n : Nat) : Taint.rows (l.drop n) = (Taint.rows l).drop n := by simp [Taint.rows, List.map_drop]
theorem Taint.Qd (l : List Taint) : ∀ r ∈ Taint.rows l, r.length = 4 := Q35 (f := Taint.cells) (fun _ => rfl) l
theorem Taint.Q7 (l : List Taint) (sz : Nat) (h : sz = 4) : ViewOK sz (Taint.rows l).flatten (Taint.rows l) := by subst h; exact ⟨rfl, Taint.Qd l, Q2o (f := Taint.cells) (fun _ => rfl) l⟩
structure Image where
  name : ByteArray
  size : Int
  used : Int
def Image.cells (x : Image) : List PV :=
  [.str x.name, .int .i64 x.size, .int .i64 x.used]
def Image.rows (l : List Image) : List (List PV) := l.map Image.cells
theorem Image.Q0 (l : List Image) : (Image.rows l).length = l.length := by simp [Image.rows]
theorem Image.Qb {l : List Image} {i : Nat} {x : Image} (h : l[i]? = some x) : (Image.rows l)[i]? = some (Image.cells x) := Go.Pv.Qb h
theorem Image.Q15 (l : List Image) (x : Image) : Image.rows (l ++ [x]) = Image.rows l ++ [Image.cells x] := by simp [Image.rows]
theorem Image.Q2k (l m : List Image) : Image.rows (l ++ m) = Image.rows l ++ Image.rows m := by simp [Image.rows]
theorem Image.Q2j (l : List Image) (k : Nat) (x : Image) : Image.rows (l.set k x) = (Image.rows l).set k (Image.cells x) := by simp [Image.rows, List.map_set]
theorem Image.Q2t (l : List Image) (n : Nat) : Image.rows (l.take n) = (Image.rows l).take n := by simp [Image.rows, List.map_take]
theorem Image.Q2u (l : List Image) (n : Nat) : Image.rows (l.drop n) = (Image.rows l).drop n := by simp [Image.rows, List.map_drop]
theorem Image.Qd (l : List Image) : ∀ r ∈ Image.rows l, r.length = 3 := Q35 (f := Image.cells) (fun _ => rfl) l
theorem Image.Q7 (l : List Image) (sz : Nat) (h : sz = 3) : ViewOK sz (Image.rows l).flatten (Image.rows l) := by subst h; exact ⟨rfl, Image.Qd l, Q2o (f := Image.cells) (fun _ => rfl) l⟩
structure Label where
  key : ByteArray
  value : ByteArray
def Label.cells (x : Label) : List PV :=
  [.str x.key, .str x.value]
def Label.rows (l : List Label) : List (List PV) := l.map Label.cells
theorem Label.Q0 (l : List Label) : (Label.rows l).length = l.length := by simp [Label.rows]
theorem Label.Qb {l : List Label} {i : Nat} {x : Label} (h : l[i]? = some x) : (Label.rows l)[i]? = some (Label.cells x) := Go.Pv.Qb h
theorem Label.Q15 (l : List Label) (x : Label) : Label.rows (l ++ [x]) = Label.rows l ++ [Label.cells x] := by simp [Label.rows]
theorem Label.Q2k (l m : List Label) : Label.rows (l ++ m) = Label.rows l ++ Label.rows m := by simp [Label.rows]
theorem Label.Q2j (l : List Label) (k : Nat) (x : Label) : Label.rows (l.set k x) = (Label.rows l).set k (Label.cells x) := by simp [Label.rows, List.map_set]
theorem Label.Q2t (l : List Label) (n : Nat) : Label.rows (l.take n) = (Label.rows l).take n := by simp [Label.rows, List.map_take]
theorem Label.Q2u (l : List Label) (n : Nat) : Label.rows (l.drop n) = (Label.rows l).drop n := by simp [Label.rows, List.map_drop]
theorem Label.Qd (l : List Label) : ∀ r ∈ Label.rows l, r.length = 2 := Q35 (f := Label.cells) (fun _ => rfl) l
theorem Label.Q7 (l : List Label) (sz : Nat) (h : sz = 2) : ViewOK sz (Label.rows l).flatten (Label.rows l) := by subst h; exact ⟨rfl, Label.Qd l, Q2o (f := Label.cells) (fun _ => rfl) l⟩
structure Template where
  labels : List Label
  spec : PodSpec
def Template.cells (x : Template) : List PV :=
  [.sl (Label.rows x.labels), .str x.spec.node, .int .i64 x.spec.priority, .int .i64 x.spec.restart, .int .i64 x.spec.grace, .sl (Container.rows x.spec.containers), .sl (Requirement.rows x.spec.nodeSelector), .sl (NodeTerm.rows x.spec.nodeTerms), .sl (PodTerm.rows x.spec.podTerms), .sl (SpreadRule.rows x.spec.spread), .sl (Toleration.rows x.spec.tolerations)]
def Template.rows (l : List Template) : List (List PV) := l.map Template.cells
theorem Template.Q0 (l : List Template) : (Template.rows l).length = l.length := by simp [Template.rows]
theorem Template.Qb {l : List Template} {i : Nat} {x : Template} (h : l[i]? = some x) : (Template.rows l)[i]? = some (Template.cells x) := Go.Pv.Qb h
theorem Template.Q15 (l : List Template) (x : Template) : Template.rows (l ++ [x]) = Template.rows l ++ [Template.cells x] := by simp [Template.rows]
theorem Template.Q2k (l m : List Template) : Template.rows (l ++ m) = Template.rows l ++ Template.rows m := by simp [Template.rows]
theorem Template.Q2j (l : List Template) (k : Nat) (x : Template) : Template.rows (l.set k x) = (Template.rows l).set k (Template.cells x) := by simp [Template.rows, List.map_set]
theorem Template.Q2t (l : List Template) (n : Nat) : Template.rows (l.take n) = (Template.rows l).take n := by simp [Template.rows, List.map_take]
theorem Template.Q2u (l : List Template) (n : Nat) : Template.rows (l.drop n) = (Template.rows l).drop n := by simp [Template.rows, List.map_drop]
theorem Template.Qd (l : List Template) : ∀ r ∈ Template.rows l, r.length = 11 := Q35 (f := Template.cells) (fun _ => rfl) l
theorem Template.Q7 (l : List Template) (sz : Nat) (h : sz = 11) : ViewOK sz (Template.rows l).flatten (Template.rows l) := by subst h; exact ⟨rfl, Template.Qd l, Q2o (f := Template.cells) (fun _ => rfl) l⟩
def Q1ho : ByteArray := ⟨#[78, 111, 100, 101]⟩
def Q2n : ByteArray := ⟨#[80, 111, 100]⟩
def Q2b : ByteArray := ⟨#[97, 100, 100, 114, 101, 115, 115]⟩
def Q2h : ByteArray := ⟨#[97, 110, 116, 105]⟩
def Q1fu : ByteArray := ⟨#[98, 101, 97, 116]⟩
def Qzn : ByteArray := ⟨#[99, 97, 112, 97, 99, 105, 116, 121]⟩
def Qc : ByteArray := ⟨#[99, 111, 110, 116, 97, 105, 110, 101, 114, 115]⟩
def Qz2 : ByteArray := ⟨#[99, 111, 114, 100, 111, 110, 101, 100]⟩
def Q4e : ByteArray := ⟨#[99, 112, 117]⟩
def Q25 : ByteArray := ⟨#[100, 101, 108, 97, 121]⟩
def Q3v : ByteArray := ⟨#[100, 105, 115, 107]⟩
def Q1m : ByteArray := ⟨#[101, 102, 102, 101, 99, 116]⟩
def Q1v : ByteArray := ⟨#[101, 120, 105, 115, 116, 115]⟩
def Q11 : ByteArray := ⟨#[101, 120, 105, 116, 67, 111, 100, 101]⟩
def Q1r : ByteArray := ⟨#[102, 97, 105, 108, 117, 114, 101]⟩
def Q2l : ByteArray := ⟨#[102, 105, 110, 105, 115, 104, 101, 100]⟩
def Q1p : ByteArray := ⟨#[103, 114, 97, 99, 101]⟩
def Q1z : ByteArray := ⟨#[105, 109, 97, 103, 101]⟩
def Q193 : ByteArray := ⟨#[105, 109, 97, 103, 101, 115]⟩
def Q1d : ByteArray := ⟨#[107, 101, 121]⟩
def Q8t : ByteArray := ⟨#[108, 97, 98, 101, 108, 115]⟩
def Q2f : ByteArray := ⟨#[108, 105, 109, 105, 116]⟩
def Q2m : ByteArray := ⟨#[108, 105, 118, 101]⟩
def Q16w : ByteArray := ⟨#[108, 111, 119, 68, 105, 115, 107]⟩
def Q1a7 : ByteArray := ⟨#[108, 111, 119, 77, 101, 109]⟩
def Q17u : ByteArray := ⟨#[109, 97, 120, 80, 111, 100, 115]⟩
def Q1b : ByteArray := ⟨#[109, 97, 120, 83, 107, 101, 119]⟩
def Q2x : ByteArray := ⟨#[109, 101, 109, 111, 114, 121]⟩
def Qv : ByteArray := ⟨#[110, 97, 109, 101]⟩
def Q1y : ByteArray := ⟨#[110, 111, 100, 101]⟩
def Qg : ByteArray := ⟨#[110, 111, 100, 101, 83, 101, 108, 101, 99, 116, 111, 114]⟩
def Qp : ByteArray := ⟨#[110, 111, 100, 101, 84, 101, 114, 109, 115]⟩
def Q23 : ByteArray := ⟨#[110, 111, 109, 105, 110, 97, 116, 101, 100]⟩
def Q57 : ByteArray := ⟨#[111, 112]⟩
def Q1w : ByteArray := ⟨#[112, 101, 114, 105, 111, 100]⟩
def Q2s : ByteArray := ⟨#[112, 104, 97, 115, 101]⟩
def Qt : ByteArray := ⟨#[112, 111, 100, 84, 101, 114, 109, 115]⟩
def Qs : ByteArray := ⟨#[112, 114, 105, 111, 114, 105, 116, 121]⟩
def Qq : ByteArray := ⟨#[114, 101, 97, 100, 121]⟩
def Q1t : ByteArray := ⟨#[114, 101, 97, 100, 121, 83, 105, 110, 99, 101]⟩
def Q34 : ByteArray := ⟨#[114, 101, 97, 115, 111, 110]⟩
def Q16 : ByteArray := ⟨#[114, 101, 113, 117, 101, 115, 116]⟩
def Q9 : ByteArray := ⟨#[114, 101, 113, 117, 105, 114, 101, 100]⟩
def Qy : ByteArray := ⟨#[114, 101, 115, 116, 97, 114, 116]⟩
def Q10 : ByteArray := ⟨#[114, 101, 115, 116, 97, 114, 116, 115]⟩
def Q1s : ByteArray := ⟨#[115, 101, 99, 111, 110, 100, 115]⟩
def Qa : ByteArray := ⟨#[115, 101, 108, 101, 99, 116, 111, 114]⟩
def Q20 : ByteArray := ⟨#[115, 105, 110, 99, 101]⟩
def Qlo : ByteArray := ⟨#[115, 105, 122, 101]⟩
def Qle : ByteArray := ⟨#[115, 112, 101, 99]⟩
def Q14 : ByteArray := ⟨#[115, 112, 114, 101, 97, 100]⟩
def Qw : ByteArray := ⟨#[115, 116, 97, 114, 116, 101, 100]⟩
def Q1q : ByteArray := ⟨#[115, 116, 97, 114, 116, 117, 112]⟩
def Q1x : ByteArray := ⟨#[115, 116, 97, 116, 101]⟩
def Q1l : ByteArray := ⟨#[115, 117, 99, 99, 101, 115, 115]⟩
def Q1aa : ByteArray := ⟨#[116, 97, 105, 110, 116, 115]⟩
def Qn : ByteArray := ⟨#[116, 111, 108, 101, 114, 97, 116, 105, 111, 110, 115]⟩
def Qj : ByteArray := ⟨#[116, 111, 112, 111, 108, 111, 103, 121]⟩
def Qkg : ByteArray := ⟨#[117, 115, 101, 100]⟩
def Q1i : ByteArray := ⟨#[118, 97, 108, 117, 101]⟩
def Q22 : ByteArray := ⟨#[118, 97, 108, 117, 101, 115]⟩
def Qu : ByteArray := ⟨#[119, 101, 105, 103, 104, 116]⟩
def Probe.enc (x : Probe) : Val := vM [.mk Q25 (vN x.delay), .mk Q1r (vN x.failure), .mk Q1w (vN x.period), .mk Q1l (vN x.success)]
def Probe.dec (v : Val) : Probe × Bool := (Probe.mk (dN v Q25).1 (dN v Q1w).1 (dN v Q1l).1 (dN v Q1r).1, isM v && (dN v Q25).2 && (dN v Q1r).2 && (dN v Q1w).2 && (dN v Q1l).2)
def Probe.sm (_ : Probe) : Prop := True
theorem Probe.Q28 {x : Probe} (_ : Probe.sm x) : Val.Sm sB (Probe.enc x) := Q8m (Nat.le_of_ble_eq_true rfl) (List.forall_mem_cons.2 ⟨Val.Sm.leaf 2 _ _, List.forall_mem_cons.2 ⟨Val.Sm.leaf 2 _ _, List.forall_mem_cons.2 ⟨Val.Sm.leaf 2 _ _, List.forall_mem_cons.2 ⟨Val.Sm.leaf 2 _ _, fun _ h => by cases h⟩⟩⟩⟩)
theorem Probe.Q1h1 (x : Probe) : prt (Probe.enc x) Q25 = vN x.delay := by kernel_rfl
theorem Probe.Q1d7 (x : Probe) : prt (Probe.enc x) Q1w = vN x.period := by kernel_rfl
theorem Probe.Q19i (x : Probe) : prt (Probe.enc x) Q1l = vN x.success := by kernel_rfl
theorem Probe.Q18t (x : Probe) : prt (Probe.enc x) Q1r = vN x.failure := by kernel_rfl
theorem Probe.Q1h (x : Probe) : Probe.dec (Probe.enc x) = (x, true) := by
  have h0 : dN (Probe.enc x) Q25 = (x.delay, true) := by unfold dN; rw [Probe.Q1h1]; rfl
  have h1 : dN (Probe.enc x) Q1w = (x.period, true) := by unfold dN; rw [Probe.Q1d7]; rfl
  have h2 : dN (Probe.enc x) Q1l = (x.success, true) := by unfold dN; rw [Probe.Q19i]; rfl
  have h3 : dN (Probe.enc x) Q1r = (x.failure, true) := by unfold dN; rw [Probe.Q18t]; rfl
  unfold Probe.dec
  rw [h0, h1, h2, h3]
  rfl
theorem Probe.Q36 {v : Val} (_ : Val.Sm sB v) : Probe.sm (Probe.dec v).1 := trivial
theorem Probe.Q24 {v : Val} (h : (v.kind == 5) = false) : Probe.dec v = ((Probe.dec vZ).1, v.kind == 0) := by
  unfold Probe.dec
  simp only [dN, Q4d h, Q3x h]
  generalize (v.kind == 0) = b
  cases b <;> rfl
theorem Probe.sub1 (x : Val) : (Probe.dec (s5 x)).1 = (Probe.dec x).1 := (Q3e (f := Probe.dec) (fun _ h => Probe.Q24 h) rfl x).1
theorem Probe.sub2 (v : Val) (k : BA) : (Probe.dec (prt v k)).2 = (isM (prt v k) && (Probe.dec (s5 (prt v k))).2) := (Q3e (f := Probe.dec) (fun _ h => Probe.Q24 h) rfl _).2
def Resources.enc (x : Resources) : Val := vM [.mk Q4e (vN x.cPU), .mk Q3v (vN x.disk), .mk Q2x (vN x.memory)]
def Resources.dec (v : Val) : Resources × Bool := (Resources.mk (dN v Q4e).1 (dN v Q2x).1 (dN v Q3v).1, isM v && (dN v Q4e).2 && (dN v Q3v).2 && (dN v Q2x).2)
def Resources.sm (_ : Resources) : Prop := True
theorem Resources.Q28 {x : Resources} (_ : Resources.sm x) : Val.Sm sB (Resources.enc x) := Q8m (Nat.le_of_ble_eq_true rfl) (List.forall_mem_cons.2 ⟨Val.Sm.leaf 2 _ _, List.forall_mem_cons.2 ⟨Val.Sm.leaf 2 _ _, List.forall_mem_cons.2 ⟨Val.Sm.leaf 2 _ _, fun _ h => by cases h⟩⟩⟩)
theorem Resources.Q1r4 (x : Resources) : prt (Resources.enc x) Q4e = vN x.cPU := by kernel_rfl
theorem Resources.Q1cw (x : Resources) : prt (Resources.enc x) Q2x = vN x.memory := by kernel_rfl
theorem Resources.Q1ka (x : Resources) : prt (Resources.enc x) Q3v = vN x.disk := by kernel_rfl
theorem Resources.Q1h (x : Resources) : Resources.dec (Resources.enc x) = (x, true) := by
  have h0 : dN (Resources.enc x) Q4e = (x.cPU, true) := by unfold dN; rw [Resources.Q1r4]; rfl
  have h1 : dN (Resources.enc x) Q2x = (x.memory, true) := by unfold dN; rw [Resources.Q1cw]; rfl
  have h2 : dN (Resources.enc x) Q3v = (x.disk, true) := by unfold dN; rw [Resources.Q1ka]; rfl
  unfold Resources.dec
  rw [h0, h1, h2]
  rfl
theorem Resources.Q36 {v : Val} (_ : Val.Sm sB v) : Resources.sm (Resources.dec v).1 := trivial
theorem Resources.Q24 {v : Val} (h : (v.kind == 5) = false) : Resources.dec v = ((Resources.dec vZ).1, v.kind == 0) := by
  unfold Resources.dec
  simp only [dN, Q4d h, Q3x h]
  generalize (v.kind == 0) = b
  cases b <;> rfl
theorem Resources.sub1 (x : Val) : (Resources.dec (s5 x)).1 = (Resources.dec x).1 := (Q3e (f := Resources.dec) (fun _ h => Resources.Q24 h) rfl x).1
theorem Resources.sub2 (v : Val) (k : BA) : (Resources.dec (prt v k)).2 = (isM (prt v k) && (Resources.dec (s5 (prt v k))).2) := (Q3e (f := Resources.dec) (fun _ h => Resources.Q24 h) rfl _).2
def Container.enc (x : Container) : Val := vM [.mk Q1z (vS x.image), .mk Q2f (Resources.enc x.limit), .mk Q2m (vL (x.live.map Probe.enc)), .mk Qv (vS x.name), .mk Qq (vL (x.ready.map Probe.enc)), .mk Q16 (Resources.enc x.request), .mk Q1q (vL (x.startup.map Probe.enc))]
def Container.dec (v : Val) : Container × Bool := (Container.mk (dS v Qv).1 (dS v Q1z).1 (dT Resources.dec v Q16).1 (dT Resources.dec v Q2f).1 (dE Probe.dec v Q2m).1 (dE Probe.dec v Qq).1 (dE Probe.dec v Q1q).1, isM v && (dS v Q1z).2 && (dT Resources.dec v Q2f).2 && (dE Probe.dec v Q2m).2 && (dS v Qv).2 && (dE Probe.dec v Qq).2 && (dT Resources.dec v Q16).2 && (dE Probe.dec v Q1q).2)
def Container.sm (x : Container) : Prop := Resources.sm x.request ∧ Resources.sm x.limit ∧ LSm Probe.sm x.live ∧ LSm Probe.sm x.ready ∧ LSm Probe.sm x.startup ∧ True
theorem Container.Q28 {x : Container} (h : Container.sm x) : Val.Sm sB (Container.enc x) := Q8m (Nat.le_of_ble_eq_true rfl) (List.forall_mem_cons.2 ⟨Val.Sm.leaf 3 _ _, List.forall_mem_cons.2 ⟨Resources.Q28 h.2.1, List.forall_mem_cons.2 ⟨Q32 (fun _ h => Probe.Q28 h) h.2.2.1, List.forall_mem_cons.2 ⟨Val.Sm.leaf 3 _ _, List.forall_mem_cons.2 ⟨Q32 (fun _ h => Probe.Q28 h) h.2.2.2.1, List.forall_mem_cons.2 ⟨Resources.Q28 h.1, List.forall_mem_cons.2 ⟨Q32 (fun _ h => Probe.Q28 h) h.2.2.2.2.1, fun _ h => by cases h⟩⟩⟩⟩⟩⟩⟩)
theorem Container.Qvf (x : Container) : prt (Container.enc x) Qv = vS x.name := by kernel_rfl
theorem Container.Q1hh (x : Container) : prt (Container.enc x) Q1z = vS x.image := by kernel_rfl
theorem Container.Q199 (x : Container) : prt (Container.enc x) Q16 = Resources.enc x.request := by kernel_rfl
theorem Container.Q1hi (x : Container) : prt (Container.enc x) Q2f = Resources.enc x.limit := by kernel_rfl
theorem Container.Q1le (x : Container) : prt (Container.enc x) Q2m = vL (x.live.map Probe.enc) := by kernel_rfl
theorem Container.Qmc (x : Container) : prt (Container.enc x) Qq = vL (x.ready.map Probe.enc) := by kernel_rfl
theorem Container.Q19b (x : Container) : prt (Container.enc x) Q1q = vL (x.startup.map Probe.enc) := by kernel_rfl
theorem Container.Q1h (x : Container) : Container.dec (Container.enc x) = (x, true) := by
  have h0 : dS (Container.enc x) Qv = (x.name, true) := by unfold dS; rw [Container.Qvf]; rfl
  have h1 : dS (Container.enc x) Q1z = (x.image, true) := by unfold dS; rw [Container.Q1hh]; rfl
  have h2 : dT Resources.dec (Container.enc x) Q16 = (x.request, true) := by unfold dT; rw [Container.Q199]; exact Resources.Q1h _
  have h3 : dT Resources.dec (Container.enc x) Q2f = (x.limit, true) := by unfold dT; rw [Container.Q1hi]; exact Resources.Q1h _
  have h4 : dE Probe.dec (Container.enc x) Q2m = (x.live, true) := by unfold dE; rw [Container.Q1le]; exact Q4f Probe.Q1h _
  have h5 : dE Probe.dec (Container.enc x) Qq = (x.ready, true) := by unfold dE; rw [Container.Qmc]; exact Q4f Probe.Q1h _
  have h6 : dE Probe.dec (Container.enc x) Q1q = (x.startup, true) := by unfold dE; rw [Container.Q19b]; exact Q4f Probe.Q1h _
  unfold Container.dec
  rw [h0, h1, h2, h3, h4, h5, h6]
  rfl
theorem Container.Q36 {v : Val} (h : Val.Sm sB v) : Container.sm (Container.dec v).1 := ⟨Resources.Q36 (Q2y h _), Resources.Q36 (Q2y h _), Qat (fun _ h => Probe.Q36 h) (Q2y h _), Qat (fun _ h => Probe.Q36 h) (Q2y h _), Qat (fun _ h => Probe.Q36 h) (Q2y h _), trivial⟩
theorem Container.Q24 {v : Val} (h : (v.kind == 5) = false) : Container.dec v = ((Container.dec vZ).1, v.kind == 0) := by
  unfold Container.dec
  simp only [dS, dE, dT, Q4d h, Q3x h]
  generalize (v.kind == 0) = b
  cases b <;> rfl
theorem Container.sub1 (x : Val) : (Container.dec (s5 x)).1 = (Container.dec x).1 := (Q3e (f := Container.dec) (fun _ h => Container.Q24 h) rfl x).1
theorem Container.sub2 (v : Val) (k : BA) : (Container.dec (prt v k)).2 = (isM (prt v k) && (Container.dec (s5 (prt v k))).2) := (Q3e (f := Container.dec) (fun _ h => Container.Q24 h) rfl _).2
def Requirement.enc (x : Requirement) : Val := vM [.mk Q1d (vS x.key), .mk Q57 (vN x.op), .mk Q22 (vL (x.values.map vS))]
def Requirement.dec (v : Val) : Requirement × Bool := (Requirement.mk (dS v Q1d).1 (dN v Q57).1 (dE xS v Q22).1, isM v && (dS v Q1d).2 && (dN v Q57).2 && (dE xS v Q22).2)
def Requirement.sm (x : Requirement) : Prop := LSm (fun _ : ByteArray => True) x.values ∧ True
theorem Requirement.Q28 {x : Requirement} (h : Requirement.sm x) : Val.Sm sB (Requirement.enc x) := Q8m (Nat.le_of_ble_eq_true rfl) (List.forall_mem_cons.2 ⟨Val.Sm.leaf 3 _ _, List.forall_mem_cons.2 ⟨Val.Sm.leaf 2 _ _, List.forall_mem_cons.2 ⟨Q32 (fun _ h => Val.Sm.leaf _ _ _) h.1, fun _ h => by cases h⟩⟩⟩)
theorem Requirement.Qz5 (x : Requirement) : prt (Requirement.enc x) Q1d = vS x.key := by kernel_rfl
theorem Requirement.p_op (x : Requirement) : prt (Requirement.enc x) Q57 = vN x.op := by kernel_rfl
theorem Requirement.Q1di (x : Requirement) : prt (Requirement.enc x) Q22 = vL (x.values.map vS) := by kernel_rfl
theorem Requirement.Q1h (x : Requirement) : Requirement.dec (Requirement.enc x) = (x, true) := by
  have h0 : dS (Requirement.enc x) Q1d = (x.key, true) := by unfold dS; rw [Requirement.Qz5]; rfl
  have h1 : dN (Requirement.enc x) Q57 = (x.op, true) := by unfold dN; rw [Requirement.p_op]; rfl
  have h2 : dE xS (Requirement.enc x) Q22 = (x.values, true) := by unfold dE; rw [Requirement.Q1di]; exact Q4f (fun _ => rfl) _
  unfold Requirement.dec
  rw [h0, h1, h2]
  rfl
theorem Requirement.Q36 {v : Val} (h : Val.Sm sB v) : Requirement.sm (Requirement.dec v).1 := ⟨Qat (fun _ _h => trivial) (Q2y h _), trivial⟩
theorem Requirement.Q24 {v : Val} (h : (v.kind == 5) = false) : Requirement.dec v = ((Requirement.dec vZ).1, v.kind == 0) := by
  unfold Requirement.dec
  simp only [dN, dS, dE, Q4d h, Q3x h]
  generalize (v.kind == 0) = b
  cases b <;> rfl
theorem Requirement.sub1 (x : Val) : (Requirement.dec (s5 x)).1 = (Requirement.dec x).1 := (Q3e (f := Requirement.dec) (fun _ h => Requirement.Q24 h) rfl x).1
theorem Requirement.sub2 (v : Val) (k : BA) : (Requirement.dec (prt v k)).2 = (isM (prt v k) && (Requirement.dec (s5 (prt v k))).2) := (Q3e (f := Requirement.dec) (fun _ h => Requirement.Q24 h) rfl _).2
def NodeTerm.enc (x : NodeTerm) : Val := vM [.mk Q9 (vB x.required), .mk Qa (vL (x.selector.map Requirement.enc)), .mk Qu (vN x.weight)]
def NodeTerm.dec (v : Val) : NodeTerm × Bool := (NodeTerm.mk (dB v Q9).1 (dE Requirement.dec v Qa).1 (dN v Qu).1, isM v && (dB v Q9).2 && (dE Requirement.dec v Qa).2 && (dN v Qu).2)
def NodeTerm.sm (x : NodeTerm) : Prop := LSm Requirement.sm x.selector ∧ True
theorem NodeTerm.Q28 {x : NodeTerm} (h : NodeTerm.sm x) : Val.Sm sB (NodeTerm.enc x) := Q8m (Nat.le_of_ble_eq_true rfl) (List.forall_mem_cons.2 ⟨Val.Sm.leaf 1 _ _, List.forall_mem_cons.2 ⟨Q32 (fun _ h => Requirement.Q28 h) h.1, List.forall_mem_cons.2 ⟨Val.Sm.leaf 2 _ _, fun _ h => by cases h⟩⟩⟩)
theorem NodeTerm.Q7u (x : NodeTerm) : prt (NodeTerm.enc x) Q9 = vB x.required := by kernel_rfl
theorem NodeTerm.Q7k (x : NodeTerm) : prt (NodeTerm.enc x) Qa = vL (x.selector.map Requirement.enc) := by kernel_rfl
theorem NodeTerm.Qu1 (x : NodeTerm) : prt (NodeTerm.enc x) Qu = vN x.weight := by kernel_rfl
theorem NodeTerm.Q1h (x : NodeTerm) : NodeTerm.dec (NodeTerm.enc x) = (x, true) := by
  have h0 : dB (NodeTerm.enc x) Q9 = (x.required, true) := by unfold dB; rw [NodeTerm.Q7u]; exact xB_b _
  have h1 : dE Requirement.dec (NodeTerm.enc x) Qa = (x.selector, true) := by unfold dE; rw [NodeTerm.Q7k]; exact Q4f Requirement.Q1h _
  have h2 : dN (NodeTerm.enc x) Qu = (x.weight, true) := by unfold dN; rw [NodeTerm.Qu1]; rfl
  unfold NodeTerm.dec
  rw [h0, h1, h2]
  rfl
theorem NodeTerm.Q36 {v : Val} (h : Val.Sm sB v) : NodeTerm.sm (NodeTerm.dec v).1 := ⟨Qat (fun _ h => Requirement.Q36 h) (Q2y h _), trivial⟩
theorem NodeTerm.Q24 {v : Val} (h : (v.kind == 5) = false) : NodeTerm.dec v = ((NodeTerm.dec vZ).1, v.kind == 0) := by
  unfold NodeTerm.dec
  simp only [dN, dB, dE, Q4d h, Q3x h]
  generalize (v.kind == 0) = b
  cases b <;> rfl
theorem NodeTerm.sub1 (x : Val) : (NodeTerm.dec (s5 x)).1 = (NodeTerm.dec x).1 := (Q3e (f := NodeTerm.dec) (fun _ h => NodeTerm.Q24 h) rfl x).1
theorem NodeTerm.sub2 (v : Val) (k : BA) : (NodeTerm.dec (prt v k)).2 = (isM (prt v k) && (NodeTerm.dec (s5 (prt v k))).2) := (Q3e (f := NodeTerm.dec) (fun _ h => NodeTerm.Q24 h) rfl _).2
def PodTerm.enc (x : PodTerm) : Val := vM [.mk Q2h (vB x.anti), .mk Q9 (vB x.required), .mk Qa (vL (x.selector.map Requirement.enc)), .mk Qj (vS x.topology), .mk Qu (vN x.weight)]
def PodTerm.dec (v : Val) : PodTerm × Bool := (PodTerm.mk (dB v Q9).1 (dB v Q2h).1 (dE Requirement.dec v Qa).1 (dS v Qj).1 (dN v Qu).1, isM v && (dB v Q2h).2 && (dB v Q9).2 && (dE Requirement.dec v Qa).2 && (dS v Qj).2 && (dN v Qu).2)
def PodTerm.sm (x : PodTerm) : Prop := LSm Requirement.sm x.selector ∧ True
theorem PodTerm.Q28 {x : PodTerm} (h : PodTerm.sm x) : Val.Sm sB (PodTerm.enc x) := Q8m (Nat.le_of_ble_eq_true rfl) (List.forall_mem_cons.2 ⟨Val.Sm.leaf 1 _ _, List.forall_mem_cons.2 ⟨Val.Sm.leaf 1 _ _, List.forall_mem_cons.2 ⟨Q32 (fun _ h => Requirement.Q28 h) h.1, List.forall_mem_cons.2 ⟨Val.Sm.leaf 3 _ _, List.forall_mem_cons.2 ⟨Val.Sm.leaf 2 _ _, fun _ h => by cases h⟩⟩⟩⟩⟩)
theorem PodTerm.Q7u (x : PodTerm) : prt (PodTerm.enc x) Q9 = vB x.required := by kernel_rfl
theorem PodTerm.Q1ia (x : PodTerm) : prt (PodTerm.enc x) Q2h = vB x.anti := by kernel_rfl
theorem PodTerm.Q7k (x : PodTerm) : prt (PodTerm.enc x) Qa = vL (x.selector.map Requirement.enc) := by kernel_rfl
theorem PodTerm.Qds (x : PodTerm) : prt (PodTerm.enc x) Qj = vS x.topology := by kernel_rfl
theorem PodTerm.Qu1 (x : PodTerm) : prt (PodTerm.enc x) Qu = vN x.weight := by kernel_rfl
theorem PodTerm.Q1h (x : PodTerm) : PodTerm.dec (PodTerm.enc x) = (x, true) := by
  have h0 : dB (PodTerm.enc x) Q9 = (x.required, true) := by unfold dB; rw [PodTerm.Q7u]; exact xB_b _
  have h1 : dB (PodTerm.enc x) Q2h = (x.anti, true) := by unfold dB; rw [PodTerm.Q1ia]; exact xB_b _
  have h2 : dE Requirement.dec (PodTerm.enc x) Qa = (x.selector, true) := by unfold dE; rw [PodTerm.Q7k]; exact Q4f Requirement.Q1h _
  have h3 : dS (PodTerm.enc x) Qj = (x.topology, true) := by unfold dS; rw [PodTerm.Qds]; rfl
  have h4 : dN (PodTerm.enc x) Qu = (x.weight, true) := by unfold dN; rw [PodTerm.Qu1]; rfl
  unfold PodTerm.dec
  rw [h0, h1, h2, h3, h4]
  rfl
theorem PodTerm.Q36 {v : Val} (h : Val.Sm sB v) : PodTerm.sm (PodTerm.dec v).1 := ⟨Qat (fun _ h => Requirement.Q36 h) (Q2y h _), trivial⟩
theorem PodTerm.Q24 {v : Val} (h : (v.kind == 5) = false) : PodTerm.dec v = ((PodTerm.dec vZ).1, v.kind == 0) := by
  unfold PodTerm.dec
  simp only [dN, dS, dB, dE, Q4d h, Q3x h]
  generalize (v.kind == 0) = b
  cases b <;> rfl
theorem PodTerm.sub1 (x : Val) : (PodTerm.dec (s5 x)).1 = (PodTerm.dec x).1 := (Q3e (f := PodTerm.dec) (fun _ h => PodTerm.Q24 h) rfl x).1
theorem PodTerm.sub2 (v : Val) (k : BA) : (PodTerm.dec (prt v k)).2 = (isM (prt v k) && (PodTerm.dec (s5 (prt v k))).2) := (Q3e (f := PodTerm.dec) (fun _ h => PodTerm.Q24 h) rfl _).2
def SpreadRule.enc (x : SpreadRule) : Val := vM [.mk Q1b (vN x.maxSkew), .mk Q9 (vB x.required), .mk Qa (vL (x.selector.map Requirement.enc)), .mk Qj (vS x.topology)]
def SpreadRule.dec (v : Val) : SpreadRule × Bool := (SpreadRule.mk (dN v Q1b).1 (dS v Qj).1 (dE Requirement.dec v Qa).1 (dB v Q9).1, isM v && (dN v Q1b).2 && (dB v Q9).2 && (dE Requirement.dec v Qa).2 && (dS v Qj).2)
def SpreadRule.sm (x : SpreadRule) : Prop := LSm Requirement.sm x.selector ∧ True
theorem SpreadRule.Q28 {x : SpreadRule} (h : SpreadRule.sm x) : Val.Sm sB (SpreadRule.enc x) := Q8m (Nat.le_of_ble_eq_true rfl) (List.forall_mem_cons.2 ⟨Val.Sm.leaf 2 _ _, List.forall_mem_cons.2 ⟨Val.Sm.leaf 1 _ _, List.forall_mem_cons.2 ⟨Q32 (fun _ h => Requirement.Q28 h) h.1, List.forall_mem_cons.2 ⟨Val.Sm.leaf 3 _ _, fun _ h => by cases h⟩⟩⟩⟩)
theorem SpreadRule.Q19x (x : SpreadRule) : prt (SpreadRule.enc x) Q1b = vN x.maxSkew := by kernel_rfl
theorem SpreadRule.Qds (x : SpreadRule) : prt (SpreadRule.enc x) Qj = vS x.topology := by kernel_rfl
theorem SpreadRule.Q7k (x : SpreadRule) : prt (SpreadRule.enc x) Qa = vL (x.selector.map Requirement.enc) := by kernel_rfl
theorem SpreadRule.Q7u (x : SpreadRule) : prt (SpreadRule.enc x) Q9 = vB x.required := by kernel_rfl
theorem SpreadRule.Q1h (x : SpreadRule) : SpreadRule.dec (SpreadRule.enc x) = (x, true) := by
  have h0 : dN (SpreadRule.enc x) Q1b = (x.maxSkew, true) := by unfold dN; rw [SpreadRule.Q19x]; rfl
  have h1 : dS (SpreadRule.enc x) Qj = (x.topology, true) := by unfold dS; rw [SpreadRule.Qds]; rfl
  have h2 : dE Requirement.dec (SpreadRule.enc x) Qa = (x.selector, true) := by unfold dE; rw [SpreadRule.Q7k]; exact Q4f Requirement.Q1h _
  have h3 : dB (SpreadRule.enc x) Q9 = (x.required, true) := by unfold dB; rw [SpreadRule.Q7u]; exact xB_b _
  unfold SpreadRule.dec
  rw [h0, h1, h2, h3]
  rfl
theorem SpreadRule.Q36 {v : Val} (h : Val.Sm sB v) : SpreadRule.sm (SpreadRule.dec v).1 := ⟨Qat (fun _ h => Requirement.Q36 h) (Q2y h _), trivial⟩
theorem SpreadRule.Q24 {v : Val} (h : (v.kind == 5) = false) : SpreadRule.dec v = ((SpreadRule.dec vZ).1, v.kind == 0) := by
  unfold SpreadRule.dec
  simp only [dN, dS, dB, dE, Q4d h, Q3x h]
  generalize (v.kind == 0) = b
  cases b <;> rfl
theorem SpreadRule.sub1 (x : Val) : (SpreadRule.dec (s5 x)).1 = (SpreadRule.dec x).1 := (Q3e (f := SpreadRule.dec) (fun _ h => SpreadRule.Q24 h) rfl x).1
theorem SpreadRule.sub2 (v : Val) (k : BA) : (SpreadRule.dec (prt v k)).2 = (isM (prt v k) && (SpreadRule.dec (s5 (prt v k))).2) := (Q3e (f := SpreadRule.dec) (fun _ h => SpreadRule.Q24 h) rfl _).2
def Toleration.enc (x : Toleration) : Val := vM [.mk Q1m (vN x.effect), .mk Q1v (vB x.exists_), .mk Q1d (vS x.key), .mk Q1s (vN x.seconds), .mk Q1i (vS x.value)]
def Toleration.dec (v : Val) : Toleration × Bool := (Toleration.mk (dS v Q1d).1 (dS v Q1i).1 (dB v Q1v).1 (dN v Q1m).1 (dN v Q1s).1, isM v && (dN v Q1m).2 && (dB v Q1v).2 && (dS v Q1d).2 && (dN v Q1s).2 && (dS v Q1i).2)
def Toleration.sm (_ : Toleration) : Prop := True
theorem Toleration.Q28 {x : Toleration} (_ : Toleration.sm x) : Val.Sm sB (Toleration.enc x) := Q8m (Nat.le_of_ble_eq_true rfl) (List.forall_mem_cons.2 ⟨Val.Sm.leaf 2 _ _, List.forall_mem_cons.2 ⟨Val.Sm.leaf 1 _ _, List.forall_mem_cons.2 ⟨Val.Sm.leaf 3 _ _, List.forall_mem_cons.2 ⟨Val.Sm.leaf 2 _ _, List.forall_mem_cons.2 ⟨Val.Sm.leaf 3 _ _, fun _ h => by cases h⟩⟩⟩⟩⟩)
theorem Toleration.Qz5 (x : Toleration) : prt (Toleration.enc x) Q1d = vS x.key := by kernel_rfl
theorem Toleration.Qij (x : Toleration) : prt (Toleration.enc x) Q1i = vS x.value := by kernel_rfl
theorem Toleration.Q194 (x : Toleration) : prt (Toleration.enc x) Q1v = vB x.exists_ := by kernel_rfl
theorem Toleration.Qu2 (x : Toleration) : prt (Toleration.enc x) Q1m = vN x.effect := by kernel_rfl
theorem Toleration.Q19f (x : Toleration) : prt (Toleration.enc x) Q1s = vN x.seconds := by kernel_rfl
theorem Toleration.Q1h (x : Toleration) : Toleration.dec (Toleration.enc x) = (x, true) := by
  have h0 : dS (Toleration.enc x) Q1d = (x.key, true) := by unfold dS; rw [Toleration.Qz5]; rfl
  have h1 : dS (Toleration.enc x) Q1i = (x.value, true) := by unfold dS; rw [Toleration.Qij]; rfl
  have h2 : dB (Toleration.enc x) Q1v = (x.exists_, true) := by unfold dB; rw [Toleration.Q194]; exact xB_b _
  have h3 : dN (Toleration.enc x) Q1m = (x.effect, true) := by unfold dN; rw [Toleration.Qu2]; rfl
  have h4 : dN (Toleration.enc x) Q1s = (x.seconds, true) := by unfold dN; rw [Toleration.Q19f]; rfl
  unfold Toleration.dec
  rw [h0, h1, h2, h3, h4]
  rfl
theorem Toleration.Q36 {v : Val} (_ : Val.Sm sB v) : Toleration.sm (Toleration.dec v).1 := trivial
theorem Toleration.Q24 {v : Val} (h : (v.kind == 5) = false) : Toleration.dec v = ((Toleration.dec vZ).1, v.kind == 0) := by
  unfold Toleration.dec
  simp only [dN, dS, dB, Q4d h, Q3x h]
  generalize (v.kind == 0) = b
  cases b <;> rfl
theorem Toleration.sub1 (x : Val) : (Toleration.dec (s5 x)).1 = (Toleration.dec x).1 := (Q3e (f := Toleration.dec) (fun _ h => Toleration.Q24 h) rfl x).1
theorem Toleration.sub2 (v : Val) (k : BA) : (Toleration.dec (prt v k)).2 = (isM (prt v k) && (Toleration.dec (s5 (prt v k))).2) := (Q3e (f := Toleration.dec) (fun _ h => Toleration.Q24 h) rfl _).2
def PodSpec.enc (x : PodSpec) : Val := vM [.mk Qc (vL (x.containers.map Container.enc)), .mk Q1p (vN x.grace), .mk Q1y (vS x.node), .mk Qg (vL (x.nodeSelector.map Requirement.enc)), .mk Qp (vL (x.nodeTerms.map NodeTerm.enc)), .mk Qt (vL (x.podTerms.map PodTerm.enc)), .mk Qs (vN x.priority), .mk Qy (vN x.restart), .mk Q14 (vL (x.spread.map SpreadRule.enc)), .mk Qn (vL (x.tolerations.map Toleration.enc))]
def PodSpec.dec (v : Val) : PodSpec × Bool := (PodSpec.mk (dS v Q1y).1 (dN v Qs).1 (dN v Qy).1 (dN v Q1p).1 (dE Container.dec v Qc).1 (dE Requirement.dec v Qg).1 (dE NodeTerm.dec v Qp).1 (dE PodTerm.dec v Qt).1 (dE SpreadRule.dec v Q14).1 (dE Toleration.dec v Qn).1, isM v && (dE Container.dec v Qc).2 && (dN v Q1p).2 && (dS v Q1y).2 && (dE Requirement.dec v Qg).2 && (dE NodeTerm.dec v Qp).2 && (dE PodTerm.dec v Qt).2 && (dN v Qs).2 && (dN v Qy).2 && (dE SpreadRule.dec v Q14).2 && (dE Toleration.dec v Qn).2)
def PodSpec.sm (x : PodSpec) : Prop := LSm Container.sm x.containers ∧ LSm Requirement.sm x.nodeSelector ∧ LSm NodeTerm.sm x.nodeTerms ∧ LSm PodTerm.sm x.podTerms ∧ LSm SpreadRule.sm x.spread ∧ LSm Toleration.sm x.tolerations ∧ True
theorem PodSpec.Q28 {x : PodSpec} (h : PodSpec.sm x) : Val.Sm sB (PodSpec.enc x) := Q8m (Nat.le_of_ble_eq_true rfl) (List.forall_mem_cons.2 ⟨Q32 (fun _ h => Container.Q28 h) h.1, List.forall_mem_cons.2 ⟨Val.Sm.leaf 2 _ _, List.forall_mem_cons.2 ⟨Val.Sm.leaf 3 _ _, List.forall_mem_cons.2 ⟨Q32 (fun _ h => Requirement.Q28 h) h.2.1, List.forall_mem_cons.2 ⟨Q32 (fun _ h => NodeTerm.Q28 h) h.2.2.1, List.forall_mem_cons.2 ⟨Q32 (fun _ h => PodTerm.Q28 h) h.2.2.2.1, List.forall_mem_cons.2 ⟨Val.Sm.leaf 2 _ _, List.forall_mem_cons.2 ⟨Val.Sm.leaf 2 _ _, List.forall_mem_cons.2 ⟨Q32 (fun _ h => SpreadRule.Q28 h) h.2.2.2.2.1, List.forall_mem_cons.2 ⟨Q32 (fun _ h => Toleration.Q28 h) h.2.2.2.2.2.1, fun _ h => by cases h⟩⟩⟩⟩⟩⟩⟩⟩⟩⟩)
theorem PodSpec.Q1k4 (x : PodSpec) : prt (PodSpec.enc x) Q1y = vS x.node := by kernel_rfl
theorem PodSpec.Q14q (x : PodSpec) : prt (PodSpec.enc x) Qs = vN x.priority := by kernel_rfl
theorem PodSpec.Q18a (x : PodSpec) : prt (PodSpec.enc x) Qy = vN x.restart := by kernel_rfl
theorem PodSpec.Q1gp (x : PodSpec) : prt (PodSpec.enc x) Q1p = vN x.grace := by kernel_rfl
theorem PodSpec.Q95 (x : PodSpec) : prt (PodSpec.enc x) Qc = vL (x.containers.map Container.enc) := by kernel_rfl
theorem PodSpec.Qn4 (x : PodSpec) : prt (PodSpec.enc x) Qg = vL (x.nodeSelector.map Requirement.enc) := by kernel_rfl
theorem PodSpec.Qzy (x : PodSpec) : prt (PodSpec.enc x) Qp = vL (x.nodeTerms.map NodeTerm.enc) := by kernel_rfl
theorem PodSpec.Q150 (x : PodSpec) : prt (PodSpec.enc x) Qt = vL (x.podTerms.map PodTerm.enc) := by kernel_rfl
theorem PodSpec.Q1ck (x : PodSpec) : prt (PodSpec.enc x) Q14 = vL (x.spread.map SpreadRule.enc) := by kernel_rfl
theorem PodSpec.Qu6 (x : PodSpec) : prt (PodSpec.enc x) Qn = vL (x.tolerations.map Toleration.enc) := by kernel_rfl
theorem PodSpec.Q1h (x : PodSpec) : PodSpec.dec (PodSpec.enc x) = (x, true) := by
  have h0 : dS (PodSpec.enc x) Q1y = (x.node, true) := by unfold dS; rw [PodSpec.Q1k4]; rfl
  have h1 : dN (PodSpec.enc x) Qs = (x.priority, true) := by unfold dN; rw [PodSpec.Q14q]; rfl
  have h2 : dN (PodSpec.enc x) Qy = (x.restart, true) := by unfold dN; rw [PodSpec.Q18a]; rfl
  have h3 : dN (PodSpec.enc x) Q1p = (x.grace, true) := by unfold dN; rw [PodSpec.Q1gp]; rfl
  have h4 : dE Container.dec (PodSpec.enc x) Qc = (x.containers, true) := by unfold dE; rw [PodSpec.Q95]; exact Q4f Container.Q1h _
  have h5 : dE Requirement.dec (PodSpec.enc x) Qg = (x.nodeSelector, true) := by unfold dE; rw [PodSpec.Qn4]; exact Q4f Requirement.Q1h _
  have h6 : dE NodeTerm.dec (PodSpec.enc x) Qp = (x.nodeTerms, true) := by unfold dE; rw [PodSpec.Qzy]; exact Q4f NodeTerm.Q1h _
  have h7 : dE PodTerm.dec (PodSpec.enc x) Qt = (x.podTerms, true) := by unfold dE; rw [PodSpec.Q150]; exact Q4f PodTerm.Q1h _
  have h8 : dE SpreadRule.dec (PodSpec.enc x) Q14 = (x.spread, true) := by unfold dE; rw [PodSpec.Q1ck]; exact Q4f SpreadRule.Q1h _
  have h9 : dE Toleration.dec (PodSpec.enc x) Qn = (x.tolerations, true) := by unfold dE; rw [PodSpec.Qu6]; exact Q4f Toleration.Q1h _
  unfold PodSpec.dec
  rw [h0, h1, h2, h3, h4, h5, h6, h7, h8, h9]
  rfl
theorem PodSpec.Q36 {v : Val} (h : Val.Sm sB v) : PodSpec.sm (PodSpec.dec v).1 := ⟨Qat (fun _ h => Container.Q36 h) (Q2y h _), Qat (fun _ h => Requirement.Q36 h) (Q2y h _), Qat (fun _ h => NodeTerm.Q36 h) (Q2y h _), Qat (fun _ h => PodTerm.Q36 h) (Q2y h _), Qat (fun _ h => SpreadRule.Q36 h) (Q2y h _), Qat (fun _ h => Toleration.Q36 h) (Q2y h _), trivial⟩
theorem PodSpec.Q24 {v : Val} (h : (v.kind == 5) = false) : PodSpec.dec v = ((PodSpec.dec vZ).1, v.kind == 0) := by
  unfold PodSpec.dec
  simp only [dN, dS, dE, Q4d h, Q3x h]
  generalize (v.kind == 0) = b
  cases b <;> rfl
theorem PodSpec.sub1 (x : Val) : (PodSpec.dec (s5 x)).1 = (PodSpec.dec x).1 := (Q3e (f := PodSpec.dec) (fun _ h => PodSpec.Q24 h) rfl x).1
theorem PodSpec.sub2 (v : Val) (k : BA) : (PodSpec.dec (prt v k)).2 = (isM (prt v k) && (PodSpec.dec (s5 (prt v k))).2) := (Q3e (f := PodSpec.dec) (fun _ h => PodSpec.Q24 h) rfl _).2
def ContainerStatus.enc (x : ContainerStatus) : Val := vM [.mk Q11 (vN x.exitCode), .mk Qv (vS x.name), .mk Qq (vB x.ready), .mk Q10 (vN x.restarts), .mk Q20 (vN x.since), .mk Qw (vB x.started), .mk Q1x (vN x.state)]
def ContainerStatus.dec (v : Val) : ContainerStatus × Bool := (ContainerStatus.mk (dS v Qv).1 (dN v Q1x).1 (dN v Q10).1 (dN v Q11).1 (dN v Q20).1 (dB v Qq).1 (dB v Qw).1, isM v && (dN v Q11).2 && (dS v Qv).2 && (dB v Qq).2 && (dN v Q10).2 && (dN v Q20).2 && (dB v Qw).2 && (dN v Q1x).2)
def ContainerStatus.sm (_ : ContainerStatus) : Prop := True
theorem ContainerStatus.Q28 {x : ContainerStatus} (_ : ContainerStatus.sm x) : Val.Sm sB (ContainerStatus.enc x) := Q8m (Nat.le_of_ble_eq_true rfl) (List.forall_mem_cons.2 ⟨Val.Sm.leaf 2 _ _, List.forall_mem_cons.2 ⟨Val.Sm.leaf 3 _ _, List.forall_mem_cons.2 ⟨Val.Sm.leaf 1 _ _, List.forall_mem_cons.2 ⟨Val.Sm.leaf 2 _ _, List.forall_mem_cons.2 ⟨Val.Sm.leaf 2 _ _, List.forall_mem_cons.2 ⟨Val.Sm.leaf 1 _ _, List.forall_mem_cons.2 ⟨Val.Sm.leaf 2 _ _, fun _ h => by cases h⟩⟩⟩⟩⟩⟩⟩)
theorem ContainerStatus.Qvf (x : ContainerStatus) : prt (ContainerStatus.enc x) Qv = vS x.name := by kernel_rfl
theorem ContainerStatus.Q1hz (x : ContainerStatus) : prt (ContainerStatus.enc x) Q1x = vN x.state := by kernel_rfl
theorem ContainerStatus.Q14n (x : ContainerStatus) : prt (ContainerStatus.enc x) Q10 = vN x.restarts := by kernel_rfl
theorem ContainerStatus.Q167 (x : ContainerStatus) : prt (ContainerStatus.enc x) Q11 = vN x.exitCode := by kernel_rfl
theorem ContainerStatus.Qzq (x : ContainerStatus) : prt (ContainerStatus.enc x) Q20 = vN x.since := by kernel_rfl
theorem ContainerStatus.Qmc (x : ContainerStatus) : prt (ContainerStatus.enc x) Qq = vB x.ready := by kernel_rfl
theorem ContainerStatus.Qm9 (x : ContainerStatus) : prt (ContainerStatus.enc x) Qw = vB x.started := by kernel_rfl
theorem ContainerStatus.Q1h (x : ContainerStatus) : ContainerStatus.dec (ContainerStatus.enc x) = (x, true) := by
  have h0 : dS (ContainerStatus.enc x) Qv = (x.name, true) := by unfold dS; rw [ContainerStatus.Qvf]; rfl
  have h1 : dN (ContainerStatus.enc x) Q1x = (x.state, true) := by unfold dN; rw [ContainerStatus.Q1hz]; rfl
  have h2 : dN (ContainerStatus.enc x) Q10 = (x.restarts, true) := by unfold dN; rw [ContainerStatus.Q14n]; rfl
  have h3 : dN (ContainerStatus.enc x) Q11 = (x.exitCode, true) := by unfold dN; rw [ContainerStatus.Q167]; rfl
  have h4 : dN (ContainerStatus.enc x) Q20 = (x.since, true) := by unfold dN; rw [ContainerStatus.Qzq]; rfl
  have h5 : dB (ContainerStatus.enc x) Qq = (x.ready, true) := by unfold dB; rw [ContainerStatus.Qmc]; exact xB_b _
  have h6 : dB (ContainerStatus.enc x) Qw = (x.started, true) := by unfold dB; rw [ContainerStatus.Qm9]; exact xB_b _
  unfold ContainerStatus.dec
  rw [h0, h1, h2, h3, h4, h5, h6]
  rfl
theorem ContainerStatus.Q36 {v : Val} (_ : Val.Sm sB v) : ContainerStatus.sm (ContainerStatus.dec v).1 := trivial
theorem ContainerStatus.Q24 {v : Val} (h : (v.kind == 5) = false) : ContainerStatus.dec v = ((ContainerStatus.dec vZ).1, v.kind == 0) := by
  unfold ContainerStatus.dec
  simp only [dN, dS, dB, Q4d h, Q3x h]
  generalize (v.kind == 0) = b
  cases b <;> rfl
theorem ContainerStatus.sub1 (x : Val) : (ContainerStatus.dec (s5 x)).1 = (ContainerStatus.dec x).1 := (Q3e (f := ContainerStatus.dec) (fun _ h => ContainerStatus.Q24 h) rfl x).1
theorem ContainerStatus.sub2 (v : Val) (k : BA) : (ContainerStatus.dec (prt v k)).2 = (isM (prt v k) && (ContainerStatus.dec (s5 (prt v k))).2) := (Q3e (f := ContainerStatus.dec) (fun _ h => ContainerStatus.Q24 h) rfl _).2
def PodStatus.enc (x : PodStatus) : Val := vM [.mk Q2b (vN x.address), .mk Qc (vL (x.containers.map ContainerStatus.enc)), .mk Q2l (vN x.finished), .mk Q23 (vS x.nominated), .mk Q2s (vN x.phase), .mk Qq (vB x.ready), .mk Q1t (vN x.readySince), .mk Q34 (vS x.reason), .mk Qw (vN x.started)]
def PodStatus.dec (v : Val) : PodStatus × Bool := (PodStatus.mk (dN v Q2s).1 (dB v Qq).1 (dN v Q1t).1 (dN v Qw).1 (dN v Q2l).1 (dE ContainerStatus.dec v Qc).1 (dN v Q2b).1 (dS v Q23).1 (dS v Q34).1, isM v && (dN v Q2b).2 && (dE ContainerStatus.dec v Qc).2 && (dN v Q2l).2 && (dS v Q23).2 && (dN v Q2s).2 && (dB v Qq).2 && (dN v Q1t).2 && (dS v Q34).2 && (dN v Qw).2)
def PodStatus.sm (x : PodStatus) : Prop := LSm ContainerStatus.sm x.containers ∧ True
theorem PodStatus.Q28 {x : PodStatus} (h : PodStatus.sm x) : Val.Sm sB (PodStatus.enc x) := Q8m (Nat.le_of_ble_eq_true rfl) (List.forall_mem_cons.2 ⟨Val.Sm.leaf 2 _ _, List.forall_mem_cons.2 ⟨Q32 (fun _ h => ContainerStatus.Q28 h) h.1, List.forall_mem_cons.2 ⟨Val.Sm.leaf 2 _ _, List.forall_mem_cons.2 ⟨Val.Sm.leaf 3 _ _, List.forall_mem_cons.2 ⟨Val.Sm.leaf 2 _ _, List.forall_mem_cons.2 ⟨Val.Sm.leaf 1 _ _, List.forall_mem_cons.2 ⟨Val.Sm.leaf 2 _ _, List.forall_mem_cons.2 ⟨Val.Sm.leaf 3 _ _, List.forall_mem_cons.2 ⟨Val.Sm.leaf 2 _ _, fun _ h => by cases h⟩⟩⟩⟩⟩⟩⟩⟩⟩)
theorem PodStatus.Q1hr (x : PodStatus) : prt (PodStatus.enc x) Q2s = vN x.phase := by kernel_rfl
theorem PodStatus.Qmc (x : PodStatus) : prt (PodStatus.enc x) Qq = vB x.ready := by kernel_rfl
theorem PodStatus.Qwt (x : PodStatus) : prt (PodStatus.enc x) Q1t = vN x.readySince := by kernel_rfl
theorem PodStatus.Qm9 (x : PodStatus) : prt (PodStatus.enc x) Qw = vN x.started := by kernel_rfl
theorem PodStatus.Q161 (x : PodStatus) : prt (PodStatus.enc x) Q2l = vN x.finished := by kernel_rfl
theorem PodStatus.Q95 (x : PodStatus) : prt (PodStatus.enc x) Qc = vL (x.containers.map ContainerStatus.enc) := by kernel_rfl
theorem PodStatus.Q18m (x : PodStatus) : prt (PodStatus.enc x) Q2b = vN x.address := by kernel_rfl
theorem PodStatus.Qz1 (x : PodStatus) : prt (PodStatus.enc x) Q23 = vS x.nominated := by kernel_rfl
theorem PodStatus.Q1bu (x : PodStatus) : prt (PodStatus.enc x) Q34 = vS x.reason := by kernel_rfl
theorem PodStatus.Q1h (x : PodStatus) : PodStatus.dec (PodStatus.enc x) = (x, true) := by
  have h0 : dN (PodStatus.enc x) Q2s = (x.phase, true) := by unfold dN; rw [PodStatus.Q1hr]; rfl
  have h1 : dB (PodStatus.enc x) Qq = (x.ready, true) := by unfold dB; rw [PodStatus.Qmc]; exact xB_b _
  have h2 : dN (PodStatus.enc x) Q1t = (x.readySince, true) := by unfold dN; rw [PodStatus.Qwt]; rfl
  have h3 : dN (PodStatus.enc x) Qw = (x.started, true) := by unfold dN; rw [PodStatus.Qm9]; rfl
  have h4 : dN (PodStatus.enc x) Q2l = (x.finished, true) := by unfold dN; rw [PodStatus.Q161]; rfl
  have h5 : dE ContainerStatus.dec (PodStatus.enc x) Qc = (x.containers, true) := by unfold dE; rw [PodStatus.Q95]; exact Q4f ContainerStatus.Q1h _
  have h6 : dN (PodStatus.enc x) Q2b = (x.address, true) := by unfold dN; rw [PodStatus.Q18m]; rfl
  have h7 : dS (PodStatus.enc x) Q23 = (x.nominated, true) := by unfold dS; rw [PodStatus.Qz1]; rfl
  have h8 : dS (PodStatus.enc x) Q34 = (x.reason, true) := by unfold dS; rw [PodStatus.Q1bu]; rfl
  unfold PodStatus.dec
  rw [h0, h1, h2, h3, h4, h5, h6, h7, h8]
  rfl
theorem PodStatus.Q36 {v : Val} (h : Val.Sm sB v) : PodStatus.sm (PodStatus.dec v).1 := ⟨Qat (fun _ h => ContainerStatus.Q36 h) (Q2y h _), trivial⟩
theorem PodStatus.Q24 {v : Val} (h : (v.kind == 5) = false) : PodStatus.dec v = ((PodStatus.dec vZ).1, v.kind == 0) := by
  unfold PodStatus.dec
  simp only [dN, dS, dB, dE, Q4d h, Q3x h]
  generalize (v.kind == 0) = b
  cases b <;> rfl
theorem PodStatus.sub1 (x : Val) : (PodStatus.dec (s5 x)).1 = (PodStatus.dec x).1 := (Q3e (f := PodStatus.dec) (fun _ h => PodStatus.Q24 h) rfl x).1
theorem PodStatus.sub2 (v : Val) (k : BA) : (PodStatus.dec (prt v k)).2 = (isM (prt v k) && (PodStatus.dec (s5 (prt v k))).2) := (Q3e (f := PodStatus.dec) (fun _ h => PodStatus.Q24 h) rfl _).2
def Taint.enc (x : Taint) : Val := vM [.mk Q1m (vN x.effect), .mk Q1d (vS x.key), .mk Q20 (vN x.since), .mk Q1i (vS x.value)]
def Taint.dec (v : Val) : Taint × Bool := (Taint.mk (dS v Q1d).1 (dS v Q1i).1 (dN v Q1m).1 (dN v Q20).1, isM v && (dN v Q1m).2 && (dS v Q1d).2 && (dN v Q20).2 && (dS v Q1i).2)
def Taint.sm (_ : Taint) : Prop := True
theorem Taint.Q28 {x : Taint} (_ : Taint.sm x) : Val.Sm sB (Taint.enc x) := Q8m (Nat.le_of_ble_eq_true rfl) (List.forall_mem_cons.2 ⟨Val.Sm.leaf 2 _ _, List.forall_mem_cons.2 ⟨Val.Sm.leaf 3 _ _, List.forall_mem_cons.2 ⟨Val.Sm.leaf 2 _ _, List.forall_mem_cons.2 ⟨Val.Sm.leaf 3 _ _, fun _ h => by cases h⟩⟩⟩⟩)
theorem Taint.Qz5 (x : Taint) : prt (Taint.enc x) Q1d = vS x.key := by kernel_rfl
theorem Taint.Qij (x : Taint) : prt (Taint.enc x) Q1i = vS x.value := by kernel_rfl
theorem Taint.Qu2 (x : Taint) : prt (Taint.enc x) Q1m = vN x.effect := by kernel_rfl
theorem Taint.Qzq (x : Taint) : prt (Taint.enc x) Q20 = vN x.since := by kernel_rfl
theorem Taint.Q1h (x : Taint) : Taint.dec (Taint.enc x) = (x, true) := by
  have h0 : dS (Taint.enc x) Q1d = (x.key, true) := by unfold dS; rw [Taint.Qz5]; rfl
  have h1 : dS (Taint.enc x) Q1i = (x.value, true) := by unfold dS; rw [Taint.Qij]; rfl
  have h2 : dN (Taint.enc x) Q1m = (x.effect, true) := by unfold dN; rw [Taint.Qu2]; rfl
  have h3 : dN (Taint.enc x) Q20 = (x.since, true) := by unfold dN; rw [Taint.Qzq]; rfl
  unfold Taint.dec
  rw [h0, h1, h2, h3]
  rfl
theorem Taint.Q36 {v : Val} (_ : Val.Sm sB v) : Taint.sm (Taint.dec v).1 := trivial
theorem Taint.Q24 {v : Val} (h : (v.kind == 5) = false) : Taint.dec v = ((Taint.dec vZ).1, v.kind == 0) := by
  unfold Taint.dec
  simp only [dN, dS, Q4d h, Q3x h]
  generalize (v.kind == 0) = b
  cases b <;> rfl
theorem Taint.sub1 (x : Val) : (Taint.dec (s5 x)).1 = (Taint.dec x).1 := (Q3e (f := Taint.dec) (fun _ h => Taint.Q24 h) rfl x).1
theorem Taint.sub2 (v : Val) (k : BA) : (Taint.dec (prt v k)).2 = (isM (prt v k) && (Taint.dec (s5 (prt v k))).2) := (Q3e (f := Taint.dec) (fun _ h => Taint.Q24 h) rfl _).2
def Image.enc (x : Image) : Val := vM [.mk Qv (vS x.name), .mk Qlo (vN x.size), .mk Qkg (vN x.used)]
def Image.dec (v : Val) : Image × Bool := (Image.mk (dS v Qv).1 (dN v Qlo).1 (dN v Qkg).1, isM v && (dS v Qv).2 && (dN v Qlo).2 && (dN v Qkg).2)
def Image.sm (_ : Image) : Prop := True
theorem Image.Q28 {x : Image} (_ : Image.sm x) : Val.Sm sB (Image.enc x) := Q8m (Nat.le_of_ble_eq_true rfl) (List.forall_mem_cons.2 ⟨Val.Sm.leaf 3 _ _, List.forall_mem_cons.2 ⟨Val.Sm.leaf 2 _ _, List.forall_mem_cons.2 ⟨Val.Sm.leaf 2 _ _, fun _ h => by cases h⟩⟩⟩)
theorem Image.Qvf (x : Image) : prt (Image.enc x) Qv = vS x.name := by kernel_rfl
theorem Image.Q1jx (x : Image) : prt (Image.enc x) Qlo = vN x.size := by kernel_rfl
theorem Image.Q1l1 (x : Image) : prt (Image.enc x) Qkg = vN x.used := by kernel_rfl
theorem Image.Q1h (x : Image) : Image.dec (Image.enc x) = (x, true) := by
  have h0 : dS (Image.enc x) Qv = (x.name, true) := by unfold dS; rw [Image.Qvf]; rfl
  have h1 : dN (Image.enc x) Qlo = (x.size, true) := by unfold dN; rw [Image.Q1jx]; rfl
  have h2 : dN (Image.enc x) Qkg = (x.used, true) := by unfold dN; rw [Image.Q1l1]; rfl
  unfold Image.dec
  rw [h0, h1, h2]
  rfl
theorem Image.Q36 {v : Val} (_ : Val.Sm sB v) : Image.sm (Image.dec v).1 := trivial
theorem Image.Q24 {v : Val} (h : (v.kind == 5) = false) : Image.dec v = ((Image.dec vZ).1, v.kind == 0) := by
  unfold Image.dec
  simp only [dN, dS, Q4d h, Q3x h]
  generalize (v.kind == 0) = b
  cases b <;> rfl
theorem Image.sub1 (x : Val) : (Image.dec (s5 x)).1 = (Image.dec x).1 := (Q3e (f := Image.dec) (fun _ h => Image.Q24 h) rfl x).1
theorem Image.sub2 (v : Val) (k : BA) : (Image.dec (prt v k)).2 = (isM (prt v k) && (Image.dec (s5 (prt v k))).2) := (Q3e (f := Image.dec) (fun _ h => Image.Q24 h) rfl _).2
def Label.enc (x : Label) : Val := vM [.mk Q1d (vS x.key), .mk Q1i (vS x.value)]
def Label.dec (v : Val) : Label × Bool := (Label.mk (dS v Q1d).1 (dS v Q1i).1, isM v && (dS v Q1d).2 && (dS v Q1i).2)
def Label.sm (_ : Label) : Prop := True
theorem Label.Q28 {x : Label} (_ : Label.sm x) : Val.Sm sB (Label.enc x) := Q8m (Nat.le_of_ble_eq_true rfl) (List.forall_mem_cons.2 ⟨Val.Sm.leaf 3 _ _, List.forall_mem_cons.2 ⟨Val.Sm.leaf 3 _ _, fun _ h => by cases h⟩⟩)
theorem Label.Qz5 (x : Label) : prt (Label.enc x) Q1d = vS x.key := by kernel_rfl
theorem Label.Qij (x : Label) : prt (Label.enc x) Q1i = vS x.value := by kernel_rfl
theorem Label.Q1h (x : Label) : Label.dec (Label.enc x) = (x, true) := by
  have h0 : dS (Label.enc x) Q1d = (x.key, true) := by unfold dS; rw [Label.Qz5]; rfl
  have h1 : dS (Label.enc x) Q1i = (x.value, true) := by unfold dS; rw [Label.Qij]; rfl
  unfold Label.dec
  rw [h0, h1]
  rfl
theorem Label.Q36 {v : Val} (_ : Val.Sm sB v) : Label.sm (Label.dec v).1 := trivial
theorem Label.Q24 {v : Val} (h : (v.kind == 5) = false) : Label.dec v = ((Label.dec vZ).1, v.kind == 0) := by
  unfold Label.dec
  simp only [dS, Q4d h, Q3x h]
  generalize (v.kind == 0) = b
  cases b <;> rfl
theorem Label.sub1 (x : Val) : (Label.dec (s5 x)).1 = (Label.dec x).1 := (Q3e (f := Label.dec) (fun _ h => Label.Q24 h) rfl x).1
theorem Label.sub2 (v : Val) (k : BA) : (Label.dec (prt v k)).2 = (isM (prt v k) && (Label.dec (s5 (prt v k))).2) := (Q3e (f := Label.dec) (fun _ h => Label.Q24 h) rfl _).2
def Template.enc (x : Template) : Val := vM [.mk Q8t (vL (x.labels.map Label.enc)), .mk Qle (PodSpec.enc x.spec)]
def Template.dec (v : Val) : Template × Bool := (Template.mk (dE Label.dec v Q8t).1 (dT PodSpec.dec v Qle).1, isM v && (dE Label.dec v Q8t).2 && (dT PodSpec.dec v Qle).2)
def Template.sm (x : Template) : Prop := LSm Label.sm x.labels ∧ PodSpec.sm x.spec ∧ True
theorem Template.Q28 {x : Template} (h : Template.sm x) : Val.Sm sB (Template.enc x) := Q8m (Nat.le_of_ble_eq_true rfl) (List.forall_mem_cons.2 ⟨Q32 (fun _ h => Label.Q28 h) h.1, List.forall_mem_cons.2 ⟨PodSpec.Q28 h.2.1, fun _ h => by cases h⟩⟩)
theorem Template.Q1ds (x : Template) : prt (Template.enc x) Q8t = vL (x.labels.map Label.enc) := by kernel_rfl
theorem Template.Q1iq (x : Template) : prt (Template.enc x) Qle = PodSpec.enc x.spec := by kernel_rfl
theorem Template.Q1h (x : Template) : Template.dec (Template.enc x) = (x, true) := by
  have h0 : dE Label.dec (Template.enc x) Q8t = (x.labels, true) := by unfold dE; rw [Template.Q1ds]; exact Q4f Label.Q1h _
  have h1 : dT PodSpec.dec (Template.enc x) Qle = (x.spec, true) := by unfold dT; rw [Template.Q1iq]; exact PodSpec.Q1h _
  unfold Template.dec
  rw [h0, h1]
  rfl
theorem Template.Q36 {v : Val} (h : Val.Sm sB v) : Template.sm (Template.dec v).1 := ⟨Qat (fun _ h => Label.Q36 h) (Q2y h _), PodSpec.Q36 (Q2y h _), trivial⟩
theorem Template.Q24 {v : Val} (h : (v.kind == 5) = false) : Template.dec v = ((Template.dec vZ).1, v.kind == 0) := by
  unfold Template.dec
  simp only [dE, dT, Q4d h, Q3x h]
  generalize (v.kind == 0) = b
  cases b <;> rfl
theorem Template.sub1 (x : Val) : (Template.dec (s5 x)).1 = (Template.dec x).1 := (Q3e (f := Template.dec) (fun _ h => Template.Q24 h) rfl x).1
theorem Template.sub2 (v : Val) (k : BA) : (Template.dec (prt v k)).2 = (isM (prt v k) && (Template.dec (s5 (prt v k))).2) := (Q3e (f := Template.dec) (fun _ h => Template.Q24 h) rfl _).2
end Go.Proofs.YtiflaadeikaghaaGreat
end

section
/- What the program's encoders compute (printed by a program). -/
namespace Go.Proofs.YtiflaadeikaghaaGreat
open Go.Pv
def Q2i (p0 : BA) : Val :=
 (Val.mk 3 0 p0 [] [])
def Q1mz (p0 : BA) : En := .call 109 [.str p0] []
def Q1j2 (p0 : BA) : Rs := .ret (.agg (Val.cells (Q2i p0))) []
theorem Qep (p0 : BA) : Q6 G (Q1mz p0) (Q1j2 p0) := by
 unfold Q1j2 Q2i
 exact Q8 (fn := Ir.K41) rfl VOK.nil [] [] (by kernel_rfl)
def Qk (p0 : BA) (p1 : Val) : Fld :=
 (Fld.mk p0 p1)
def Q1q5 (p0 : BA) (p1 : Val) : En := .call 62 [.str p0, .agg (Val.cells p1)] []
def Q1j5 (p0 : BA) (p1 : Val) : Rs := .ret (.agg (Fld.cells (Qk p0 p1))) []
theorem Q2w (p0 : BA) (p1 : Val) : Q6 G (Q1q5 p0 p1) (Q1j5 p0 p1) := by
 unfold Q1j5 Qk
 exact Q8 (fn := Ir.K1r) rfl VOK.nil [] [] (by kernel_rfl)
def Q18 (p0 : Int) : Val :=
 (Val.mk 2 p0 eB [] [])
def Q1oq (p0 : Int) : En := .call 65 [.int .i64 p0] []
def Q1kt (p0 : Int) : Rs := .ret (.agg (Val.cells (Q18 p0))) []
theorem Q5z (p0 : Int) : Q6 G (Q1oq p0) (Q1kt p0) := by
 unfold Q1kt Q18
 exact Q8 (fn := Ir.K3x) rfl VOK.nil [] [] (by kernel_rfl)
def Qeg (p0 : Resources) : Val := Resources.enc p0
theorem Q1ob (p0 : Resources) : Qeg p0 = ((Qa6 ([(Qk Q4e (Q18 p0.cPU)), (Qk Q3v (Q18 p0.disk)), (Qk Q2x (Q18 p0.memory))]))) := by
  exact Eq.symm (Q59 (by exact Nat.le_of_ble_eq_true rfl) (by kernel_rfl))
def Q1pl (p0 : Resources) : En := .call 63 [.agg (Resources.cells p0)] []
def Q1j8 (p0 : Resources) : Rs := .ret (.agg (Val.cells (Qeg p0))) []
def Q1c5 (p0 : Resources) : Prop := Resources.sm p0
theorem Q1de (p0 : Resources) (H : Q1c5 p0) : (Qcv ([(Qk Q4e (Q18 p0.cPU)), (Qk Q3v (Q18 p0.disk)), (Qk Q2x (Q18 p0.memory))])) ∧ True := by
  repeat' with_reducible apply And.intro
  all_goals first | exact True.intro | exact H | exact H.1 | exact H.2.1 | exact H.2.2.1 | exact H.2.2.2.1 | exact H.2.2.2.2.1 | exact H.2.2.2.2.2.1 | exact H.2.2.2.2.2.2.1 | exact H.2.2.2.2.2.2.2.1 | exact H.2.2.2.2.2.2.2.2.1 | exact H.2.2.2.2.2.2.2.2.2.1 | exact H.2.2.2.2.2.2.2.2.2.2.1 | exact Qjw (by exact Nat.le_of_ble_eq_true rfl) (Resources.Q28 H).all.2.2.2
theorem Q1kj (p0 : Resources) (H : Q1c5 p0) : Q6 G (Q1pl p0) (Q1j8 p0) := by
 unfold Q1j8
 rw [Q1ob]
 exact Q8 (fn := Ir.K1l) rfl VOK.nil [] [aN (Q5z p0.cPU), aN (Q2w Q4e (Q18 p0.cPU)), aN (Q5z p0.disk), aN (Q2w Q3v (Q18 p0.disk)), aN (Q5z p0.memory), aN (Q2w Q2x (Q18 p0.memory)), aN (Q6r (e' := .call 61 [.sl [(Fld.cells (Qk Q4e (Q18 p0.cPU))), (Fld.cells (Qk Q3v (Q18 p0.disk))), (Fld.cells (Qk Q2x (Q18 p0.memory)))]] []) (Qkj ([(Qk Q4e (Q18 p0.cPU)), (Qk Q3v (Q18 p0.disk)), (Qk Q2x (Q18 p0.memory))]) (Q1de p0 H).1) (by simp only [Qek, Fld.Q2p, Fld.Q3b]))] (by kernel_rfl)
def Qaj (p0 : Probe) : Val := Probe.enc p0
theorem Q1mu (p0 : Probe) : Qaj p0 = ((Qa6 ([(Qk Q25 (Q18 p0.delay)), (Qk Q1r (Q18 p0.failure)), (Qk Q1w (Q18 p0.period)), (Qk Q1l (Q18 p0.success))]))) := by
  exact Eq.symm (Q59 (by exact Nat.le_of_ble_eq_true rfl) (by kernel_rfl))
def Q1of (p0 : Probe) : En := .call 147 [.agg (Probe.cells p0)] []
def Q1iy (p0 : Probe) : Rs := .ret (.agg (Val.cells (Qaj p0))) []
def Q1gu (p0 : Probe) : Prop := Probe.sm p0
theorem Q1d4 (p0 : Probe) (H : Q1gu p0) : (Qcv ([(Qk Q25 (Q18 p0.delay)), (Qk Q1r (Q18 p0.failure)), (Qk Q1w (Q18 p0.period)), (Qk Q1l (Q18 p0.success))])) ∧ True := by
  repeat' with_reducible apply And.intro
  all_goals first | exact True.intro | exact H | exact H.1 | exact H.2.1 | exact H.2.2.1 | exact H.2.2.2.1 | exact H.2.2.2.2.1 | exact H.2.2.2.2.2.1 | exact H.2.2.2.2.2.2.1 | exact H.2.2.2.2.2.2.2.1 | exact H.2.2.2.2.2.2.2.2.1 | exact H.2.2.2.2.2.2.2.2.2.1 | exact H.2.2.2.2.2.2.2.2.2.2.1 | exact Qjw (by exact Nat.le_of_ble_eq_true rfl) (Probe.Q28 H).all.2.2.2
theorem Q1m7 (p0 : Probe) (H : Q1gu p0) : Q6 G (Q1of p0) (Q1iy p0) := by
 unfold Q1iy
 rw [Q1mu]
 exact Q8 (fn := Ir.K1j) rfl VOK.nil [] [aN (Q5z p0.delay), aN (Q2w Q25 (Q18 p0.delay)), aN (Q5z p0.failure), aN (Q2w Q1r (Q18 p0.failure)), aN (Q5z p0.period), aN (Q2w Q1w (Q18 p0.period)), aN (Q5z p0.success), aN (Q2w Q1l (Q18 p0.success)), aN (Q6r (e' := .call 61 [.sl [(Fld.cells (Qk Q25 (Q18 p0.delay))), (Fld.cells (Qk Q1r (Q18 p0.failure))), (Fld.cells (Qk Q1w (Q18 p0.period))), (Fld.cells (Qk Q1l (Q18 p0.success)))]] []) (Qkj ([(Qk Q25 (Q18 p0.delay)), (Qk Q1r (Q18 p0.failure)), (Qk Q1w (Q18 p0.period)), (Qk Q1l (Q18 p0.success))]) (Q1d4 p0 H).1) (by simp only [Qek, Fld.Q2p, Fld.Q3b]))] (by kernel_rfl)
def Q40 (p0 : List Probe) : List Probe → Nat → (List Val) → List Val
 | [], _i0, v0_1 =>
  v0_1
 | x0 :: r0, i0, v0_1 =>
  Q40 p0 r0 (i0 + 1) (v0_1 ++ [(Qaj x0)])
theorem Qsx (p0 : List Probe) : ∀ (l : List Probe) (i : Nat) (a : List Val), Q40 p0 l i a = a ++ l.map (fun x0 => (Qaj x0))
  | [], _, _ => by simp [Q40]
  | x :: r, i, a => by rw [Q40, Qsx p0 r]; simp
def Qx1 (p0 : List Probe) (i0 : Nat) (v0_1 : List Val) : List PV :=
  [.un, .fn 147 [] [], .un, .un, .bx 0 0, .ms 1 5 0 (List.length v0_1), .un, .un, .sl (Probe.rows p0), .int .i64 ((List.length p0) : Int), .int .i64 (i0 : Int)] ++ nuns 12
def Qlv (_p0 : List Probe) (_i0 : Nat) (v0_1 : List Val) : List Ob :=
  [⟨5, 0, true, [.int .i64 0, .int .i64 0, .str eB, .ms 2 5 0 0, .ms 3 6 0 0]⟩, ⟨5, 0, true, (Val.rows v0_1).flatten⟩, ⟨5, 0, true, []⟩, ⟨6, 0, true, []⟩]
def Qf4 (p0 : List Probe) (i0 : Nat) (v0_1 : List Val) : En := .loop 0 Ir.Qkv Ir.Q1f5 (Qx1 p0 i0 v0_1) (Qlv p0 i0 v0_1)
def Qpi (_p0 : List Probe) (q0 : List Val) (z : Nat → PV) (_zo : Nat → List PV) : St :=
  ⟨[z 0, z 1, z 2, z 3, .bx 0 0, .ms 1 5 0 (List.length q0)] ++ zr z 6 17, [(0, ⟨5, 0, true, [.int .i64 0, .int .i64 0, .str eB, .ms 2 5 0 0, .ms 3 6 0 0]⟩), (1, ⟨5, 0, true, (Val.rows q0).flatten⟩), (2, ⟨5, 0, true, []⟩), (3, ⟨6, 0, true, []⟩)], 68⟩
theorem Q136 (p0 : List Probe) (i0 : Nat) (v0_1 : List Val) : VOK (Go.Pv.look (number 0 (Qlv p0 i0 v0_1))) [(1, Val.rows v0_1)] := (VOK.cons (show Seen _ _ from Q3q (ob := ⟨5, 0, true, (Val.rows v0_1).flatten⟩) (Val.Q7 v0_1 5 rfl)) VOK.nil)
def Qfz (p0 : List Probe) (e : En) (q : List Val) : Prop := ∃ z zo, Q6 G e (.st (.exit 0) (Qpi p0 q z zo))
theorem Qsa (p0 : List Probe) {e e' : En} (h : ∀ r, Q6 G e r → Q6 G e' r) : ∀ q, Qfz p0 e q → Qfz p0 e' q
  | _, ⟨z, zo, hz⟩ => ⟨z, zo, h _ hz⟩
def Qgs (p0 : List Probe) : Prop := (List.length p0 ≤ 137438953472) ∧ (∀ x0 ∈ p0, Q1gu x0) ∧ True
def Qoc (p0 : List Probe) (i0 : Nat) (_v0_1 : List Val) : List PV :=
  [.un, .fn 147 [] []] ++ nuns 6 ++ [.sl (Probe.rows p0), .int .i64 ((List.length p0) : Int), .int .i64 (i0 : Int), .bool false]
def Qjl (_p0 : List Probe) (_i0 : Nat) (_v0_1 : List Val) : List (Nat × List PV) :=
  []
theorem Q14d (p0 : List Probe) (_H : Qgs p0) (i0 : Nat) (v0_1 : List Val) (_ho0_0 : List.length v0_1 ≤ i0) (hc0 : (decide ((i0 : Int) < ((List.length p0) : Int))) = false) : Qfz p0 (Qf4 p0 i0 v0_1) v0_1 := by
 exact ⟨(envF (Qoc p0 i0 v0_1)), (zoF (Qjl p0 i0 v0_1)), Qh (Q136 p0 i0 v0_1) (x := ((.exit 0), Qpi p0 v0_1 (envF (Qoc p0 i0 v0_1)) (zoF (Qjl p0 i0 v0_1)))) [hB 0 hc0] [] (by kernel_rfl)⟩
theorem Q166 (p0 : List Probe) (H : Qgs p0) (x0 : Probe) (i0 : Nat) (v0_1 : List Val) (hx0 : p0[i0]? = some x0) (hi0 : i0 < List.length p0) (ho0_0 : List.length v0_1 ≤ i0) (hc0 : (decide ((i0 : Int) < ((List.length p0) : Int))) = true) {r : Rs} (hr : Q6 G (Qf4 p0 (i0 + 1) (v0_1 ++ [(Qaj x0)])) r) : Q6 G (Qf4 p0 i0 v0_1) r := by
 have hB0 := H.1
 exact Qm (Q136 p0 i0 v0_1) (y := (Qx1 p0 (i0 + 1) (v0_1 ++ [(Qaj x0)]), Qlv p0 (i0 + 1) (v0_1 ++ [(Qaj x0)]))) [hB 0 hc0, hP 0 (Q1k 4 (Probe.rows p0) i0 _ (Probe.Qb hx0) rfl), hV 8 [(644, Val.rows (v0_1 ++ [(Qaj x0)]))] (Q5e 1 580 644 5 80 0 0 true (Val.rows v0_1) (Val.rows (v0_1 ++ [(Qaj x0)])) (Val.cells (Qaj x0)) (List.length v0_1) (List.length (v0_1 ++ [(Qaj x0)])) rfl (Val.Q0 v0_1).symm (Val.Q0 (v0_1 ++ [(Qaj x0)])).symm (Val.Q15 v0_1 (Qaj x0)) (Val.Qd v0_1) rfl (by omega)), hS 0 true (Val.Q7 (v0_1 ++ [(Qaj x0)]) 5 rfl), hP 1 (Q29 i0 (by omega))] [aN (Q1m7 x0 (H.2.1 x0 (Q2e hx0)))] (by kernel_rfl) hr
theorem Qxo (p0 : List Probe) (H : Qgs p0) : ∀ (r0 : List Probe) (i0 : Nat) (v0_1 : List Val), List.drop i0 p0 = r0 → List.length v0_1 ≤ i0 → Qfz p0 (Qf4 p0 i0 v0_1) (Q40 p0 r0 i0 v0_1)
 | [], i0, v0_1, hd, ho0_0 => by
  have hc0 : (decide ((i0 : Int) < ((List.length p0) : Int))) = false := by have := Q1g hd; simp; omega
  rw [Q40]
  exact Q14d p0 H i0 v0_1 ho0_0 hc0
 | x0 :: r0, i0, v0_1, hd, ho0_0 => by
  obtain ⟨hx0, hi0, hd'⟩ := Q12 hd
  have hc0 : (decide ((i0 : Int) < ((List.length p0) : Int))) = true := by simp; omega
  rw [Q40]
  exact Qsa p0 (fun r hr => Q166 p0 H x0 i0 v0_1 hx0 hi0 ho0_0 hc0 hr) _ (Qxo p0 H r0 (i0 + 1) (v0_1 ++ [(Qaj x0)]) hd' (by first | omega | (simp; omega)))
def Q2r (p0 : List Probe) : Val := vL (p0.map Probe.enc)
theorem Q17d (p0 : List Probe) : Q2r p0 = ((Qmd (Q40 p0 p0 0 []))) := by
  rw [Qsx]
  rfl
def Q182 (p0 : List Probe) : En := .call 146 [.sl (Probe.rows p0), .fn 147 [] []] []
def Qqw (p0 : List Probe) : Rs := .ret (.agg (Val.cells (Q2r p0))) []
def Q7r (p0 : List Probe) : Prop := LSm Probe.sm p0
theorem Qcb (p0 : List Probe) (H : Q7r p0) : (Qgs p0) ∧ (Qn5 (Q40 p0 p0 0 [])) ∧ True := by
  refine ⟨⟨Nat.le_trans H.1 (Nat.le_of_ble_eq_true rfl), H.2, trivial⟩, ⟨?_, trivial⟩, trivial⟩
  rw [Qsx]
  exact Q32 (fun _ h => Probe.Q28 h) H
theorem Qd2 (p0 : List Probe) (H : Q7r p0) : Q6 G (Q182 p0) (Qqw p0) := by
 unfold Qqw
 rw [Q17d]
 have hl0 := Qxo p0 ((Qcb p0 H).1) p0 0 [] (by simp) (by simp)
 obtain ⟨z0, zo0, hl0⟩ := hl0
 exact Q8 (fn := Ir.K20) rfl VOK.nil [hP 3 (Qf (Probe.rows p0) (List.length p0) (Probe.Q0 p0)), hS 0 true (Val.Q7 (Q40 p0 p0 0 []) 5 rfl), hQ (Val.Q0 (Q40 p0 p0 0 [])).symm] [aV [(1, Val.rows (Q40 p0 p0 0 []))] hl0, aN (Qs5 (Q40 p0 p0 0 []) (Qcb p0 H).2.1)] (by kernel_rfl)
def Qak (p0 : Container) : Val := Container.enc p0
theorem Q1rf (p0 : Container) : Qak p0 = ((Qa6 ([(Qk Q1z (Q2i p0.image)), (Qk Q2f (Qeg p0.limit)), (Qk Q2m (Q2r p0.live)), (Qk Qv (Q2i p0.name)), (Qk Qq (Q2r p0.ready)), (Qk Q16 (Qeg p0.request)), (Qk Q1q (Q2r p0.startup))]))) := by
  exact Eq.symm (Q59 (by exact Nat.le_of_ble_eq_true rfl) (by kernel_rfl))
def Q1qw (p0 : Container) : En := .call 108 [.agg (Container.cells p0)] []
def Q1ko (p0 : Container) : Rs := .ret (.agg (Val.cells (Qak p0))) []
def Q1fp (p0 : Container) : Prop := Container.sm p0
theorem Q9k (p0 : Container) (H : Q1fp p0) : (Q1c5 p0.limit) ∧ (Q7r p0.live) ∧ (Q7r p0.ready) ∧ (Q1c5 p0.request) ∧ (Q7r p0.startup) ∧ (Qcv ([(Qk Q1z (Q2i p0.image)), (Qk Q2f (Qeg p0.limit)), (Qk Q2m (Q2r p0.live)), (Qk Qv (Q2i p0.name)), (Qk Qq (Q2r p0.ready)), (Qk Q16 (Qeg p0.request)), (Qk Q1q (Q2r p0.startup))])) ∧ True := by
  repeat' with_reducible apply And.intro
  all_goals first | exact True.intro | exact H | exact H.1 | exact H.2.1 | exact H.2.2.1 | exact H.2.2.2.1 | exact H.2.2.2.2.1 | exact H.2.2.2.2.2.1 | exact H.2.2.2.2.2.2.1 | exact H.2.2.2.2.2.2.2.1 | exact H.2.2.2.2.2.2.2.2.1 | exact H.2.2.2.2.2.2.2.2.2.1 | exact H.2.2.2.2.2.2.2.2.2.2.1 | exact Qjw (by exact Nat.le_of_ble_eq_true rfl) (Container.Q28 H).all.2.2.2
theorem Q1r6 (p0 : Container) (H : Q1fp p0) : Q6 G (Q1qw p0) (Q1ko p0) := by
 unfold Q1ko
 rw [Q1rf]
 exact Q8 (fn := Ir.K1d) rfl VOK.nil [] [aN (Qep p0.image), aN (Q2w Q1z (Q2i p0.image)), aN (Q1kj p0.limit (Q9k p0 H).1), aN (Q2w Q2f (Qeg p0.limit)), aN (Qd2 p0.live (Q9k p0 H).2.1), aN (Q2w Q2m (Q2r p0.live)), aN (Qep p0.name), aN (Q2w Qv (Q2i p0.name)), aN (Qd2 p0.ready (Q9k p0 H).2.2.1), aN (Q2w Qq (Q2r p0.ready)), aN (Q1kj p0.request (Q9k p0 H).2.2.2.1), aN (Q2w Q16 (Qeg p0.request)), aN (Qd2 p0.startup (Q9k p0 H).2.2.2.2.1), aN (Q2w Q1q (Q2r p0.startup)), aN (Q6r (e' := .call 61 [.sl [(Fld.cells (Qk Q1z (Q2i p0.image))), (Fld.cells (Qk Q2f (Qeg p0.limit))), (Fld.cells (Qk Q2m (Q2r p0.live))), (Fld.cells (Qk Qv (Q2i p0.name))), (Fld.cells (Qk Qq (Q2r p0.ready))), (Fld.cells (Qk Q16 (Qeg p0.request))), (Fld.cells (Qk Q1q (Q2r p0.startup)))]] []) (Qkj ([(Qk Q1z (Q2i p0.image)), (Qk Q2f (Qeg p0.limit)), (Qk Q2m (Q2r p0.live)), (Qk Qv (Q2i p0.name)), (Qk Qq (Q2r p0.ready)), (Qk Q16 (Qeg p0.request)), (Qk Q1q (Q2r p0.startup))]) (Q9k p0 H).2.2.2.2.2.1) (by simp only [Qek, Fld.Q2p, Fld.Q3b]))] (by kernel_rfl)
def Q49 (p0 : List Container) : List Container → Nat → (List Val) → List Val
 | [], _i0, v0_1 =>
  v0_1
 | x0 :: r0, i0, v0_1 =>
  Q49 p0 r0 (i0 + 1) (v0_1 ++ [(Qak x0)])
theorem Qrn (p0 : List Container) : ∀ (l : List Container) (i : Nat) (a : List Val), Q49 p0 l i a = a ++ l.map (fun x0 => (Qak x0))
  | [], _, _ => by simp [Q49]
  | x :: r, i, a => by rw [Q49, Qrn p0 r]; simp
def Qvb (p0 : List Container) (i0 : Nat) (v0_1 : List Val) : List PV :=
  [.un, .fn 108 [] [], .un, .un, .bx 0 0, .ms 1 5 0 (List.length v0_1), .un, .un, .sl (Container.rows p0), .int .i64 ((List.length p0) : Int), .int .i64 (i0 : Int)] ++ nuns 12
def Qkc (_p0 : List Container) (_i0 : Nat) (v0_1 : List Val) : List Ob :=
  [⟨5, 0, true, [.int .i64 0, .int .i64 0, .str eB, .ms 2 5 0 0, .ms 3 6 0 0]⟩, ⟨5, 0, true, (Val.rows v0_1).flatten⟩, ⟨5, 0, true, []⟩, ⟨6, 0, true, []⟩]
def Qfv (p0 : List Container) (i0 : Nat) (v0_1 : List Val) : En := .loop 0 Ir.Qhv Ir.Q1f3 (Qvb p0 i0 v0_1) (Qkc p0 i0 v0_1)
def Qpj (_p0 : List Container) (q0 : List Val) (z : Nat → PV) (_zo : Nat → List PV) : St :=
  ⟨[z 0, z 1, z 2, z 3, .bx 0 0, .ms 1 5 0 (List.length q0)] ++ zr z 6 17, [(0, ⟨5, 0, true, [.int .i64 0, .int .i64 0, .str eB, .ms 2 5 0 0, .ms 3 6 0 0]⟩), (1, ⟨5, 0, true, (Val.rows q0).flatten⟩), (2, ⟨5, 0, true, []⟩), (3, ⟨6, 0, true, []⟩)], 68⟩
theorem Q12p (p0 : List Container) (i0 : Nat) (v0_1 : List Val) : VOK (Go.Pv.look (number 0 (Qkc p0 i0 v0_1))) [(1, Val.rows v0_1)] := (VOK.cons (show Seen _ _ from Q3q (ob := ⟨5, 0, true, (Val.rows v0_1).flatten⟩) (Val.Q7 v0_1 5 rfl)) VOK.nil)
def Qgn (p0 : List Container) (e : En) (q : List Val) : Prop := ∃ z zo, Q6 G e (.st (.exit 0) (Qpj p0 q z zo))
theorem Qsy (p0 : List Container) {e e' : En} (h : ∀ r, Q6 G e r → Q6 G e' r) : ∀ q, Qgn p0 e q → Qgn p0 e' q
  | _, ⟨z, zo, hz⟩ => ⟨z, zo, h _ hz⟩
def Qfr (p0 : List Container) : Prop := (List.length p0 ≤ 137438953472) ∧ (∀ x0 ∈ p0, Q1fp x0) ∧ True
def Qoj (p0 : List Container) (i0 : Nat) (_v0_1 : List Val) : List PV :=
  [.un, .fn 108 [] []] ++ nuns 6 ++ [.sl (Container.rows p0), .int .i64 ((List.length p0) : Int), .int .i64 (i0 : Int), .bool false]
def Qhz (_p0 : List Container) (_i0 : Nat) (_v0_1 : List Val) : List (Nat × List PV) :=
  []
theorem Q14z (p0 : List Container) (_H : Qfr p0) (i0 : Nat) (v0_1 : List Val) (_ho0_0 : List.length v0_1 ≤ i0) (hc0 : (decide ((i0 : Int) < ((List.length p0) : Int))) = false) : Qgn p0 (Qfv p0 i0 v0_1) v0_1 := by
 exact ⟨(envF (Qoj p0 i0 v0_1)), (zoF (Qhz p0 i0 v0_1)), Qh (Q12p p0 i0 v0_1) (x := ((.exit 0), Qpj p0 v0_1 (envF (Qoj p0 i0 v0_1)) (zoF (Qhz p0 i0 v0_1)))) [hB 0 hc0] [] (by kernel_rfl)⟩
theorem Q13k (p0 : List Container) (H : Qfr p0) (x0 : Container) (i0 : Nat) (v0_1 : List Val) (hx0 : p0[i0]? = some x0) (hi0 : i0 < List.length p0) (ho0_0 : List.length v0_1 ≤ i0) (hc0 : (decide ((i0 : Int) < ((List.length p0) : Int))) = true) {r : Rs} (hr : Q6 G (Qfv p0 (i0 + 1) (v0_1 ++ [(Qak x0)])) r) : Q6 G (Qfv p0 i0 v0_1) r := by
 have hB0 := H.1
 exact Qm (Q12p p0 i0 v0_1) (y := (Qvb p0 (i0 + 1) (v0_1 ++ [(Qak x0)]), Qkc p0 (i0 + 1) (v0_1 ++ [(Qak x0)]))) [hB 0 hc0, hP 0 (Q1k 11 (Container.rows p0) i0 _ (Container.Qb hx0) rfl), hV 8 [(644, Val.rows (v0_1 ++ [(Qak x0)]))] (Q5e 1 580 644 5 80 0 0 true (Val.rows v0_1) (Val.rows (v0_1 ++ [(Qak x0)])) (Val.cells (Qak x0)) (List.length v0_1) (List.length (v0_1 ++ [(Qak x0)])) rfl (Val.Q0 v0_1).symm (Val.Q0 (v0_1 ++ [(Qak x0)])).symm (Val.Q15 v0_1 (Qak x0)) (Val.Qd v0_1) rfl (by omega)), hS 0 true (Val.Q7 (v0_1 ++ [(Qak x0)]) 5 rfl), hP 1 (Q29 i0 (by omega))] [aN (Q1r6 x0 (H.2.1 x0 (Q2e hx0)))] (by kernel_rfl) hr
theorem Qx2 (p0 : List Container) (H : Qfr p0) : ∀ (r0 : List Container) (i0 : Nat) (v0_1 : List Val), List.drop i0 p0 = r0 → List.length v0_1 ≤ i0 → Qgn p0 (Qfv p0 i0 v0_1) (Q49 p0 r0 i0 v0_1)
 | [], i0, v0_1, hd, ho0_0 => by
  have hc0 : (decide ((i0 : Int) < ((List.length p0) : Int))) = false := by have := Q1g hd; simp; omega
  rw [Q49]
  exact Q14z p0 H i0 v0_1 ho0_0 hc0
 | x0 :: r0, i0, v0_1, hd, ho0_0 => by
  obtain ⟨hx0, hi0, hd'⟩ := Q12 hd
  have hc0 : (decide ((i0 : Int) < ((List.length p0) : Int))) = true := by simp; omega
  rw [Q49]
  exact Qsy p0 (fun r hr => Q13k p0 H x0 i0 v0_1 hx0 hi0 ho0_0 hc0 hr) _ (Qx2 p0 H r0 (i0 + 1) (v0_1 ++ [(Qak x0)]) hd' (by first | omega | (simp; omega)))
def Q5k (p0 : List Container) : Val := vL (p0.map Container.enc)
theorem Q17r (p0 : List Container) : Q5k p0 = ((Qmd (Q49 p0 p0 0 []))) := by
  rw [Qrn]
  rfl
def Q16j (p0 : List Container) : En := .call 107 [.sl (Container.rows p0), .fn 108 [] []] []
def Qow (p0 : List Container) : Rs := .ret (.agg (Val.cells (Q5k p0))) []
def Qd1 (p0 : List Container) : Prop := LSm Container.sm p0
theorem Qb4 (p0 : List Container) (H : Qd1 p0) : (Qfr p0) ∧ (Qn5 (Q49 p0 p0 0 [])) ∧ True := by
  refine ⟨⟨Nat.le_trans H.1 (Nat.le_of_ble_eq_true rfl), H.2, trivial⟩, ⟨?_, trivial⟩, trivial⟩
  rw [Qrn]
  exact Q32 (fun _ h => Container.Q28 h) H
theorem Q140 (p0 : List Container) (H : Qd1 p0) : Q6 G (Q16j p0) (Qow p0) := by
 unfold Qow
 rw [Q17r]
 have hl0 := Qx2 p0 ((Qb4 p0 H).1) p0 0 [] (by simp) (by simp)
 obtain ⟨z0, zo0, hl0⟩ := hl0
 exact Q8 (fn := Ir.K1t) rfl VOK.nil [hP 3 (Qf (Container.rows p0) (List.length p0) (Container.Q0 p0)), hS 0 true (Val.Q7 (Q49 p0 p0 0 []) 5 rfl), hQ (Val.Q0 (Q49 p0 p0 0 [])).symm] [aV [(1, Val.rows (Q49 p0 p0 0 []))] hl0, aN (Qs5 (Q49 p0 p0 0 []) (Qb4 p0 H).2.1)] (by kernel_rfl)
def Q41 (p0 : List ByteArray) : List ByteArray → Nat → (List Val) → List Val
 | [], _i0, v0_1 =>
  v0_1
 | x0 :: r0, i0, v0_1 =>
  Q41 p0 r0 (i0 + 1) (v0_1 ++ [(Q2i x0)])
theorem Qrx (p0 : List ByteArray) : ∀ (l : List ByteArray) (i : Nat) (a : List Val), Q41 p0 l i a = a ++ l.map (fun x0 => (Q2i x0))
  | [], _, _ => by simp [Q41]
  | x :: r, i, a => by rw [Q41, Qrx p0 r]; simp
def Qwj (p0 : List ByteArray) (i0 : Nat) (v0_1 : List Val) : List PV :=
  [.un, .fn 109 [] [], .un, .un, .bx 0 0, .ms 1 5 0 (List.length v0_1), .un, .un, .sl (Qe p0), .int .i64 ((List.length p0) : Int), .int .i64 (i0 : Int)] ++ nuns 12
def Qj8 (_p0 : List ByteArray) (_i0 : Nat) (v0_1 : List Val) : List Ob :=
  [⟨5, 0, true, [.int .i64 0, .int .i64 0, .str eB, .ms 2 5 0 0, .ms 3 6 0 0]⟩, ⟨5, 0, true, (Val.rows v0_1).flatten⟩, ⟨5, 0, true, []⟩, ⟨6, 0, true, []⟩]
def Qgh (p0 : List ByteArray) (i0 : Nat) (v0_1 : List Val) : En := .loop 0 Ir.Qih Ir.Q1ff (Qwj p0 i0 v0_1) (Qj8 p0 i0 v0_1)
def Qni (_p0 : List ByteArray) (q0 : List Val) (z : Nat → PV) (_zo : Nat → List PV) : St :=
  ⟨[z 0, z 1, z 2, z 3, .bx 0 0, .ms 1 5 0 (List.length q0)] ++ zr z 6 17, [(0, ⟨5, 0, true, [.int .i64 0, .int .i64 0, .str eB, .ms 2 5 0 0, .ms 3 6 0 0]⟩), (1, ⟨5, 0, true, (Val.rows q0).flatten⟩), (2, ⟨5, 0, true, []⟩), (3, ⟨6, 0, true, []⟩)], 68⟩
theorem Q119 (p0 : List ByteArray) (i0 : Nat) (v0_1 : List Val) : VOK (Go.Pv.look (number 0 (Qj8 p0 i0 v0_1))) [(1, Val.rows v0_1)] := (VOK.cons (show Seen _ _ from Q3q (ob := ⟨5, 0, true, (Val.rows v0_1).flatten⟩) (Val.Q7 v0_1 5 rfl)) VOK.nil)
def Qgk (p0 : List ByteArray) (e : En) (q : List Val) : Prop := ∃ z zo, Q6 G e (.st (.exit 0) (Qni p0 q z zo))
theorem Qrm (p0 : List ByteArray) {e e' : En} (h : ∀ r, Q6 G e r → Q6 G e' r) : ∀ q, Qgk p0 e q → Qgk p0 e' q
  | _, ⟨z, zo, hz⟩ => ⟨z, zo, h _ hz⟩
def Qh3 (p0 : List ByteArray) : Prop := (List.length p0 ≤ 137438953472) ∧ True
def Qpe (p0 : List ByteArray) (i0 : Nat) (_v0_1 : List Val) : List PV :=
  [.un, .fn 109 [] []] ++ nuns 6 ++ [.sl (Qe p0), .int .i64 ((List.length p0) : Int), .int .i64 (i0 : Int), .bool false]
def Qlt (_p0 : List ByteArray) (_i0 : Nat) (_v0_1 : List Val) : List (Nat × List PV) :=
  []
theorem Q168 (p0 : List ByteArray) (_H : Qh3 p0) (i0 : Nat) (v0_1 : List Val) (_ho0_0 : List.length v0_1 ≤ i0) (hc0 : (decide ((i0 : Int) < ((List.length p0) : Int))) = false) : Qgk p0 (Qgh p0 i0 v0_1) v0_1 := by
 exact ⟨(envF (Qpe p0 i0 v0_1)), (zoF (Qlt p0 i0 v0_1)), Qh (Q119 p0 i0 v0_1) (x := ((.exit 0), Qni p0 v0_1 (envF (Qpe p0 i0 v0_1)) (zoF (Qlt p0 i0 v0_1)))) [hB 0 hc0] [] (by kernel_rfl)⟩
theorem Q13j (p0 : List ByteArray) (H : Qh3 p0) (x0 : BA) (i0 : Nat) (v0_1 : List Val) (hx0 : p0[i0]? = some x0) (hi0 : i0 < List.length p0) (ho0_0 : List.length v0_1 ≤ i0) (hc0 : (decide ((i0 : Int) < ((List.length p0) : Int))) = true) {r : Rs} (hr : Q6 G (Qgh p0 (i0 + 1) (v0_1 ++ [(Q2i x0)])) r) : Q6 G (Qgh p0 i0 v0_1) r := by
 have hB0 := H.1
 exact Qm (Q119 p0 i0 v0_1) (y := (Qwj p0 (i0 + 1) (v0_1 ++ [(Q2i x0)]), Qj8 p0 (i0 + 1) (v0_1 ++ [(Q2i x0)]))) [hB 0 hc0, hP 0 (Q1k 1 (Qe p0) i0 _ (Q3t hx0) rfl), hV 7 [(580, Val.rows (v0_1 ++ [(Q2i x0)]))] (Q5e 1 516 580 5 80 0 0 true (Val.rows v0_1) (Val.rows (v0_1 ++ [(Q2i x0)])) (Val.cells (Q2i x0)) (List.length v0_1) (List.length (v0_1 ++ [(Q2i x0)])) rfl (Val.Q0 v0_1).symm (Val.Q0 (v0_1 ++ [(Q2i x0)])).symm (Val.Q15 v0_1 (Q2i x0)) (Val.Qd v0_1) rfl (by omega)), hS 0 true (Val.Q7 (v0_1 ++ [(Q2i x0)]) 5 rfl), hP 1 (Q29 i0 (by omega))] [aN (Qep x0)] (by kernel_rfl) hr
theorem Qyu (p0 : List ByteArray) (H : Qh3 p0) : ∀ (r0 : List ByteArray) (i0 : Nat) (v0_1 : List Val), List.drop i0 p0 = r0 → List.length v0_1 ≤ i0 → Qgk p0 (Qgh p0 i0 v0_1) (Q41 p0 r0 i0 v0_1)
 | [], i0, v0_1, hd, ho0_0 => by
  have hc0 : (decide ((i0 : Int) < ((List.length p0) : Int))) = false := by have := Q1g hd; simp; omega
  rw [Q41]
  exact Q168 p0 H i0 v0_1 ho0_0 hc0
 | x0 :: r0, i0, v0_1, hd, ho0_0 => by
  obtain ⟨hx0, hi0, hd'⟩ := Q12 hd
  have hc0 : (decide ((i0 : Int) < ((List.length p0) : Int))) = true := by simp; omega
  rw [Q41]
  exact Qrm p0 (fun r hr => Q13j p0 H x0 i0 v0_1 hx0 hi0 ho0_0 hc0 hr) _ (Qyu p0 H r0 (i0 + 1) (v0_1 ++ [(Q2i x0)]) hd' (by first | omega | (simp; omega)))
def Q5i (p0 : List ByteArray) : Val := vL (p0.map vS)
theorem Q171 (p0 : List ByteArray) : Q5i p0 = ((Qmd (Q41 p0 p0 0 []))) := by
  rw [Qrx]
  rfl
def Q15i (p0 : List ByteArray) : En := .call 148 [.sl (Qe p0), .fn 109 [] []] []
def Qq0 (p0 : List ByteArray) : Rs := .ret (.agg (Val.cells (Q5i p0))) []
def Qde (p0 : List ByteArray) : Prop := LSm (fun _ : ByteArray => True) p0
theorem Qbf (p0 : List ByteArray) (H : Qde p0) : (Qh3 p0) ∧ (Qn5 (Q41 p0 p0 0 [])) ∧ True := by
  refine ⟨⟨Nat.le_trans H.1 (Nat.le_of_ble_eq_true rfl), trivial⟩, ⟨?_, trivial⟩, trivial⟩
  rw [Qrx]
  exact Q32 (fun _ _ => Val.Sm.leaf _ _ _) H
theorem Q188 (p0 : List ByteArray) (H : Qde p0) : Q6 G (Q15i p0) (Qq0 p0) := by
 unfold Qq0
 rw [Q171]
 have hl0 := Qyu p0 ((Qbf p0 H).1) p0 0 [] (by simp) (by simp)
 obtain ⟨z0, zo0, hl0⟩ := hl0
 exact Q8 (fn := Ir.K21) rfl VOK.nil [hP 3 (Qf (Qe p0) (List.length p0) (Q1c p0)), hS 0 true (Val.Q7 (Q41 p0 p0 0 []) 5 rfl), hQ (Val.Q0 (Q41 p0 p0 0 [])).symm] [aV [(1, Val.rows (Q41 p0 p0 0 []))] hl0, aN (Qs5 (Q41 p0 p0 0 []) (Qbf p0 H).2.1)] (by kernel_rfl)
def Qan (p0 : Requirement) : Val := Requirement.enc p0
theorem Q1r8 (p0 : Requirement) : Qan p0 = ((Qa6 ([(Qk Q1d (Q2i p0.key)), (Qk Q57 (Q18 p0.op)), (Qk Q22 (Q5i p0.values))]))) := by
  exact Eq.symm (Q59 (by exact Nat.le_of_ble_eq_true rfl) (by kernel_rfl))
def Q1pj (p0 : Requirement) : En := .call 111 [.agg (Requirement.cells p0)] []
def Q1js (p0 : Requirement) : Rs := .ret (.agg (Val.cells (Qan p0))) []
def Q1ga (p0 : Requirement) : Prop := Requirement.sm p0
theorem Q11v (p0 : Requirement) (H : Q1ga p0) : (Qde p0.values) ∧ (Qcv ([(Qk Q1d (Q2i p0.key)), (Qk Q57 (Q18 p0.op)), (Qk Q22 (Q5i p0.values))])) ∧ True := by
  repeat' with_reducible apply And.intro
  all_goals first | exact True.intro | exact H | exact H.1 | exact H.2.1 | exact H.2.2.1 | exact H.2.2.2.1 | exact H.2.2.2.2.1 | exact H.2.2.2.2.2.1 | exact H.2.2.2.2.2.2.1 | exact H.2.2.2.2.2.2.2.1 | exact H.2.2.2.2.2.2.2.2.1 | exact H.2.2.2.2.2.2.2.2.2.1 | exact H.2.2.2.2.2.2.2.2.2.2.1 | exact Qjw (by exact Nat.le_of_ble_eq_true rfl) (Requirement.Q28 H).all.2.2.2
theorem Q1mj (p0 : Requirement) (H : Q1ga p0) : Q6 G (Q1pj p0) (Q1js p0) := by
 unfold Q1js
 rw [Q1r8]
 exact Q8 (fn := Ir.K1k) rfl VOK.nil [] [aN (Qep p0.key), aN (Q2w Q1d (Q2i p0.key)), aN (Q5z p0.op), aN (Q2w Q57 (Q18 p0.op)), aN (Q188 p0.values (Q11v p0 H).1), aN (Q2w Q22 (Q5i p0.values)), aN (Q6r (e' := .call 61 [.sl [(Fld.cells (Qk Q1d (Q2i p0.key))), (Fld.cells (Qk Q57 (Q18 p0.op))), (Fld.cells (Qk Q22 (Q5i p0.values)))]] []) (Qkj ([(Qk Q1d (Q2i p0.key)), (Qk Q57 (Q18 p0.op)), (Qk Q22 (Q5i p0.values))]) (Q11v p0 H).2.1) (by simp only [Qek, Fld.Q2p, Fld.Q3b]))] (by kernel_rfl)
def Q46 (p0 : List Requirement) : List Requirement → Nat → (List Val) → List Val
 | [], _i0, v0_1 =>
  v0_1
 | x0 :: r0, i0, v0_1 =>
  Q46 p0 r0 (i0 + 1) (v0_1 ++ [(Qan x0)])
theorem Qs1 (p0 : List Requirement) : ∀ (l : List Requirement) (i : Nat) (a : List Val), Q46 p0 l i a = a ++ l.map (fun x0 => (Qan x0))
  | [], _, _ => by simp [Q46]
  | x :: r, i, a => by rw [Q46, Qs1 p0 r]; simp
def Quc (p0 : List Requirement) (i0 : Nat) (v0_1 : List Val) : List PV :=
  [.un, .fn 111 [] [], .un, .un, .bx 0 0, .ms 1 5 0 (List.length v0_1), .un, .un, .sl (Requirement.rows p0), .int .i64 ((List.length p0) : Int), .int .i64 (i0 : Int)] ++ nuns 12
def Qir (_p0 : List Requirement) (_i0 : Nat) (v0_1 : List Val) : List Ob :=
  [⟨5, 0, true, [.int .i64 0, .int .i64 0, .str eB, .ms 2 5 0 0, .ms 3 6 0 0]⟩, ⟨5, 0, true, (Val.rows v0_1).flatten⟩, ⟨5, 0, true, []⟩, ⟨6, 0, true, []⟩]
def Qh2 (p0 : List Requirement) (i0 : Nat) (v0_1 : List Val) : En := .loop 0 Ir.Qjz Ir.Q1dy (Quc p0 i0 v0_1) (Qir p0 i0 v0_1)
def Qol (_p0 : List Requirement) (q0 : List Val) (z : Nat → PV) (_zo : Nat → List PV) : St :=
  ⟨[z 0, z 1, z 2, z 3, .bx 0 0, .ms 1 5 0 (List.length q0)] ++ zr z 6 17, [(0, ⟨5, 0, true, [.int .i64 0, .int .i64 0, .str eB, .ms 2 5 0 0, .ms 3 6 0 0]⟩), (1, ⟨5, 0, true, (Val.rows q0).flatten⟩), (2, ⟨5, 0, true, []⟩), (3, ⟨6, 0, true, []⟩)], 68⟩
theorem Q123 (p0 : List Requirement) (i0 : Nat) (v0_1 : List Val) : VOK (Go.Pv.look (number 0 (Qir p0 i0 v0_1))) [(1, Val.rows v0_1)] := (VOK.cons (show Seen _ _ from Q3q (ob := ⟨5, 0, true, (Val.rows v0_1).flatten⟩) (Val.Q7 v0_1 5 rfl)) VOK.nil)
def Qgy (p0 : List Requirement) (e : En) (q : List Val) : Prop := ∃ z zo, Q6 G e (.st (.exit 0) (Qol p0 q z zo))
theorem Qst (p0 : List Requirement) {e e' : En} (h : ∀ r, Q6 G e r → Q6 G e' r) : ∀ q, Qgy p0 e q → Qgy p0 e' q
  | _, ⟨z, zo, hz⟩ => ⟨z, zo, h _ hz⟩
def Qfe (p0 : List Requirement) : Prop := (List.length p0 ≤ 137438953472) ∧ (∀ x0 ∈ p0, Q1ga x0) ∧ True
def Qp3 (p0 : List Requirement) (i0 : Nat) (_v0_1 : List Val) : List PV :=
  [.un, .fn 111 [] []] ++ nuns 6 ++ [.sl (Requirement.rows p0), .int .i64 ((List.length p0) : Int), .int .i64 (i0 : Int), .bool false]
def Qi5 (_p0 : List Requirement) (_i0 : Nat) (_v0_1 : List Val) : List (Nat × List PV) :=
  []
theorem Q17s (p0 : List Requirement) (_H : Qfe p0) (i0 : Nat) (v0_1 : List Val) (_ho0_0 : List.length v0_1 ≤ i0) (hc0 : (decide ((i0 : Int) < ((List.length p0) : Int))) = false) : Qgy p0 (Qh2 p0 i0 v0_1) v0_1 := by
 exact ⟨(envF (Qp3 p0 i0 v0_1)), (zoF (Qi5 p0 i0 v0_1)), Qh (Q123 p0 i0 v0_1) (x := ((.exit 0), Qol p0 v0_1 (envF (Qp3 p0 i0 v0_1)) (zoF (Qi5 p0 i0 v0_1)))) [hB 0 hc0] [] (by kernel_rfl)⟩
theorem Q16b (p0 : List Requirement) (H : Qfe p0) (x0 : Requirement) (i0 : Nat) (v0_1 : List Val) (hx0 : p0[i0]? = some x0) (hi0 : i0 < List.length p0) (ho0_0 : List.length v0_1 ≤ i0) (hc0 : (decide ((i0 : Int) < ((List.length p0) : Int))) = true) {r : Rs} (hr : Q6 G (Qh2 p0 (i0 + 1) (v0_1 ++ [(Qan x0)])) r) : Q6 G (Qh2 p0 i0 v0_1) r := by
 have hB0 := H.1
 exact Qm (Q123 p0 i0 v0_1) (y := (Quc p0 (i0 + 1) (v0_1 ++ [(Qan x0)]), Qir p0 (i0 + 1) (v0_1 ++ [(Qan x0)]))) [hB 0 hc0, hP 0 (Q1k 3 (Requirement.rows p0) i0 _ (Requirement.Qb hx0) rfl), hV 8 [(644, Val.rows (v0_1 ++ [(Qan x0)]))] (Q5e 1 580 644 5 80 0 0 true (Val.rows v0_1) (Val.rows (v0_1 ++ [(Qan x0)])) (Val.cells (Qan x0)) (List.length v0_1) (List.length (v0_1 ++ [(Qan x0)])) rfl (Val.Q0 v0_1).symm (Val.Q0 (v0_1 ++ [(Qan x0)])).symm (Val.Q15 v0_1 (Qan x0)) (Val.Qd v0_1) rfl (by omega)), hS 0 true (Val.Q7 (v0_1 ++ [(Qan x0)]) 5 rfl), hP 1 (Q29 i0 (by omega))] [aN (Q1mj x0 (H.2.1 x0 (Q2e hx0)))] (by kernel_rfl) hr
theorem Qv8 (p0 : List Requirement) (H : Qfe p0) : ∀ (r0 : List Requirement) (i0 : Nat) (v0_1 : List Val), List.drop i0 p0 = r0 → List.length v0_1 ≤ i0 → Qgy p0 (Qh2 p0 i0 v0_1) (Q46 p0 r0 i0 v0_1)
 | [], i0, v0_1, hd, ho0_0 => by
  have hc0 : (decide ((i0 : Int) < ((List.length p0) : Int))) = false := by have := Q1g hd; simp; omega
  rw [Q46]
  exact Q17s p0 H i0 v0_1 ho0_0 hc0
 | x0 :: r0, i0, v0_1, hd, ho0_0 => by
  obtain ⟨hx0, hi0, hd'⟩ := Q12 hd
  have hc0 : (decide ((i0 : Int) < ((List.length p0) : Int))) = true := by simp; omega
  rw [Q46]
  exact Qst p0 (fun r hr => Q16b p0 H x0 i0 v0_1 hx0 hi0 ho0_0 hc0 hr) _ (Qv8 p0 H r0 (i0 + 1) (v0_1 ++ [(Qan x0)]) hd' (by first | omega | (simp; omega)))
def Q2a (p0 : List Requirement) : Val := vL (p0.map Requirement.enc)
theorem Q17h (p0 : List Requirement) : Q2a p0 = ((Qmd (Q46 p0 p0 0 []))) := by
  rw [Qs1]
  rfl
def Q164 (p0 : List Requirement) : En := .call 110 [.sl (Requirement.rows p0), .fn 111 [] []] []
def Qrf (p0 : List Requirement) : Rs := .ret (.agg (Val.cells (Q2a p0))) []
def Q6b (p0 : List Requirement) : Prop := LSm Requirement.sm p0
theorem Qc1 (p0 : List Requirement) (H : Q6b p0) : (Qfe p0) ∧ (Qn5 (Q46 p0 p0 0 [])) ∧ True := by
  refine ⟨⟨Nat.le_trans H.1 (Nat.le_of_ble_eq_true rfl), H.2, trivial⟩, ⟨?_, trivial⟩, trivial⟩
  rw [Qs1]
  exact Q32 (fun _ h => Requirement.Q28 h) H
theorem Q9h (p0 : List Requirement) (H : Q6b p0) : Q6 G (Q164 p0) (Qrf p0) := by
 unfold Qrf
 rw [Q17h]
 have hl0 := Qv8 p0 ((Qc1 p0 H).1) p0 0 [] (by simp) (by simp)
 obtain ⟨z0, zo0, hl0⟩ := hl0
 exact Q8 (fn := Ir.K1u) rfl VOK.nil [hP 3 (Qf (Requirement.rows p0) (List.length p0) (Requirement.Q0 p0)), hS 0 true (Val.Q7 (Q46 p0 p0 0 []) 5 rfl), hQ (Val.Q0 (Q46 p0 p0 0 [])).symm] [aV [(1, Val.rows (Q46 p0 p0 0 []))] hl0, aN (Qs5 (Q46 p0 p0 0 []) (Qc1 p0 H).2.1)] (by kernel_rfl)
def Q3k (p0 : Bool) : Val := vB p0
theorem Q1mo (p0 : Bool) : Q3k p0 = (bif p0 then
    (Val.mk 1 1 eB [] [])
  else
    (Val.mk 1 0 eB [] [])) := by
  cases p0 <;> rfl
def Q1n7 (p0 : Bool) : En := .call 64 [.bool p0] []
def Q1jw (p0 : Bool) : Rs := .ret (.agg (Val.cells (Q3k p0))) []
theorem Qx4 (p0 : Bool) : Q6 G (Q1n7 p0) (Q1jw p0) := by
 unfold Q1jw
 rw [Q1mo]
 cases h0 : p0 with
 | true =>
  exact Q8 (fn := Ir.K3v) rfl VOK.nil [] [] (by kernel_rfl)
 | false =>
  exact Q8 (fn := Ir.K3v) rfl VOK.nil [] [] (by kernel_rfl)
def Qab (p0 : NodeTerm) : Val := NodeTerm.enc p0
theorem Q1o4 (p0 : NodeTerm) : Qab p0 = ((Qa6 ([(Qk Q9 (Q3k p0.required)), (Qk Qa (Q2a p0.selector)), (Qk Qu (Q18 p0.weight))]))) := by
  exact Eq.symm (Q59 (by exact Nat.le_of_ble_eq_true rfl) (by kernel_rfl))
def Q1q1 (p0 : NodeTerm) : En := .call 113 [.agg (NodeTerm.cells p0)] []
def Q1l7 (p0 : NodeTerm) : Rs := .ret (.agg (Val.cells (Qab p0))) []
def Q1gd (p0 : NodeTerm) : Prop := NodeTerm.sm p0
theorem Q10p (p0 : NodeTerm) (H : Q1gd p0) : (Q6b p0.selector) ∧ (Qcv ([(Qk Q9 (Q3k p0.required)), (Qk Qa (Q2a p0.selector)), (Qk Qu (Q18 p0.weight))])) ∧ True := by
  repeat' with_reducible apply And.intro
  all_goals first | exact True.intro | exact H | exact H.1 | exact H.2.1 | exact H.2.2.1 | exact H.2.2.2.1 | exact H.2.2.2.2.1 | exact H.2.2.2.2.2.1 | exact H.2.2.2.2.2.2.1 | exact H.2.2.2.2.2.2.2.1 | exact H.2.2.2.2.2.2.2.2.1 | exact H.2.2.2.2.2.2.2.2.2.1 | exact H.2.2.2.2.2.2.2.2.2.2.1 | exact Qjw (by exact Nat.le_of_ble_eq_true rfl) (NodeTerm.Q28 H).all.2.2.2
theorem Q1o2 (p0 : NodeTerm) (H : Q1gd p0) : Q6 G (Q1q1 p0) (Q1l7 p0) := by
 unfold Q1l7
 rw [Q1o4]
 exact Q8 (fn := Ir.K1h) rfl VOK.nil [] [aN (Qx4 p0.required), aN (Q2w Q9 (Q3k p0.required)), aN (Q9h p0.selector (Q10p p0 H).1), aN (Q2w Qa (Q2a p0.selector)), aN (Q5z p0.weight), aN (Q2w Qu (Q18 p0.weight)), aN (Q6r (e' := .call 61 [.sl [(Fld.cells (Qk Q9 (Q3k p0.required))), (Fld.cells (Qk Qa (Q2a p0.selector))), (Fld.cells (Qk Qu (Q18 p0.weight)))]] []) (Qkj ([(Qk Q9 (Q3k p0.required)), (Qk Qa (Q2a p0.selector)), (Qk Qu (Q18 p0.weight))]) (Q10p p0 H).2.1) (by simp only [Qek, Fld.Q2p, Fld.Q3b]))] (by kernel_rfl)
def Q44 (p0 : List NodeTerm) : List NodeTerm → Nat → (List Val) → List Val
 | [], _i0, v0_1 =>
  v0_1
 | x0 :: r0, i0, v0_1 =>
  Q44 p0 r0 (i0 + 1) (v0_1 ++ [(Qab x0)])
theorem Qu8 (p0 : List NodeTerm) : ∀ (l : List NodeTerm) (i : Nat) (a : List Val), Q44 p0 l i a = a ++ l.map (fun x0 => (Qab x0))
  | [], _, _ => by simp [Q44]
  | x :: r, i, a => by rw [Q44, Qu8 p0 r]; simp
def Qya (p0 : List NodeTerm) (i0 : Nat) (v0_1 : List Val) : List PV :=
  [.un, .fn 113 [] [], .un, .un, .bx 0 0, .ms 1 5 0 (List.length v0_1), .un, .un, .sl (NodeTerm.rows p0), .int .i64 ((List.length p0) : Int), .int .i64 (i0 : Int)] ++ nuns 12
def Qj3 (_p0 : List NodeTerm) (_i0 : Nat) (v0_1 : List Val) : List Ob :=
  [⟨5, 0, true, [.int .i64 0, .int .i64 0, .str eB, .ms 2 5 0 0, .ms 3 6 0 0]⟩, ⟨5, 0, true, (Val.rows v0_1).flatten⟩, ⟨5, 0, true, []⟩, ⟨6, 0, true, []⟩]
def Qgb (p0 : List NodeTerm) (i0 : Nat) (v0_1 : List Val) : En := .loop 0 Ir.Qm4 Ir.Q1e7 (Qya p0 i0 v0_1) (Qj3 p0 i0 v0_1)
def Qo5 (_p0 : List NodeTerm) (q0 : List Val) (z : Nat → PV) (_zo : Nat → List PV) : St :=
  ⟨[z 0, z 1, z 2, z 3, .bx 0 0, .ms 1 5 0 (List.length q0)] ++ zr z 6 17, [(0, ⟨5, 0, true, [.int .i64 0, .int .i64 0, .str eB, .ms 2 5 0 0, .ms 3 6 0 0]⟩), (1, ⟨5, 0, true, (Val.rows q0).flatten⟩), (2, ⟨5, 0, true, []⟩), (3, ⟨6, 0, true, []⟩)], 68⟩
theorem Q121 (p0 : List NodeTerm) (i0 : Nat) (v0_1 : List Val) : VOK (Go.Pv.look (number 0 (Qj3 p0 i0 v0_1))) [(1, Val.rows v0_1)] := (VOK.cons (show Seen _ _ from Q3q (ob := ⟨5, 0, true, (Val.rows v0_1).flatten⟩) (Val.Q7 v0_1 5 rfl)) VOK.nil)
def Qez (p0 : List NodeTerm) (e : En) (q : List Val) : Prop := ∃ z zo, Q6 G e (.st (.exit 0) (Qo5 p0 q z zo))
theorem Qtg (p0 : List NodeTerm) {e e' : En} (h : ∀ r, Q6 G e r → Q6 G e' r) : ∀ q, Qez p0 e q → Qez p0 e' q
  | _, ⟨z, zo, hz⟩ => ⟨z, zo, h _ hz⟩
def Qg4 (p0 : List NodeTerm) : Prop := (List.length p0 ≤ 137438953472) ∧ (∀ x0 ∈ p0, Q1gd x0) ∧ True
def Qok (p0 : List NodeTerm) (i0 : Nat) (_v0_1 : List Val) : List PV :=
  [.un, .fn 113 [] []] ++ nuns 6 ++ [.sl (NodeTerm.rows p0), .int .i64 ((List.length p0) : Int), .int .i64 (i0 : Int), .bool false]
def Qlk (_p0 : List NodeTerm) (_i0 : Nat) (_v0_1 : List Val) : List (Nat × List PV) :=
  []
theorem Q16i (p0 : List NodeTerm) (_H : Qg4 p0) (i0 : Nat) (v0_1 : List Val) (_ho0_0 : List.length v0_1 ≤ i0) (hc0 : (decide ((i0 : Int) < ((List.length p0) : Int))) = false) : Qez p0 (Qgb p0 i0 v0_1) v0_1 := by
 exact ⟨(envF (Qok p0 i0 v0_1)), (zoF (Qlk p0 i0 v0_1)), Qh (Q121 p0 i0 v0_1) (x := ((.exit 0), Qo5 p0 v0_1 (envF (Qok p0 i0 v0_1)) (zoF (Qlk p0 i0 v0_1)))) [hB 0 hc0] [] (by kernel_rfl)⟩
theorem Q170 (p0 : List NodeTerm) (H : Qg4 p0) (x0 : NodeTerm) (i0 : Nat) (v0_1 : List Val) (hx0 : p0[i0]? = some x0) (hi0 : i0 < List.length p0) (ho0_0 : List.length v0_1 ≤ i0) (hc0 : (decide ((i0 : Int) < ((List.length p0) : Int))) = true) {r : Rs} (hr : Q6 G (Qgb p0 (i0 + 1) (v0_1 ++ [(Qab x0)])) r) : Q6 G (Qgb p0 i0 v0_1) r := by
 have hB0 := H.1
 exact Qm (Q121 p0 i0 v0_1) (y := (Qya p0 (i0 + 1) (v0_1 ++ [(Qab x0)]), Qj3 p0 (i0 + 1) (v0_1 ++ [(Qab x0)]))) [hB 0 hc0, hP 0 (Q1k 3 (NodeTerm.rows p0) i0 _ (NodeTerm.Qb hx0) rfl), hV 8 [(644, Val.rows (v0_1 ++ [(Qab x0)]))] (Q5e 1 580 644 5 80 0 0 true (Val.rows v0_1) (Val.rows (v0_1 ++ [(Qab x0)])) (Val.cells (Qab x0)) (List.length v0_1) (List.length (v0_1 ++ [(Qab x0)])) rfl (Val.Q0 v0_1).symm (Val.Q0 (v0_1 ++ [(Qab x0)])).symm (Val.Q15 v0_1 (Qab x0)) (Val.Qd v0_1) rfl (by omega)), hS 0 true (Val.Q7 (v0_1 ++ [(Qab x0)]) 5 rfl), hP 1 (Q29 i0 (by omega))] [aN (Q1o2 x0 (H.2.1 x0 (Q2e hx0)))] (by kernel_rfl) hr
theorem Qxt (p0 : List NodeTerm) (H : Qg4 p0) : ∀ (r0 : List NodeTerm) (i0 : Nat) (v0_1 : List Val), List.drop i0 p0 = r0 → List.length v0_1 ≤ i0 → Qez p0 (Qgb p0 i0 v0_1) (Q44 p0 r0 i0 v0_1)
 | [], i0, v0_1, hd, ho0_0 => by
  have hc0 : (decide ((i0 : Int) < ((List.length p0) : Int))) = false := by have := Q1g hd; simp; omega
  rw [Q44]
  exact Q16i p0 H i0 v0_1 ho0_0 hc0
 | x0 :: r0, i0, v0_1, hd, ho0_0 => by
  obtain ⟨hx0, hi0, hd'⟩ := Q12 hd
  have hc0 : (decide ((i0 : Int) < ((List.length p0) : Int))) = true := by simp; omega
  rw [Q44]
  exact Qtg p0 (fun r hr => Q170 p0 H x0 i0 v0_1 hx0 hi0 ho0_0 hc0 hr) _ (Qxt p0 H r0 (i0 + 1) (v0_1 ++ [(Qab x0)]) hd' (by first | omega | (simp; omega)))
def Q5q (p0 : List NodeTerm) : Val := vL (p0.map NodeTerm.enc)
theorem Q16t (p0 : List NodeTerm) : Q5q p0 = ((Qmd (Q44 p0 p0 0 []))) := by
  rw [Qu8]
  rfl
def Q14m (p0 : List NodeTerm) : En := .call 112 [.sl (NodeTerm.rows p0), .fn 113 [] []] []
def Qqt (p0 : List NodeTerm) : Rs := .ret (.agg (Val.cells (Q5q p0))) []
def Qdh (p0 : List NodeTerm) : Prop := LSm NodeTerm.sm p0
theorem Qbh (p0 : List NodeTerm) (H : Qdh p0) : (Qg4 p0) ∧ (Qn5 (Q44 p0 p0 0 [])) ∧ True := by
  refine ⟨⟨Nat.le_trans H.1 (Nat.le_of_ble_eq_true rfl), H.2, trivial⟩, ⟨?_, trivial⟩, trivial⟩
  rw [Qu8]
  exact Q32 (fun _ h => NodeTerm.Q28 h) H
theorem Q17l (p0 : List NodeTerm) (H : Qdh p0) : Q6 G (Q14m p0) (Qqt p0) := by
 unfold Qqt
 rw [Q16t]
 have hl0 := Qxt p0 ((Qbh p0 H).1) p0 0 [] (by simp) (by simp)
 obtain ⟨z0, zo0, hl0⟩ := hl0
 exact Q8 (fn := Ir.K1v) rfl VOK.nil [hP 3 (Qf (NodeTerm.rows p0) (List.length p0) (NodeTerm.Q0 p0)), hS 0 true (Val.Q7 (Q44 p0 p0 0 []) 5 rfl), hQ (Val.Q0 (Q44 p0 p0 0 [])).symm] [aV [(1, Val.rows (Q44 p0 p0 0 []))] hl0, aN (Qs5 (Q44 p0 p0 0 []) (Qbh p0 H).2.1)] (by kernel_rfl)
def Qb3 (p0 : PodTerm) : Val := PodTerm.enc p0
theorem Q1pw (p0 : PodTerm) : Qb3 p0 = ((Qa6 ([(Qk Q2h (Q3k p0.anti)), (Qk Q9 (Q3k p0.required)), (Qk Qa (Q2a p0.selector)), (Qk Qj (Q2i p0.topology)), (Qk Qu (Q18 p0.weight))]))) := by
  exact Eq.symm (Q59 (by exact Nat.le_of_ble_eq_true rfl) (by kernel_rfl))
def Q1mb (p0 : PodTerm) : En := .call 115 [.agg (PodTerm.cells p0)] []
def Q1je (p0 : PodTerm) : Rs := .ret (.agg (Val.cells (Qb3 p0))) []
def Q1i2 (p0 : PodTerm) : Prop := PodTerm.sm p0
theorem Q11l (p0 : PodTerm) (H : Q1i2 p0) : (Q6b p0.selector) ∧ (Qcv ([(Qk Q2h (Q3k p0.anti)), (Qk Q9 (Q3k p0.required)), (Qk Qa (Q2a p0.selector)), (Qk Qj (Q2i p0.topology)), (Qk Qu (Q18 p0.weight))])) ∧ True := by
  repeat' with_reducible apply And.intro
  all_goals first | exact True.intro | exact H | exact H.1 | exact H.2.1 | exact H.2.2.1 | exact H.2.2.2.1 | exact H.2.2.2.2.1 | exact H.2.2.2.2.2.1 | exact H.2.2.2.2.2.2.1 | exact H.2.2.2.2.2.2.2.1 | exact H.2.2.2.2.2.2.2.2.1 | exact H.2.2.2.2.2.2.2.2.2.1 | exact H.2.2.2.2.2.2.2.2.2.2.1 | exact Qjw (by exact Nat.le_of_ble_eq_true rfl) (PodTerm.Q28 H).all.2.2.2
theorem Q1ng (p0 : PodTerm) (H : Q1i2 p0) : Q6 G (Q1mb p0) (Q1je p0) := by
 unfold Q1je
 rw [Q1pw]
 exact Q8 (fn := Ir.K1i) rfl VOK.nil [] [aN (Qx4 p0.anti), aN (Q2w Q2h (Q3k p0.anti)), aN (Qx4 p0.required), aN (Q2w Q9 (Q3k p0.required)), aN (Q9h p0.selector (Q11l p0 H).1), aN (Q2w Qa (Q2a p0.selector)), aN (Qep p0.topology), aN (Q2w Qj (Q2i p0.topology)), aN (Q5z p0.weight), aN (Q2w Qu (Q18 p0.weight)), aN (Q6r (e' := .call 61 [.sl [(Fld.cells (Qk Q2h (Q3k p0.anti))), (Fld.cells (Qk Q9 (Q3k p0.required))), (Fld.cells (Qk Qa (Q2a p0.selector))), (Fld.cells (Qk Qj (Q2i p0.topology))), (Fld.cells (Qk Qu (Q18 p0.weight)))]] []) (Qkj ([(Qk Q2h (Q3k p0.anti)), (Qk Q9 (Q3k p0.required)), (Qk Qa (Q2a p0.selector)), (Qk Qj (Q2i p0.topology)), (Qk Qu (Q18 p0.weight))]) (Q11l p0 H).2.1) (by simp only [Qek, Fld.Q2p, Fld.Q3b]))] (by kernel_rfl)
def Q3y (p0 : List PodTerm) : List PodTerm → Nat → (List Val) → List Val
 | [], _i0, v0_1 =>
  v0_1
 | x0 :: r0, i0, v0_1 =>
  Q3y p0 r0 (i0 + 1) (v0_1 ++ [(Qb3 x0)])
theorem Qrw (p0 : List PodTerm) : ∀ (l : List PodTerm) (i : Nat) (a : List Val), Q3y p0 l i a = a ++ l.map (fun x0 => (Qb3 x0))
  | [], _, _ => by simp [Q3y]
  | x :: r, i, a => by rw [Q3y, Qrw p0 r]; simp
def Qw8 (p0 : List PodTerm) (i0 : Nat) (v0_1 : List Val) : List PV :=
  [.un, .fn 115 [] [], .un, .un, .bx 0 0, .ms 1 5 0 (List.length v0_1), .un, .un, .sl (PodTerm.rows p0), .int .i64 ((List.length p0) : Int), .int .i64 (i0 : Int)] ++ nuns 12
def Qj1 (_p0 : List PodTerm) (_i0 : Nat) (v0_1 : List Val) : List Ob :=
  [⟨5, 0, true, [.int .i64 0, .int .i64 0, .str eB, .ms 2 5 0 0, .ms 3 6 0 0]⟩, ⟨5, 0, true, (Val.rows v0_1).flatten⟩, ⟨5, 0, true, []⟩, ⟨6, 0, true, []⟩]
def Qfq (p0 : List PodTerm) (i0 : Nat) (v0_1 : List Val) : En := .loop 0 Ir.Ql4 Ir.Q1ef (Qw8 p0 i0 v0_1) (Qj1 p0 i0 v0_1)
def Qp6 (_p0 : List PodTerm) (q0 : List Val) (z : Nat → PV) (_zo : Nat → List PV) : St :=
  ⟨[z 0, z 1, z 2, z 3, .bx 0 0, .ms 1 5 0 (List.length q0)] ++ zr z 6 17, [(0, ⟨5, 0, true, [.int .i64 0, .int .i64 0, .str eB, .ms 2 5 0 0, .ms 3 6 0 0]⟩), (1, ⟨5, 0, true, (Val.rows q0).flatten⟩), (2, ⟨5, 0, true, []⟩), (3, ⟨6, 0, true, []⟩)], 68⟩
theorem Q13c (p0 : List PodTerm) (i0 : Nat) (v0_1 : List Val) : VOK (Go.Pv.look (number 0 (Qj1 p0 i0 v0_1))) [(1, Val.rows v0_1)] := (VOK.cons (show Seen _ _ from Q3q (ob := ⟨5, 0, true, (Val.rows v0_1).flatten⟩) (Val.Q7 v0_1 5 rfl)) VOK.nil)
def Qgg (p0 : List PodTerm) (e : En) (q : List Val) : Prop := ∃ z zo, Q6 G e (.st (.exit 0) (Qp6 p0 q z zo))
theorem Qty (p0 : List PodTerm) {e e' : En} (h : ∀ r, Q6 G e r → Q6 G e' r) : ∀ q, Qgg p0 e q → Qgg p0 e' q
  | _, ⟨z, zo, hz⟩ => ⟨z, zo, h _ hz⟩
def Qf1 (p0 : List PodTerm) : Prop := (List.length p0 ≤ 137438953472) ∧ (∀ x0 ∈ p0, Q1i2 x0) ∧ True
def Qqs (p0 : List PodTerm) (i0 : Nat) (_v0_1 : List Val) : List PV :=
  [.un, .fn 115 [] []] ++ nuns 6 ++ [.sl (PodTerm.rows p0), .int .i64 ((List.length p0) : Int), .int .i64 (i0 : Int), .bool false]
def Qjk (_p0 : List PodTerm) (_i0 : Nat) (_v0_1 : List Val) : List (Nat × List PV) :=
  []
theorem Q15k (p0 : List PodTerm) (_H : Qf1 p0) (i0 : Nat) (v0_1 : List Val) (_ho0_0 : List.length v0_1 ≤ i0) (hc0 : (decide ((i0 : Int) < ((List.length p0) : Int))) = false) : Qgg p0 (Qfq p0 i0 v0_1) v0_1 := by
 exact ⟨(envF (Qqs p0 i0 v0_1)), (zoF (Qjk p0 i0 v0_1)), Qh (Q13c p0 i0 v0_1) (x := ((.exit 0), Qp6 p0 v0_1 (envF (Qqs p0 i0 v0_1)) (zoF (Qjk p0 i0 v0_1)))) [hB 0 hc0] [] (by kernel_rfl)⟩
theorem Q16o (p0 : List PodTerm) (H : Qf1 p0) (x0 : PodTerm) (i0 : Nat) (v0_1 : List Val) (hx0 : p0[i0]? = some x0) (hi0 : i0 < List.length p0) (ho0_0 : List.length v0_1 ≤ i0) (hc0 : (decide ((i0 : Int) < ((List.length p0) : Int))) = true) {r : Rs} (hr : Q6 G (Qfq p0 (i0 + 1) (v0_1 ++ [(Qb3 x0)])) r) : Q6 G (Qfq p0 i0 v0_1) r := by
 have hB0 := H.1
 exact Qm (Q13c p0 i0 v0_1) (y := (Qw8 p0 (i0 + 1) (v0_1 ++ [(Qb3 x0)]), Qj1 p0 (i0 + 1) (v0_1 ++ [(Qb3 x0)]))) [hB 0 hc0, hP 0 (Q1k 5 (PodTerm.rows p0) i0 _ (PodTerm.Qb hx0) rfl), hV 8 [(644, Val.rows (v0_1 ++ [(Qb3 x0)]))] (Q5e 1 580 644 5 80 0 0 true (Val.rows v0_1) (Val.rows (v0_1 ++ [(Qb3 x0)])) (Val.cells (Qb3 x0)) (List.length v0_1) (List.length (v0_1 ++ [(Qb3 x0)])) rfl (Val.Q0 v0_1).symm (Val.Q0 (v0_1 ++ [(Qb3 x0)])).symm (Val.Q15 v0_1 (Qb3 x0)) (Val.Qd v0_1) rfl (by omega)), hS 0 true (Val.Q7 (v0_1 ++ [(Qb3 x0)]) 5 rfl), hP 1 (Q29 i0 (by omega))] [aN (Q1ng x0 (H.2.1 x0 (Q2e hx0)))] (by kernel_rfl) hr
theorem Qwi (p0 : List PodTerm) (H : Qf1 p0) : ∀ (r0 : List PodTerm) (i0 : Nat) (v0_1 : List Val), List.drop i0 p0 = r0 → List.length v0_1 ≤ i0 → Qgg p0 (Qfq p0 i0 v0_1) (Q3y p0 r0 i0 v0_1)
 | [], i0, v0_1, hd, ho0_0 => by
  have hc0 : (decide ((i0 : Int) < ((List.length p0) : Int))) = false := by have := Q1g hd; simp; omega
  rw [Q3y]
  exact Q15k p0 H i0 v0_1 ho0_0 hc0
 | x0 :: r0, i0, v0_1, hd, ho0_0 => by
  obtain ⟨hx0, hi0, hd'⟩ := Q12 hd
  have hc0 : (decide ((i0 : Int) < ((List.length p0) : Int))) = true := by simp; omega
  rw [Q3y]
  exact Qty p0 (fun r hr => Q16o p0 H x0 i0 v0_1 hx0 hi0 ho0_0 hc0 hr) _ (Qwi p0 H r0 (i0 + 1) (v0_1 ++ [(Qb3 x0)]) hd' (by first | omega | (simp; omega)))
def Q5p (p0 : List PodTerm) : Val := vL (p0.map PodTerm.enc)
theorem Q15w (p0 : List PodTerm) : Q5p p0 = ((Qmd (Q3y p0 p0 0 []))) := by
  rw [Qrw]
  rfl
def Q13v (p0 : List PodTerm) : En := .call 114 [.sl (PodTerm.rows p0), .fn 115 [] []] []
def Qpg (p0 : List PodTerm) : Rs := .ret (.agg (Val.cells (Q5p p0))) []
def Qd6 (p0 : List PodTerm) : Prop := LSm PodTerm.sm p0
theorem Qch (p0 : List PodTerm) (H : Qd6 p0) : (Qf1 p0) ∧ (Qn5 (Q3y p0 p0 0 [])) ∧ True := by
  refine ⟨⟨Nat.le_trans H.1 (Nat.le_of_ble_eq_true rfl), H.2, trivial⟩, ⟨?_, trivial⟩, trivial⟩
  rw [Qrw]
  exact Q32 (fun _ h => PodTerm.Q28 h) H
theorem Q17n (p0 : List PodTerm) (H : Qd6 p0) : Q6 G (Q13v p0) (Qpg p0) := by
 unfold Qpg
 rw [Q15w]
 have hl0 := Qwi p0 ((Qch p0 H).1) p0 0 [] (by simp) (by simp)
 obtain ⟨z0, zo0, hl0⟩ := hl0
 exact Q8 (fn := Ir.K1w) rfl VOK.nil [hP 3 (Qf (PodTerm.rows p0) (List.length p0) (PodTerm.Q0 p0)), hS 0 true (Val.Q7 (Q3y p0 p0 0 []) 5 rfl), hQ (Val.Q0 (Q3y p0 p0 0 [])).symm] [aV [(1, Val.rows (Q3y p0 p0 0 []))] hl0, aN (Qs5 (Q3y p0 p0 0 []) (Qch p0 H).2.1)] (by kernel_rfl)
def Qae (p0 : SpreadRule) : Val := SpreadRule.enc p0
theorem Q1q7 (p0 : SpreadRule) : Qae p0 = ((Qa6 ([(Qk Q1b (Q18 p0.maxSkew)), (Qk Q9 (Q3k p0.required)), (Qk Qa (Q2a p0.selector)), (Qk Qj (Q2i p0.topology))]))) := by
  exact Eq.symm (Q59 (by exact Nat.le_of_ble_eq_true rfl) (by kernel_rfl))
def Q1qm (p0 : SpreadRule) : En := .call 117 [.agg (SpreadRule.cells p0)] []
def Q1iz (p0 : SpreadRule) : Rs := .ret (.agg (Val.cells (Qae p0))) []
def Q1gk (p0 : SpreadRule) : Prop := SpreadRule.sm p0
theorem Q126 (p0 : SpreadRule) (H : Q1gk p0) : (Q6b p0.selector) ∧ (Qcv ([(Qk Q1b (Q18 p0.maxSkew)), (Qk Q9 (Q3k p0.required)), (Qk Qa (Q2a p0.selector)), (Qk Qj (Q2i p0.topology))])) ∧ True := by
  repeat' with_reducible apply And.intro
  all_goals first | exact True.intro | exact H | exact H.1 | exact H.2.1 | exact H.2.2.1 | exact H.2.2.2.1 | exact H.2.2.2.2.1 | exact H.2.2.2.2.2.1 | exact H.2.2.2.2.2.2.1 | exact H.2.2.2.2.2.2.2.1 | exact H.2.2.2.2.2.2.2.2.1 | exact H.2.2.2.2.2.2.2.2.2.1 | exact H.2.2.2.2.2.2.2.2.2.2.1 | exact Qjw (by exact Nat.le_of_ble_eq_true rfl) (SpreadRule.Q28 H).all.2.2.2
theorem Q1nx (p0 : SpreadRule) (H : Q1gk p0) : Q6 G (Q1qm p0) (Q1iz p0) := by
 unfold Q1iz
 rw [Q1q7]
 exact Q8 (fn := Ir.K1n) rfl VOK.nil [] [aN (Q5z p0.maxSkew), aN (Q2w Q1b (Q18 p0.maxSkew)), aN (Qx4 p0.required), aN (Q2w Q9 (Q3k p0.required)), aN (Q9h p0.selector (Q126 p0 H).1), aN (Q2w Qa (Q2a p0.selector)), aN (Qep p0.topology), aN (Q2w Qj (Q2i p0.topology)), aN (Q6r (e' := .call 61 [.sl [(Fld.cells (Qk Q1b (Q18 p0.maxSkew))), (Fld.cells (Qk Q9 (Q3k p0.required))), (Fld.cells (Qk Qa (Q2a p0.selector))), (Fld.cells (Qk Qj (Q2i p0.topology)))]] []) (Qkj ([(Qk Q1b (Q18 p0.maxSkew)), (Qk Q9 (Q3k p0.required)), (Qk Qa (Q2a p0.selector)), (Qk Qj (Q2i p0.topology))]) (Q126 p0 H).2.1) (by simp only [Qek, Fld.Q2p, Fld.Q3b]))] (by kernel_rfl)
def Q47 (p0 : List SpreadRule) : List SpreadRule → Nat → (List Val) → List Val
 | [], _i0, v0_1 =>
  v0_1
 | x0 :: r0, i0, v0_1 =>
  Q47 p0 r0 (i0 + 1) (v0_1 ++ [(Qae x0)])
theorem Qsz (p0 : List SpreadRule) : ∀ (l : List SpreadRule) (i : Nat) (a : List Val), Q47 p0 l i a = a ++ l.map (fun x0 => (Qae x0))
  | [], _, _ => by simp [Q47]
  | x :: r, i, a => by rw [Q47, Qsz p0 r]; simp
def Qxk (p0 : List SpreadRule) (i0 : Nat) (v0_1 : List Val) : List PV :=
  [.un, .fn 117 [] [], .un, .un, .bx 0 0, .ms 1 5 0 (List.length v0_1), .un, .un, .sl (SpreadRule.rows p0), .int .i64 ((List.length p0) : Int), .int .i64 (i0 : Int)] ++ nuns 12
def Qhi (_p0 : List SpreadRule) (_i0 : Nat) (v0_1 : List Val) : List Ob :=
  [⟨5, 0, true, [.int .i64 0, .int .i64 0, .str eB, .ms 2 5 0 0, .ms 3 6 0 0]⟩, ⟨5, 0, true, (Val.rows v0_1).flatten⟩, ⟨5, 0, true, []⟩, ⟨6, 0, true, []⟩]
def Qg8 (p0 : List SpreadRule) (i0 : Nat) (v0_1 : List Val) : En := .loop 0 Ir.Qjv Ir.Q1f8 (Qxk p0 i0 v0_1) (Qhi p0 i0 v0_1)
def Qqy (_p0 : List SpreadRule) (q0 : List Val) (z : Nat → PV) (_zo : Nat → List PV) : St :=
  ⟨[z 0, z 1, z 2, z 3, .bx 0 0, .ms 1 5 0 (List.length q0)] ++ zr z 6 17, [(0, ⟨5, 0, true, [.int .i64 0, .int .i64 0, .str eB, .ms 2 5 0 0, .ms 3 6 0 0]⟩), (1, ⟨5, 0, true, (Val.rows q0).flatten⟩), (2, ⟨5, 0, true, []⟩), (3, ⟨6, 0, true, []⟩)], 68⟩
theorem Q10w (p0 : List SpreadRule) (i0 : Nat) (v0_1 : List Val) : VOK (Go.Pv.look (number 0 (Qhi p0 i0 v0_1))) [(1, Val.rows v0_1)] := (VOK.cons (show Seen _ _ from Q3q (ob := ⟨5, 0, true, (Val.rows v0_1).flatten⟩) (Val.Q7 v0_1 5 rfl)) VOK.nil)
def Qga (p0 : List SpreadRule) (e : En) (q : List Val) : Prop := ∃ z zo, Q6 G e (.st (.exit 0) (Qqy p0 q z zo))
theorem Qsk (p0 : List SpreadRule) {e e' : En} (h : ∀ r, Q6 G e r → Q6 G e' r) : ∀ q, Qga p0 e q → Qga p0 e' q
  | _, ⟨z, zo, hz⟩ => ⟨z, zo, h _ hz⟩
def Qg7 (p0 : List SpreadRule) : Prop := (List.length p0 ≤ 137438953472) ∧ (∀ x0 ∈ p0, Q1gk x0) ∧ True
def Qr3 (p0 : List SpreadRule) (i0 : Nat) (_v0_1 : List Val) : List PV :=
  [.un, .fn 117 [] []] ++ nuns 6 ++ [.sl (SpreadRule.rows p0), .int .i64 ((List.length p0) : Int), .int .i64 (i0 : Int), .bool false]
def Qiz (_p0 : List SpreadRule) (_i0 : Nat) (_v0_1 : List Val) : List (Nat × List PV) :=
  []
theorem Q14t (p0 : List SpreadRule) (_H : Qg7 p0) (i0 : Nat) (v0_1 : List Val) (_ho0_0 : List.length v0_1 ≤ i0) (hc0 : (decide ((i0 : Int) < ((List.length p0) : Int))) = false) : Qga p0 (Qg8 p0 i0 v0_1) v0_1 := by
 exact ⟨(envF (Qr3 p0 i0 v0_1)), (zoF (Qiz p0 i0 v0_1)), Qh (Q10w p0 i0 v0_1) (x := ((.exit 0), Qqy p0 v0_1 (envF (Qr3 p0 i0 v0_1)) (zoF (Qiz p0 i0 v0_1)))) [hB 0 hc0] [] (by kernel_rfl)⟩
theorem Q15q (p0 : List SpreadRule) (H : Qg7 p0) (x0 : SpreadRule) (i0 : Nat) (v0_1 : List Val) (hx0 : p0[i0]? = some x0) (hi0 : i0 < List.length p0) (ho0_0 : List.length v0_1 ≤ i0) (hc0 : (decide ((i0 : Int) < ((List.length p0) : Int))) = true) {r : Rs} (hr : Q6 G (Qg8 p0 (i0 + 1) (v0_1 ++ [(Qae x0)])) r) : Q6 G (Qg8 p0 i0 v0_1) r := by
 have hB0 := H.1
 exact Qm (Q10w p0 i0 v0_1) (y := (Qxk p0 (i0 + 1) (v0_1 ++ [(Qae x0)]), Qhi p0 (i0 + 1) (v0_1 ++ [(Qae x0)]))) [hB 0 hc0, hP 0 (Q1k 4 (SpreadRule.rows p0) i0 _ (SpreadRule.Qb hx0) rfl), hV 8 [(644, Val.rows (v0_1 ++ [(Qae x0)]))] (Q5e 1 580 644 5 80 0 0 true (Val.rows v0_1) (Val.rows (v0_1 ++ [(Qae x0)])) (Val.cells (Qae x0)) (List.length v0_1) (List.length (v0_1 ++ [(Qae x0)])) rfl (Val.Q0 v0_1).symm (Val.Q0 (v0_1 ++ [(Qae x0)])).symm (Val.Q15 v0_1 (Qae x0)) (Val.Qd v0_1) rfl (by omega)), hS 0 true (Val.Q7 (v0_1 ++ [(Qae x0)]) 5 rfl), hP 1 (Q29 i0 (by omega))] [aN (Q1nx x0 (H.2.1 x0 (Q2e hx0)))] (by kernel_rfl) hr
theorem Qup (p0 : List SpreadRule) (H : Qg7 p0) : ∀ (r0 : List SpreadRule) (i0 : Nat) (v0_1 : List Val), List.drop i0 p0 = r0 → List.length v0_1 ≤ i0 → Qga p0 (Qg8 p0 i0 v0_1) (Q47 p0 r0 i0 v0_1)
 | [], i0, v0_1, hd, ho0_0 => by
  have hc0 : (decide ((i0 : Int) < ((List.length p0) : Int))) = false := by have := Q1g hd; simp; omega
  rw [Q47]
  exact Q14t p0 H i0 v0_1 ho0_0 hc0
 | x0 :: r0, i0, v0_1, hd, ho0_0 => by
  obtain ⟨hx0, hi0, hd'⟩ := Q12 hd
  have hc0 : (decide ((i0 : Int) < ((List.length p0) : Int))) = true := by simp; omega
  rw [Q47]
  exact Qsk p0 (fun r hr => Q15q p0 H x0 i0 v0_1 hx0 hi0 ho0_0 hc0 hr) _ (Qup p0 H r0 (i0 + 1) (v0_1 ++ [(Qae x0)]) hd' (by first | omega | (simp; omega)))
def Q5s (p0 : List SpreadRule) : Val := vL (p0.map SpreadRule.enc)
theorem Q141 (p0 : List SpreadRule) : Q5s p0 = ((Qmd (Q47 p0 p0 0 []))) := by
  rw [Qsz]
  rfl
def Q13o (p0 : List SpreadRule) : En := .call 116 [.sl (SpreadRule.rows p0), .fn 117 [] []] []
def Qof (p0 : List SpreadRule) : Rs := .ret (.agg (Val.cells (Q5s p0))) []
def Qdj (p0 : List SpreadRule) : Prop := LSm SpreadRule.sm p0
theorem Qbv (p0 : List SpreadRule) (H : Qdj p0) : (Qg7 p0) ∧ (Qn5 (Q47 p0 p0 0 [])) ∧ True := by
  refine ⟨⟨Nat.le_trans H.1 (Nat.le_of_ble_eq_true rfl), H.2, trivial⟩, ⟨?_, trivial⟩, trivial⟩
  rw [Qsz]
  exact Q32 (fun _ h => SpreadRule.Q28 h) H
theorem Q16p (p0 : List SpreadRule) (H : Qdj p0) : Q6 G (Q13o p0) (Qof p0) := by
 unfold Qof
 rw [Q141]
 have hl0 := Qup p0 ((Qbv p0 H).1) p0 0 [] (by simp) (by simp)
 obtain ⟨z0, zo0, hl0⟩ := hl0
 exact Q8 (fn := Ir.K1x) rfl VOK.nil [hP 3 (Qf (SpreadRule.rows p0) (List.length p0) (SpreadRule.Q0 p0)), hS 0 true (Val.Q7 (Q47 p0 p0 0 []) 5 rfl), hQ (Val.Q0 (Q47 p0 p0 0 [])).symm] [aV [(1, Val.rows (Q47 p0 p0 0 []))] hl0, aN (Qs5 (Q47 p0 p0 0 []) (Qbv p0 H).2.1)] (by kernel_rfl)
def Qax (p0 : Toleration) : Val := Toleration.enc p0
theorem Q1q3 (p0 : Toleration) : Qax p0 = ((Qa6 ([(Qk Q1m (Q18 p0.effect)), (Qk Q1v (Q3k p0.exists_)), (Qk Q1d (Q2i p0.key)), (Qk Q1s (Q18 p0.seconds)), (Qk Q1i (Q2i p0.value))]))) := by
  exact Eq.symm (Q59 (by exact Nat.le_of_ble_eq_true rfl) (by kernel_rfl))
def Q1me (p0 : Toleration) : En := .call 119 [.agg (Toleration.cells p0)] []
def Q1j7 (p0 : Toleration) : Rs := .ret (.agg (Val.cells (Qax p0))) []
def Q1gv (p0 : Toleration) : Prop := Toleration.sm p0
theorem Q1dv (p0 : Toleration) (H : Q1gv p0) : (Qcv ([(Qk Q1m (Q18 p0.effect)), (Qk Q1v (Q3k p0.exists_)), (Qk Q1d (Q2i p0.key)), (Qk Q1s (Q18 p0.seconds)), (Qk Q1i (Q2i p0.value))])) ∧ True := by
  repeat' with_reducible apply And.intro
  all_goals first | exact True.intro | exact H | exact H.1 | exact H.2.1 | exact H.2.2.1 | exact H.2.2.2.1 | exact H.2.2.2.2.1 | exact H.2.2.2.2.2.1 | exact H.2.2.2.2.2.2.1 | exact H.2.2.2.2.2.2.2.1 | exact H.2.2.2.2.2.2.2.2.1 | exact H.2.2.2.2.2.2.2.2.2.1 | exact H.2.2.2.2.2.2.2.2.2.2.1 | exact Qjw (by exact Nat.le_of_ble_eq_true rfl) (Toleration.Q28 H).all.2.2.2
theorem Q1pt (p0 : Toleration) (H : Q1gv p0) : Q6 G (Q1me p0) (Q1j7 p0) := by
 unfold Q1j7
 rw [Q1q3]
 exact Q8 (fn := Ir.K1q) rfl VOK.nil [] [aN (Q5z p0.effect), aN (Q2w Q1m (Q18 p0.effect)), aN (Qx4 p0.exists_), aN (Q2w Q1v (Q3k p0.exists_)), aN (Qep p0.key), aN (Q2w Q1d (Q2i p0.key)), aN (Q5z p0.seconds), aN (Q2w Q1s (Q18 p0.seconds)), aN (Qep p0.value), aN (Q2w Q1i (Q2i p0.value)), aN (Q6r (e' := .call 61 [.sl [(Fld.cells (Qk Q1m (Q18 p0.effect))), (Fld.cells (Qk Q1v (Q3k p0.exists_))), (Fld.cells (Qk Q1d (Q2i p0.key))), (Fld.cells (Qk Q1s (Q18 p0.seconds))), (Fld.cells (Qk Q1i (Q2i p0.value)))]] []) (Qkj ([(Qk Q1m (Q18 p0.effect)), (Qk Q1v (Q3k p0.exists_)), (Qk Q1d (Q2i p0.key)), (Qk Q1s (Q18 p0.seconds)), (Qk Q1i (Q2i p0.value))]) (Q1dv p0 H).1) (by simp only [Qek, Fld.Q2p, Fld.Q3b]))] (by kernel_rfl)
def Q42 (p0 : List Toleration) : List Toleration → Nat → (List Val) → List Val
 | [], _i0, v0_1 =>
  v0_1
 | x0 :: r0, i0, v0_1 =>
  Q42 p0 r0 (i0 + 1) (v0_1 ++ [(Qax x0)])
theorem Qu0 (p0 : List Toleration) : ∀ (l : List Toleration) (i : Nat) (a : List Val), Q42 p0 l i a = a ++ l.map (fun x0 => (Qax x0))
  | [], _, _ => by simp [Q42]
  | x :: r, i, a => by rw [Q42, Qu0 p0 r]; simp
def Qwg (p0 : List Toleration) (i0 : Nat) (v0_1 : List Val) : List PV :=
  [.un, .fn 119 [] [], .un, .un, .bx 0 0, .ms 1 5 0 (List.length v0_1), .un, .un, .sl (Toleration.rows p0), .int .i64 ((List.length p0) : Int), .int .i64 (i0 : Int)] ++ nuns 12
def Qmr (_p0 : List Toleration) (_i0 : Nat) (v0_1 : List Val) : List Ob :=
  [⟨5, 0, true, [.int .i64 0, .int .i64 0, .str eB, .ms 2 5 0 0, .ms 3 6 0 0]⟩, ⟨5, 0, true, (Val.rows v0_1).flatten⟩, ⟨5, 0, true, []⟩, ⟨6, 0, true, []⟩]
def Qfu (p0 : List Toleration) (i0 : Nat) (v0_1 : List Val) : En := .loop 0 Ir.Qkn Ir.Q1ex (Qwg p0 i0 v0_1) (Qmr p0 i0 v0_1)
def Qpk (_p0 : List Toleration) (q0 : List Val) (z : Nat → PV) (_zo : Nat → List PV) : St :=
  ⟨[z 0, z 1, z 2, z 3, .bx 0 0, .ms 1 5 0 (List.length q0)] ++ zr z 6 17, [(0, ⟨5, 0, true, [.int .i64 0, .int .i64 0, .str eB, .ms 2 5 0 0, .ms 3 6 0 0]⟩), (1, ⟨5, 0, true, (Val.rows q0).flatten⟩), (2, ⟨5, 0, true, []⟩), (3, ⟨6, 0, true, []⟩)], 68⟩
theorem Q11m (p0 : List Toleration) (i0 : Nat) (v0_1 : List Val) : VOK (Go.Pv.look (number 0 (Qmr p0 i0 v0_1))) [(1, Val.rows v0_1)] := (VOK.cons (show Seen _ _ from Q3q (ob := ⟨5, 0, true, (Val.rows v0_1).flatten⟩) (Val.Q7 v0_1 5 rfl)) VOK.nil)
def Qfs (p0 : List Toleration) (e : En) (q : List Val) : Prop := ∃ z zo, Q6 G e (.st (.exit 0) (Qpk p0 q z zo))
theorem Qsr (p0 : List Toleration) {e e' : En} (h : ∀ r, Q6 G e r → Q6 G e' r) : ∀ q, Qfs p0 e q → Qfs p0 e' q
  | _, ⟨z, zo, hz⟩ => ⟨z, zo, h _ hz⟩
def Qex (p0 : List Toleration) : Prop := (List.length p0 ≤ 137438953472) ∧ (∀ x0 ∈ p0, Q1gv x0) ∧ True
def Qph (p0 : List Toleration) (i0 : Nat) (_v0_1 : List Val) : List PV :=
  [.un, .fn 119 [] []] ++ nuns 6 ++ [.sl (Toleration.rows p0), .int .i64 ((List.length p0) : Int), .int .i64 (i0 : Int), .bool false]
def Qkp (_p0 : List Toleration) (_i0 : Nat) (_v0_1 : List Val) : List (Nat × List PV) :=
  []
theorem Q185 (p0 : List Toleration) (_H : Qex p0) (i0 : Nat) (v0_1 : List Val) (_ho0_0 : List.length v0_1 ≤ i0) (hc0 : (decide ((i0 : Int) < ((List.length p0) : Int))) = false) : Qfs p0 (Qfu p0 i0 v0_1) v0_1 := by
 exact ⟨(envF (Qph p0 i0 v0_1)), (zoF (Qkp p0 i0 v0_1)), Qh (Q11m p0 i0 v0_1) (x := ((.exit 0), Qpk p0 v0_1 (envF (Qph p0 i0 v0_1)) (zoF (Qkp p0 i0 v0_1)))) [hB 0 hc0] [] (by kernel_rfl)⟩
theorem Q17i (p0 : List Toleration) (H : Qex p0) (x0 : Toleration) (i0 : Nat) (v0_1 : List Val) (hx0 : p0[i0]? = some x0) (hi0 : i0 < List.length p0) (ho0_0 : List.length v0_1 ≤ i0) (hc0 : (decide ((i0 : Int) < ((List.length p0) : Int))) = true) {r : Rs} (hr : Q6 G (Qfu p0 (i0 + 1) (v0_1 ++ [(Qax x0)])) r) : Q6 G (Qfu p0 i0 v0_1) r := by
 have hB0 := H.1
 exact Qm (Q11m p0 i0 v0_1) (y := (Qwg p0 (i0 + 1) (v0_1 ++ [(Qax x0)]), Qmr p0 (i0 + 1) (v0_1 ++ [(Qax x0)]))) [hB 0 hc0, hP 0 (Q1k 5 (Toleration.rows p0) i0 _ (Toleration.Qb hx0) rfl), hV 8 [(644, Val.rows (v0_1 ++ [(Qax x0)]))] (Q5e 1 580 644 5 80 0 0 true (Val.rows v0_1) (Val.rows (v0_1 ++ [(Qax x0)])) (Val.cells (Qax x0)) (List.length v0_1) (List.length (v0_1 ++ [(Qax x0)])) rfl (Val.Q0 v0_1).symm (Val.Q0 (v0_1 ++ [(Qax x0)])).symm (Val.Q15 v0_1 (Qax x0)) (Val.Qd v0_1) rfl (by omega)), hS 0 true (Val.Q7 (v0_1 ++ [(Qax x0)]) 5 rfl), hP 1 (Q29 i0 (by omega))] [aN (Q1pt x0 (H.2.1 x0 (Q2e hx0)))] (by kernel_rfl) hr
theorem Qub (p0 : List Toleration) (H : Qex p0) : ∀ (r0 : List Toleration) (i0 : Nat) (v0_1 : List Val), List.drop i0 p0 = r0 → List.length v0_1 ≤ i0 → Qfs p0 (Qfu p0 i0 v0_1) (Q42 p0 r0 i0 v0_1)
 | [], i0, v0_1, hd, ho0_0 => by
  have hc0 : (decide ((i0 : Int) < ((List.length p0) : Int))) = false := by have := Q1g hd; simp; omega
  rw [Q42]
  exact Q185 p0 H i0 v0_1 ho0_0 hc0
 | x0 :: r0, i0, v0_1, hd, ho0_0 => by
  obtain ⟨hx0, hi0, hd'⟩ := Q12 hd
  have hc0 : (decide ((i0 : Int) < ((List.length p0) : Int))) = true := by simp; omega
  rw [Q42]
  exact Qsr p0 (fun r hr => Q17i p0 H x0 i0 v0_1 hx0 hi0 ho0_0 hc0 hr) _ (Qub p0 H r0 (i0 + 1) (v0_1 ++ [(Qax x0)]) hd' (by first | omega | (simp; omega)))
def Q5o (p0 : List Toleration) : Val := vL (p0.map Toleration.enc)
theorem Q14c (p0 : List Toleration) : Q5o p0 = ((Qmd (Q42 p0 p0 0 []))) := by
  rw [Qu0]
  rfl
def Q14f (p0 : List Toleration) : En := .call 118 [.sl (Toleration.rows p0), .fn 119 [] []] []
def Qrb (p0 : List Toleration) : Rs := .ret (.agg (Val.cells (Q5o p0))) []
def Qdx (p0 : List Toleration) : Prop := LSm Toleration.sm p0
theorem Qcd (p0 : List Toleration) (H : Qdx p0) : (Qex p0) ∧ (Qn5 (Q42 p0 p0 0 [])) ∧ True := by
  refine ⟨⟨Nat.le_trans H.1 (Nat.le_of_ble_eq_true rfl), H.2, trivial⟩, ⟨?_, trivial⟩, trivial⟩
  rw [Qu0]
  exact Q32 (fun _ h => Toleration.Q28 h) H
theorem Q163 (p0 : List Toleration) (H : Qdx p0) : Q6 G (Q14f p0) (Qrb p0) := by
 unfold Qrb
 rw [Q14c]
 have hl0 := Qub p0 ((Qcd p0 H).1) p0 0 [] (by simp) (by simp)
 obtain ⟨z0, zo0, hl0⟩ := hl0
 exact Q8 (fn := Ir.K1y) rfl VOK.nil [hP 3 (Qf (Toleration.rows p0) (List.length p0) (Toleration.Q0 p0)), hS 0 true (Val.Q7 (Q42 p0 p0 0 []) 5 rfl), hQ (Val.Q0 (Q42 p0 p0 0 [])).symm] [aV [(1, Val.rows (Q42 p0 p0 0 []))] hl0, aN (Qs5 (Q42 p0 p0 0 []) (Qcd p0 H).2.1)] (by kernel_rfl)
def Q1g5 (p0 : PodSpec) : Val := PodSpec.enc p0
theorem Q1lw (p0 : PodSpec) : Q1g5 p0 = ((Qa6 ([(Qk Qc (Q5k p0.containers)), (Qk Q1p (Q18 p0.grace)), (Qk Q1y (Q2i p0.node)), (Qk Qg (Q2a p0.nodeSelector)), (Qk Qp (Q5q p0.nodeTerms)), (Qk Qt (Q5p p0.podTerms)), (Qk Qs (Q18 p0.priority)), (Qk Qy (Q18 p0.restart)), (Qk Q14 (Q5s p0.spread)), (Qk Qn (Q5o p0.tolerations))]))) := by
  exact Eq.symm (Q59 (by exact Nat.le_of_ble_eq_true rfl) (by kernel_rfl))
def Q1o6 (p0 : PodSpec) : En := .call 56 [.agg (PodSpec.cells p0)] []
def Q1jj (p0 : PodSpec) : Rs := .ret (.agg (Val.cells (Q1g5 p0))) []
def Q1h4 (p0 : PodSpec) : Prop := PodSpec.sm p0
theorem Q87 (p0 : PodSpec) (H : Q1h4 p0) : (Qd1 p0.containers) ∧ (Q6b p0.nodeSelector) ∧ (Qdh p0.nodeTerms) ∧ (Qd6 p0.podTerms) ∧ (Qdj p0.spread) ∧ (Qdx p0.tolerations) ∧ (Qcv ([(Qk Qc (Q5k p0.containers)), (Qk Q1p (Q18 p0.grace)), (Qk Q1y (Q2i p0.node)), (Qk Qg (Q2a p0.nodeSelector)), (Qk Qp (Q5q p0.nodeTerms)), (Qk Qt (Q5p p0.podTerms)), (Qk Qs (Q18 p0.priority)), (Qk Qy (Q18 p0.restart)), (Qk Q14 (Q5s p0.spread)), (Qk Qn (Q5o p0.tolerations))])) ∧ True := by
  repeat' with_reducible apply And.intro
  all_goals first | exact True.intro | exact H | exact H.1 | exact H.2.1 | exact H.2.2.1 | exact H.2.2.2.1 | exact H.2.2.2.2.1 | exact H.2.2.2.2.2.1 | exact H.2.2.2.2.2.2.1 | exact H.2.2.2.2.2.2.2.1 | exact H.2.2.2.2.2.2.2.2.1 | exact H.2.2.2.2.2.2.2.2.2.1 | exact H.2.2.2.2.2.2.2.2.2.2.1 | exact Qjw (by exact Nat.le_of_ble_eq_true rfl) (PodSpec.Q28 H).all.2.2.2
theorem Q1qn (p0 : PodSpec) (H : Q1h4 p0) : Q6 G (Q1o6 p0) (Q1jj p0) := by
 unfold Q1jj
 rw [Q1lw]
 exact Q8 (fn := Ir.K1m) rfl VOK.nil [] [aN (Q140 p0.containers (Q87 p0 H).1), aN (Q2w Qc (Q5k p0.containers)), aN (Q5z p0.grace), aN (Q2w Q1p (Q18 p0.grace)), aN (Qep p0.node), aN (Q2w Q1y (Q2i p0.node)), aN (Q9h p0.nodeSelector (Q87 p0 H).2.1), aN (Q2w Qg (Q2a p0.nodeSelector)), aN (Q17l p0.nodeTerms (Q87 p0 H).2.2.1), aN (Q2w Qp (Q5q p0.nodeTerms)), aN (Q17n p0.podTerms (Q87 p0 H).2.2.2.1), aN (Q2w Qt (Q5p p0.podTerms)), aN (Q5z p0.priority), aN (Q2w Qs (Q18 p0.priority)), aN (Q5z p0.restart), aN (Q2w Qy (Q18 p0.restart)), aN (Q16p p0.spread (Q87 p0 H).2.2.2.2.1), aN (Q2w Q14 (Q5s p0.spread)), aN (Q163 p0.tolerations (Q87 p0 H).2.2.2.2.2.1), aN (Q2w Qn (Q5o p0.tolerations)), aN (Q6r (e' := .call 61 [.sl [(Fld.cells (Qk Qc (Q5k p0.containers))), (Fld.cells (Qk Q1p (Q18 p0.grace))), (Fld.cells (Qk Q1y (Q2i p0.node))), (Fld.cells (Qk Qg (Q2a p0.nodeSelector))), (Fld.cells (Qk Qp (Q5q p0.nodeTerms))), (Fld.cells (Qk Qt (Q5p p0.podTerms))), (Fld.cells (Qk Qs (Q18 p0.priority))), (Fld.cells (Qk Qy (Q18 p0.restart))), (Fld.cells (Qk Q14 (Q5s p0.spread))), (Fld.cells (Qk Qn (Q5o p0.tolerations)))]] []) (Qkj ([(Qk Qc (Q5k p0.containers)), (Qk Q1p (Q18 p0.grace)), (Qk Q1y (Q2i p0.node)), (Qk Qg (Q2a p0.nodeSelector)), (Qk Qp (Q5q p0.nodeTerms)), (Qk Qt (Q5p p0.podTerms)), (Qk Qs (Q18 p0.priority)), (Qk Qy (Q18 p0.restart)), (Qk Q14 (Q5s p0.spread)), (Qk Qn (Q5o p0.tolerations))]) (Q87 p0 H).2.2.2.2.2.2.1) (by simp only [Qek, Fld.Q2p, Fld.Q3b]))] (by kernel_rfl)
def Qap (p0 : ContainerStatus) : Val := ContainerStatus.enc p0
theorem Q1px (p0 : ContainerStatus) : Qap p0 = ((Qa6 ([(Qk Q11 (Q18 p0.exitCode)), (Qk Qv (Q2i p0.name)), (Qk Qq (Q3k p0.ready)), (Qk Q10 (Q18 p0.restarts)), (Qk Q20 (Q18 p0.since)), (Qk Qw (Q3k p0.started)), (Qk Q1x (Q18 p0.state))]))) := by
  exact Eq.symm (Q59 (by exact Nat.le_of_ble_eq_true rfl) (by kernel_rfl))
def Q1qc (p0 : ContainerStatus) : En := .call 121 [.agg (ContainerStatus.cells p0)] []
def Q1kw (p0 : ContainerStatus) : Rs := .ret (.agg (Val.cells (Qap p0))) []
def Q1hd (p0 : ContainerStatus) : Prop := ContainerStatus.sm p0
theorem Q1cc (p0 : ContainerStatus) (H : Q1hd p0) : (Qcv ([(Qk Q11 (Q18 p0.exitCode)), (Qk Qv (Q2i p0.name)), (Qk Qq (Q3k p0.ready)), (Qk Q10 (Q18 p0.restarts)), (Qk Q20 (Q18 p0.since)), (Qk Qw (Q3k p0.started)), (Qk Q1x (Q18 p0.state))])) ∧ True := by
  repeat' with_reducible apply And.intro
  all_goals first | exact True.intro | exact H | exact H.1 | exact H.2.1 | exact H.2.2.1 | exact H.2.2.2.1 | exact H.2.2.2.2.1 | exact H.2.2.2.2.2.1 | exact H.2.2.2.2.2.2.1 | exact H.2.2.2.2.2.2.2.1 | exact H.2.2.2.2.2.2.2.2.1 | exact H.2.2.2.2.2.2.2.2.2.1 | exact H.2.2.2.2.2.2.2.2.2.2.1 | exact Qjw (by exact Nat.le_of_ble_eq_true rfl) (ContainerStatus.Q28 H).all.2.2.2
theorem Q1q0 (p0 : ContainerStatus) (H : Q1hd p0) : Q6 G (Q1qc p0) (Q1kw p0) := by
 unfold Q1kw
 rw [Q1px]
 exact Q8 (fn := Ir.K1e) rfl VOK.nil [] [aN (Q5z p0.exitCode), aN (Q2w Q11 (Q18 p0.exitCode)), aN (Qep p0.name), aN (Q2w Qv (Q2i p0.name)), aN (Qx4 p0.ready), aN (Q2w Qq (Q3k p0.ready)), aN (Q5z p0.restarts), aN (Q2w Q10 (Q18 p0.restarts)), aN (Q5z p0.since), aN (Q2w Q20 (Q18 p0.since)), aN (Qx4 p0.started), aN (Q2w Qw (Q3k p0.started)), aN (Q5z p0.state), aN (Q2w Q1x (Q18 p0.state)), aN (Q6r (e' := .call 61 [.sl [(Fld.cells (Qk Q11 (Q18 p0.exitCode))), (Fld.cells (Qk Qv (Q2i p0.name))), (Fld.cells (Qk Qq (Q3k p0.ready))), (Fld.cells (Qk Q10 (Q18 p0.restarts))), (Fld.cells (Qk Q20 (Q18 p0.since))), (Fld.cells (Qk Qw (Q3k p0.started))), (Fld.cells (Qk Q1x (Q18 p0.state)))]] []) (Qkj ([(Qk Q11 (Q18 p0.exitCode)), (Qk Qv (Q2i p0.name)), (Qk Qq (Q3k p0.ready)), (Qk Q10 (Q18 p0.restarts)), (Qk Q20 (Q18 p0.since)), (Qk Qw (Q3k p0.started)), (Qk Q1x (Q18 p0.state))]) (Q1cc p0 H).1) (by simp only [Qek, Fld.Q2p, Fld.Q3b]))] (by kernel_rfl)
def Q3z (p0 : List ContainerStatus) : List ContainerStatus → Nat → (List Val) → List Val
 | [], _i0, v0_1 =>
  v0_1
 | x0 :: r0, i0, v0_1 =>
  Q3z p0 r0 (i0 + 1) (v0_1 ++ [(Qap x0)])
theorem Qsf (p0 : List ContainerStatus) : ∀ (l : List ContainerStatus) (i : Nat) (a : List Val), Q3z p0 l i a = a ++ l.map (fun x0 => (Qap x0))
  | [], _, _ => by simp [Q3z]
  | x :: r, i, a => by rw [Q3z, Qsf p0 r]; simp
def Qww (p0 : List ContainerStatus) (i0 : Nat) (v0_1 : List Val) : List PV :=
  [.un, .fn 121 [] [], .un, .un, .bx 0 0, .ms 1 5 0 (List.length v0_1), .un, .un, .sl (ContainerStatus.rows p0), .int .i64 ((List.length p0) : Int), .int .i64 (i0 : Int)] ++ nuns 12
def Qm2 (_p0 : List ContainerStatus) (_i0 : Nat) (v0_1 : List Val) : List Ob :=
  [⟨5, 0, true, [.int .i64 0, .int .i64 0, .str eB, .ms 2 5 0 0, .ms 3 6 0 0]⟩, ⟨5, 0, true, (Val.rows v0_1).flatten⟩, ⟨5, 0, true, []⟩, ⟨6, 0, true, []⟩]
def Qgi (p0 : List ContainerStatus) (i0 : Nat) (v0_1 : List Val) : En := .loop 0 Ir.Qkz Ir.Q1en (Qww p0 i0 v0_1) (Qm2 p0 i0 v0_1)
def Qqj (_p0 : List ContainerStatus) (q0 : List Val) (z : Nat → PV) (_zo : Nat → List PV) : St :=
  ⟨[z 0, z 1, z 2, z 3, .bx 0 0, .ms 1 5 0 (List.length q0)] ++ zr z 6 17, [(0, ⟨5, 0, true, [.int .i64 0, .int .i64 0, .str eB, .ms 2 5 0 0, .ms 3 6 0 0]⟩), (1, ⟨5, 0, true, (Val.rows q0).flatten⟩), (2, ⟨5, 0, true, []⟩), (3, ⟨6, 0, true, []⟩)], 68⟩
theorem Q129 (p0 : List ContainerStatus) (i0 : Nat) (v0_1 : List Val) : VOK (Go.Pv.look (number 0 (Qm2 p0 i0 v0_1))) [(1, Val.rows v0_1)] := (VOK.cons (show Seen _ _ from Q3q (ob := ⟨5, 0, true, (Val.rows v0_1).flatten⟩) (Val.Q7 v0_1 5 rfl)) VOK.nil)
def Qgz (p0 : List ContainerStatus) (e : En) (q : List Val) : Prop := ∃ z zo, Q6 G e (.st (.exit 0) (Qqj p0 q z zo))
theorem Qss (p0 : List ContainerStatus) {e e' : En} (h : ∀ r, Q6 G e r → Q6 G e' r) : ∀ q, Qgz p0 e q → Qgz p0 e' q
  | _, ⟨z, zo, hz⟩ => ⟨z, zo, h _ hz⟩
def Qgo (p0 : List ContainerStatus) : Prop := (List.length p0 ≤ 137438953472) ∧ (∀ x0 ∈ p0, Q1hd x0) ∧ True
def Qp2 (p0 : List ContainerStatus) (i0 : Nat) (_v0_1 : List Val) : List PV :=
  [.un, .fn 121 [] []] ++ nuns 6 ++ [.sl (ContainerStatus.rows p0), .int .i64 ((List.length p0) : Int), .int .i64 (i0 : Int), .bool false]
def Qik (_p0 : List ContainerStatus) (_i0 : Nat) (_v0_1 : List Val) : List (Nat × List PV) :=
  []
theorem Q14b (p0 : List ContainerStatus) (_H : Qgo p0) (i0 : Nat) (v0_1 : List Val) (_ho0_0 : List.length v0_1 ≤ i0) (hc0 : (decide ((i0 : Int) < ((List.length p0) : Int))) = false) : Qgz p0 (Qgi p0 i0 v0_1) v0_1 := by
 exact ⟨(envF (Qp2 p0 i0 v0_1)), (zoF (Qik p0 i0 v0_1)), Qh (Q129 p0 i0 v0_1) (x := ((.exit 0), Qqj p0 v0_1 (envF (Qp2 p0 i0 v0_1)) (zoF (Qik p0 i0 v0_1)))) [hB 0 hc0] [] (by kernel_rfl)⟩
theorem Q155 (p0 : List ContainerStatus) (H : Qgo p0) (x0 : ContainerStatus) (i0 : Nat) (v0_1 : List Val) (hx0 : p0[i0]? = some x0) (hi0 : i0 < List.length p0) (ho0_0 : List.length v0_1 ≤ i0) (hc0 : (decide ((i0 : Int) < ((List.length p0) : Int))) = true) {r : Rs} (hr : Q6 G (Qgi p0 (i0 + 1) (v0_1 ++ [(Qap x0)])) r) : Q6 G (Qgi p0 i0 v0_1) r := by
 have hB0 := H.1
 exact Qm (Q129 p0 i0 v0_1) (y := (Qww p0 (i0 + 1) (v0_1 ++ [(Qap x0)]), Qm2 p0 (i0 + 1) (v0_1 ++ [(Qap x0)]))) [hB 0 hc0, hP 0 (Q1k 7 (ContainerStatus.rows p0) i0 _ (ContainerStatus.Qb hx0) rfl), hV 8 [(644, Val.rows (v0_1 ++ [(Qap x0)]))] (Q5e 1 580 644 5 80 0 0 true (Val.rows v0_1) (Val.rows (v0_1 ++ [(Qap x0)])) (Val.cells (Qap x0)) (List.length v0_1) (List.length (v0_1 ++ [(Qap x0)])) rfl (Val.Q0 v0_1).symm (Val.Q0 (v0_1 ++ [(Qap x0)])).symm (Val.Q15 v0_1 (Qap x0)) (Val.Qd v0_1) rfl (by omega)), hS 0 true (Val.Q7 (v0_1 ++ [(Qap x0)]) 5 rfl), hP 1 (Q29 i0 (by omega))] [aN (Q1q0 x0 (H.2.1 x0 (Q2e hx0)))] (by kernel_rfl) hr
theorem Qyf (p0 : List ContainerStatus) (H : Qgo p0) : ∀ (r0 : List ContainerStatus) (i0 : Nat) (v0_1 : List Val), List.drop i0 p0 = r0 → List.length v0_1 ≤ i0 → Qgz p0 (Qgi p0 i0 v0_1) (Q3z p0 r0 i0 v0_1)
 | [], i0, v0_1, hd, ho0_0 => by
  have hc0 : (decide ((i0 : Int) < ((List.length p0) : Int))) = false := by have := Q1g hd; simp; omega
  rw [Q3z]
  exact Q14b p0 H i0 v0_1 ho0_0 hc0
 | x0 :: r0, i0, v0_1, hd, ho0_0 => by
  obtain ⟨hx0, hi0, hd'⟩ := Q12 hd
  have hc0 : (decide ((i0 : Int) < ((List.length p0) : Int))) = true := by simp; omega
  rw [Q3z]
  exact Qss p0 (fun r hr => Q155 p0 H x0 i0 v0_1 hx0 hi0 ho0_0 hc0 hr) _ (Qyf p0 H r0 (i0 + 1) (v0_1 ++ [(Qap x0)]) hd' (by first | omega | (simp; omega)))
def Q5m (p0 : List ContainerStatus) : Val := vL (p0.map ContainerStatus.enc)
theorem Q189 (p0 : List ContainerStatus) : Q5m p0 = ((Qmd (Q3z p0 p0 0 []))) := by
  rw [Qsf]
  rfl
def Q17o (p0 : List ContainerStatus) : En := .call 120 [.sl (ContainerStatus.rows p0), .fn 121 [] []] []
def Qqo (p0 : List ContainerStatus) : Rs := .ret (.agg (Val.cells (Q5m p0))) []
def Qcz (p0 : List ContainerStatus) : Prop := LSm ContainerStatus.sm p0
theorem Qbl (p0 : List ContainerStatus) (H : Qcz p0) : (Qgo p0) ∧ (Qn5 (Q3z p0 p0 0 [])) ∧ True := by
  refine ⟨⟨Nat.le_trans H.1 (Nat.le_of_ble_eq_true rfl), H.2, trivial⟩, ⟨?_, trivial⟩, trivial⟩
  rw [Qsf]
  exact Q32 (fun _ h => ContainerStatus.Q28 h) H
theorem Q186 (p0 : List ContainerStatus) (H : Qcz p0) : Q6 G (Q17o p0) (Qqo p0) := by
 unfold Qqo
 rw [Q189]
 have hl0 := Qyf p0 ((Qbl p0 H).1) p0 0 [] (by simp) (by simp)
 obtain ⟨z0, zo0, hl0⟩ := hl0
 exact Q8 (fn := Ir.K1z) rfl VOK.nil [hP 3 (Qf (ContainerStatus.rows p0) (List.length p0) (ContainerStatus.Q0 p0)), hS 0 true (Val.Q7 (Q3z p0 p0 0 []) 5 rfl), hQ (Val.Q0 (Q3z p0 p0 0 [])).symm] [aV [(1, Val.rows (Q3z p0 p0 0 []))] hl0, aN (Qs5 (Q3z p0 p0 0 []) (Qbl p0 H).2.1)] (by kernel_rfl)
def Q1h6 (p0 : PodStatus) : Val := PodStatus.enc p0
theorem Q1my (p0 : PodStatus) : Q1h6 p0 = ((Qa6 ([(Qk Q2b (Q18 p0.address)), (Qk Qc (Q5m p0.containers)), (Qk Q2l (Q18 p0.finished)), (Qk Q23 (Q2i p0.nominated)), (Qk Q2s (Q18 p0.phase)), (Qk Qq (Q3k p0.ready)), (Qk Q1t (Q18 p0.readySince)), (Qk Q34 (Q2i p0.reason)), (Qk Qw (Q18 p0.started))]))) := by
  exact Eq.symm (Q59 (by exact Nat.le_of_ble_eq_true rfl) (by kernel_rfl))
def Q1na (p0 : PodStatus) : En := .call 57 [.agg (PodStatus.cells p0)] []
def Q1jc (p0 : PodStatus) : Rs := .ret (.agg (Val.cells (Q1h6 p0))) []
def Q1gm (p0 : PodStatus) : Prop := PodStatus.sm p0
theorem Q12h (p0 : PodStatus) (H : Q1gm p0) : (Qcz p0.containers) ∧ (Qcv ([(Qk Q2b (Q18 p0.address)), (Qk Qc (Q5m p0.containers)), (Qk Q2l (Q18 p0.finished)), (Qk Q23 (Q2i p0.nominated)), (Qk Q2s (Q18 p0.phase)), (Qk Qq (Q3k p0.ready)), (Qk Q1t (Q18 p0.readySince)), (Qk Q34 (Q2i p0.reason)), (Qk Qw (Q18 p0.started))])) ∧ True := by
  repeat' with_reducible apply And.intro
  all_goals first | exact True.intro | exact H | exact H.1 | exact H.2.1 | exact H.2.2.1 | exact H.2.2.2.1 | exact H.2.2.2.2.1 | exact H.2.2.2.2.2.1 | exact H.2.2.2.2.2.2.1 | exact H.2.2.2.2.2.2.2.1 | exact H.2.2.2.2.2.2.2.2.1 | exact H.2.2.2.2.2.2.2.2.2.1 | exact H.2.2.2.2.2.2.2.2.2.2.1 | exact Qjw (by exact Nat.le_of_ble_eq_true rfl) (PodStatus.Q28 H).all.2.2.2
theorem Q1mt (p0 : PodStatus) (H : Q1gm p0) : Q6 G (Q1na p0) (Q1jc p0) := by
 unfold Q1jc
 rw [Q1my]
 exact Q8 (fn := Ir.K1o) rfl VOK.nil [] [aN (Q5z p0.address), aN (Q2w Q2b (Q18 p0.address)), aN (Q186 p0.containers (Q12h p0 H).1), aN (Q2w Qc (Q5m p0.containers)), aN (Q5z p0.finished), aN (Q2w Q2l (Q18 p0.finished)), aN (Qep p0.nominated), aN (Q2w Q23 (Q2i p0.nominated)), aN (Q5z p0.phase), aN (Q2w Q2s (Q18 p0.phase)), aN (Qx4 p0.ready), aN (Q2w Qq (Q3k p0.ready)), aN (Q5z p0.readySince), aN (Q2w Q1t (Q18 p0.readySince)), aN (Qep p0.reason), aN (Q2w Q34 (Q2i p0.reason)), aN (Q5z p0.started), aN (Q2w Qw (Q18 p0.started)), aN (Q6r (e' := .call 61 [.sl [(Fld.cells (Qk Q2b (Q18 p0.address))), (Fld.cells (Qk Qc (Q5m p0.containers))), (Fld.cells (Qk Q2l (Q18 p0.finished))), (Fld.cells (Qk Q23 (Q2i p0.nominated))), (Fld.cells (Qk Q2s (Q18 p0.phase))), (Fld.cells (Qk Qq (Q3k p0.ready))), (Fld.cells (Qk Q1t (Q18 p0.readySince))), (Fld.cells (Qk Q34 (Q2i p0.reason))), (Fld.cells (Qk Qw (Q18 p0.started)))]] []) (Qkj ([(Qk Q2b (Q18 p0.address)), (Qk Qc (Q5m p0.containers)), (Qk Q2l (Q18 p0.finished)), (Qk Q23 (Q2i p0.nominated)), (Qk Q2s (Q18 p0.phase)), (Qk Qq (Q3k p0.ready)), (Qk Q1t (Q18 p0.readySince)), (Qk Q34 (Q2i p0.reason)), (Qk Qw (Q18 p0.started))]) (Q12h p0 H).2.1) (by simp only [Qek, Fld.Q2p, Fld.Q3b]))] (by kernel_rfl)
end Go.Proofs.YtiflaadeikaghaaGreat
end

