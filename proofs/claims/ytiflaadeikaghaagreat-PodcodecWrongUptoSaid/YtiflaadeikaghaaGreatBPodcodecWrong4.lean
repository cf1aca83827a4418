/- Texts of the claim, merged by a program; what the statement does not reach is left out. -/
import Derived.Test.YtiflaadeikaghaaGreatBPodcodecWrong3

section
/- Structures as values: what encodes and what decodes them, in plain words (printed by a program). -/
namespace Go.Proofs.YtiflaadeikaghaaGreat
open Go.Pv
structure Probe where
  delay : Int
  period : Int
  success : Int
  failure : Int
def Probe.cells (x : Probe) : List PV :=
  [.int .i64 x.delay, .int .i64 x.period, .int .i64 x.success, .int .i64 x.failure]
def Probe.rows (l : List Probe) : List (List PV) := l.map Probe.cells
theorem Probe.Q5 (l : List Probe) : (Probe.rows l).length = l.length := by simp [Probe.rows]
theorem Probe.Qb {l : List Probe} {i : Nat} {x : Probe} (h : l[i]? = some x) : (Probe.rows l)[i]? = some (Probe.cells x) := Go.Pv.Qb h
theorem Probe.Q12 (l : List Probe) (x : Probe) : Probe.rows (l ++ [x]) = Probe.rows l ++ [Probe.cells x] := by simp [Probe.rows]
theorem Probe.Q2r (l m : List Probe) : Probe.rows (l ++ m) = Probe.rows l ++ Probe.rows m := by simp [Probe.rows]
theorem Probe.Q2l (l : List Probe) (k : Nat) (x : Probe) : Probe.rows (l.set k x) = (Probe.rows l).set k (Probe.cells x) := by simp [Probe.rows, List.map_set]
theorem Probe.Qf (l : List Probe) : ∀ r ∈ Probe.rows l, r.length = 4 := Q2z (f := Probe.cells) (fun _ => rfl) l
theorem Probe.Q9 (l : List Probe) (sz : Nat) (h : sz = 4) : ViewOK sz (Probe.rows l).flatten (Probe.rows l) := by subst h; exact ⟨rfl, Probe.Qf l, Q2k (f := Probe.cells) (fun _ => rfl) l⟩
structure Resources where
  cPU : Int
  memory : Int
  disk : Int
def Resources.cells (x : Resources) : List PV :=
  [.int .i64 x.cPU, .int .i64 x.memory, .int .i64 x.disk]
def Resources.rows (l : List Resources) : List (List PV) := l.map Resources.cells
theorem Resources.Q5 (l : List Resources) : (Resources.rows l).length = l.length := by simp [Resources.rows]
theorem Resources.Qb {l : List Resources} {i : Nat} {x : Resources} (h : l[i]? = some x) : (Resources.rows l)[i]? = some (Resources.cells x) := Go.Pv.Qb h
theorem Resources.Q12 (l : List Resources) (x : Resources) : Resources.rows (l ++ [x]) = Resources.rows l ++ [Resources.cells x] := by simp [Resources.rows]
theorem Resources.Q2r (l m : List Resources) : Resources.rows (l ++ m) = Resources.rows l ++ Resources.rows m := by simp [Resources.rows]
theorem Resources.Q2l (l : List Resources) (k : Nat) (x : Resources) : Resources.rows (l.set k x) = (Resources.rows l).set k (Resources.cells x) := by simp [Resources.rows, List.map_set]
theorem Resources.Qf (l : List Resources) : ∀ r ∈ Resources.rows l, r.length = 3 := Q2z (f := Resources.cells) (fun _ => rfl) l
theorem Resources.Q9 (l : List Resources) (sz : Nat) (h : sz = 3) : ViewOK sz (Resources.rows l).flatten (Resources.rows l) := by subst h; exact ⟨rfl, Resources.Qf l, Q2k (f := Resources.cells) (fun _ => rfl) l⟩
structure Container where
  name : ByteArray
  image : ByteArray
  request : Resources
  limit : Resources
  live : List Probe
  ready : List Probe
  startup : List Probe
def Container.cells (x : Container) : List PV :=
  [.str x.name, .str x.image, .int .i64 x.request.cPU, .int .i64 x.request.memory, .int .i64 x.request.disk, .int .i64 x.limit.cPU, .int .i64 x.limit.memory, .int .i64 x.limit.disk, .sl (Probe.rows x.live), .sl (Probe.rows x.ready), .sl (Probe.rows x.startup)]
def Container.rows (l : List Container) : List (List PV) := l.map Container.cells
theorem Container.Q5 (l : List Container) : (Container.rows l).length = l.length := by simp [Container.rows]
theorem Container.Qb {l : List Container} {i : Nat} {x : Container} (h : l[i]? = some x) : (Container.rows l)[i]? = some (Container.cells x) := Go.Pv.Qb h
theorem Container.Q12 (l : List Container) (x : Container) : Container.rows (l ++ [x]) = Container.rows l ++ [Container.cells x] := by simp [Container.rows]
theorem Container.Q2r (l m : List Container) : Container.rows (l ++ m) = Container.rows l ++ Container.rows m := by simp [Container.rows]
theorem Container.Q2l (l : List Container) (k : Nat) (x : Container) : Container.rows (l.set k x) = (Container.rows l).set k (Container.cells x) := by simp [Container.rows, List.map_set]
theorem Container.Qf (l : List Container) : ∀ r ∈ Container.rows l, r.length = 11 := Q2z (f := Container.cells) (fun _ => rfl) l
theorem Container.Q9 (l : List Container) (sz : Nat) (h : sz = 11) : ViewOK sz (Container.rows l).flatten (Container.rows l) := by subst h; exact ⟨rfl, Container.Qf l, Q2k (f := Container.cells) (fun _ => rfl) l⟩
structure Requirement where
  key : ByteArray
  op : Int
  values : List ByteArray
def Requirement.cells (x : Requirement) : List PV :=
  [.str x.key, .int .i64 x.op, .sl (Qc x.values)]
def Requirement.rows (l : List Requirement) : List (List PV) := l.map Requirement.cells
theorem Requirement.Q5 (l : List Requirement) : (Requirement.rows l).length = l.length := by simp [Requirement.rows]
theorem Requirement.Qb {l : List Requirement} {i : Nat} {x : Requirement} (h : l[i]? = some x) : (Requirement.rows l)[i]? = some (Requirement.cells x) := Go.Pv.Qb h
theorem Requirement.Q12 (l : List Requirement) (x : Requirement) : Requirement.rows (l ++ [x]) = Requirement.rows l ++ [Requirement.cells x] := by simp [Requirement.rows]
theorem Requirement.Q2r (l m : List Requirement) : Requirement.rows (l ++ m) = Requirement.rows l ++ Requirement.rows m := by simp [Requirement.rows]
theorem Requirement.Q2l (l : List Requirement) (k : Nat) (x : Requirement) : Requirement.rows (l.set k x) = (Requirement.rows l).set k (Requirement.cells x) := by simp [Requirement.rows, List.map_set]
theorem Requirement.Qf (l : List Requirement) : ∀ r ∈ Requirement.rows l, r.length = 3 := Q2z (f := Requirement.cells) (fun _ => rfl) l
theorem Requirement.Q9 (l : List Requirement) (sz : Nat) (h : sz = 3) : ViewOK sz (Requirement.rows l).flatten (Requirement.rows l) := by subst h; exact ⟨rfl, Requirement.Qf l, Q2k (f := Requirement.cells) (fun _ => rfl) l⟩
structure NodeTerm where
  required : Bool
  selector : List Requirement
  weight : Int
def NodeTerm.cells (x : NodeTerm) : List PV :=
  [.bool x.required, .sl (Requirement.rows x.selector), .int .i64 x.weight]
def NodeTerm.rows (l : List NodeTerm) : List (List PV) := l.map NodeTerm.cells
theorem NodeTerm.Q5 (l : List NodeTerm) : (NodeTerm.rows l).length = l.length := by simp [NodeTerm.rows]
theorem NodeTerm.Qb {l : List NodeTerm} {i : Nat} {x : NodeTerm} (h : l[i]? = some x) : (NodeTerm.rows l)[i]? = some (NodeTerm.cells x) := Go.Pv.Qb h
theorem NodeTerm.Q12 (l : List NodeTerm) (x : NodeTerm) : NodeTerm.rows (l ++ [x]) = NodeTerm.rows l ++ [NodeTerm.cells x] := by simp [NodeTerm.rows]
theorem NodeTerm.Q2r (l m : List NodeTerm) : NodeTerm.rows (l ++ m) = NodeTerm.rows l ++ NodeTerm.rows m := by simp [NodeTerm.rows]
theorem NodeTerm.Q2l (l : List NodeTerm) (k : Nat) (x : NodeTerm) : NodeTerm.rows (l.set k x) = (NodeTerm.rows l).set k (NodeTerm.cells x) := by simp [NodeTerm.rows, List.map_set]
theorem NodeTerm.Qf (l : List NodeTerm) : ∀ r ∈ NodeTerm.rows l, r.length = 3 := Q2z (f := NodeTerm.cells) (fun _ => rfl) l
theorem NodeTerm.Q9 (l : List NodeTerm) (sz : Nat) (h : sz = 3) : ViewOK sz (NodeTerm.rows l).flatten (NodeTerm.rows l) := by subst h; exact ⟨rfl, NodeTerm.Qf l, Q2k (f := NodeTerm.cells) (fun _ => rfl) l⟩
structure PodTerm where
  required : Bool
  anti : Bool
  selector : List Requirement
  topology : ByteArray
  weight : Int
def PodTerm.cells (x : PodTerm) : List PV :=
  [.bool x.required, .bool x.anti, .sl (Requirement.rows x.selector), .str x.topology, .int .i64 x.weight]
def PodTerm.rows (l : List PodTerm) : List (List PV) := l.map PodTerm.cells
theorem PodTerm.Q5 (l : List PodTerm) : (PodTerm.rows l).length = l.length := by simp [PodTerm.rows]
theorem PodTerm.Qb {l : List PodTerm} {i : Nat} {x : PodTerm} (h : l[i]? = some x) : (PodTerm.rows l)[i]? = some (PodTerm.cells x) := Go.Pv.Qb h
theorem PodTerm.Q12 (l : List PodTerm) (x : PodTerm) : PodTerm.rows (l ++ [x]) = PodTerm.rows l ++ [PodTerm.cells x] := by simp [PodTerm.rows]
theorem PodTerm.Q2r (l m : List PodTerm) : PodTerm.rows (l ++ m) = PodTerm.rows l ++ PodTerm.rows m := by simp [PodTerm.rows]
theorem PodTerm.Q2l (l : List PodTerm) (k : Nat) (x : PodTerm) : PodTerm.rows (l.set k x) = (PodTerm.rows l).set k (PodTerm.cells x) := by simp [PodTerm.rows, List.map_set]
theorem PodTerm.Qf (l : List PodTerm) : ∀ r ∈ PodTerm.rows l, r.length = 5 := Q2z (f := PodTerm.cells) (fun _ => rfl) l
theorem PodTerm.Q9 (l : List PodTerm) (sz : Nat) (h : sz = 5) : ViewOK sz (PodTerm.rows l).flatten (PodTerm.rows l) := by subst h; exact ⟨rfl, PodTerm.Qf l, Q2k (f := PodTerm.cells) (fun _ => rfl) l⟩
structure SpreadRule where
  maxSkew : Int
  topology : ByteArray
  selector : List Requirement
  required : Bool
def SpreadRule.cells (x : SpreadRule) : List PV :=
  [.int .i64 x.maxSkew, .str x.topology, .sl (Requirement.rows x.selector), .bool x.required]
def SpreadRule.rows (l : List SpreadRule) : List (List PV) := l.map SpreadRule.cells
theorem SpreadRule.Q5 (l : List SpreadRule) : (SpreadRule.rows l).length = l.length := by simp [SpreadRule.rows]
theorem SpreadRule.Qb {l : List SpreadRule} {i : Nat} {x : SpreadRule} (h : l[i]? = some x) : (SpreadRule.rows l)[i]? = some (SpreadRule.cells x) := Go.Pv.Qb h
theorem SpreadRule.Q12 (l : List SpreadRule) (x : SpreadRule) : SpreadRule.rows (l ++ [x]) = SpreadRule.rows l ++ [SpreadRule.cells x] := by simp [SpreadRule.rows]
theorem SpreadRule.Q2r (l m : List SpreadRule) : SpreadRule.rows (l ++ m) = SpreadRule.rows l ++ SpreadRule.rows m := by simp [SpreadRule.rows]
theorem SpreadRule.Q2l (l : List SpreadRule) (k : Nat) (x : SpreadRule) : SpreadRule.rows (l.set k x) = (SpreadRule.rows l).set k (SpreadRule.cells x) := by simp [SpreadRule.rows, List.map_set]
theorem SpreadRule.Qf (l : List SpreadRule) : ∀ r ∈ SpreadRule.rows l, r.length = 4 := Q2z (f := SpreadRule.cells) (fun _ => rfl) l
theorem SpreadRule.Q9 (l : List SpreadRule) (sz : Nat) (h : sz = 4) : ViewOK sz (SpreadRule.rows l).flatten (SpreadRule.rows l) := by subst h; exact ⟨rfl, SpreadRule.Qf l, Q2k (f := SpreadRule.cells) (fun _ => rfl) l⟩
structure Toleration where
  key : ByteArray
  value : ByteArray
  exists_ : Bool
  effect : Int
  seconds : Int
def Toleration.cells (x : Toleration) : List PV :=
  [.str x.key, .str x.value, .bool x.exists_, .int .i64 x.effect, .int .i64 x.seconds]
def Toleration.rows (l : List Toleration) : List (List PV) := l.map Toleration.cells
theorem Toleration.Q5 (l : List Toleration) : (Toleration.rows l).length = l.length := by simp [Toleration.rows]
theorem Toleration.Qb {l : List Toleration} {i : Nat} {x : Toleration} (h : l[i]? = some x) : (Toleration.rows l)[i]? = some (Toleration.cells x) := Go.Pv.Qb h
theorem Toleration.Q12 (l : List Toleration) (x : Toleration) : Toleration.rows (l ++ [x]) = Toleration.rows l ++ [Toleration.cells x] := by simp [Toleration.rows]
theorem Toleration.Q2r (l m : List Toleration) : Toleration.rows (l ++ m) = Toleration.rows l ++ Toleration.rows m := by simp [Toleration.rows]
theorem Toleration.Q2l (l : List Toleration) (k : Nat) (x : Toleration) : Toleration.rows (l.set k x) = (Toleration.rows l).set k (Toleration.cells x) := by simp [Toleration.rows, List.map_set]
theorem Toleration.Qf (l : List Toleration) : ∀ r ∈ Toleration.rows l, r.length = 5 := Q2z (f := Toleration.cells) (fun _ => rfl) l
theorem Toleration.Q9 (l : List Toleration) (sz : Nat) (h : sz = 5) : ViewOK sz (Toleration.rows l).flatten (Toleration.rows l) := by subst h; exact ⟨rfl, Toleration.Qf l, Q2k (f := Toleration.cells) (fun _ => rfl) l⟩
structure PodSpec where
  node : ByteArray
  priority : Int
  restart : Int
  grace : Int
  containers : List Container
  nodeSelector : List Requirement
  nodeTerms : List NodeTerm
  podTerms : List PodTerm
  spread : List SpreadRule
  tolerations : List Toleration
def PodSpec.cells (x : PodSpec) : List PV :=
  [.str x.node, .int .i64 x.priority, .int .i64 x.restart, .int .i64 x.grace, .sl (Container.rows x.containers), .sl (Requirement.rows x.nodeSelector), .sl (NodeTerm.rows x.nodeTerms), .sl (PodTerm.rows x.podTerms), .sl (SpreadRule.rows x.spread), .sl (Toleration.rows x.tolerations)]
def PodSpec.rows (l : List PodSpec) : List (List PV) := l.map PodSpec.cells
theorem PodSpec.Q5 (l : List PodSpec) : (PodSpec.rows l).length = l.length := by simp [PodSpec.rows]
theorem PodSpec.Qb {l : List PodSpec} {i : Nat} {x : PodSpec} (h : l[i]? = some x) : (PodSpec.rows l)[i]? = some (PodSpec.cells x) := Go.Pv.Qb h
theorem PodSpec.Q12 (l : List PodSpec) (x : PodSpec) : PodSpec.rows (l ++ [x]) = PodSpec.rows l ++ [PodSpec.cells x] := by simp [PodSpec.rows]
theorem PodSpec.Q2r (l m : List PodSpec) : PodSpec.rows (l ++ m) = PodSpec.rows l ++ PodSpec.rows m := by simp [PodSpec.rows]
theorem PodSpec.Q2l (l : List PodSpec) (k : Nat) (x : PodSpec) : PodSpec.rows (l.set k x) = (PodSpec.rows l).set k (PodSpec.cells x) := by simp [PodSpec.rows, List.map_set]
theorem PodSpec.Qf (l : List PodSpec) : ∀ r ∈ PodSpec.rows l, r.length = 10 := Q2z (f := PodSpec.cells) (fun _ => rfl) l
theorem PodSpec.Q9 (l : List PodSpec) (sz : Nat) (h : sz = 10) : ViewOK sz (PodSpec.rows l).flatten (PodSpec.rows l) := by subst h; exact ⟨rfl, PodSpec.Qf l, Q2k (f := PodSpec.cells) (fun _ => rfl) l⟩
structure ContainerStatus where
  name : ByteArray
  state : Int
  restarts : Int
  exitCode : Int
  since : Int
  ready : Bool
  started : Bool
def ContainerStatus.cells (x : ContainerStatus) : List PV :=
  [.str x.name, .int .i64 x.state, .int .i64 x.restarts, .int .i64 x.exitCode, .int .i64 x.since, .bool x.ready, .bool x.started]
def ContainerStatus.rows (l : List ContainerStatus) : List (List PV) := l.map ContainerStatus.cells
theorem ContainerStatus.Q5 (l : List ContainerStatus) : (ContainerStatus.rows l).length = l.length := by simp [ContainerStatus.rows]
theorem ContainerStatus.Qb {l : List ContainerStatus} {i : Nat} {x : ContainerStatus} (h : l[i]? = some x) : (ContainerStatus.rows l)[i]? = some (ContainerStatus.cells x) := Go.Pv.Qb h
theorem ContainerStatus.Q12 (l : List ContainerStatus) (x : ContainerStatus) : ContainerStatus.rows (l ++ [x]) = ContainerStatus.rows l ++ [ContainerStatus.cells x] := by simp [ContainerStatus.rows]
theorem ContainerStatus.Q2r (l m : List ContainerStatus) : ContainerStatus.rows (l ++ m) = ContainerStatus.rows l ++ ContainerStatus.rows m := by simp [ContainerStatus.rows]
theorem ContainerStatus.Q2l (l : List ContainerStatus) (k : Nat) (x : ContainerStatus) : ContainerStatus.rows (l.set k x) = (ContainerStatus.rows l).set k (ContainerStatus.cells x) := by simp [ContainerStatus.rows, List.map_set]
theorem ContainerStatus.Qf (l : List ContainerStatus) : ∀ r ∈ ContainerStatus.rows l, r.length = 7 := Q2z (f := ContainerStatus.cells) (fun _ => rfl) l
theorem ContainerStatus.Q9 (l : List ContainerStatus) (sz : Nat) (h : sz = 7) : ViewOK sz (ContainerStatus.rows l).flatten (ContainerStatus.rows l) := by subst h; exact ⟨rfl, ContainerStatus.Qf l, Q2k (f := ContainerStatus.cells) (fun _ => rfl) l⟩
structure PodStatus where
  phase : Int
  ready : Bool
  readySince : Int
  started : Int
  finished : Int
  containers : List ContainerStatus
  address : Int
  nominated : ByteArray
  reason : ByteArray
def PodStatus.cells (x : PodStatus) : List PV :=
  [.int .i64 x.phase, .bool x.ready, .int .i64 x.readySince, .int .i64 x.started, .int .i64 x.finished, .sl (ContainerStatus.rows x.containers), .int .i64 x.address, .str x.nominated, .str x.reason]
def PodStatus.rows (l : List PodStatus) : List (List PV) := l.map PodStatus.cells
theorem PodStatus.Q5 (l : List PodStatus) : (PodStatus.rows l).length = l.length := by simp [PodStatus.rows]
theorem PodStatus.Qb {l : List PodStatus} {i : Nat} {x : PodStatus} (h : l[i]? = some x) : (PodStatus.rows l)[i]? = some (PodStatus.cells x) := Go.Pv.Qb h
theorem PodStatus.Q12 (l : List PodStatus) (x : PodStatus) : PodStatus.rows (l ++ [x]) = PodStatus.rows l ++ [PodStatus.cells x] := by simp [PodStatus.rows]
theorem PodStatus.Q2r (l m : List PodStatus) : PodStatus.rows (l ++ m) = PodStatus.rows l ++ PodStatus.rows m := by simp [PodStatus.rows]
theorem PodStatus.Q2l (l : List PodStatus) (k : Nat) (x : PodStatus) : PodStatus.rows (l.set k x) = (PodStatus.rows l).set k (PodStatus.cells x) := by simp [PodStatus.rows, List.map_set]
theorem PodStatus.Qf (l : List PodStatus) : ∀ r ∈ PodStatus.rows l, r.length = 9 := Q2z (f := PodStatus.cells) (fun _ => rfl) l
theorem PodStatus.Q9 (l : List PodStatus) (sz : Nat) (h : sz = 9) : ViewOK sz (PodStatus.rows l).flatten (PodStatus.rows l) := by subst h; exact ⟨rfl, PodStatus.Qf l, Q2k (f := PodStatus.cells) (fun _ => rfl) l⟩
structure Taint where
  key : ByteArray
  value : ByteArray
  effect : Int
  since : Int
def Taint.cells (x : Taint) : List PV :=
  [.str x.key, .str x.value, .int .i64 x.effect, .int .i64 x.since]
def Taint.rows (l : List Taint) : List (List PV) := l.map Taint.cells
theorem Taint.Q5 (l : List Taint) : (Taint.rows l).length = l.length := by simp [Taint.rows]
theorem Taint.Qb {l : List Taint} {i : Nat} {x : Taint} (h : l[i]? = some x) : (Taint.rows l)[i]? = some (Taint.cells x) := Go.Pv.Qb h
theorem Taint.Q12 (l : List Taint) (x : Taint) : Taint.rows (l ++ [x]) = Taint.rows l ++ [Taint.cells x] := by simp [Taint.rows]
theorem Taint.Q2r (l m : List Taint) : Taint.rows (l ++ m) = Taint.rows l ++ Taint.rows m := by simp [Taint.rows]
theorem Taint.Q2l (l : List Taint) (k : Nat) (x : Taint) : Taint.rows (l.set k x) = (Taint.rows l).set k (Taint.cells x) := by simp [Taint.rows, List.map_set]
theorem Taint.Qf (l : List Taint) : ∀ r ∈ Taint.rows l, r.length = 4 := Q2z (f := Taint.cells) (fun _ => rfl) l
theorem Taint.Q9 (l : List Taint) (sz : Nat) (h : sz = 4) : ViewOK sz (Taint.rows l).flatten (Taint.rows l) := by subst h; exact ⟨rfl, Taint.Qf l, Q2k (f := Taint.cells) (fun _ => rfl) l⟩
structure Image where
  name : ByteArray
  size : Int
  used : Int
def Image.cells (x : Image) : List PV :=
  [.str x.name, .int .i64 x.size, .int .i64 x.used]
def Image.rows (l : List Image) : List (List PV) := l.map Image.cells
theorem Image.Q5 (l : List Image) : (Image.rows l).length = l.length := by simp [Image.rows]
theorem Image.Qb {l : List Image} {i : Nat} {x : Image} (h : l[i]? = some x) : (Image.rows l)[i]? = some (Image.cells x) := Go.Pv.Qb h
theorem Image.Q12 (l : List Image) (x : Image) : Image.rows (l ++ [x]) = Image.rows l ++ [Image.cells x] := by simp [Image.rows]
theorem Image.Q2r (l m : List Image) : Image.rows (l ++ m) = Image.rows l ++ Image.rows m := by simp [Image.rows]
theorem Image.Q2l (l : List Image) (k : Nat) (x : Image) : Image.rows (l.set k x) = (Image.rows l).set k (Image.cells x) := by simp [Image.rows, List.map_set]
theorem Image.Qf (l : List Image) : ∀ r ∈ Image.rows l, r.length = 3 := Q2z (f := Image.cells) (fun _ => rfl) l
theorem Image.Q9 (l : List Image) (sz : Nat) (h : sz = 3) : ViewOK sz (Image.rows l).flatten (Image.rows l) := by subst h; exact ⟨rfl, Image.Qf l, Q2k (f := Image.cells) (fun _ => rfl) l⟩
structure Label where
  key : ByteArray
  value : ByteArray
def Label.cells (x : Label) : List PV :=
  [.str x.key, .str x.value]
def Label.rows (l : List Label) : List (List PV) := l.map Label.cells
theorem Label.Q5 (l : List Label) : (Label.rows l).length = l.length := by simp [Label.rows]
theorem Label.Qb {l : List Label} {i : Nat} {x : Label} (h : l[i]? = some x) : (Label.rows l)[i]? = some (Label.cells x) := Go.Pv.Qb h
theorem Label.Q12 (l : List Label) (x : Label) : Label.rows (l ++ [x]) = Label.rows l ++ [Label.cells x] := by simp [Label.rows]
theorem Label.Q2r (l m : List Label) : Label.rows (l ++ m) = Label.rows l ++ Label.rows m := by simp [Label.rows]
theorem Label.Q2l (l : List Label) (k : Nat) (x : Label) : Label.rows (l.set k x) = (Label.rows l).set k (Label.cells x) := by simp [Label.rows, List.map_set]
theorem Label.Qf (l : List Label) : ∀ r ∈ Label.rows l, r.length = 2 := Q2z (f := Label.cells) (fun _ => rfl) l
theorem Label.Q9 (l : List Label) (sz : Nat) (h : sz = 2) : ViewOK sz (Label.rows l).flatten (Label.rows l) := by subst h; exact ⟨rfl, Label.Qf l, Q2k (f := Label.cells) (fun _ => rfl) l⟩
structure Template where
  labels : List Label
  spec : PodSpec
def Template.cells (x : Template) : List PV :=
  [.sl (Label.rows x.labels), .str x.spec.node, .int .i64 x.spec.priority, .int .i64 x.spec.restart, .int .i64 x.spec.grace, .sl (Container.rows x.spec.containers), .sl (Requirement.rows x.spec.nodeSelector), .sl (NodeTerm.rows x.spec.nodeTerms), .sl (PodTerm.rows x.spec.podTerms), .sl (SpreadRule.rows x.spec.spread), .sl (Toleration.rows x.spec.tolerations)]
def Template.rows (l : List Template) : List (List PV) := l.map Template.cells
theorem Template.Q5 (l : List Template) : (Template.rows l).length = l.length := by simp [Template.rows]
theorem Template.Qb {l : List Template} {i : Nat} {x : Template} (h : l[i]? = some x) : (Template.rows l)[i]? = some (Template.cells x) := Go.Pv.Qb h
theorem Template.Q12 (l : List Template) (x : Template) : Template.rows (l ++ [x]) = Template.rows l ++ [Template.cells x] := by simp [Template.rows]
theorem Template.Q2r (l m : List Template) : Template.rows (l ++ m) = Template.rows l ++ Template.rows m := by simp [Template.rows]
theorem Template.Q2l (l : List Template) (k : Nat) (x : Template) : Template.rows (l.set k x) = (Template.rows l).set k (Template.cells x) := by simp [Template.rows, List.map_set]
theorem Template.Qf (l : List Template) : ∀ r ∈ Template.rows l, r.length = 11 := Q2z (f := Template.cells) (fun _ => rfl) l
theorem Template.Q9 (l : List Template) (sz : Nat) (h : sz = 11) : ViewOK sz (Template.rows l).flatten (Template.rows l) := by subst h; exact ⟨rfl, Template.Qf l, Q2k (f := Template.cells) (fun _ => rfl) l⟩
def Q1g2 : ByteArray := ⟨#[78, 111, 100, 101]⟩
def Q29 : ByteArray := ⟨#[80, 111, 100]⟩
def Q2a : ByteArray := ⟨#[97, 100, 100, 114, 101, 115, 115]⟩
def Q2f : ByteArray := ⟨#[97, 110, 116, 105]⟩
def Q1fd : ByteArray := ⟨#[98, 101, 97, 116]⟩
def Qyx : ByteArray := ⟨#[99, 97, 112, 97, 99, 105, 116, 121]⟩
def Qh : ByteArray := ⟨#[99, 111, 110, 116, 97, 105, 110, 101, 114, 115]⟩
def Qyz : ByteArray := ⟨#[99, 111, 114, 100, 111, 110, 101, 100]⟩
def Q47 : ByteArray := ⟨#[99, 112, 117]⟩
def Q1z : ByteArray := ⟨#[100, 101, 108, 97, 121]⟩
def Q3q : ByteArray := ⟨#[100, 105, 115, 107]⟩
def Q1i : ByteArray := ⟨#[101, 102, 102, 101, 99, 116]⟩
def Q1r : ByteArray := ⟨#[101, 120, 105, 115, 116, 115]⟩
def Qy : ByteArray := ⟨#[101, 120, 105, 116, 67, 111, 100, 101]⟩
def Q1m : ByteArray := ⟨#[102, 97, 105, 108, 117, 114, 101]⟩
def Q2i : ByteArray := ⟨#[102, 105, 110, 105, 115, 104, 101, 100]⟩
def Q25 : ByteArray := ⟨#[103, 114, 97, 99, 101]⟩
def Q1w : ByteArray := ⟨#[105, 109, 97, 103, 101]⟩
def Q1al : ByteArray := ⟨#[105, 109, 97, 103, 101, 115]⟩
def Q1b : ByteArray := ⟨#[107, 101, 121]⟩
def Q8o : ByteArray := ⟨#[108, 97, 98, 101, 108, 115]⟩
def Q2d : ByteArray := ⟨#[108, 105, 109, 105, 116]⟩
def Q2h : ByteArray := ⟨#[108, 105, 118, 101]⟩
def Q175 : ByteArray := ⟨#[108, 111, 119, 68, 105, 115, 107]⟩
def Q19k : ByteArray := ⟨#[108, 111, 119, 77, 101, 109]⟩
def Q14r : ByteArray := ⟨#[109, 97, 120, 80, 111, 100, 115]⟩
def Q18 : ByteArray := ⟨#[109, 97, 120, 83, 107, 101, 119]⟩
def Q2q : ByteArray := ⟨#[109, 101, 109, 111, 114, 121]⟩
def Qr : ByteArray := ⟨#[110, 97, 109, 101]⟩
def Q28 : ByteArray := ⟨#[110, 111, 100, 101]⟩
def Qk : ByteArray := ⟨#[110, 111, 100, 101, 83, 101, 108, 101, 99, 116, 111, 114]⟩
def Qs : ByteArray := ⟨#[110, 111, 100, 101, 84, 101, 114, 109, 115]⟩
def Q21 : ByteArray := ⟨#[110, 111, 109, 105, 110, 97, 116, 101, 100]⟩
def Q4w : ByteArray := ⟨#[111, 112]⟩
def Q1s : ByteArray := ⟨#[112, 101, 114, 105, 111, 100]⟩
def Q2n : ByteArray := ⟨#[112, 104, 97, 115, 101]⟩
def Qz : ByteArray := ⟨#[112, 111, 100, 84, 101, 114, 109, 115]⟩
def Qx : ByteArray := ⟨#[112, 114, 105, 111, 114, 105, 116, 121]⟩
def Qn : ByteArray := ⟨#[114, 101, 97, 100, 121]⟩
def Q1l : ByteArray := ⟨#[114, 101, 97, 100, 121, 83, 105, 110, 99, 101]⟩
def Q2y : ByteArray := ⟨#[114, 101, 97, 115, 111, 110]⟩
def Q13 : ByteArray := ⟨#[114, 101, 113, 117, 101, 115, 116]⟩
def Q8 : ByteArray := ⟨#[114, 101, 113, 117, 105, 114, 101, 100]⟩
def Q19 : ByteArray := ⟨#[114, 101, 115, 116, 97, 114, 116]⟩
def Qw : ByteArray := ⟨#[114, 101, 115, 116, 97, 114, 116, 115]⟩
def Q1n : ByteArray := ⟨#[115, 101, 99, 111, 110, 100, 115]⟩
def Qa : ByteArray := ⟨#[115, 101, 108, 101, 99, 116, 111, 114]⟩
def Q1v : ByteArray := ⟨#[115, 105, 110, 99, 101]⟩
def Qig : ByteArray := ⟨#[115, 105, 122, 101]⟩
def Qky : ByteArray := ⟨#[115, 112, 101, 99]⟩
def Q1q : ByteArray := ⟨#[115, 112, 114, 101, 97, 100]⟩
def Qt : ByteArray := ⟨#[115, 116, 97, 114, 116, 101, 100]⟩
def Q1o : ByteArray := ⟨#[115, 116, 97, 114, 116, 117, 112]⟩
def Q1t : ByteArray := ⟨#[115, 116, 97, 116, 101]⟩
def Q1h : ByteArray := ⟨#[115, 117, 99, 99, 101, 115, 115]⟩
def Q1ao : ByteArray := ⟨#[116, 97, 105, 110, 116, 115]⟩
def Qq : ByteArray := ⟨#[116, 111, 108, 101, 114, 97, 116, 105, 111, 110, 115]⟩
def Qi : ByteArray := ⟨#[116, 111, 112, 111, 108, 111, 103, 121]⟩
def Qki : ByteArray := ⟨#[117, 115, 101, 100]⟩
def Q1d : ByteArray := ⟨#[118, 97, 108, 117, 101]⟩
def Q1y : ByteArray := ⟨#[118, 97, 108, 117, 101, 115]⟩
def Qp : ByteArray := ⟨#[119, 101, 105, 103, 104, 116]⟩
def Probe.enc (x : Probe) : Val := vM [.mk Q1z (vN x.delay), .mk Q1m (vN x.failure), .mk Q1s (vN x.period), .mk Q1h (vN x.success)]
def Probe.dec (v : Val) : Probe × Bool := (Probe.mk (dN v Q1z).1 (dN v Q1s).1 (dN v Q1h).1 (dN v Q1m).1, isM v && (dN v Q1z).2 && (dN v Q1m).2 && (dN v Q1s).2 && (dN v Q1h).2)
def Probe.sm (_ : Probe) : Prop := True
theorem Probe.Q24 {x : Probe} (_ : Probe.sm x) : Val.Sm sB (Probe.enc x) := Q92 (Nat.le_of_ble_eq_true rfl) (List.forall_mem_cons.2 ⟨Val.Sm.leaf 2 _ _, List.forall_mem_cons.2 ⟨Val.Sm.leaf 2 _ _, List.forall_mem_cons.2 ⟨Val.Sm.leaf 2 _ _, List.forall_mem_cons.2 ⟨Val.Sm.leaf 2 _ _, fun _ h => by cases h⟩⟩⟩⟩)
theorem Probe.Q1g3 (x : Probe) : prt (Probe.enc x) Q1z = vN x.delay := by kernel_rfl
theorem Probe.Q1bz (x : Probe) : prt (Probe.enc x) Q1s = vN x.period := by kernel_rfl
theorem Probe.Q18z (x : Probe) : prt (Probe.enc x) Q1h = vN x.success := by kernel_rfl
theorem Probe.Q19b (x : Probe) : prt (Probe.enc x) Q1m = vN x.failure := by kernel_rfl
theorem Probe.Q1x (x : Probe) : Probe.dec (Probe.enc x) = (x, true) := by
  have h0 : dN (Probe.enc x) Q1z = (x.delay, true) := by unfold dN; rw [Probe.Q1g3]; rfl
  have h1 : dN (Probe.enc x) Q1s = (x.period, true) := by unfold dN; rw [Probe.Q1bz]; rfl
  have h2 : dN (Probe.enc x) Q1h = (x.success, true) := by unfold dN; rw [Probe.Q18z]; rfl
  have h3 : dN (Probe.enc x) Q1m = (x.failure, true) := by unfold dN; rw [Probe.Q19b]; rfl
  unfold Probe.dec
  rw [h0, h1, h2, h3]
  rfl
theorem Probe.Q20 {v : Val} (h : (v.kind == 5) = false) : Probe.dec v = ((Probe.dec vZ).1, v.kind == 0) := by
  unfold Probe.dec
  simp only [dN, Q46 h, Q3p h]
  generalize (v.kind == 0) = b
  cases b <;> rfl
theorem Probe.sub1 (x : Val) : (Probe.dec (s5 x)).1 = (Probe.dec x).1 := (Q37 (f := Probe.dec) (fun _ h => Probe.Q20 h) rfl x).1
theorem Probe.sub2 (v : Val) (k : BA) : (Probe.dec (prt v k)).2 = (isM (prt v k) && (Probe.dec (s5 (prt v k))).2) := (Q37 (f := Probe.dec) (fun _ h => Probe.Q20 h) rfl _).2
def Resources.enc (x : Resources) : Val := vM [.mk Q47 (vN x.cPU), .mk Q3q (vN x.disk), .mk Q2q (vN x.memory)]
def Resources.dec (v : Val) : Resources × Bool := (Resources.mk (dN v Q47).1 (dN v Q2q).1 (dN v Q3q).1, isM v && (dN v Q47).2 && (dN v Q3q).2 && (dN v Q2q).2)
def Resources.sm (_ : Resources) : Prop := True
theorem Resources.Q24 {x : Resources} (_ : Resources.sm x) : Val.Sm sB (Resources.enc x) := Q92 (Nat.le_of_ble_eq_true rfl) (List.forall_mem_cons.2 ⟨Val.Sm.leaf 2 _ _, List.forall_mem_cons.2 ⟨Val.Sm.leaf 2 _ _, List.forall_mem_cons.2 ⟨Val.Sm.leaf 2 _ _, fun _ h => by cases h⟩⟩⟩)
theorem Resources.Q1lp (x : Resources) : prt (Resources.enc x) Q47 = vN x.cPU := by kernel_rfl
theorem Resources.Q1cf (x : Resources) : prt (Resources.enc x) Q2q = vN x.memory := by kernel_rfl
theorem Resources.Q1i3 (x : Resources) : prt (Resources.enc x) Q3q = vN x.disk := by kernel_rfl
theorem Resources.Q1x (x : Resources) : Resources.dec (Resources.enc x) = (x, true) := by
  have h0 : dN (Resources.enc x) Q47 = (x.cPU, true) := by unfold dN; rw [Resources.Q1lp]; rfl
  have h1 : dN (Resources.enc x) Q2q = (x.memory, true) := by unfold dN; rw [Resources.Q1cf]; rfl
  have h2 : dN (Resources.enc x) Q3q = (x.disk, true) := by unfold dN; rw [Resources.Q1i3]; rfl
  unfold Resources.dec
  rw [h0, h1, h2]
  rfl
theorem Resources.Q20 {v : Val} (h : (v.kind == 5) = false) : Resources.dec v = ((Resources.dec vZ).1, v.kind == 0) := by
  unfold Resources.dec
  simp only [dN, Q46 h, Q3p h]
  generalize (v.kind == 0) = b
  cases b <;> rfl
theorem Resources.sub1 (x : Val) : (Resources.dec (s5 x)).1 = (Resources.dec x).1 := (Q37 (f := Resources.dec) (fun _ h => Resources.Q20 h) rfl x).1
theorem Resources.sub2 (v : Val) (k : BA) : (Resources.dec (prt v k)).2 = (isM (prt v k) && (Resources.dec (s5 (prt v k))).2) := (Q37 (f := Resources.dec) (fun _ h => Resources.Q20 h) rfl _).2
def Container.enc (x : Container) : Val := vM [.mk Q1w (vS x.image), .mk Q2d (Resources.enc x.limit), .mk Q2h (vL (x.live.map Probe.enc)), .mk Qr (vS x.name), .mk Qn (vL (x.ready.map Probe.enc)), .mk Q13 (Resources.enc x.request), .mk Q1o (vL (x.startup.map Probe.enc))]
def Container.dec (v : Val) : Container × Bool := (Container.mk (dS v Qr).1 (dS v Q1w).1 (dT Resources.dec v Q13).1 (dT Resources.dec v Q2d).1 (dE Probe.dec v Q2h).1 (dE Probe.dec v Qn).1 (dE Probe.dec v Q1o).1, isM v && (dS v Q1w).2 && (dT Resources.dec v Q2d).2 && (dE Probe.dec v Q2h).2 && (dS v Qr).2 && (dE Probe.dec v Qn).2 && (dT Resources.dec v Q13).2 && (dE Probe.dec v Q1o).2)
def Container.sm (x : Container) : Prop := Resources.sm x.request ∧ Resources.sm x.limit ∧ LSm Probe.sm x.live ∧ LSm Probe.sm x.ready ∧ LSm Probe.sm x.startup ∧ True
theorem Container.Q24 {x : Container} (h : Container.sm x) : Val.Sm sB (Container.enc x) := Q92 (Nat.le_of_ble_eq_true rfl) (List.forall_mem_cons.2 ⟨Val.Sm.leaf 3 _ _, List.forall_mem_cons.2 ⟨Resources.Q24 h.2.1, List.forall_mem_cons.2 ⟨Q2x (fun _ h => Probe.Q24 h) h.2.2.1, List.forall_mem_cons.2 ⟨Val.Sm.leaf 3 _ _, List.forall_mem_cons.2 ⟨Q2x (fun _ h => Probe.Q24 h) h.2.2.2.1, List.forall_mem_cons.2 ⟨Resources.Q24 h.1, List.forall_mem_cons.2 ⟨Q2x (fun _ h => Probe.Q24 h) h.2.2.2.2.1, fun _ h => by cases h⟩⟩⟩⟩⟩⟩⟩)
theorem Container.Qtv (x : Container) : prt (Container.enc x) Qr = vS x.name := by kernel_rfl
theorem Container.Q1fv (x : Container) : prt (Container.enc x) Q1w = vS x.image := by kernel_rfl
theorem Container.Q18a (x : Container) : prt (Container.enc x) Q13 = Resources.enc x.request := by kernel_rfl
theorem Container.Q1fr (x : Container) : prt (Container.enc x) Q2d = Resources.enc x.limit := by kernel_rfl
theorem Container.Q1hr (x : Container) : prt (Container.enc x) Q2h = vL (x.live.map Probe.enc) := by kernel_rfl
theorem Container.Qlt (x : Container) : prt (Container.enc x) Qn = vL (x.ready.map Probe.enc) := by kernel_rfl
theorem Container.Q17y (x : Container) : prt (Container.enc x) Q1o = vL (x.startup.map Probe.enc) := by kernel_rfl
theorem Container.Q1x (x : Container) : Container.dec (Container.enc x) = (x, true) := by
  have h0 : dS (Container.enc x) Qr = (x.name, true) := by unfold dS; rw [Container.Qtv]; rfl
  have h1 : dS (Container.enc x) Q1w = (x.image, true) := by unfold dS; rw [Container.Q1fv]; rfl
  have h2 : dT Resources.dec (Container.enc x) Q13 = (x.request, true) := by unfold dT; rw [Container.Q18a]; exact Resources.Q1x _
  have h3 : dT Resources.dec (Container.enc x) Q2d = (x.limit, true) := by unfold dT; rw [Container.Q1fr]; exact Resources.Q1x _
  have h4 : dE Probe.dec (Container.enc x) Q2h = (x.live, true) := by unfold dE; rw [Container.Q1hr]; exact Q4a Probe.Q1x _
  have h5 : dE Probe.dec (Container.enc x) Qn = (x.ready, true) := by unfold dE; rw [Container.Qlt]; exact Q4a Probe.Q1x _
  have h6 : dE Probe.dec (Container.enc x) Q1o = (x.startup, true) := by unfold dE; rw [Container.Q17y]; exact Q4a Probe.Q1x _
  unfold Container.dec
  rw [h0, h1, h2, h3, h4, h5, h6]
  rfl
theorem Container.Q20 {v : Val} (h : (v.kind == 5) = false) : Container.dec v = ((Container.dec vZ).1, v.kind == 0) := by
  unfold Container.dec
  simp only [dS, dE, dT, Q46 h, Q3p h]
  generalize (v.kind == 0) = b
  cases b <;> rfl
theorem Container.sub1 (x : Val) : (Container.dec (s5 x)).1 = (Container.dec x).1 := (Q37 (f := Container.dec) (fun _ h => Container.Q20 h) rfl x).1
theorem Container.sub2 (v : Val) (k : BA) : (Container.dec (prt v k)).2 = (isM (prt v k) && (Container.dec (s5 (prt v k))).2) := (Q37 (f := Container.dec) (fun _ h => Container.Q20 h) rfl _).2
def Requirement.enc (x : Requirement) : Val := vM [.mk Q1b (vS x.key), .mk Q4w (vN x.op), .mk Q1y (vL (x.values.map vS))]
def Requirement.dec (v : Val) : Requirement × Bool := (Requirement.mk (dS v Q1b).1 (dN v Q4w).1 (dE xS v Q1y).1, isM v && (dS v Q1b).2 && (dN v Q4w).2 && (dE xS v Q1y).2)
def Requirement.sm (x : Requirement) : Prop := LSm (fun _ : ByteArray => True) x.values ∧ True
theorem Requirement.Q24 {x : Requirement} (h : Requirement.sm x) : Val.Sm sB (Requirement.enc x) := Q92 (Nat.le_of_ble_eq_true rfl) (List.forall_mem_cons.2 ⟨Val.Sm.leaf 3 _ _, List.forall_mem_cons.2 ⟨Val.Sm.leaf 2 _ _, List.forall_mem_cons.2 ⟨Q2x (fun _ h => Val.Sm.leaf _ _ _) h.1, fun _ h => by cases h⟩⟩⟩)
theorem Requirement.Qym (x : Requirement) : prt (Requirement.enc x) Q1b = vS x.key := by kernel_rfl
theorem Requirement.p_op (x : Requirement) : prt (Requirement.enc x) Q4w = vN x.op := by kernel_rfl
theorem Requirement.Q1cn (x : Requirement) : prt (Requirement.enc x) Q1y = vL (x.values.map vS) := by kernel_rfl
theorem Requirement.Q1x (x : Requirement) : Requirement.dec (Requirement.enc x) = (x, true) := by
  have h0 : dS (Requirement.enc x) Q1b = (x.key, true) := by unfold dS; rw [Requirement.Qym]; rfl
  have h1 : dN (Requirement.enc x) Q4w = (x.op, true) := by unfold dN; rw [Requirement.p_op]; rfl
  have h2 : dE xS (Requirement.enc x) Q1y = (x.values, true) := by unfold dE; rw [Requirement.Q1cn]; exact Q4a (fun _ => rfl) _
  unfold Requirement.dec
  rw [h0, h1, h2]
  rfl
theorem Requirement.Q20 {v : Val} (h : (v.kind == 5) = false) : Requirement.dec v = ((Requirement.dec vZ).1, v.kind == 0) := by
  unfold Requirement.dec
  simp only [dN, dS, dE, Q46 h, Q3p h]
  generalize (v.kind == 0) = b
  cases b <;> rfl
theorem Requirement.sub1 (x : Val) : (Requirement.dec (s5 x)).1 = (Requirement.dec x).1 := (Q37 (f := Requirement.dec) (fun _ h => Requirement.Q20 h) rfl x).1
theorem Requirement.sub2 (v : Val) (k : BA) : (Requirement.dec (prt v k)).2 = (isM (prt v k) && (Requirement.dec (s5 (prt v k))).2) := (Q37 (f := Requirement.dec) (fun _ h => Requirement.Q20 h) rfl _).2
def NodeTerm.enc (x : NodeTerm) : Val := vM [.mk Q8 (vB x.required), .mk Qa (vL (x.selector.map Requirement.enc)), .mk Qp (vN x.weight)]
def NodeTerm.dec (v : Val) : NodeTerm × Bool := (NodeTerm.mk (dB v Q8).1 (dE Requirement.dec v Qa).1 (dN v Qp).1, isM v && (dB v Q8).2 && (dE Requirement.dec v Qa).2 && (dN v Qp).2)
def NodeTerm.sm (x : NodeTerm) : Prop := LSm Requirement.sm x.selector ∧ True
theorem NodeTerm.Q24 {x : NodeTerm} (h : NodeTerm.sm x) : Val.Sm sB (NodeTerm.enc x) := Q92 (Nat.le_of_ble_eq_true rfl) (List.forall_mem_cons.2 ⟨Val.Sm.leaf 1 _ _, List.forall_mem_cons.2 ⟨Q2x (fun _ h => Requirement.Q24 h) h.1, List.forall_mem_cons.2 ⟨Val.Sm.leaf 2 _ _, fun _ h => by cases h⟩⟩⟩)
theorem NodeTerm.Q7g (x : NodeTerm) : prt (NodeTerm.enc x) Q8 = vB x.required := by kernel_rfl
theorem NodeTerm.Q7d (x : NodeTerm) : prt (NodeTerm.enc x) Qa = vL (x.selector.map Requirement.enc) := by kernel_rfl
theorem NodeTerm.Qto (x : NodeTerm) : prt (NodeTerm.enc x) Qp = vN x.weight := by kernel_rfl
theorem NodeTerm.Q1x (x : NodeTerm) : NodeTerm.dec (NodeTerm.enc x) = (x, true) := by
  have h0 : dB (NodeTerm.enc x) Q8 = (x.required, true) := by unfold dB; rw [NodeTerm.Q7g]; exact xB_b _
  have h1 : dE Requirement.dec (NodeTerm.enc x) Qa = (x.selector, true) := by unfold dE; rw [NodeTerm.Q7d]; exact Q4a Requirement.Q1x _
  have h2 : dN (NodeTerm.enc x) Qp = (x.weight, true) := by unfold dN; rw [NodeTerm.Qto]; rfl
  unfold NodeTerm.dec
  rw [h0, h1, h2]
  rfl
theorem NodeTerm.Q20 {v : Val} (h : (v.kind == 5) = false) : NodeTerm.dec v = ((NodeTerm.dec vZ).1, v.kind == 0) := by
  unfold NodeTerm.dec
  simp only [dN, dB, dE, Q46 h, Q3p h]
  generalize (v.kind == 0) = b
  cases b <;> rfl
theorem NodeTerm.sub1 (x : Val) : (NodeTerm.dec (s5 x)).1 = (NodeTerm.dec x).1 := (Q37 (f := NodeTerm.dec) (fun _ h => NodeTerm.Q20 h) rfl x).1
theorem NodeTerm.sub2 (v : Val) (k : BA) : (NodeTerm.dec (prt v k)).2 = (isM (prt v k) && (NodeTerm.dec (s5 (prt v k))).2) := (Q37 (f := NodeTerm.dec) (fun _ h => NodeTerm.Q20 h) rfl _).2
def PodTerm.enc (x : PodTerm) : Val := vM [.mk Q2f (vB x.anti), .mk Q8 (vB x.required), .mk Qa (vL (x.selector.map Requirement.enc)), .mk Qi (vS x.topology), .mk Qp (vN x.weight)]
def PodTerm.dec (v : Val) : PodTerm × Bool := (PodTerm.mk (dB v Q8).1 (dB v Q2f).1 (dE Requirement.dec v Qa).1 (dS v Qi).1 (dN v Qp).1, isM v && (dB v Q2f).2 && (dB v Q8).2 && (dE Requirement.dec v Qa).2 && (dS v Qi).2 && (dN v Qp).2)
def PodTerm.sm (x : PodTerm) : Prop := LSm Requirement.sm x.selector ∧ True
theorem PodTerm.Q24 {x : PodTerm} (h : PodTerm.sm x) : Val.Sm sB (PodTerm.enc x) := Q92 (Nat.le_of_ble_eq_true rfl) (List.forall_mem_cons.2 ⟨Val.Sm.leaf 1 _ _, List.forall_mem_cons.2 ⟨Val.Sm.leaf 1 _ _, List.forall_mem_cons.2 ⟨Q2x (fun _ h => Requirement.Q24 h) h.1, List.forall_mem_cons.2 ⟨Val.Sm.leaf 3 _ _, List.forall_mem_cons.2 ⟨Val.Sm.leaf 2 _ _, fun _ h => by cases h⟩⟩⟩⟩⟩)
theorem PodTerm.Q7g (x : PodTerm) : prt (PodTerm.enc x) Q8 = vB x.required := by kernel_rfl
theorem PodTerm.Q1hv (x : PodTerm) : prt (PodTerm.enc x) Q2f = vB x.anti := by kernel_rfl
theorem PodTerm.Q7d (x : PodTerm) : prt (PodTerm.enc x) Qa = vL (x.selector.map Requirement.enc) := by kernel_rfl
theorem PodTerm.Qcv (x : PodTerm) : prt (PodTerm.enc x) Qi = vS x.topology := by kernel_rfl
theorem PodTerm.Qto (x : PodTerm) : prt (PodTerm.enc x) Qp = vN x.weight := by kernel_rfl
theorem PodTerm.Q1x (x : PodTerm) : PodTerm.dec (PodTerm.enc x) = (x, true) := by
  have h0 : dB (PodTerm.enc x) Q8 = (x.required, true) := by unfold dB; rw [PodTerm.Q7g]; exact xB_b _
  have h1 : dB (PodTerm.enc x) Q2f = (x.anti, true) := by unfold dB; rw [PodTerm.Q1hv]; exact xB_b _
  have h2 : dE Requirement.dec (PodTerm.enc x) Qa = (x.selector, true) := by unfold dE; rw [PodTerm.Q7d]; exact Q4a Requirement.Q1x _
  have h3 : dS (PodTerm.enc x) Qi = (x.topology, true) := by unfold dS; rw [PodTerm.Qcv]; rfl
  have h4 : dN (PodTerm.enc x) Qp = (x.weight, true) := by unfold dN; rw [PodTerm.Qto]; rfl
  unfold PodTerm.dec
  rw [h0, h1, h2, h3, h4]
  rfl
theorem PodTerm.Q20 {v : Val} (h : (v.kind == 5) = false) : PodTerm.dec v = ((PodTerm.dec vZ).1, v.kind == 0) := by
  unfold PodTerm.dec
  simp only [dN, dS, dB, dE, Q46 h, Q3p h]
  generalize (v.kind == 0) = b
  cases b <;> rfl
theorem PodTerm.sub1 (x : Val) : (PodTerm.dec (s5 x)).1 = (PodTerm.dec x).1 := (Q37 (f := PodTerm.dec) (fun _ h => PodTerm.Q20 h) rfl x).1
theorem PodTerm.sub2 (v : Val) (k : BA) : (PodTerm.dec (prt v k)).2 = (isM (prt v k) && (PodTerm.dec (s5 (prt v k))).2) := (Q37 (f := PodTerm.dec) (fun _ h => PodTerm.Q20 h) rfl _).2
def SpreadRule.enc (x : SpreadRule) : Val := vM [.mk Q18 (vN x.maxSkew), .mk Q8 (vB x.required), .mk Qa (vL (x.selector.map Requirement.enc)), .mk Qi (vS x.topology)]
def SpreadRule.dec (v : Val) : SpreadRule × Bool := (SpreadRule.mk (dN v Q18).1 (dS v Qi).1 (dE Requirement.dec v Qa).1 (dB v Q8).1, isM v && (dN v Q18).2 && (dB v Q8).2 && (dE Requirement.dec v Qa).2 && (dS v Qi).2)
def SpreadRule.sm (x : SpreadRule) : Prop := LSm Requirement.sm x.selector ∧ True
theorem SpreadRule.Q24 {x : SpreadRule} (h : SpreadRule.sm x) : Val.Sm sB (SpreadRule.enc x) := Q92 (Nat.le_of_ble_eq_true rfl) (List.forall_mem_cons.2 ⟨Val.Sm.leaf 2 _ _, List.forall_mem_cons.2 ⟨Val.Sm.leaf 1 _ _, List.forall_mem_cons.2 ⟨Q2x (fun _ h => Requirement.Q24 h) h.1, List.forall_mem_cons.2 ⟨Val.Sm.leaf 3 _ _, fun _ h => by cases h⟩⟩⟩⟩)
theorem SpreadRule.Q17w (x : SpreadRule) : prt (SpreadRule.enc x) Q18 = vN x.maxSkew := by kernel_rfl
theorem SpreadRule.Qcv (x : SpreadRule) : prt (SpreadRule.enc x) Qi = vS x.topology := by kernel_rfl
theorem SpreadRule.Q7d (x : SpreadRule) : prt (SpreadRule.enc x) Qa = vL (x.selector.map Requirement.enc) := by kernel_rfl
theorem SpreadRule.Q7g (x : SpreadRule) : prt (SpreadRule.enc x) Q8 = vB x.required := by kernel_rfl
theorem SpreadRule.Q1x (x : SpreadRule) : SpreadRule.dec (SpreadRule.enc x) = (x, true) := by
  have h0 : dN (SpreadRule.enc x) Q18 = (x.maxSkew, true) := by unfold dN; rw [SpreadRule.Q17w]; rfl
  have h1 : dS (SpreadRule.enc x) Qi = (x.topology, true) := by unfold dS; rw [SpreadRule.Qcv]; rfl
  have h2 : dE Requirement.dec (SpreadRule.enc x) Qa = (x.selector, true) := by unfold dE; rw [SpreadRule.Q7d]; exact Q4a Requirement.Q1x _
  have h3 : dB (SpreadRule.enc x) Q8 = (x.required, true) := by unfold dB; rw [SpreadRule.Q7g]; exact xB_b _
  unfold SpreadRule.dec
  rw [h0, h1, h2, h3]
  rfl
theorem SpreadRule.Q20 {v : Val} (h : (v.kind == 5) = false) : SpreadRule.dec v = ((SpreadRule.dec vZ).1, v.kind == 0) := by
  unfold SpreadRule.dec
  simp only [dN, dS, dB, dE, Q46 h, Q3p h]
  generalize (v.kind == 0) = b
  cases b <;> rfl
theorem SpreadRule.sub1 (x : Val) : (SpreadRule.dec (s5 x)).1 = (SpreadRule.dec x).1 := (Q37 (f := SpreadRule.dec) (fun _ h => SpreadRule.Q20 h) rfl x).1
theorem SpreadRule.sub2 (v : Val) (k : BA) : (SpreadRule.dec (prt v k)).2 = (isM (prt v k) && (SpreadRule.dec (s5 (prt v k))).2) := (Q37 (f := SpreadRule.dec) (fun _ h => SpreadRule.Q20 h) rfl _).2
def Toleration.enc (x : Toleration) : Val := vM [.mk Q1i (vN x.effect), .mk Q1r (vB x.exists_), .mk Q1b (vS x.key), .mk Q1n (vN x.seconds), .mk Q1d (vS x.value)]
def Toleration.dec (v : Val) : Toleration × Bool := (Toleration.mk (dS v Q1b).1 (dS v Q1d).1 (dB v Q1r).1 (dN v Q1i).1 (dN v Q1n).1, isM v && (dN v Q1i).2 && (dB v Q1r).2 && (dS v Q1b).2 && (dN v Q1n).2 && (dS v Q1d).2)
def Toleration.sm (_ : Toleration) : Prop := True
theorem Toleration.Q24 {x : Toleration} (_ : Toleration.sm x) : Val.Sm sB (Toleration.enc x) := Q92 (Nat.le_of_ble_eq_true rfl) (List.forall_mem_cons.2 ⟨Val.Sm.leaf 2 _ _, List.forall_mem_cons.2 ⟨Val.Sm.leaf 1 _ _, List.forall_mem_cons.2 ⟨Val.Sm.leaf 3 _ _, List.forall_mem_cons.2 ⟨Val.Sm.leaf 2 _ _, List.forall_mem_cons.2 ⟨Val.Sm.leaf 3 _ _, fun _ h => by cases h⟩⟩⟩⟩⟩)
theorem Toleration.Qym (x : Toleration) : prt (Toleration.enc x) Q1b = vS x.key := by kernel_rfl
theorem Toleration.Qm7 (x : Toleration) : prt (Toleration.enc x) Q1d = vS x.value := by kernel_rfl
theorem Toleration.Q194 (x : Toleration) : prt (Toleration.enc x) Q1r = vB x.exists_ := by kernel_rfl
theorem Toleration.Qsh (x : Toleration) : prt (Toleration.enc x) Q1i = vN x.effect := by kernel_rfl
theorem Toleration.Q19y (x : Toleration) : prt (Toleration.enc x) Q1n = vN x.seconds := by kernel_rfl
theorem Toleration.Q1x (x : Toleration) : Toleration.dec (Toleration.enc x) = (x, true) := by
  have h0 : dS (Toleration.enc x) Q1b = (x.key, true) := by unfold dS; rw [Toleration.Qym]; rfl
  have h1 : dS (Toleration.enc x) Q1d = (x.value, true) := by unfold dS; rw [Toleration.Qm7]; rfl
  have h2 : dB (Toleration.enc x) Q1r = (x.exists_, true) := by unfold dB; rw [Toleration.Q194]; exact xB_b _
  have h3 : dN (Toleration.enc x) Q1i = (x.effect, true) := by unfold dN; rw [Toleration.Qsh]; rfl
  have h4 : dN (Toleration.enc x) Q1n = (x.seconds, true) := by unfold dN; rw [Toleration.Q19y]; rfl
  unfold Toleration.dec
  rw [h0, h1, h2, h3, h4]
  rfl
theorem Toleration.Q20 {v : Val} (h : (v.kind == 5) = false) : Toleration.dec v = ((Toleration.dec vZ).1, v.kind == 0) := by
  unfold Toleration.dec
  simp only [dN, dS, dB, Q46 h, Q3p h]
  generalize (v.kind == 0) = b
  cases b <;> rfl
theorem Toleration.sub1 (x : Val) : (Toleration.dec (s5 x)).1 = (Toleration.dec x).1 := (Q37 (f := Toleration.dec) (fun _ h => Toleration.Q20 h) rfl x).1
theorem Toleration.sub2 (v : Val) (k : BA) : (Toleration.dec (prt v k)).2 = (isM (prt v k) && (Toleration.dec (s5 (prt v k))).2) := (Q37 (f := Toleration.dec) (fun _ h => Toleration.Q20 h) rfl _).2
def PodSpec.enc (x : PodSpec) : Val := vM [.mk Qh (vL (x.containers.map Container.enc)), .mk Q25 (vN x.grace), .mk Q28 (vS x.node), .mk Qk (vL (x.nodeSelector.map Requirement.enc)), .mk Qs (vL (x.nodeTerms.map NodeTerm.enc)), .mk Qz (vL (x.podTerms.map PodTerm.enc)), .mk Qx (vN x.priority), .mk Q19 (vN x.restart), .mk Q1q (vL (x.spread.map SpreadRule.enc)), .mk Qq (vL (x.tolerations.map Toleration.enc))]
def PodSpec.dec (v : Val) : PodSpec × Bool := (PodSpec.mk (dS v Q28).1 (dN v Qx).1 (dN v Q19).1 (dN v Q25).1 (dE Container.dec v Qh).1 (dE Requirement.dec v Qk).1 (dE NodeTerm.dec v Qs).1 (dE PodTerm.dec v Qz).1 (dE SpreadRule.dec v Q1q).1 (dE Toleration.dec v Qq).1, isM v && (dE Container.dec v Qh).2 && (dN v Q25).2 && (dS v Q28).2 && (dE Requirement.dec v Qk).2 && (dE NodeTerm.dec v Qs).2 && (dE PodTerm.dec v Qz).2 && (dN v Qx).2 && (dN v Q19).2 && (dE SpreadRule.dec v Q1q).2 && (dE Toleration.dec v Qq).2)
def PodSpec.sm (x : PodSpec) : Prop := LSm Container.sm x.containers ∧ LSm Requirement.sm x.nodeSelector ∧ LSm NodeTerm.sm x.nodeTerms ∧ LSm PodTerm.sm x.podTerms ∧ LSm SpreadRule.sm x.spread ∧ LSm Toleration.sm x.tolerations ∧ True
theorem PodSpec.Q24 {x : PodSpec} (h : PodSpec.sm x) : Val.Sm sB (PodSpec.enc x) := Q92 (Nat.le_of_ble_eq_true rfl) (List.forall_mem_cons.2 ⟨Q2x (fun _ h => Container.Q24 h) h.1, List.forall_mem_cons.2 ⟨Val.Sm.leaf 2 _ _, List.forall_mem_cons.2 ⟨Val.Sm.leaf 3 _ _, List.forall_mem_cons.2 ⟨Q2x (fun _ h => Requirement.Q24 h) h.2.1, List.forall_mem_cons.2 ⟨Q2x (fun _ h => NodeTerm.Q24 h) h.2.2.1, List.forall_mem_cons.2 ⟨Q2x (fun _ h => PodTerm.Q24 h) h.2.2.2.1, List.forall_mem_cons.2 ⟨Val.Sm.leaf 2 _ _, List.forall_mem_cons.2 ⟨Val.Sm.leaf 2 _ _, List.forall_mem_cons.2 ⟨Q2x (fun _ h => SpreadRule.Q24 h) h.2.2.2.2.1, List.forall_mem_cons.2 ⟨Q2x (fun _ h => Toleration.Q24 h) h.2.2.2.2.2.1, fun _ h => by cases h⟩⟩⟩⟩⟩⟩⟩⟩⟩⟩)
theorem PodSpec.Q1ia (x : PodSpec) : prt (PodSpec.enc x) Q28 = vS x.node := by kernel_rfl
theorem PodSpec.Q13k (x : PodSpec) : prt (PodSpec.enc x) Qx = vN x.priority := by kernel_rfl
theorem PodSpec.Q199 (x : PodSpec) : prt (PodSpec.enc x) Q19 = vN x.restart := by kernel_rfl
theorem PodSpec.Q1f4 (x : PodSpec) : prt (PodSpec.enc x) Q25 = vN x.grace := by kernel_rfl
theorem PodSpec.Q8v (x : PodSpec) : prt (PodSpec.enc x) Qh = vL (x.containers.map Container.enc) := by kernel_rfl
theorem PodSpec.Qmt (x : PodSpec) : prt (PodSpec.enc x) Qk = vL (x.nodeSelector.map Requirement.enc) := by kernel_rfl
theorem PodSpec.Qze (x : PodSpec) : prt (PodSpec.enc x) Qs = vL (x.nodeTerms.map NodeTerm.enc) := by kernel_rfl
theorem PodSpec.Q17l (x : PodSpec) : prt (PodSpec.enc x) Qz = vL (x.podTerms.map PodTerm.enc) := by kernel_rfl
theorem PodSpec.Q1b9 (x : PodSpec) : prt (PodSpec.enc x) Q1q = vL (x.spread.map SpreadRule.enc) := by kernel_rfl
theorem PodSpec.Qrg (x : PodSpec) : prt (PodSpec.enc x) Qq = vL (x.tolerations.map Toleration.enc) := by kernel_rfl
theorem PodSpec.Q1x (x : PodSpec) : PodSpec.dec (PodSpec.enc x) = (x, true) := by
  have h0 : dS (PodSpec.enc x) Q28 = (x.node, true) := by unfold dS; rw [PodSpec.Q1ia]; rfl
  have h1 : dN (PodSpec.enc x) Qx = (x.priority, true) := by unfold dN; rw [PodSpec.Q13k]; rfl
  have h2 : dN (PodSpec.enc x) Q19 = (x.restart, true) := by unfold dN; rw [PodSpec.Q199]; rfl
  have h3 : dN (PodSpec.enc x) Q25 = (x.grace, true) := by unfold dN; rw [PodSpec.Q1f4]; rfl
  have h4 : dE Container.dec (PodSpec.enc x) Qh = (x.containers, true) := by unfold dE; rw [PodSpec.Q8v]; exact Q4a Container.Q1x _
  have h5 : dE Requirement.dec (PodSpec.enc x) Qk = (x.nodeSelector, true) := by unfold dE; rw [PodSpec.Qmt]; exact Q4a Requirement.Q1x _
  have h6 : dE NodeTerm.dec (PodSpec.enc x) Qs = (x.nodeTerms, true) := by unfold dE; rw [PodSpec.Qze]; exact Q4a NodeTerm.Q1x _
  have h7 : dE PodTerm.dec (PodSpec.enc x) Qz = (x.podTerms, true) := by unfold dE; rw [PodSpec.Q17l]; exact Q4a PodTerm.Q1x _
  have h8 : dE SpreadRule.dec (PodSpec.enc x) Q1q = (x.spread, true) := by unfold dE; rw [PodSpec.Q1b9]; exact Q4a SpreadRule.Q1x _
  have h9 : dE Toleration.dec (PodSpec.enc x) Qq = (x.tolerations, true) := by unfold dE; rw [PodSpec.Qrg]; exact Q4a Toleration.Q1x _
  unfold PodSpec.dec
  rw [h0, h1, h2, h3, h4, h5, h6, h7, h8, h9]
  rfl
theorem PodSpec.Q20 {v : Val} (h : (v.kind == 5) = false) : PodSpec.dec v = ((PodSpec.dec vZ).1, v.kind == 0) := by
  unfold PodSpec.dec
  simp only [dN, dS, dE, Q46 h, Q3p h]
  generalize (v.kind == 0) = b
  cases b <;> rfl
theorem PodSpec.sub1 (x : Val) : (PodSpec.dec (s5 x)).1 = (PodSpec.dec x).1 := (Q37 (f := PodSpec.dec) (fun _ h => PodSpec.Q20 h) rfl x).1
theorem PodSpec.sub2 (v : Val) (k : BA) : (PodSpec.dec (prt v k)).2 = (isM (prt v k) && (PodSpec.dec (s5 (prt v k))).2) := (Q37 (f := PodSpec.dec) (fun _ h => PodSpec.Q20 h) rfl _).2
def ContainerStatus.enc (x : ContainerStatus) : Val := vM [.mk Qy (vN x.exitCode), .mk Qr (vS x.name), .mk Qn (vB x.ready), .mk Qw (vN x.restarts), .mk Q1v (vN x.since), .mk Qt (vB x.started), .mk Q1t (vN x.state)]
def ContainerStatus.dec (v : Val) : ContainerStatus × Bool := (ContainerStatus.mk (dS v Qr).1 (dN v Q1t).1 (dN v Qw).1 (dN v Qy).1 (dN v Q1v).1 (dB v Qn).1 (dB v Qt).1, isM v && (dN v Qy).2 && (dS v Qr).2 && (dB v Qn).2 && (dN v Qw).2 && (dN v Q1v).2 && (dB v Qt).2 && (dN v Q1t).2)
def ContainerStatus.sm (_ : ContainerStatus) : Prop := True
theorem ContainerStatus.Q24 {x : ContainerStatus} (_ : ContainerStatus.sm x) : Val.Sm sB (ContainerStatus.enc x) := Q92 (Nat.le_of_ble_eq_true rfl) (List.forall_mem_cons.2 ⟨Val.Sm.leaf 2 _ _, List.forall_mem_cons.2 ⟨Val.Sm.leaf 3 _ _, List.forall_mem_cons.2 ⟨Val.Sm.leaf 1 _ _, List.forall_mem_cons.2 ⟨Val.Sm.leaf 2 _ _, List.forall_mem_cons.2 ⟨Val.Sm.leaf 2 _ _, List.forall_mem_cons.2 ⟨Val.Sm.leaf 1 _ _, List.forall_mem_cons.2 ⟨Val.Sm.leaf 2 _ _, fun _ h => by cases h⟩⟩⟩⟩⟩⟩⟩)
theorem ContainerStatus.Qtv (x : ContainerStatus) : prt (ContainerStatus.enc x) Qr = vS x.name := by kernel_rfl
theorem ContainerStatus.Q1ei (x : ContainerStatus) : prt (ContainerStatus.enc x) Q1t = vN x.state := by kernel_rfl
theorem ContainerStatus.Q15o (x : ContainerStatus) : prt (ContainerStatus.enc x) Qw = vN x.restarts := by kernel_rfl
theorem ContainerStatus.Q13u (x : ContainerStatus) : prt (ContainerStatus.enc x) Qy = vN x.exitCode := by kernel_rfl
theorem ContainerStatus.Qyd (x : ContainerStatus) : prt (ContainerStatus.enc x) Q1v = vN x.since := by kernel_rfl
theorem ContainerStatus.Qlt (x : ContainerStatus) : prt (ContainerStatus.enc x) Qn = vB x.ready := by kernel_rfl
theorem ContainerStatus.Ql0 (x : ContainerStatus) : prt (ContainerStatus.enc x) Qt = vB x.started := by kernel_rfl
theorem ContainerStatus.Q1x (x : ContainerStatus) : ContainerStatus.dec (ContainerStatus.enc x) = (x, true) := by
  have h0 : dS (ContainerStatus.enc x) Qr = (x.name, true) := by unfold dS; rw [ContainerStatus.Qtv]; rfl
  have h1 : dN (ContainerStatus.enc x) Q1t = (x.state, true) := by unfold dN; rw [ContainerStatus.Q1ei]; rfl
  have h2 : dN (ContainerStatus.enc x) Qw = (x.restarts, true) := by unfold dN; rw [ContainerStatus.Q15o]; rfl
  have h3 : dN (ContainerStatus.enc x) Qy = (x.exitCode, true) := by unfold dN; rw [ContainerStatus.Q13u]; rfl
  have h4 : dN (ContainerStatus.enc x) Q1v = (x.since, true) := by unfold dN; rw [ContainerStatus.Qyd]; rfl
  have h5 : dB (ContainerStatus.enc x) Qn = (x.ready, true) := by unfold dB; rw [ContainerStatus.Qlt]; exact xB_b _
  have h6 : dB (ContainerStatus.enc x) Qt = (x.started, true) := by unfold dB; rw [ContainerStatus.Ql0]; exact xB_b _
  unfold ContainerStatus.dec
  rw [h0, h1, h2, h3, h4, h5, h6]
  rfl
theorem ContainerStatus.Q20 {v : Val} (h : (v.kind == 5) = false) : ContainerStatus.dec v = ((ContainerStatus.dec vZ).1, v.kind == 0) := by
  unfold ContainerStatus.dec
  simp only [dN, dS, dB, Q46 h, Q3p h]
  generalize (v.kind == 0) = b
  cases b <;> rfl
theorem ContainerStatus.sub1 (x : Val) : (ContainerStatus.dec (s5 x)).1 = (ContainerStatus.dec x).1 := (Q37 (f := ContainerStatus.dec) (fun _ h => ContainerStatus.Q20 h) rfl x).1
theorem ContainerStatus.sub2 (v : Val) (k : BA) : (ContainerStatus.dec (prt v k)).2 = (isM (prt v k) && (ContainerStatus.dec (s5 (prt v k))).2) := (Q37 (f := ContainerStatus.dec) (fun _ h => ContainerStatus.Q20 h) rfl _).2
def PodStatus.enc (x : PodStatus) : Val := vM [.mk Q2a (vN x.address), .mk Qh (vL (x.containers.map ContainerStatus.enc)), .mk Q2i (vN x.finished), .mk Q21 (vS x.nominated), .mk Q2n (vN x.phase), .mk Qn (vB x.ready), .mk Q1l (vN x.readySince), .mk Q2y (vS x.reason), .mk Qt (vN x.started)]
def PodStatus.dec (v : Val) : PodStatus × Bool := (PodStatus.mk (dN v Q2n).1 (dB v Qn).1 (dN v Q1l).1 (dN v Qt).1 (dN v Q2i).1 (dE ContainerStatus.dec v Qh).1 (dN v Q2a).1 (dS v Q21).1 (dS v Q2y).1, isM v && (dN v Q2a).2 && (dE ContainerStatus.dec v Qh).2 && (dN v Q2i).2 && (dS v Q21).2 && (dN v Q2n).2 && (dB v Qn).2 && (dN v Q1l).2 && (dS v Q2y).2 && (dN v Qt).2)
def PodStatus.sm (x : PodStatus) : Prop := LSm ContainerStatus.sm x.containers ∧ True
theorem PodStatus.Q24 {x : PodStatus} (h : PodStatus.sm x) : Val.Sm sB (PodStatus.enc x) := Q92 (Nat.le_of_ble_eq_true rfl) (List.forall_mem_cons.2 ⟨Val.Sm.leaf 2 _ _, List.forall_mem_cons.2 ⟨Q2x (fun _ h => ContainerStatus.Q24 h) h.1, List.forall_mem_cons.2 ⟨Val.Sm.leaf 2 _ _, List.forall_mem_cons.2 ⟨Val.Sm.leaf 3 _ _, List.forall_mem_cons.2 ⟨Val.Sm.leaf 2 _ _, List.forall_mem_cons.2 ⟨Val.Sm.leaf 1 _ _, List.forall_mem_cons.2 ⟨Val.Sm.leaf 2 _ _, List.forall_mem_cons.2 ⟨Val.Sm.leaf 3 _ _, List.forall_mem_cons.2 ⟨Val.Sm.leaf 2 _ _, fun _ h => by cases h⟩⟩⟩⟩⟩⟩⟩⟩⟩)
theorem PodStatus.Q1ep (x : PodStatus) : prt (PodStatus.enc x) Q2n = vN x.phase := by kernel_rfl
theorem PodStatus.Qlt (x : PodStatus) : prt (PodStatus.enc x) Qn = vB x.ready := by kernel_rfl
theorem PodStatus.Qxe (x : PodStatus) : prt (PodStatus.enc x) Q1l = vN x.readySince := by kernel_rfl
theorem PodStatus.Ql0 (x : PodStatus) : prt (PodStatus.enc x) Qt = vN x.started := by kernel_rfl
theorem PodStatus.Q173 (x : PodStatus) : prt (PodStatus.enc x) Q2i = vN x.finished := by kernel_rfl
theorem PodStatus.Q8v (x : PodStatus) : prt (PodStatus.enc x) Qh = vL (x.containers.map ContainerStatus.enc) := by kernel_rfl
theorem PodStatus.Q18h (x : PodStatus) : prt (PodStatus.enc x) Q2a = vN x.address := by kernel_rfl
theorem PodStatus.Qyp (x : PodStatus) : prt (PodStatus.enc x) Q21 = vS x.nominated := by kernel_rfl
theorem PodStatus.Q1ch (x : PodStatus) : prt (PodStatus.enc x) Q2y = vS x.reason := by kernel_rfl
theorem PodStatus.Q1x (x : PodStatus) : PodStatus.dec (PodStatus.enc x) = (x, true) := by
  have h0 : dN (PodStatus.enc x) Q2n = (x.phase, true) := by unfold dN; rw [PodStatus.Q1ep]; rfl
  have h1 : dB (PodStatus.enc x) Qn = (x.ready, true) := by unfold dB; rw [PodStatus.Qlt]; exact xB_b _
  have h2 : dN (PodStatus.enc x) Q1l = (x.readySince, true) := by unfold dN; rw [PodStatus.Qxe]; rfl
  have h3 : dN (PodStatus.enc x) Qt = (x.started, true) := by unfold dN; rw [PodStatus.Ql0]; rfl
  have h4 : dN (PodStatus.enc x) Q2i = (x.finished, true) := by unfold dN; rw [PodStatus.Q173]; rfl
  have h5 : dE ContainerStatus.dec (PodStatus.enc x) Qh = (x.containers, true) := by unfold dE; rw [PodStatus.Q8v]; exact Q4a ContainerStatus.Q1x _
  have h6 : dN (PodStatus.enc x) Q2a = (x.address, true) := by unfold dN; rw [PodStatus.Q18h]; rfl
  have h7 : dS (PodStatus.enc x) Q21 = (x.nominated, true) := by unfold dS; rw [PodStatus.Qyp]; rfl
  have h8 : dS (PodStatus.enc x) Q2y = (x.reason, true) := by unfold dS; rw [PodStatus.Q1ch]; rfl
  unfold PodStatus.dec
  rw [h0, h1, h2, h3, h4, h5, h6, h7, h8]
  rfl
theorem PodStatus.Q20 {v : Val} (h : (v.kind == 5) = false) : PodStatus.dec v = ((PodStatus.dec vZ).1, v.kind == 0) := by
  unfold PodStatus.dec
  simp only [dN, dS, dB, dE, Q46 h, Q3p h]
  generalize (v.kind == 0) = b
  cases b <;> rfl
theorem PodStatus.sub1 (x : Val) : (PodStatus.dec (s5 x)).1 = (PodStatus.dec x).1 := (Q37 (f := PodStatus.dec) (fun _ h => PodStatus.Q20 h) rfl x).1
theorem PodStatus.sub2 (v : Val) (k : BA) : (PodStatus.dec (prt v k)).2 = (isM (prt v k) && (PodStatus.dec (s5 (prt v k))).2) := (Q37 (f := PodStatus.dec) (fun _ h => PodStatus.Q20 h) rfl _).2
def Taint.enc (x : Taint) : Val := vM [.mk Q1i (vN x.effect), .mk Q1b (vS x.key), .mk Q1v (vN x.since), .mk Q1d (vS x.value)]
def Taint.dec (v : Val) : Taint × Bool := (Taint.mk (dS v Q1b).1 (dS v Q1d).1 (dN v Q1i).1 (dN v Q1v).1, isM v && (dN v Q1i).2 && (dS v Q1b).2 && (dN v Q1v).2 && (dS v Q1d).2)
def Taint.sm (_ : Taint) : Prop := True
theorem Taint.Q24 {x : Taint} (_ : Taint.sm x) : Val.Sm sB (Taint.enc x) := Q92 (Nat.le_of_ble_eq_true rfl) (List.forall_mem_cons.2 ⟨Val.Sm.leaf 2 _ _, List.forall_mem_cons.2 ⟨Val.Sm.leaf 3 _ _, List.forall_mem_cons.2 ⟨Val.Sm.leaf 2 _ _, List.forall_mem_cons.2 ⟨Val.Sm.leaf 3 _ _, fun _ h => by cases h⟩⟩⟩⟩)
theorem Taint.Qym (x : Taint) : prt (Taint.enc x) Q1b = vS x.key := by kernel_rfl
theorem Taint.Qm7 (x : Taint) : prt (Taint.enc x) Q1d = vS x.value := by kernel_rfl
theorem Taint.Qsh (x : Taint) : prt (Taint.enc x) Q1i = vN x.effect := by kernel_rfl
theorem Taint.Qyd (x : Taint) : prt (Taint.enc x) Q1v = vN x.since := by kernel_rfl
theorem Taint.Q1x (x : Taint) : Taint.dec (Taint.enc x) = (x, true) := by
  have h0 : dS (Taint.enc x) Q1b = (x.key, true) := by unfold dS; rw [Taint.Qym]; rfl
  have h1 : dS (Taint.enc x) Q1d = (x.value, true) := by unfold dS; rw [Taint.Qm7]; rfl
  have h2 : dN (Taint.enc x) Q1i = (x.effect, true) := by unfold dN; rw [Taint.Qsh]; rfl
  have h3 : dN (Taint.enc x) Q1v = (x.since, true) := by unfold dN; rw [Taint.Qyd]; rfl
  unfold Taint.dec
  rw [h0, h1, h2, h3]
  rfl
theorem Taint.Q20 {v : Val} (h : (v.kind == 5) = false) : Taint.dec v = ((Taint.dec vZ).1, v.kind == 0) := by
  unfold Taint.dec
  simp only [dN, dS, Q46 h, Q3p h]
  generalize (v.kind == 0) = b
  cases b <;> rfl
theorem Taint.sub1 (x : Val) : (Taint.dec (s5 x)).1 = (Taint.dec x).1 := (Q37 (f := Taint.dec) (fun _ h => Taint.Q20 h) rfl x).1
theorem Taint.sub2 (v : Val) (k : BA) : (Taint.dec (prt v k)).2 = (isM (prt v k) && (Taint.dec (s5 (prt v k))).2) := (Q37 (f := Taint.dec) (fun _ h => Taint.Q20 h) rfl _).2
def Image.enc (x : Image) : Val := vM [.mk Qr (vS x.name), .mk Qig (vN x.size), .mk Qki (vN x.used)]
def Image.dec (v : Val) : Image × Bool := (Image.mk (dS v Qr).1 (dN v Qig).1 (dN v Qki).1, isM v && (dS v Qr).2 && (dN v Qig).2 && (dN v Qki).2)
def Image.sm (_ : Image) : Prop := True
theorem Image.Q24 {x : Image} (_ : Image.sm x) : Val.Sm sB (Image.enc x) := Q92 (Nat.le_of_ble_eq_true rfl) (List.forall_mem_cons.2 ⟨Val.Sm.leaf 3 _ _, List.forall_mem_cons.2 ⟨Val.Sm.leaf 2 _ _, List.forall_mem_cons.2 ⟨Val.Sm.leaf 2 _ _, fun _ h => by cases h⟩⟩⟩)
theorem Image.Qtv (x : Image) : prt (Image.enc x) Qr = vS x.name := by kernel_rfl
theorem Image.Q1jq (x : Image) : prt (Image.enc x) Qig = vN x.size := by kernel_rfl
theorem Image.Q1ii (x : Image) : prt (Image.enc x) Qki = vN x.used := by kernel_rfl
theorem Image.Q1x (x : Image) : Image.dec (Image.enc x) = (x, true) := by
  have h0 : dS (Image.enc x) Qr = (x.name, true) := by unfold dS; rw [Image.Qtv]; rfl
  have h1 : dN (Image.enc x) Qig = (x.size, true) := by unfold dN; rw [Image.Q1jq]; rfl
  have h2 : dN (Image.enc x) Qki = (x.used, true) := by unfold dN; rw [Image.Q1ii]; rfl
  unfold Image.dec
  rw [h0, h1, h2]
  rfl
theorem Image.Q20 {v : Val} (h : (v.kind == 5) = false) : Image.dec v = ((Image.dec vZ).1, v.kind == 0) := by
  unfold Image.dec
  simp only [dN, dS, Q46 h, Q3p h]
  generalize (v.kind == 0) = b
  cases b <;> rfl
theorem Image.sub1 (x : Val) : (Image.dec (s5 x)).1 = (Image.dec x).1 := (Q37 (f := Image.dec) (fun _ h => Image.Q20 h) rfl x).1
theorem Image.sub2 (v : Val) (k : BA) : (Image.dec (prt v k)).2 = (isM (prt v k) && (Image.dec (s5 (prt v k))).2) := (Q37 (f := Image.dec) (fun _ h => Image.Q20 h) rfl _).2
def Label.enc (x : Label) : Val := vM [.mk Q1b (vS x.key), .mk Q1d (vS x.value)]
def Label.dec (v : Val) : Label × Bool := (Label.mk (dS v Q1b).1 (dS v Q1d).1, isM v && (dS v Q1b).2 && (dS v Q1d).2)
def Label.sm (_ : Label) : Prop := True
theorem Label.Q24 {x : Label} (_ : Label.sm x) : Val.Sm sB (Label.enc x) := Q92 (Nat.le_of_ble_eq_true rfl) (List.forall_mem_cons.2 ⟨Val.Sm.leaf 3 _ _, List.forall_mem_cons.2 ⟨Val.Sm.leaf 3 _ _, fun _ h => by cases h⟩⟩)
theorem Label.Qym (x : Label) : prt (Label.enc x) Q1b = vS x.key := by kernel_rfl
theorem Label.Qm7 (x : Label) : prt (Label.enc x) Q1d = vS x.value := by kernel_rfl
theorem Label.Q1x (x : Label) : Label.dec (Label.enc x) = (x, true) := by
  have h0 : dS (Label.enc x) Q1b = (x.key, true) := by unfold dS; rw [Label.Qym]; rfl
  have h1 : dS (Label.enc x) Q1d = (x.value, true) := by unfold dS; rw [Label.Qm7]; rfl
  unfold Label.dec
  rw [h0, h1]
  rfl
theorem Label.Q20 {v : Val} (h : (v.kind == 5) = false) : Label.dec v = ((Label.dec vZ).1, v.kind == 0) := by
  unfold Label.dec
  simp only [dS, Q46 h, Q3p h]
  generalize (v.kind == 0) = b
  cases b <;> rfl
theorem Label.sub1 (x : Val) : (Label.dec (s5 x)).1 = (Label.dec x).1 := (Q37 (f := Label.dec) (fun _ h => Label.Q20 h) rfl x).1
theorem Label.sub2 (v : Val) (k : BA) : (Label.dec (prt v k)).2 = (isM (prt v k) && (Label.dec (s5 (prt v k))).2) := (Q37 (f := Label.dec) (fun _ h => Label.Q20 h) rfl _).2
def Template.enc (x : Template) : Val := vM [.mk Q8o (vL (x.labels.map Label.enc)), .mk Qky (PodSpec.enc x.spec)]
def Template.dec (v : Val) : Template × Bool := (Template.mk (dE Label.dec v Q8o).1 (dT PodSpec.dec v Qky).1, isM v && (dE Label.dec v Q8o).2 && (dT PodSpec.dec v Qky).2)
def Template.sm (x : Template) : Prop := LSm Label.sm x.labels ∧ PodSpec.sm x.spec ∧ True
theorem Template.Q24 {x : Template} (h : Template.sm x) : Val.Sm sB (Template.enc x) := Q92 (Nat.le_of_ble_eq_true rfl) (List.forall_mem_cons.2 ⟨Q2x (fun _ h => Label.Q24 h) h.1, List.forall_mem_cons.2 ⟨PodSpec.Q24 h.2.1, fun _ h => by cases h⟩⟩)
theorem Template.Q1ci (x : Template) : prt (Template.enc x) Q8o = vL (x.labels.map Label.enc) := by kernel_rfl
theorem Template.Q1iz (x : Template) : prt (Template.enc x) Qky = PodSpec.enc x.spec := by kernel_rfl
theorem Template.Q1x (x : Template) : Template.dec (Template.enc x) = (x, true) := by
  have h0 : dE Label.dec (Template.enc x) Q8o = (x.labels, true) := by unfold dE; rw [Template.Q1ci]; exact Q4a Label.Q1x _
  have h1 : dT PodSpec.dec (Template.enc x) Qky = (x.spec, true) := by unfold dT; rw [Template.Q1iz]; exact PodSpec.Q1x _
  unfold Template.dec
  rw [h0, h1]
  rfl
theorem Template.Q20 {v : Val} (h : (v.kind == 5) = false) : Template.dec v = ((Template.dec vZ).1, v.kind == 0) := by
  unfold Template.dec
  simp only [dE, dT, Q46 h, Q3p h]
  generalize (v.kind == 0) = b
  cases b <;> rfl
theorem Template.sub1 (x : Val) : (Template.dec (s5 x)).1 = (Template.dec x).1 := (Q37 (f := Template.dec) (fun _ h => Template.Q20 h) rfl x).1
theorem Template.sub2 (v : Val) (k : BA) : (Template.dec (prt v k)).2 = (isM (prt v k) && (Template.dec (s5 (prt v k))).2) := (Q37 (f := Template.dec) (fun _ h => Template.Q20 h) rfl _).2
end Go.Proofs.YtiflaadeikaghaaGreat
end

section
/- What the program's encoders compute (printed by a program). -/
namespace Go.Proofs.YtiflaadeikaghaaGreat
open Go.Pv
def Q2g (p0 : BA) : Val :=
 (Val.mk 3 0 p0 [] [])
def Q1op (p0 : BA) : En := .call 109 [.str p0] []
def Q1i8 (p0 : BA) : Rs := .ret (.agg (Val.cells (Q2g p0))) []
theorem Qe6 (p0 : BA) : Q6 G (Q1op p0) (Q1i8 p0) := by
 unfold Q1i8 Q2g
 exact Q7 (fn := Ir.K41) rfl VOK.nil [] [] (by kernel_rfl)
def Qj (p0 : BA) (p1 : Val) : Fld :=
 (Fld.mk p0 p1)
def Q1nc (p0 : BA) (p1 : Val) : En := .call 62 [.str p0, .agg (Val.cells p1)] []
def Q1il (p0 : BA) (p1 : Val) : Rs := .ret (.agg (Fld.cells (Qj p0 p1))) []
theorem Q2p (p0 : BA) (p1 : Val) : Q6 G (Q1nc p0 p1) (Q1il p0 p1) := by
 unfold Q1il Qj
 exact Q7 (fn := Ir.K1r) rfl VOK.nil [] [] (by kernel_rfl)
def Q15 (p0 : Int) : Val :=
 (Val.mk 2 p0 eB [] [])
def Q1p4 (p0 : Int) : En := .call 65 [.int .i64 p0] []
def Q1jk (p0 : Int) : Rs := .ret (.agg (Val.cells (Q15 p0))) []
theorem Q5s (p0 : Int) : Q6 G (Q1p4 p0) (Q1jk p0) := by
 unfold Q1jk Q15
 exact Q7 (fn := Ir.K3x) rfl VOK.nil [] [] (by kernel_rfl)
def Qea (p0 : Resources) : Val := Resources.enc p0
theorem Q1q2 (p0 : Resources) : Qea p0 = ((Q9z ([(Qj Q47 (Q15 p0.cPU)), (Qj Q3q (Q15 p0.disk)), (Qj Q2q (Q15 p0.memory))]))) := by
  exact Eq.symm (Q53 (by exact Nat.le_of_ble_eq_true rfl) (by kernel_rfl))
def Q1my (p0 : Resources) : En := .call 63 [.agg (Resources.cells p0)] []
def Q1i0 (p0 : Resources) : Rs := .ret (.agg (Val.cells (Qea p0))) []
def Q1cp (p0 : Resources) : Prop := Resources.sm p0
theorem Q1c8 (p0 : Resources) (H : Q1cp p0) : (Qdk ([(Qj Q47 (Q15 p0.cPU)), (Qj Q3q (Q15 p0.disk)), (Qj Q2q (Q15 p0.memory))])) ∧ True := by
  repeat' with_reducible apply And.intro
  all_goals first | exact True.intro | exact H | exact H.1 | exact H.2.1 | exact H.2.2.1 | exact H.2.2.2.1 | exact H.2.2.2.2.1 | exact H.2.2.2.2.2.1 | exact H.2.2.2.2.2.2.1 | exact H.2.2.2.2.2.2.2.1 | exact H.2.2.2.2.2.2.2.2.1 | exact H.2.2.2.2.2.2.2.2.2.1 | exact H.2.2.2.2.2.2.2.2.2.2.1 | exact Qhv (by exact Nat.le_of_ble_eq_true rfl) (Resources.Q24 H).all.2.2.2
theorem Q1jt (p0 : Resources) (H : Q1cp p0) : Q6 G (Q1my p0) (Q1i0 p0) := by
 unfold Q1i0
 rw [Q1q2]
 exact Q7 (fn := Ir.K1l) rfl VOK.nil [] [aN (Q5s p0.cPU), aN (Q2p Q47 (Q15 p0.cPU)), aN (Q5s p0.disk), aN (Q2p Q3q (Q15 p0.disk)), aN (Q5s p0.memory), aN (Q2p Q2q (Q15 p0.memory)), aN (Q6j (e' := .call 61 [.sl [(Fld.cells (Qj Q47 (Q15 p0.cPU))), (Fld.cells (Qj Q3q (Q15 p0.disk))), (Fld.cells (Qj Q2q (Q15 p0.memory)))]] []) (Qhl ([(Qj Q47 (Q15 p0.cPU)), (Qj Q3q (Q15 p0.disk)), (Qj Q2q (Q15 p0.memory))]) (Q1c8 p0 H).1) (by simp only [Qe8, Fld.Q2j, Fld.Q34]))] (by kernel_rfl)
def Qat (p0 : Probe) : Val := Probe.enc p0
theorem Q1q3 (p0 : Probe) : Qat p0 = ((Q9z ([(Qj Q1z (Q15 p0.delay)), (Qj Q1m (Q15 p0.failure)), (Qj Q1s (Q15 p0.period)), (Qj Q1h (Q15 p0.success))]))) := by
  exact Eq.symm (Q53 (by exact Nat.le_of_ble_eq_true rfl) (by kernel_rfl))
def Q1ko (p0 : Probe) : En := .call 147 [.agg (Probe.cells p0)] []
def Q1id (p0 : Probe) : Rs := .ret (.agg (Val.cells (Qat p0))) []
def Q1fc (p0 : Probe) : Prop := Probe.sm p0
theorem Q1bk (p0 : Probe) (H : Q1fc p0) : (Qdk ([(Qj Q1z (Q15 p0.delay)), (Qj Q1m (Q15 p0.failure)), (Qj Q1s (Q15 p0.period)), (Qj Q1h (Q15 p0.success))])) ∧ True := by
  repeat' with_reducible apply And.intro
  all_goals first | exact True.intro | exact H | exact H.1 | exact H.2.1 | exact H.2.2.1 | exact H.2.2.2.1 | exact H.2.2.2.2.1 | exact H.2.2.2.2.2.1 | exact H.2.2.2.2.2.2.1 | exact H.2.2.2.2.2.2.2.1 | exact H.2.2.2.2.2.2.2.2.1 | exact H.2.2.2.2.2.2.2.2.2.1 | exact H.2.2.2.2.2.2.2.2.2.2.1 | exact Qhv (by exact Nat.le_of_ble_eq_true rfl) (Probe.Q24 H).all.2.2.2
theorem Q1mm (p0 : Probe) (H : Q1fc p0) : Q6 G (Q1ko p0) (Q1id p0) := by
 unfold Q1id
 rw [Q1q3]
 exact Q7 (fn := Ir.K1j) rfl VOK.nil [] [aN (Q5s p0.delay), aN (Q2p Q1z (Q15 p0.delay)), aN (Q5s p0.failure), aN (Q2p Q1m (Q15 p0.failure)), aN (Q5s p0.period), aN (Q2p Q1s (Q15 p0.period)), aN (Q5s p0.success), aN (Q2p Q1h (Q15 p0.success)), aN (Q6j (e' := .call 61 [.sl [(Fld.cells (Qj Q1z (Q15 p0.delay))), (Fld.cells (Qj Q1m (Q15 p0.failure))), (Fld.cells (Qj Q1s (Q15 p0.period))), (Fld.cells (Qj Q1h (Q15 p0.success)))]] []) (Qhl ([(Qj Q1z (Q15 p0.delay)), (Qj Q1m (Q15 p0.failure)), (Qj Q1s (Q15 p0.period)), (Qj Q1h (Q15 p0.success))]) (Q1bk p0 H).1) (by simp only [Qe8, Fld.Q2j, Fld.Q34]))] (by kernel_rfl)
def Q40 (p0 : List Probe) : List Probe → Nat → (List Val) → List Val
 | [], _i0, v0_1 =>
  v0_1
 | x0 :: r0, i0, v0_1 =>
  Q40 p0 r0 (i0 + 1) (v0_1 ++ [(Qat x0)])
theorem Qsf (p0 : List Probe) : ∀ (l : List Probe) (i : Nat) (a : List Val), Q40 p0 l i a = a ++ l.map (fun x0 => (Qat x0))
  | [], _, _ => by simp [Q40]
  | x :: r, i, a => by rw [Q40, Qsf p0 r]; simp
def Qvc (p0 : List Probe) (i0 : Nat) (v0_1 : List Val) : List PV :=
  [.un, .fn 147 [] [], .un, .un, .bx 0 0, .ms 1 5 0 (List.length v0_1), .un, .un, .sl (Probe.rows p0), .int .i64 ((List.length p0) : Int), .int .i64 (i0 : Int)] ++ nuns 12
def Qi5 (_p0 : List Probe) (_i0 : Nat) (v0_1 : List Val) : List Ob :=
  [⟨5, 0, true, [.int .i64 0, .int .i64 0, .str eB, .ms 2 5 0 0, .ms 3 6 0 0]⟩, ⟨5, 0, true, (Val.rows v0_1).flatten⟩, ⟨5, 0, true, []⟩, ⟨6, 0, true, []⟩]
def Qel (p0 : List Probe) (i0 : Nat) (v0_1 : List Val) : En := .loop 0 Ir.Qj1 Ir.Q1dm (Qvc p0 i0 v0_1) (Qi5 p0 i0 v0_1)
def Qqz (_p0 : List Probe) (q0 : List Val) (z : Nat → PV) (_zo : Nat → List PV) : St :=
  ⟨[z 0, z 1, z 2, z 3, .bx 0 0, .ms 1 5 0 (List.length q0)] ++ zr z 6 17, [(0, ⟨5, 0, true, [.int .i64 0, .int .i64 0, .str eB, .ms 2 5 0 0, .ms 3 6 0 0]⟩), (1, ⟨5, 0, true, (Val.rows q0).flatten⟩), (2, ⟨5, 0, true, []⟩), (3, ⟨6, 0, true, []⟩)], 68⟩
theorem Q11f (p0 : List Probe) (i0 : Nat) (v0_1 : List Val) : VOK (Go.Pv.look (number 0 (Qi5 p0 i0 v0_1))) [(1, Val.rows v0_1)] := (VOK.cons (show Seen _ _ from Q3h (ob := ⟨5, 0, true, (Val.rows v0_1).flatten⟩) (Val.Q9 v0_1 5 rfl)) VOK.nil)
def Qgs (p0 : List Probe) (e : En) (q : List Val) : Prop := ∃ z zo, Q6 G e (.st (.exit 0) (Qqz p0 q z zo))
theorem Qrw (p0 : List Probe) {e e' : En} (h : ∀ r, Q6 G e r → Q6 G e' r) : ∀ q, Qgs p0 e q → Qgs p0 e' q
  | _, ⟨z, zo, hz⟩ => ⟨z, zo, h _ hz⟩
def Qer (p0 : List Probe) : Prop := (List.length p0 ≤ 137438953472) ∧ (∀ x0 ∈ p0, Q1fc x0) ∧ True
def Qnn (p0 : List Probe) (i0 : Nat) (_v0_1 : List Val) : List PV :=
  [.un, .fn 147 [] []] ++ nuns 6 ++ [.sl (Probe.rows p0), .int .i64 ((List.length p0) : Int), .int .i64 (i0 : Int), .bool false]
def Qk2 (_p0 : List Probe) (_i0 : Nat) (_v0_1 : List Val) : List (Nat × List PV) :=
  []
theorem Q16u (p0 : List Probe) (_H : Qer p0) (i0 : Nat) (v0_1 : List Val) (_ho0_0 : List.length v0_1 ≤ i0) (hc0 : (decide ((i0 : Int) < ((List.length p0) : Int))) = false) : Qgs p0 (Qel p0 i0 v0_1) v0_1 := by
 exact ⟨(envF (Qnn p0 i0 v0_1)), (zoF (Qk2 p0 i0 v0_1)), Qe (Q11f p0 i0 v0_1) (x := ((.exit 0), Qqz p0 v0_1 (envF (Qnn p0 i0 v0_1)) (zoF (Qk2 p0 i0 v0_1)))) [hB 0 hc0] [] (by kernel_rfl)⟩
theorem Q13c (p0 : List Probe) (H : Qer p0) (x0 : Probe) (i0 : Nat) (v0_1 : List Val) (hx0 : p0[i0]? = some x0) (hi0 : i0 < List.length p0) (ho0_0 : List.length v0_1 ≤ i0) (hc0 : (decide ((i0 : Int) < ((List.length p0) : Int))) = true) {r : Rs} (hr : Q6 G (Qel p0 (i0 + 1) (v0_1 ++ [(Qat x0)])) r) : Q6 G (Qel p0 i0 v0_1) r := by
 have hB0 := H.1
 exact Ql (Q11f p0 i0 v0_1) (y := (Qvc p0 (i0 + 1) (v0_1 ++ [(Qat x0)]), Qi5 p0 (i0 + 1) (v0_1 ++ [(Qat x0)]))) [hB 0 hc0, hP 0 (Q1u 4 (Probe.rows p0) i0 _ (Probe.Qb hx0) rfl), hV 8 [(644, Val.rows (v0_1 ++ [(Qat x0)]))] (Q55 1 580 644 5 80 0 0 true (Val.rows v0_1) (Val.rows (v0_1 ++ [(Qat x0)])) (Val.cells (Qat x0)) (List.length v0_1) (List.length (v0_1 ++ [(Qat x0)])) rfl (Val.Q5 v0_1).symm (Val.Q5 (v0_1 ++ [(Qat x0)])).symm (Val.Q12 v0_1 (Qat x0)) (Val.Qf v0_1) rfl (by omega)), hS 0 true (Val.Q9 (v0_1 ++ [(Qat x0)]) 5 rfl), hP 1 (Q27 i0 (by omega))] [aN (Q1mm x0 (H.2.1 x0 (Q2c hx0)))] (by kernel_rfl) hr
theorem Qvl (p0 : List Probe) (H : Qer p0) : ∀ (r0 : List Probe) (i0 : Nat) (v0_1 : List Val), List.drop i0 p0 = r0 → List.length v0_1 ≤ i0 → Qgs p0 (Qel p0 i0 v0_1) (Q40 p0 r0 i0 v0_1)
 | [], i0, v0_1, hd, ho0_0 => by
  have hc0 : (decide ((i0 : Int) < ((List.length p0) : Int))) = false := by have := Q1f hd; simp; omega
  rw [Q40]
  exact Q16u p0 H i0 v0_1 ho0_0 hc0
 | x0 :: r0, i0, v0_1, hd, ho0_0 => by
  obtain ⟨hx0, hi0, hd'⟩ := Q11 hd
  have hc0 : (decide ((i0 : Int) < ((List.length p0) : Int))) = true := by simp; omega
  rw [Q40]
  exact Qrw p0 (fun r hr => Q13c p0 H x0 i0 v0_1 hx0 hi0 ho0_0 hc0 hr) _ (Qvl p0 H r0 (i0 + 1) (v0_1 ++ [(Qat x0)]) hd' (by first | omega | (simp; omega)))
def Q2m (p0 : List Probe) : Val := vL (p0.map Probe.enc)
theorem Q155 (p0 : List Probe) : Q2m p0 = ((Qiu (Q40 p0 p0 0 []))) := by
  rw [Qsf]
  rfl
def Q13r (p0 : List Probe) : En := .call 146 [.sl (Probe.rows p0), .fn 147 [] []] []
def Qn9 (p0 : List Probe) : Rs := .ret (.agg (Val.cells (Q2m p0))) []
def Q7j (p0 : List Probe) : Prop := LSm Probe.sm p0
theorem Qc2 (p0 : List Probe) (H : Q7j p0) : (Qer p0) ∧ (Qml (Q40 p0 p0 0 [])) ∧ True := by
  refine ⟨⟨Nat.le_trans H.1 (Nat.le_of_ble_eq_true rfl), H.2, trivial⟩, ⟨?_, trivial⟩, trivial⟩
  rw [Qsf]
  exact Q2x (fun _ h => Probe.Q24 h) H
theorem Qd5 (p0 : List Probe) (H : Q7j p0) : Q6 G (Q13r p0) (Qn9 p0) := by
 unfold Qn9
 rw [Q155]
 have hl0 := Qvl p0 ((Qc2 p0 H).1) p0 0 [] (by simp) (by simp)
 obtain ⟨z0, zo0, hl0⟩ := hl0
 exact Q7 (fn := Ir.K20) rfl VOK.nil [hP 3 (Qd (Probe.rows p0) (List.length p0) (Probe.Q5 p0)), hS 0 true (Val.Q9 (Q40 p0 p0 0 []) 5 rfl), hQ (Val.Q5 (Q40 p0 p0 0 [])).symm] [aV [(1, Val.rows (Q40 p0 p0 0 []))] hl0, aN (Qr6 (Q40 p0 p0 0 []) (Qc2 p0 H).2.1)] (by kernel_rfl)
def Qaf (p0 : Container) : Val := Container.enc p0
theorem Q1o1 (p0 : Container) : Qaf p0 = ((Q9z ([(Qj Q1w (Q2g p0.image)), (Qj Q2d (Qea p0.limit)), (Qj Q2h (Q2m p0.live)), (Qj Qr (Q2g p0.name)), (Qj Qn (Q2m p0.ready)), (Qj Q13 (Qea p0.request)), (Qj Q1o (Q2m p0.startup))]))) := by
  exact Eq.symm (Q53 (by exact Nat.le_of_ble_eq_true rfl) (by kernel_rfl))
def Q1m1 (p0 : Container) : En := .call 108 [.agg (Container.cells p0)] []
def Q1i5 (p0 : Container) : Rs := .ret (.agg (Val.cells (Qaf p0))) []
def Q1f9 (p0 : Container) : Prop := Container.sm p0
theorem Q9a (p0 : Container) (H : Q1f9 p0) : (Q1cp p0.limit) ∧ (Q7j p0.live) ∧ (Q7j p0.ready) ∧ (Q1cp p0.request) ∧ (Q7j p0.startup) ∧ (Qdk ([(Qj Q1w (Q2g p0.image)), (Qj Q2d (Qea p0.limit)), (Qj Q2h (Q2m p0.live)), (Qj Qr (Q2g p0.name)), (Qj Qn (Q2m p0.ready)), (Qj Q13 (Qea p0.request)), (Qj Q1o (Q2m p0.startup))])) ∧ True := by
  repeat' with_reducible apply And.intro
  all_goals first | exact True.intro | exact H | exact H.1 | exact H.2.1 | exact H.2.2.1 | exact H.2.2.2.1 | exact H.2.2.2.2.1 | exact H.2.2.2.2.2.1 | exact H.2.2.2.2.2.2.1 | exact H.2.2.2.2.2.2.2.1 | exact H.2.2.2.2.2.2.2.2.1 | exact H.2.2.2.2.2.2.2.2.2.1 | exact H.2.2.2.2.2.2.2.2.2.2.1 | exact Qhv (by exact Nat.le_of_ble_eq_true rfl) (Container.Q24 H).all.2.2.2
theorem Q1kv (p0 : Container) (H : Q1f9 p0) : Q6 G (Q1m1 p0) (Q1i5 p0) := by
 unfold Q1i5
 rw [Q1o1]
 exact Q7 (fn := Ir.K1d) rfl VOK.nil [] [aN (Qe6 p0.image), aN (Q2p Q1w (Q2g p0.image)), aN (Q1jt p0.limit (Q9a p0 H).1), aN (Q2p Q2d (Qea p0.limit)), aN (Qd5 p0.live (Q9a p0 H).2.1), aN (Q2p Q2h (Q2m p0.live)), aN (Qe6 p0.name), aN (Q2p Qr (Q2g p0.name)), aN (Qd5 p0.ready (Q9a p0 H).2.2.1), aN (Q2p Qn (Q2m p0.ready)), aN (Q1jt p0.request (Q9a p0 H).2.2.2.1), aN (Q2p Q13 (Qea p0.request)), aN (Qd5 p0.startup (Q9a p0 H).2.2.2.2.1), aN (Q2p Q1o (Q2m p0.startup)), aN (Q6j (e' := .call 61 [.sl [(Fld.cells (Qj Q1w (Q2g p0.image))), (Fld.cells (Qj Q2d (Qea p0.limit))), (Fld.cells (Qj Q2h (Q2m p0.live))), (Fld.cells (Qj Qr (Q2g p0.name))), (Fld.cells (Qj Qn (Q2m p0.ready))), (Fld.cells (Qj Q13 (Qea p0.request))), (Fld.cells (Qj Q1o (Q2m p0.startup)))]] []) (Qhl ([(Qj Q1w (Q2g p0.image)), (Qj Q2d (Qea p0.limit)), (Qj Q2h (Q2m p0.live)), (Qj Qr (Q2g p0.name)), (Qj Qn (Q2m p0.ready)), (Qj Q13 (Qea p0.request)), (Qj Q1o (Q2m p0.startup))]) (Q9a p0 H).2.2.2.2.2.1) (by simp only [Qe8, Fld.Q2j, Fld.Q34]))] (by kernel_rfl)
def Q3y (p0 : List Container) : List Container → Nat → (List Val) → List Val
 | [], _i0, v0_1 =>
  v0_1
 | x0 :: r0, i0, v0_1 =>
  Q3y p0 r0 (i0 + 1) (v0_1 ++ [(Qaf x0)])
theorem Qse (p0 : List Container) : ∀ (l : List Container) (i : Nat) (a : List Val), Q3y p0 l i a = a ++ l.map (fun x0 => (Qaf x0))
  | [], _, _ => by simp [Q3y]
  | x :: r, i, a => by rw [Q3y, Qse p0 r]; simp
def Quc (p0 : List Container) (i0 : Nat) (v0_1 : List Val) : List PV :=
  [.un, .fn 108 [] [], .un, .un, .bx 0 0, .ms 1 5 0 (List.length v0_1), .un, .un, .sl (Container.rows p0), .int .i64 ((List.length p0) : Int), .int .i64 (i0 : Int)] ++ nuns 12
def Qim (_p0 : List Container) (_i0 : Nat) (v0_1 : List Val) : List Ob :=
  [⟨5, 0, true, [.int .i64 0, .int .i64 0, .str eB, .ms 2 5 0 0, .ms 3 6 0 0]⟩, ⟨5, 0, true, (Val.rows v0_1).flatten⟩, ⟨5, 0, true, []⟩, ⟨6, 0, true, []⟩]
def Qeg (p0 : List Container) (i0 : Nat) (v0_1 : List Val) : En := .loop 0 Ir.Qib Ir.Q1e3 (Quc p0 i0 v0_1) (Qim p0 i0 v0_1)
def Qpj (_p0 : List Container) (q0 : List Val) (z : Nat → PV) (_zo : Nat → List PV) : St :=
  ⟨[z 0, z 1, z 2, z 3, .bx 0 0, .ms 1 5 0 (List.length q0)] ++ zr z 6 17, [(0, ⟨5, 0, true, [.int .i64 0, .int .i64 0, .str eB, .ms 2 5 0 0, .ms 3 6 0 0]⟩), (1, ⟨5, 0, true, (Val.rows q0).flatten⟩), (2, ⟨5, 0, true, []⟩), (3, ⟨6, 0, true, []⟩)], 68⟩
theorem Q10j (p0 : List Container) (i0 : Nat) (v0_1 : List Val) : VOK (Go.Pv.look (number 0 (Qim p0 i0 v0_1))) [(1, Val.rows v0_1)] := (VOK.cons (show Seen _ _ from Q3h (ob := ⟨5, 0, true, (Val.rows v0_1).flatten⟩) (Val.Q9 v0_1 5 rfl)) VOK.nil)
def Qg1 (p0 : List Container) (e : En) (q : List Val) : Prop := ∃ z zo, Q6 G e (.st (.exit 0) (Qpj p0 q z zo))
theorem Qra (p0 : List Container) {e e' : En} (h : ∀ r, Q6 G e r → Q6 G e' r) : ∀ q, Qg1 p0 e q → Qg1 p0 e' q
  | _, ⟨z, zo, hz⟩ => ⟨z, zo, h _ hz⟩
def Qf0 (p0 : List Container) : Prop := (List.length p0 ≤ 137438953472) ∧ (∀ x0 ∈ p0, Q1f9 x0) ∧ True
def Qnh (p0 : List Container) (i0 : Nat) (_v0_1 : List Val) : List PV :=
  [.un, .fn 108 [] []] ++ nuns 6 ++ [.sl (Container.rows p0), .int .i64 ((List.length p0) : Int), .int .i64 (i0 : Int), .bool false]
def Ql3 (_p0 : List Container) (_i0 : Nat) (_v0_1 : List Val) : List (Nat × List PV) :=
  []
theorem Q143 (p0 : List Container) (_H : Qf0 p0) (i0 : Nat) (v0_1 : List Val) (_ho0_0 : List.length v0_1 ≤ i0) (hc0 : (decide ((i0 : Int) < ((List.length p0) : Int))) = false) : Qg1 p0 (Qeg p0 i0 v0_1) v0_1 := by
 exact ⟨(envF (Qnh p0 i0 v0_1)), (zoF (Ql3 p0 i0 v0_1)), Qe (Q10j p0 i0 v0_1) (x := ((.exit 0), Qpj p0 v0_1 (envF (Qnh p0 i0 v0_1)) (zoF (Ql3 p0 i0 v0_1)))) [hB 0 hc0] [] (by kernel_rfl)⟩
theorem Q162 (p0 : List Container) (H : Qf0 p0) (x0 : Container) (i0 : Nat) (v0_1 : List Val) (hx0 : p0[i0]? = some x0) (hi0 : i0 < List.length p0) (ho0_0 : List.length v0_1 ≤ i0) (hc0 : (decide ((i0 : Int) < ((List.length p0) : Int))) = true) {r : Rs} (hr : Q6 G (Qeg p0 (i0 + 1) (v0_1 ++ [(Qaf x0)])) r) : Q6 G (Qeg p0 i0 v0_1) r := by
 have hB0 := H.1
 exact Ql (Q10j p0 i0 v0_1) (y := (Quc p0 (i0 + 1) (v0_1 ++ [(Qaf x0)]), Qim p0 (i0 + 1) (v0_1 ++ [(Qaf x0)]))) [hB 0 hc0, hP 0 (Q1u 11 (Container.rows p0) i0 _ (Container.Qb hx0) rfl), hV 8 [(644, Val.rows (v0_1 ++ [(Qaf x0)]))] (Q55 1 580 644 5 80 0 0 true (Val.rows v0_1) (Val.rows (v0_1 ++ [(Qaf x0)])) (Val.cells (Qaf x0)) (List.length v0_1) (List.length (v0_1 ++ [(Qaf x0)])) rfl (Val.Q5 v0_1).symm (Val.Q5 (v0_1 ++ [(Qaf x0)])).symm (Val.Q12 v0_1 (Qaf x0)) (Val.Qf v0_1) rfl (by omega)), hS 0 true (Val.Q9 (v0_1 ++ [(Qaf x0)]) 5 rfl), hP 1 (Q27 i0 (by omega))] [aN (Q1kv x0 (H.2.1 x0 (Q2c hx0)))] (by kernel_rfl) hr
theorem Qwj (p0 : List Container) (H : Qf0 p0) : ∀ (r0 : List Container) (i0 : Nat) (v0_1 : List Val), List.drop i0 p0 = r0 → List.length v0_1 ≤ i0 → Qg1 p0 (Qeg p0 i0 v0_1) (Q3y p0 r0 i0 v0_1)
 | [], i0, v0_1, hd, ho0_0 => by
  have hc0 : (decide ((i0 : Int) < ((List.length p0) : Int))) = false := by have := Q1f hd; simp; omega
  rw [Q3y]
  exact Q143 p0 H i0 v0_1 ho0_0 hc0
 | x0 :: r0, i0, v0_1, hd, ho0_0 => by
  obtain ⟨hx0, hi0, hd'⟩ := Q11 hd
  have hc0 : (decide ((i0 : Int) < ((List.length p0) : Int))) = true := by simp; omega
  rw [Q3y]
  exact Qra p0 (fun r hr => Q162 p0 H x0 i0 v0_1 hx0 hi0 ho0_0 hc0 hr) _ (Qwj p0 H r0 (i0 + 1) (v0_1 ++ [(Qaf x0)]) hd' (by first | omega | (simp; omega)))
def Q5l (p0 : List Container) : Val := vL (p0.map Container.enc)
theorem Q17e (p0 : List Container) : Q5l p0 = ((Qiu (Q3y p0 p0 0 []))) := by
  rw [Qse]
  rfl
def Q12x (p0 : List Container) : En := .call 107 [.sl (Container.rows p0), .fn 108 [] []] []
def Qqf (p0 : List Container) : Rs := .ret (.agg (Val.cells (Q5l p0))) []
def Qcr (p0 : List Container) : Prop := LSm Container.sm p0
theorem Qb4 (p0 : List Container) (H : Qcr p0) : (Qf0 p0) ∧ (Qml (Q3y p0 p0 0 [])) ∧ True := by
  refine ⟨⟨Nat.le_trans H.1 (Nat.le_of_ble_eq_true rfl), H.2, trivial⟩, ⟨?_, trivial⟩, trivial⟩
  rw [Qse]
  exact Q2x (fun _ h => Container.Q24 h) H
theorem Q14e (p0 : List Container) (H : Qcr p0) : Q6 G (Q12x p0) (Qqf p0) := by
 unfold Qqf
 rw [Q17e]
 have hl0 := Qwj p0 ((Qb4 p0 H).1) p0 0 [] (by simp) (by simp)
 obtain ⟨z0, zo0, hl0⟩ := hl0
 exact Q7 (fn := Ir.K1t) rfl VOK.nil [hP 3 (Qd (Container.rows p0) (List.length p0) (Container.Q5 p0)), hS 0 true (Val.Q9 (Q3y p0 p0 0 []) 5 rfl), hQ (Val.Q5 (Q3y p0 p0 0 [])).symm] [aV [(1, Val.rows (Q3y p0 p0 0 []))] hl0, aN (Qr6 (Q3y p0 p0 0 []) (Qb4 p0 H).2.1)] (by kernel_rfl)
def Q3t (p0 : List ByteArray) : List ByteArray → Nat → (List Val) → List Val
 | [], _i0, v0_1 =>
  v0_1
 | x0 :: r0, i0, v0_1 =>
  Q3t p0 r0 (i0 + 1) (v0_1 ++ [(Q2g x0)])
theorem Qso (p0 : List ByteArray) : ∀ (l : List ByteArray) (i : Nat) (a : List Val), Q3t p0 l i a = a ++ l.map (fun x0 => (Q2g x0))
  | [], _, _ => by simp [Q3t]
  | x :: r, i, a => by rw [Q3t, Qso p0 r]; simp
def Qw0 (p0 : List ByteArray) (i0 : Nat) (v0_1 : List Val) : List PV :=
  [.un, .fn 109 [] [], .un, .un, .bx 0 0, .ms 1 5 0 (List.length v0_1), .un, .un, .sl (Qc p0), .int .i64 ((List.length p0) : Int), .int .i64 (i0 : Int)] ++ nuns 12
def Qju (_p0 : List ByteArray) (_i0 : Nat) (v0_1 : List Val) : List Ob :=
  [⟨5, 0, true, [.int .i64 0, .int .i64 0, .str eB, .ms 2 5 0 0, .ms 3 6 0 0]⟩, ⟨5, 0, true, (Val.rows v0_1).flatten⟩, ⟨5, 0, true, []⟩, ⟨6, 0, true, []⟩]
def Qf1 (p0 : List ByteArray) (i0 : Nat) (v0_1 : List Val) : En := .loop 0 Ir.Qii Ir.Q1dq (Qw0 p0 i0 v0_1) (Qju p0 i0 v0_1)
def Qqv (_p0 : List ByteArray) (q0 : List Val) (z : Nat → PV) (_zo : Nat → List PV) : St :=
  ⟨[z 0, z 1, z 2, z 3, .bx 0 0, .ms 1 5 0 (List.length q0)] ++ zr z 6 17, [(0, ⟨5, 0, true, [.int .i64 0, .int .i64 0, .str eB, .ms 2 5 0 0, .ms 3 6 0 0]⟩), (1, ⟨5, 0, true, (Val.rows q0).flatten⟩), (2, ⟨5, 0, true, []⟩), (3, ⟨6, 0, true, []⟩)], 68⟩
theorem Q11k (p0 : List ByteArray) (i0 : Nat) (v0_1 : List Val) : VOK (Go.Pv.look (number 0 (Qju p0 i0 v0_1))) [(1, Val.rows v0_1)] := (VOK.cons (show Seen _ _ from Q3h (ob := ⟨5, 0, true, (Val.rows v0_1).flatten⟩) (Val.Q9 v0_1 5 rfl)) VOK.nil)
def Qgn (p0 : List ByteArray) (e : En) (q : List Val) : Prop := ∃ z zo, Q6 G e (.st (.exit 0) (Qqv p0 q z zo))
theorem Qt6 (p0 : List ByteArray) {e e' : En} (h : ∀ r, Q6 G e r → Q6 G e' r) : ∀ q, Qgn p0 e q → Qgn p0 e' q
  | _, ⟨z, zo, hz⟩ => ⟨z, zo, h _ hz⟩
def Qfj (p0 : List ByteArray) : Prop := (List.length p0 ≤ 137438953472) ∧ True
def Qq9 (p0 : List ByteArray) (i0 : Nat) (_v0_1 : List Val) : List PV :=
  [.un, .fn 109 [] []] ++ nuns 6 ++ [.sl (Qc p0), .int .i64 ((List.length p0) : Int), .int .i64 (i0 : Int), .bool false]
def Ql7 (_p0 : List ByteArray) (_i0 : Nat) (_v0_1 : List Val) : List (Nat × List PV) :=
  []
theorem Q13z (p0 : List ByteArray) (_H : Qfj p0) (i0 : Nat) (v0_1 : List Val) (_ho0_0 : List.length v0_1 ≤ i0) (hc0 : (decide ((i0 : Int) < ((List.length p0) : Int))) = false) : Qgn p0 (Qf1 p0 i0 v0_1) v0_1 := by
 exact ⟨(envF (Qq9 p0 i0 v0_1)), (zoF (Ql7 p0 i0 v0_1)), Qe (Q11k p0 i0 v0_1) (x := ((.exit 0), Qqv p0 v0_1 (envF (Qq9 p0 i0 v0_1)) (zoF (Ql7 p0 i0 v0_1)))) [hB 0 hc0] [] (by kernel_rfl)⟩
theorem Q13e (p0 : List ByteArray) (H : Qfj p0) (x0 : BA) (i0 : Nat) (v0_1 : List Val) (hx0 : p0[i0]? = some x0) (hi0 : i0 < List.length p0) (ho0_0 : List.length v0_1 ≤ i0) (hc0 : (decide ((i0 : Int) < ((List.length p0) : Int))) = true) {r : Rs} (hr : Q6 G (Qf1 p0 (i0 + 1) (v0_1 ++ [(Q2g x0)])) r) : Q6 G (Qf1 p0 i0 v0_1) r := by
 have hB0 := H.1
 exact Ql (Q11k p0 i0 v0_1) (y := (Qw0 p0 (i0 + 1) (v0_1 ++ [(Q2g x0)]), Qju p0 (i0 + 1) (v0_1 ++ [(Q2g x0)]))) [hB 0 hc0, hP 0 (Q1u 1 (Qc p0) i0 _ (Q3k hx0) rfl), hV 7 [(580, Val.rows (v0_1 ++ [(Q2g x0)]))] (Q55 1 516 580 5 80 0 0 true (Val.rows v0_1) (Val.rows (v0_1 ++ [(Q2g x0)])) (Val.cells (Q2g x0)) (List.length v0_1) (List.length (v0_1 ++ [(Q2g x0)])) rfl (Val.Q5 v0_1).symm (Val.Q5 (v0_1 ++ [(Q2g x0)])).symm (Val.Q12 v0_1 (Q2g x0)) (Val.Qf v0_1) rfl (by omega)), hS 0 true (Val.Q9 (v0_1 ++ [(Q2g x0)]) 5 rfl), hP 1 (Q27 i0 (by omega))] [aN (Qe6 x0)] (by kernel_rfl) hr
theorem Qwy (p0 : List ByteArray) (H : Qfj p0) : ∀ (r0 : List ByteArray) (i0 : Nat) (v0_1 : List Val), List.drop i0 p0 = r0 → List.length v0_1 ≤ i0 → Qgn p0 (Qf1 p0 i0 v0_1) (Q3t p0 r0 i0 v0_1)
 | [], i0, v0_1, hd, ho0_0 => by
  have hc0 : (decide ((i0 : Int) < ((List.length p0) : Int))) = false := by have := Q1f hd; simp; omega
  rw [Q3t]
  exact Q13z p0 H i0 v0_1 ho0_0 hc0
 | x0 :: r0, i0, v0_1, hd, ho0_0 => by
  obtain ⟨hx0, hi0, hd'⟩ := Q11 hd
  have hc0 : (decide ((i0 : Int) < ((List.length p0) : Int))) = true := by simp; omega
  rw [Q3t]
  exact Qt6 p0 (fun r hr => Q13e p0 H x0 i0 v0_1 hx0 hi0 ho0_0 hc0 hr) _ (Qwy p0 H r0 (i0 + 1) (v0_1 ++ [(Q2g x0)]) hd' (by first | omega | (simp; omega)))
def Q5j (p0 : List ByteArray) : Val := vL (p0.map vS)
theorem Q16o (p0 : List ByteArray) : Q5j p0 = ((Qiu (Q3t p0 p0 0 []))) := by
  rw [Qso]
  rfl
def Q14i (p0 : List ByteArray) : En := .call 148 [.sl (Qc p0), .fn 109 [] []] []
def Qq5 (p0 : List ByteArray) : Rs := .ret (.agg (Val.cells (Q5j p0))) []
def Qcx (p0 : List ByteArray) : Prop := LSm (fun _ : ByteArray => True) p0
theorem Qc5 (p0 : List ByteArray) (H : Qcx p0) : (Qfj p0) ∧ (Qml (Q3t p0 p0 0 [])) ∧ True := by
  refine ⟨⟨Nat.le_trans H.1 (Nat.le_of_ble_eq_true rfl), trivial⟩, ⟨?_, trivial⟩, trivial⟩
  rw [Qso]
  exact Q2x (fun _ _ => Val.Sm.leaf _ _ _) H
theorem Q13p (p0 : List ByteArray) (H : Qcx p0) : Q6 G (Q14i p0) (Qq5 p0) := by
 unfold Qq5
 rw [Q16o]
 have hl0 := Qwy p0 ((Qc5 p0 H).1) p0 0 [] (by simp) (by simp)
 obtain ⟨z0, zo0, hl0⟩ := hl0
 exact Q7 (fn := Ir.K21) rfl VOK.nil [hP 3 (Qd (Qc p0) (List.length p0) (Q17 p0)), hS 0 true (Val.Q9 (Q3t p0 p0 0 []) 5 rfl), hQ (Val.Q5 (Q3t p0 p0 0 [])).symm] [aV [(1, Val.rows (Q3t p0 p0 0 []))] hl0, aN (Qr6 (Q3t p0 p0 0 []) (Qc5 p0 H).2.1)] (by kernel_rfl)
def Qai (p0 : Requirement) : Val := Requirement.enc p0
theorem Q1pk (p0 : Requirement) : Qai p0 = ((Q9z ([(Qj Q1b (Q2g p0.key)), (Qj Q4w (Q15 p0.op)), (Qj Q1y (Q5j p0.values))]))) := by
  exact Eq.symm (Q53 (by exact Nat.le_of_ble_eq_true rfl) (by kernel_rfl))
def Q1l8 (p0 : Requirement) : En := .call 111 [.agg (Requirement.cells p0)] []
def Q1jn (p0 : Requirement) : Rs := .ret (.agg (Val.cells (Qai p0))) []
def Q1fj (p0 : Requirement) : Prop := Requirement.sm p0
theorem Q11p (p0 : Requirement) (H : Q1fj p0) : (Qcx p0.values) ∧ (Qdk ([(Qj Q1b (Q2g p0.key)), (Qj Q4w (Q15 p0.op)), (Qj Q1y (Q5j p0.values))])) ∧ True := by
  repeat' with_reducible apply And.intro
  all_goals first | exact True.intro | exact H | exact H.1 | exact H.2.1 | exact H.2.2.1 | exact H.2.2.2.1 | exact H.2.2.2.2.1 | exact H.2.2.2.2.2.1 | exact H.2.2.2.2.2.2.1 | exact H.2.2.2.2.2.2.2.1 | exact H.2.2.2.2.2.2.2.2.1 | exact H.2.2.2.2.2.2.2.2.2.1 | exact H.2.2.2.2.2.2.2.2.2.2.1 | exact Qhv (by exact Nat.le_of_ble_eq_true rfl) (Requirement.Q24 H).all.2.2.2
theorem Q1mg (p0 : Requirement) (H : Q1fj p0) : Q6 G (Q1l8 p0) (Q1jn p0) := by
 unfold Q1jn
 rw [Q1pk]
 exact Q7 (fn := Ir.K1k) rfl VOK.nil [] [aN (Qe6 p0.key), aN (Q2p Q1b (Q2g p0.key)), aN (Q5s p0.op), aN (Q2p Q4w (Q15 p0.op)), aN (Q13p p0.values (Q11p p0 H).1), aN (Q2p Q1y (Q5j p0.values)), aN (Q6j (e' := .call 61 [.sl [(Fld.cells (Qj Q1b (Q2g p0.key))), (Fld.cells (Qj Q4w (Q15 p0.op))), (Fld.cells (Qj Q1y (Q5j p0.values)))]] []) (Qhl ([(Qj Q1b (Q2g p0.key)), (Qj Q4w (Q15 p0.op)), (Qj Q1y (Q5j p0.values))]) (Q11p p0 H).2.1) (by simp only [Qe8, Fld.Q2j, Fld.Q34]))] (by kernel_rfl)
def Q3u (p0 : List Requirement) : List Requirement → Nat → (List Val) → List Val
 | [], _i0, v0_1 =>
  v0_1
 | x0 :: r0, i0, v0_1 =>
  Q3u p0 r0 (i0 + 1) (v0_1 ++ [(Qai x0)])
theorem Qt4 (p0 : List Requirement) : ∀ (l : List Requirement) (i : Nat) (a : List Val), Q3u p0 l i a = a ++ l.map (fun x0 => (Qai x0))
  | [], _, _ => by simp [Q3u]
  | x :: r, i, a => by rw [Q3u, Qt4 p0 r]; simp
def Qux (p0 : List Requirement) (i0 : Nat) (v0_1 : List Val) : List PV :=
  [.un, .fn 111 [] [], .un, .un, .bx 0 0, .ms 1 5 0 (List.length v0_1), .un, .un, .sl (Requirement.rows p0), .int .i64 ((List.length p0) : Int), .int .i64 (i0 : Int)] ++ nuns 12
def Qkh (_p0 : List Requirement) (_i0 : Nat) (v0_1 : List Val) : List Ob :=
  [⟨5, 0, true, [.int .i64 0, .int .i64 0, .str eB, .ms 2 5 0 0, .ms 3 6 0 0]⟩, ⟨5, 0, true, (Val.rows v0_1).flatten⟩, ⟨5, 0, true, []⟩, ⟨6, 0, true, []⟩]
def Qei (p0 : List Requirement) (i0 : Nat) (v0_1 : List Val) : En := .loop 0 Ir.Qkn Ir.Q1ed (Qux p0 i0 v0_1) (Qkh p0 i0 v0_1)
def Qpw (_p0 : List Requirement) (q0 : List Val) (z : Nat → PV) (_zo : Nat → List PV) : St :=
  ⟨[z 0, z 1, z 2, z 3, .bx 0 0, .ms 1 5 0 (List.length q0)] ++ zr z 6 17, [(0, ⟨5, 0, true, [.int .i64 0, .int .i64 0, .str eB, .ms 2 5 0 0, .ms 3 6 0 0]⟩), (1, ⟨5, 0, true, (Val.rows q0).flatten⟩), (2, ⟨5, 0, true, []⟩), (3, ⟨6, 0, true, []⟩)], 68⟩
theorem Q12t (p0 : List Requirement) (i0 : Nat) (v0_1 : List Val) : VOK (Go.Pv.look (number 0 (Qkh p0 i0 v0_1))) [(1, Val.rows v0_1)] := (VOK.cons (show Seen _ _ from Q3h (ob := ⟨5, 0, true, (Val.rows v0_1).flatten⟩) (Val.Q9 v0_1 5 rfl)) VOK.nil)
def Qfn (p0 : List Requirement) (e : En) (q : List Val) : Prop := ∃ z zo, Q6 G e (.st (.exit 0) (Qpw p0 q z zo))
theorem Qt0 (p0 : List Requirement) {e e' : En} (h : ∀ r, Q6 G e r → Q6 G e' r) : ∀ q, Qfn p0 e q → Qfn p0 e' q
  | _, ⟨z, zo, hz⟩ => ⟨z, zo, h _ hz⟩
def Qfz (p0 : List Requirement) : Prop := (List.length p0 ≤ 137438953472) ∧ (∀ x0 ∈ p0, Q1fj x0) ∧ True
def Qpq (p0 : List Requirement) (i0 : Nat) (_v0_1 : List Val) : List PV :=
  [.un, .fn 111 [] []] ++ nuns 6 ++ [.sl (Requirement.rows p0), .int .i64 ((List.length p0) : Int), .int .i64 (i0 : Int), .bool false]
def Qh0 (_p0 : List Requirement) (_i0 : Nat) (_v0_1 : List Val) : List (Nat × List PV) :=
  []
theorem Q15s (p0 : List Requirement) (_H : Qfz p0) (i0 : Nat) (v0_1 : List Val) (_ho0_0 : List.length v0_1 ≤ i0) (hc0 : (decide ((i0 : Int) < ((List.length p0) : Int))) = false) : Qfn p0 (Qei p0 i0 v0_1) v0_1 := by
 exact ⟨(envF (Qpq p0 i0 v0_1)), (zoF (Qh0 p0 i0 v0_1)), Qe (Q12t p0 i0 v0_1) (x := ((.exit 0), Qpw p0 v0_1 (envF (Qpq p0 i0 v0_1)) (zoF (Qh0 p0 i0 v0_1)))) [hB 0 hc0] [] (by kernel_rfl)⟩
theorem Q14j (p0 : List Requirement) (H : Qfz p0) (x0 : Requirement) (i0 : Nat) (v0_1 : List Val) (hx0 : p0[i0]? = some x0) (hi0 : i0 < List.length p0) (ho0_0 : List.length v0_1 ≤ i0) (hc0 : (decide ((i0 : Int) < ((List.length p0) : Int))) = true) {r : Rs} (hr : Q6 G (Qei p0 (i0 + 1) (v0_1 ++ [(Qai x0)])) r) : Q6 G (Qei p0 i0 v0_1) r := by
 have hB0 := H.1
 exact Ql (Q12t p0 i0 v0_1) (y := (Qux p0 (i0 + 1) (v0_1 ++ [(Qai x0)]), Qkh p0 (i0 + 1) (v0_1 ++ [(Qai x0)]))) [hB 0 hc0, hP 0 (Q1u 3 (Requirement.rows p0) i0 _ (Requirement.Qb hx0) rfl), hV 8 [(644, Val.rows (v0_1 ++ [(Qai x0)]))] (Q55 1 580 644 5 80 0 0 true (Val.rows v0_1) (Val.rows (v0_1 ++ [(Qai x0)])) (Val.cells (Qai x0)) (List.length v0_1) (List.length (v0_1 ++ [(Qai x0)])) rfl (Val.Q5 v0_1).symm (Val.Q5 (v0_1 ++ [(Qai x0)])).symm (Val.Q12 v0_1 (Qai x0)) (Val.Qf v0_1) rfl (by omega)), hS 0 true (Val.Q9 (v0_1 ++ [(Qai x0)]) 5 rfl), hP 1 (Q27 i0 (by omega))] [aN (Q1mg x0 (H.2.1 x0 (Q2c hx0)))] (by kernel_rfl) hr
theorem Qtr (p0 : List Requirement) (H : Qfz p0) : ∀ (r0 : List Requirement) (i0 : Nat) (v0_1 : List Val), List.drop i0 p0 = r0 → List.length v0_1 ≤ i0 → Qfn p0 (Qei p0 i0 v0_1) (Q3u p0 r0 i0 v0_1)
 | [], i0, v0_1, hd, ho0_0 => by
  have hc0 : (decide ((i0 : Int) < ((List.length p0) : Int))) = false := by have := Q1f hd; simp; omega
  rw [Q3u]
  exact Q15s p0 H i0 v0_1 ho0_0 hc0
 | x0 :: r0, i0, v0_1, hd, ho0_0 => by
  obtain ⟨hx0, hi0, hd'⟩ := Q11 hd
  have hc0 : (decide ((i0 : Int) < ((List.length p0) : Int))) = true := by simp; omega
  rw [Q3u]
  exact Qt0 p0 (fun r hr => Q14j p0 H x0 i0 v0_1 hx0 hi0 ho0_0 hc0 hr) _ (Qtr p0 H r0 (i0 + 1) (v0_1 ++ [(Qai x0)]) hd' (by first | omega | (simp; omega)))
def Q26 (p0 : List Requirement) : Val := vL (p0.map Requirement.enc)
theorem Q14a (p0 : List Requirement) : Q26 p0 = ((Qiu (Q3u p0 p0 0 []))) := by
  rw [Qt4]
  rfl
def Q15i (p0 : List Requirement) : En := .call 110 [.sl (Requirement.rows p0), .fn 111 [] []] []
def Qq3 (p0 : List Requirement) : Rs := .ret (.agg (Val.cells (Q26 p0))) []
def Q62 (p0 : List Requirement) : Prop := LSm Requirement.sm p0
theorem Qbg (p0 : List Requirement) (H : Q62 p0) : (Qfz p0) ∧ (Qml (Q3u p0 p0 0 [])) ∧ True := by
  refine ⟨⟨Nat.le_trans H.1 (Nat.le_of_ble_eq_true rfl), H.2, trivial⟩, ⟨?_, trivial⟩, trivial⟩
  rw [Qt4]
  exact Q2x (fun _ h => Requirement.Q24 h) H
theorem Q9m (p0 : List Requirement) (H : Q62 p0) : Q6 G (Q15i p0) (Qq3 p0) := by
 unfold Qq3
 rw [Q14a]
 have hl0 := Qtr p0 ((Qbg p0 H).1) p0 0 [] (by simp) (by simp)
 obtain ⟨z0, zo0, hl0⟩ := hl0
 exact Q7 (fn := Ir.K1u) rfl VOK.nil [hP 3 (Qd (Requirement.rows p0) (List.length p0) (Requirement.Q5 p0)), hS 0 true (Val.Q9 (Q3u p0 p0 0 []) 5 rfl), hQ (Val.Q5 (Q3u p0 p0 0 [])).symm] [aV [(1, Val.rows (Q3u p0 p0 0 []))] hl0, aN (Qr6 (Q3u p0 p0 0 []) (Qbg p0 H).2.1)] (by kernel_rfl)
def Q3e (p0 : Bool) : Val := vB p0
theorem Q1oe (p0 : Bool) : Q3e p0 = (bif p0 then
    (Val.mk 1 1 eB [] [])
  else
    (Val.mk 1 0 eB [] [])) := by
  cases p0 <;> rfl
def Q1q5 (p0 : Bool) : En := .call 64 [.bool p0] []
def Q1ic (p0 : Bool) : Rs := .ret (.agg (Val.cells (Q3e p0))) []
theorem Qw6 (p0 : Bool) : Q6 G (Q1q5 p0) (Q1ic p0) := by
 unfold Q1ic
 rw [Q1oe]
 cases h0 : p0 with
 | true =>
  exact Q7 (fn := Ir.K3v) rfl VOK.nil [] [] (by kernel_rfl)
 | false =>
  exact Q7 (fn := Ir.K3v) rfl VOK.nil [] [] (by kernel_rfl)
def Qaq (p0 : NodeTerm) : Val := NodeTerm.enc p0
theorem Q1pg (p0 : NodeTerm) : Qaq p0 = ((Q9z ([(Qj Q8 (Q3e p0.required)), (Qj Qa (Q26 p0.selector)), (Qj Qp (Q15 p0.weight))]))) := by
  exact Eq.symm (Q53 (by exact Nat.le_of_ble_eq_true rfl) (by kernel_rfl))
def Q1qg (p0 : NodeTerm) : En := .call 113 [.agg (NodeTerm.cells p0)] []
def Q1hm (p0 : NodeTerm) : Rs := .ret (.agg (Val.cells (Qaq p0))) []
def Q1er (p0 : NodeTerm) : Prop := NodeTerm.sm p0
theorem Q119 (p0 : NodeTerm) (H : Q1er p0) : (Q62 p0.selector) ∧ (Qdk ([(Qj Q8 (Q3e p0.required)), (Qj Qa (Q26 p0.selector)), (Qj Qp (Q15 p0.weight))])) ∧ True := by
  repeat' with_reducible apply And.intro
  all_goals first | exact True.intro | exact H | exact H.1 | exact H.2.1 | exact H.2.2.1 | exact H.2.2.2.1 | exact H.2.2.2.2.1 | exact H.2.2.2.2.2.1 | exact H.2.2.2.2.2.2.1 | exact H.2.2.2.2.2.2.2.1 | exact H.2.2.2.2.2.2.2.2.1 | exact H.2.2.2.2.2.2.2.2.2.1 | exact H.2.2.2.2.2.2.2.2.2.2.1 | exact Qhv (by exact Nat.le_of_ble_eq_true rfl) (NodeTerm.Q24 H).all.2.2.2
theorem Q1lq (p0 : NodeTerm) (H : Q1er p0) : Q6 G (Q1qg p0) (Q1hm p0) := by
 unfold Q1hm
 rw [Q1pg]
 exact Q7 (fn := Ir.K1h) rfl VOK.nil [] [aN (Qw6 p0.required), aN (Q2p Q8 (Q3e p0.required)), aN (Q9m p0.selector (Q119 p0 H).1), aN (Q2p Qa (Q26 p0.selector)), aN (Q5s p0.weight), aN (Q2p Qp (Q15 p0.weight)), aN (Q6j (e' := .call 61 [.sl [(Fld.cells (Qj Q8 (Q3e p0.required))), (Fld.cells (Qj Qa (Q26 p0.selector))), (Fld.cells (Qj Qp (Q15 p0.weight)))]] []) (Qhl ([(Qj Q8 (Q3e p0.required)), (Qj Qa (Q26 p0.selector)), (Qj Qp (Q15 p0.weight))]) (Q119 p0 H).2.1) (by simp only [Qe8, Fld.Q2j, Fld.Q34]))] (by kernel_rfl)
def Q3s (p0 : List NodeTerm) : List NodeTerm → Nat → (List Val) → List Val
 | [], _i0, v0_1 =>
  v0_1
 | x0 :: r0, i0, v0_1 =>
  Q3s p0 r0 (i0 + 1) (v0_1 ++ [(Qaq x0)])
theorem Qt9 (p0 : List NodeTerm) : ∀ (l : List NodeTerm) (i : Nat) (a : List Val), Q3s p0 l i a = a ++ l.map (fun x0 => (Qaq x0))
  | [], _, _ => by simp [Q3s]
  | x :: r, i, a => by rw [Q3s, Qt9 p0 r]; simp
def Qws (p0 : List NodeTerm) (i0 : Nat) (v0_1 : List Val) : List PV :=
  [.un, .fn 113 [] [], .un, .un, .bx 0 0, .ms 1 5 0 (List.length v0_1), .un, .un, .sl (NodeTerm.rows p0), .int .i64 ((List.length p0) : Int), .int .i64 (i0 : Int)] ++ nuns 12
def Qjb (_p0 : List NodeTerm) (_i0 : Nat) (v0_1 : List Val) : List Ob :=
  [⟨5, 0, true, [.int .i64 0, .int .i64 0, .str eB, .ms 2 5 0 0, .ms 3 6 0 0]⟩, ⟨5, 0, true, (Val.rows v0_1).flatten⟩, ⟨5, 0, true, []⟩, ⟨6, 0, true, []⟩]
def Qf6 (p0 : List NodeTerm) (i0 : Nat) (v0_1 : List Val) : En := .loop 0 Ir.Qli Ir.Q1eb (Qws p0 i0 v0_1) (Qjb p0 i0 v0_1)
def Qmw (_p0 : List NodeTerm) (q0 : List Val) (z : Nat → PV) (_zo : Nat → List PV) : St :=
  ⟨[z 0, z 1, z 2, z 3, .bx 0 0, .ms 1 5 0 (List.length q0)] ++ zr z 6 17, [(0, ⟨5, 0, true, [.int .i64 0, .int .i64 0, .str eB, .ms 2 5 0 0, .ms 3 6 0 0]⟩), (1, ⟨5, 0, true, (Val.rows q0).flatten⟩), (2, ⟨5, 0, true, []⟩), (3, ⟨6, 0, true, []⟩)], 68⟩
theorem Q11i (p0 : List NodeTerm) (i0 : Nat) (v0_1 : List Val) : VOK (Go.Pv.look (number 0 (Qjb p0 i0 v0_1))) [(1, Val.rows v0_1)] := (VOK.cons (show Seen _ _ from Q3h (ob := ⟨5, 0, true, (Val.rows v0_1).flatten⟩) (Val.Q9 v0_1 5 rfl)) VOK.nil)
def Qex (p0 : List NodeTerm) (e : En) (q : List Val) : Prop := ∃ z zo, Q6 G e (.st (.exit 0) (Qmw p0 q z zo))
theorem Qtc (p0 : List NodeTerm) {e e' : En} (h : ∀ r, Q6 G e r → Q6 G e' r) : ∀ q, Qex p0 e q → Qex p0 e' q
  | _, ⟨z, zo, hz⟩ => ⟨z, zo, h _ hz⟩
def Qfi (p0 : List NodeTerm) : Prop := (List.length p0 ≤ 137438953472) ∧ (∀ x0 ∈ p0, Q1er x0) ∧ True
def Qol (p0 : List NodeTerm) (i0 : Nat) (_v0_1 : List Val) : List PV :=
  [.un, .fn 113 [] []] ++ nuns 6 ++ [.sl (NodeTerm.rows p0), .int .i64 ((List.length p0) : Int), .int .i64 (i0 : Int), .bool false]
def Qhp (_p0 : List NodeTerm) (_i0 : Nat) (_v0_1 : List Val) : List (Nat × List PV) :=
  []
theorem Q16f (p0 : List NodeTerm) (_H : Qfi p0) (i0 : Nat) (v0_1 : List Val) (_ho0_0 : List.length v0_1 ≤ i0) (hc0 : (decide ((i0 : Int) < ((List.length p0) : Int))) = false) : Qex p0 (Qf6 p0 i0 v0_1) v0_1 := by
 exact ⟨(envF (Qol p0 i0 v0_1)), (zoF (Qhp p0 i0 v0_1)), Qe (Q11i p0 i0 v0_1) (x := ((.exit 0), Qmw p0 v0_1 (envF (Qol p0 i0 v0_1)) (zoF (Qhp p0 i0 v0_1)))) [hB 0 hc0] [] (by kernel_rfl)⟩
theorem Q14s (p0 : List NodeTerm) (H : Qfi p0) (x0 : NodeTerm) (i0 : Nat) (v0_1 : List Val) (hx0 : p0[i0]? = some x0) (hi0 : i0 < List.length p0) (ho0_0 : List.length v0_1 ≤ i0) (hc0 : (decide ((i0 : Int) < ((List.length p0) : Int))) = true) {r : Rs} (hr : Q6 G (Qf6 p0 (i0 + 1) (v0_1 ++ [(Qaq x0)])) r) : Q6 G (Qf6 p0 i0 v0_1) r := by
 have hB0 := H.1
 exact Ql (Q11i p0 i0 v0_1) (y := (Qws p0 (i0 + 1) (v0_1 ++ [(Qaq x0)]), Qjb p0 (i0 + 1) (v0_1 ++ [(Qaq x0)]))) [hB 0 hc0, hP 0 (Q1u 3 (NodeTerm.rows p0) i0 _ (NodeTerm.Qb hx0) rfl), hV 8 [(644, Val.rows (v0_1 ++ [(Qaq x0)]))] (Q55 1 580 644 5 80 0 0 true (Val.rows v0_1) (Val.rows (v0_1 ++ [(Qaq x0)])) (Val.cells (Qaq x0)) (List.length v0_1) (List.length (v0_1 ++ [(Qaq x0)])) rfl (Val.Q5 v0_1).symm (Val.Q5 (v0_1 ++ [(Qaq x0)])).symm (Val.Q12 v0_1 (Qaq x0)) (Val.Qf v0_1) rfl (by omega)), hS 0 true (Val.Q9 (v0_1 ++ [(Qaq x0)]) 5 rfl), hP 1 (Q27 i0 (by omega))] [aN (Q1lq x0 (H.2.1 x0 (Q2c hx0)))] (by kernel_rfl) hr
theorem Qw5 (p0 : List NodeTerm) (H : Qfi p0) : ∀ (r0 : List NodeTerm) (i0 : Nat) (v0_1 : List Val), List.drop i0 p0 = r0 → List.length v0_1 ≤ i0 → Qex p0 (Qf6 p0 i0 v0_1) (Q3s p0 r0 i0 v0_1)
 | [], i0, v0_1, hd, ho0_0 => by
  have hc0 : (decide ((i0 : Int) < ((List.length p0) : Int))) = false := by have := Q1f hd; simp; omega
  rw [Q3s]
  exact Q16f p0 H i0 v0_1 ho0_0 hc0
 | x0 :: r0, i0, v0_1, hd, ho0_0 => by
  obtain ⟨hx0, hi0, hd'⟩ := Q11 hd
  have hc0 : (decide ((i0 : Int) < ((List.length p0) : Int))) = true := by simp; omega
  rw [Q3s]
  exact Qtc p0 (fun r hr => Q14s p0 H x0 i0 v0_1 hx0 hi0 ho0_0 hc0 hr) _ (Qw5 p0 H r0 (i0 + 1) (v0_1 ++ [(Qaq x0)]) hd' (by first | omega | (simp; omega)))
def Q5b (p0 : List NodeTerm) : Val := vL (p0.map NodeTerm.enc)
theorem Q177 (p0 : List NodeTerm) : Q5b p0 = ((Qiu (Q3s p0 p0 0 []))) := by
  rw [Qt9]
  rfl
def Q15a (p0 : List NodeTerm) : En := .call 112 [.sl (NodeTerm.rows p0), .fn 113 [] []] []
def Qp4 (p0 : List NodeTerm) : Rs := .ret (.agg (Val.cells (Q5b p0))) []
def Qcs (p0 : List NodeTerm) : Prop := LSm NodeTerm.sm p0
theorem Qbp (p0 : List NodeTerm) (H : Qcs p0) : (Qfi p0) ∧ (Qml (Q3s p0 p0 0 [])) ∧ True := by
  refine ⟨⟨Nat.le_trans H.1 (Nat.le_of_ble_eq_true rfl), H.2, trivial⟩, ⟨?_, trivial⟩, trivial⟩
  rw [Qt9]
  exact Q2x (fun _ h => NodeTerm.Q24 h) H
theorem Q13o (p0 : List NodeTerm) (H : Qcs p0) : Q6 G (Q15a p0) (Qp4 p0) := by
 unfold Qp4
 rw [Q177]
 have hl0 := Qw5 p0 ((Qbp p0 H).1) p0 0 [] (by simp) (by simp)
 obtain ⟨z0, zo0, hl0⟩ := hl0
 exact Q7 (fn := Ir.K1v) rfl VOK.nil [hP 3 (Qd (NodeTerm.rows p0) (List.length p0) (NodeTerm.Q5 p0)), hS 0 true (Val.Q9 (Q3s p0 p0 0 []) 5 rfl), hQ (Val.Q5 (Q3s p0 p0 0 [])).symm] [aV [(1, Val.rows (Q3s p0 p0 0 []))] hl0, aN (Qr6 (Q3s p0 p0 0 []) (Qbp p0 H).2.1)] (by kernel_rfl)
def Qak (p0 : PodTerm) : Val := PodTerm.enc p0
theorem Q1pv (p0 : PodTerm) : Qak p0 = ((Q9z ([(Qj Q2f (Q3e p0.anti)), (Qj Q8 (Q3e p0.required)), (Qj Qa (Q26 p0.selector)), (Qj Qi (Q2g p0.topology)), (Qj Qp (Q15 p0.weight))]))) := by
  exact Eq.symm (Q53 (by exact Nat.le_of_ble_eq_true rfl) (by kernel_rfl))
def Q1p8 (p0 : PodTerm) : En := .call 115 [.agg (PodTerm.cells p0)] []
def Q1hx (p0 : PodTerm) : Rs := .ret (.agg (Val.cells (Qak p0))) []
def Q1el (p0 : PodTerm) : Prop := PodTerm.sm p0
theorem Qzp (p0 : PodTerm) (H : Q1el p0) : (Q62 p0.selector) ∧ (Qdk ([(Qj Q2f (Q3e p0.anti)), (Qj Q8 (Q3e p0.required)), (Qj Qa (Q26 p0.selector)), (Qj Qi (Q2g p0.topology)), (Qj Qp (Q15 p0.weight))])) ∧ True := by
  repeat' with_reducible apply And.intro
  all_goals first | exact True.intro | exact H | exact H.1 | exact H.2.1 | exact H.2.2.1 | exact H.2.2.2.1 | exact H.2.2.2.2.1 | exact H.2.2.2.2.2.1 | exact H.2.2.2.2.2.2.1 | exact H.2.2.2.2.2.2.2.1 | exact H.2.2.2.2.2.2.2.2.1 | exact H.2.2.2.2.2.2.2.2.2.1 | exact H.2.2.2.2.2.2.2.2.2.2.1 | exact Qhv (by exact Nat.le_of_ble_eq_true rfl) (PodTerm.Q24 H).all.2.2.2
theorem Q1pt (p0 : PodTerm) (H : Q1el p0) : Q6 G (Q1p8 p0) (Q1hx p0) := by
 unfold Q1hx
 rw [Q1pv]
 exact Q7 (fn := Ir.K1i) rfl VOK.nil [] [aN (Qw6 p0.anti), aN (Q2p Q2f (Q3e p0.anti)), aN (Qw6 p0.required), aN (Q2p Q8 (Q3e p0.required)), aN (Q9m p0.selector (Qzp p0 H).1), aN (Q2p Qa (Q26 p0.selector)), aN (Qe6 p0.topology), aN (Q2p Qi (Q2g p0.topology)), aN (Q5s p0.weight), aN (Q2p Qp (Q15 p0.weight)), aN (Q6j (e' := .call 61 [.sl [(Fld.cells (Qj Q2f (Q3e p0.anti))), (Fld.cells (Qj Q8 (Q3e p0.required))), (Fld.cells (Qj Qa (Q26 p0.selector))), (Fld.cells (Qj Qi (Q2g p0.topology))), (Fld.cells (Qj Qp (Q15 p0.weight)))]] []) (Qhl ([(Qj Q2f (Q3e p0.anti)), (Qj Q8 (Q3e p0.required)), (Qj Qa (Q26 p0.selector)), (Qj Qi (Q2g p0.topology)), (Qj Qp (Q15 p0.weight))]) (Qzp p0 H).2.1) (by simp only [Qe8, Fld.Q2j, Fld.Q34]))] (by kernel_rfl)
def Q42 (p0 : List PodTerm) : List PodTerm → Nat → (List Val) → List Val
 | [], _i0, v0_1 =>
  v0_1
 | x0 :: r0, i0, v0_1 =>
  Q42 p0 r0 (i0 + 1) (v0_1 ++ [(Qak x0)])
theorem Qrn (p0 : List PodTerm) : ∀ (l : List PodTerm) (i : Nat) (a : List Val), Q42 p0 l i a = a ++ l.map (fun x0 => (Qak x0))
  | [], _, _ => by simp [Q42]
  | x :: r, i, a => by rw [Q42, Qrn p0 r]; simp
def Qvn (p0 : List PodTerm) (i0 : Nat) (v0_1 : List Val) : List PV :=
  [.un, .fn 115 [] [], .un, .un, .bx 0 0, .ms 1 5 0 (List.length v0_1), .un, .un, .sl (PodTerm.rows p0), .int .i64 ((List.length p0) : Int), .int .i64 (i0 : Int)] ++ nuns 12
def Qln (_p0 : List PodTerm) (_i0 : Nat) (v0_1 : List Val) : List Ob :=
  [⟨5, 0, true, [.int .i64 0, .int .i64 0, .str eB, .ms 2 5 0 0, .ms 3 6 0 0]⟩, ⟨5, 0, true, (Val.rows v0_1).flatten⟩, ⟨5, 0, true, []⟩, ⟨6, 0, true, []⟩]
def Qfr (p0 : List PodTerm) (i0 : Nat) (v0_1 : List Val) : En := .loop 0 Ir.Qi0 Ir.Q1dn (Qvn p0 i0 v0_1) (Qln p0 i0 v0_1)
def Qpo (_p0 : List PodTerm) (q0 : List Val) (z : Nat → PV) (_zo : Nat → List PV) : St :=
  ⟨[z 0, z 1, z 2, z 3, .bx 0 0, .ms 1 5 0 (List.length q0)] ++ zr z 6 17, [(0, ⟨5, 0, true, [.int .i64 0, .int .i64 0, .str eB, .ms 2 5 0 0, .ms 3 6 0 0]⟩), (1, ⟨5, 0, true, (Val.rows q0).flatten⟩), (2, ⟨5, 0, true, []⟩), (3, ⟨6, 0, true, []⟩)], 68⟩
theorem Q11n (p0 : List PodTerm) (i0 : Nat) (v0_1 : List Val) : VOK (Go.Pv.look (number 0 (Qln p0 i0 v0_1))) [(1, Val.rows v0_1)] := (VOK.cons (show Seen _ _ from Q3h (ob := ⟨5, 0, true, (Val.rows v0_1).flatten⟩) (Val.Q9 v0_1 5 rfl)) VOK.nil)
def Qfx (p0 : List PodTerm) (e : En) (q : List Val) : Prop := ∃ z zo, Q6 G e (.st (.exit 0) (Qpo p0 q z zo))
theorem Qre (p0 : List PodTerm) {e e' : En} (h : ∀ r, Q6 G e r → Q6 G e' r) : ∀ q, Qfx p0 e q → Qfx p0 e' q
  | _, ⟨z, zo, hz⟩ => ⟨z, zo, h _ hz⟩
def Qem (p0 : List PodTerm) : Prop := (List.length p0 ≤ 137438953472) ∧ (∀ x0 ∈ p0, Q1el x0) ∧ True
def Qod (p0 : List PodTerm) (i0 : Nat) (_v0_1 : List Val) : List PV :=
  [.un, .fn 115 [] []] ++ nuns 6 ++ [.sl (PodTerm.rows p0), .int .i64 ((List.length p0) : Int), .int .i64 (i0 : Int), .bool false]
def Qj8 (_p0 : List PodTerm) (_i0 : Nat) (_v0_1 : List Val) : List (Nat × List PV) :=
  []
theorem Q13n (p0 : List PodTerm) (_H : Qem p0) (i0 : Nat) (v0_1 : List Val) (_ho0_0 : List.length v0_1 ≤ i0) (hc0 : (decide ((i0 : Int) < ((List.length p0) : Int))) = false) : Qfx p0 (Qfr p0 i0 v0_1) v0_1 := by
 exact ⟨(envF (Qod p0 i0 v0_1)), (zoF (Qj8 p0 i0 v0_1)), Qe (Q11n p0 i0 v0_1) (x := ((.exit 0), Qpo p0 v0_1 (envF (Qod p0 i0 v0_1)) (zoF (Qj8 p0 i0 v0_1)))) [hB 0 hc0] [] (by kernel_rfl)⟩
theorem Q13t (p0 : List PodTerm) (H : Qem p0) (x0 : PodTerm) (i0 : Nat) (v0_1 : List Val) (hx0 : p0[i0]? = some x0) (hi0 : i0 < List.length p0) (ho0_0 : List.length v0_1 ≤ i0) (hc0 : (decide ((i0 : Int) < ((List.length p0) : Int))) = true) {r : Rs} (hr : Q6 G (Qfr p0 (i0 + 1) (v0_1 ++ [(Qak x0)])) r) : Q6 G (Qfr p0 i0 v0_1) r := by
 have hB0 := H.1
 exact Ql (Q11n p0 i0 v0_1) (y := (Qvn p0 (i0 + 1) (v0_1 ++ [(Qak x0)]), Qln p0 (i0 + 1) (v0_1 ++ [(Qak x0)]))) [hB 0 hc0, hP 0 (Q1u 5 (PodTerm.rows p0) i0 _ (PodTerm.Qb hx0) rfl), hV 8 [(644, Val.rows (v0_1 ++ [(Qak x0)]))] (Q55 1 580 644 5 80 0 0 true (Val.rows v0_1) (Val.rows (v0_1 ++ [(Qak x0)])) (Val.cells (Qak x0)) (List.length v0_1) (List.length (v0_1 ++ [(Qak x0)])) rfl (Val.Q5 v0_1).symm (Val.Q5 (v0_1 ++ [(Qak x0)])).symm (Val.Q12 v0_1 (Qak x0)) (Val.Qf v0_1) rfl (by omega)), hS 0 true (Val.Q9 (v0_1 ++ [(Qak x0)]) 5 rfl), hP 1 (Q27 i0 (by omega))] [aN (Q1pt x0 (H.2.1 x0 (Q2c hx0)))] (by kernel_rfl) hr
theorem Qun (p0 : List PodTerm) (H : Qem p0) : ∀ (r0 : List PodTerm) (i0 : Nat) (v0_1 : List Val), List.drop i0 p0 = r0 → List.length v0_1 ≤ i0 → Qfx p0 (Qfr p0 i0 v0_1) (Q42 p0 r0 i0 v0_1)
 | [], i0, v0_1, hd, ho0_0 => by
  have hc0 : (decide ((i0 : Int) < ((List.length p0) : Int))) = false := by have := Q1f hd; simp; omega
  rw [Q42]
  exact Q13n p0 H i0 v0_1 ho0_0 hc0
 | x0 :: r0, i0, v0_1, hd, ho0_0 => by
  obtain ⟨hx0, hi0, hd'⟩ := Q11 hd
  have hc0 : (decide ((i0 : Int) < ((List.length p0) : Int))) = true := by simp; omega
  rw [Q42]
  exact Qre p0 (fun r hr => Q13t p0 H x0 i0 v0_1 hx0 hi0 ho0_0 hc0 hr) _ (Qun p0 H r0 (i0 + 1) (v0_1 ++ [(Qak x0)]) hd' (by first | omega | (simp; omega)))
def Q5i (p0 : List PodTerm) : Val := vL (p0.map PodTerm.enc)
theorem Q16t (p0 : List PodTerm) : Q5i p0 = ((Qiu (Q42 p0 p0 0 []))) := by
  rw [Qrn]
  rfl
def Q134 (p0 : List PodTerm) : En := .call 114 [.sl (PodTerm.rows p0), .fn 115 [] []] []
def Qqt (p0 : List PodTerm) : Rs := .ret (.agg (Val.cells (Q5i p0))) []
def Qd6 (p0 : List PodTerm) : Prop := LSm PodTerm.sm p0
theorem Qcf (p0 : List PodTerm) (H : Qd6 p0) : (Qem p0) ∧ (Qml (Q42 p0 p0 0 [])) ∧ True := by
  refine ⟨⟨Nat.le_trans H.1 (Nat.le_of_ble_eq_true rfl), H.2, trivial⟩, ⟨?_, trivial⟩, trivial⟩
  rw [Qrn]
  exact Q2x (fun _ h => PodTerm.Q24 h) H
theorem Q170 (p0 : List PodTerm) (H : Qd6 p0) : Q6 G (Q134 p0) (Qqt p0) := by
 unfold Qqt
 rw [Q16t]
 have hl0 := Qun p0 ((Qcf p0 H).1) p0 0 [] (by simp) (by simp)
 obtain ⟨z0, zo0, hl0⟩ := hl0
 exact Q7 (fn := Ir.K1w) rfl VOK.nil [hP 3 (Qd (PodTerm.rows p0) (List.length p0) (PodTerm.Q5 p0)), hS 0 true (Val.Q9 (Q42 p0 p0 0 []) 5 rfl), hQ (Val.Q5 (Q42 p0 p0 0 [])).symm] [aV [(1, Val.rows (Q42 p0 p0 0 []))] hl0, aN (Qr6 (Q42 p0 p0 0 []) (Qcf p0 H).2.1)] (by kernel_rfl)
def Qan (p0 : SpreadRule) : Val := SpreadRule.enc p0
theorem Q1l4 (p0 : SpreadRule) : Qan p0 = ((Q9z ([(Qj Q18 (Q15 p0.maxSkew)), (Qj Q8 (Q3e p0.required)), (Qj Qa (Q26 p0.selector)), (Qj Qi (Q2g p0.topology))]))) := by
  exact Eq.symm (Q53 (by exact Nat.le_of_ble_eq_true rfl) (by kernel_rfl))
def Q1q0 (p0 : SpreadRule) : En := .call 117 [.agg (SpreadRule.cells p0)] []
def Q1hw (p0 : SpreadRule) : Rs := .ret (.agg (Val.cells (Qan p0))) []
def Q1fq (p0 : SpreadRule) : Prop := SpreadRule.sm p0
theorem Qzr (p0 : SpreadRule) (H : Q1fq p0) : (Q62 p0.selector) ∧ (Qdk ([(Qj Q18 (Q15 p0.maxSkew)), (Qj Q8 (Q3e p0.required)), (Qj Qa (Q26 p0.selector)), (Qj Qi (Q2g p0.topology))])) ∧ True := by
  repeat' with_reducible apply And.intro
  all_goals first | exact True.intro | exact H | exact H.1 | exact H.2.1 | exact H.2.2.1 | exact H.2.2.2.1 | exact H.2.2.2.2.1 | exact H.2.2.2.2.2.1 | exact H.2.2.2.2.2.2.1 | exact H.2.2.2.2.2.2.2.1 | exact H.2.2.2.2.2.2.2.2.1 | exact H.2.2.2.2.2.2.2.2.2.1 | exact H.2.2.2.2.2.2.2.2.2.2.1 | exact Qhv (by exact Nat.le_of_ble_eq_true rfl) (SpreadRule.Q24 H).all.2.2.2
theorem Q1pf (p0 : SpreadRule) (H : Q1fq p0) : Q6 G (Q1q0 p0) (Q1hw p0) := by
 unfold Q1hw
 rw [Q1l4]
 exact Q7 (fn := Ir.K1n) rfl VOK.nil [] [aN (Q5s p0.maxSkew), aN (Q2p Q18 (Q15 p0.maxSkew)), aN (Qw6 p0.required), aN (Q2p Q8 (Q3e p0.required)), aN (Q9m p0.selector (Qzr p0 H).1), aN (Q2p Qa (Q26 p0.selector)), aN (Qe6 p0.topology), aN (Q2p Qi (Q2g p0.topology)), aN (Q6j (e' := .call 61 [.sl [(Fld.cells (Qj Q18 (Q15 p0.maxSkew))), (Fld.cells (Qj Q8 (Q3e p0.required))), (Fld.cells (Qj Qa (Q26 p0.selector))), (Fld.cells (Qj Qi (Q2g p0.topology)))]] []) (Qhl ([(Qj Q18 (Q15 p0.maxSkew)), (Qj Q8 (Q3e p0.required)), (Qj Qa (Q26 p0.selector)), (Qj Qi (Q2g p0.topology))]) (Qzr p0 H).2.1) (by simp only [Qe8, Fld.Q2j, Fld.Q34]))] (by kernel_rfl)
def Q3v (p0 : List SpreadRule) : List SpreadRule → Nat → (List Val) → List Val
 | [], _i0, v0_1 =>
  v0_1
 | x0 :: r0, i0, v0_1 =>
  Q3v p0 r0 (i0 + 1) (v0_1 ++ [(Qan x0)])
theorem Qta (p0 : List SpreadRule) : ∀ (l : List SpreadRule) (i : Nat) (a : List Val), Q3v p0 l i a = a ++ l.map (fun x0 => (Qan x0))
  | [], _, _ => by simp [Q3v]
  | x :: r, i, a => by rw [Q3v, Qta p0 r]; simp
def Qw1 (p0 : List SpreadRule) (i0 : Nat) (v0_1 : List Val) : List PV :=
  [.un, .fn 117 [] [], .un, .un, .bx 0 0, .ms 1 5 0 (List.length v0_1), .un, .un, .sl (SpreadRule.rows p0), .int .i64 ((List.length p0) : Int), .int .i64 (i0 : Int)] ++ nuns 12
def Qj7 (_p0 : List SpreadRule) (_i0 : Nat) (v0_1 : List Val) : List Ob :=
  [⟨5, 0, true, [.int .i64 0, .int .i64 0, .str eB, .ms 2 5 0 0, .ms 3 6 0 0]⟩, ⟨5, 0, true, (Val.rows v0_1).flatten⟩, ⟨5, 0, true, []⟩, ⟨6, 0, true, []⟩]
def Qed (p0 : List SpreadRule) (i0 : Nat) (v0_1 : List Val) : En := .loop 0 Ir.Ql1 Ir.Q1ds (Qw1 p0 i0 v0_1) (Qj7 p0 i0 v0_1)
def Qqn (_p0 : List SpreadRule) (q0 : List Val) (z : Nat → PV) (_zo : Nat → List PV) : St :=
  ⟨[z 0, z 1, z 2, z 3, .bx 0 0, .ms 1 5 0 (List.length q0)] ++ zr z 6 17, [(0, ⟨5, 0, true, [.int .i64 0, .int .i64 0, .str eB, .ms 2 5 0 0, .ms 3 6 0 0]⟩), (1, ⟨5, 0, true, (Val.rows q0).flatten⟩), (2, ⟨5, 0, true, []⟩), (3, ⟨6, 0, true, []⟩)], 68⟩
theorem Q12o (p0 : List SpreadRule) (i0 : Nat) (v0_1 : List Val) : VOK (Go.Pv.look (number 0 (Qj7 p0 i0 v0_1))) [(1, Val.rows v0_1)] := (VOK.cons (show Seen _ _ from Q3h (ob := ⟨5, 0, true, (Val.rows v0_1).flatten⟩) (Val.Q9 v0_1 5 rfl)) VOK.nil)
def Qeu (p0 : List SpreadRule) (e : En) (q : List Val) : Prop := ∃ z zo, Q6 G e (.st (.exit 0) (Qqn p0 q z zo))
theorem Qsw (p0 : List SpreadRule) {e e' : En} (h : ∀ r, Q6 G e r → Q6 G e' r) : ∀ q, Qeu p0 e q → Qeu p0 e' q
  | _, ⟨z, zo, hz⟩ => ⟨z, zo, h _ hz⟩
def Qev (p0 : List SpreadRule) : Prop := (List.length p0 ≤ 137438953472) ∧ (∀ x0 ∈ p0, Q1fq x0) ∧ True
def Qo6 (p0 : List SpreadRule) (i0 : Nat) (_v0_1 : List Val) : List PV :=
  [.un, .fn 117 [] []] ++ nuns 6 ++ [.sl (SpreadRule.rows p0), .int .i64 ((List.length p0) : Int), .int .i64 (i0 : Int), .bool false]
def Qkr (_p0 : List SpreadRule) (_i0 : Nat) (_v0_1 : List Val) : List (Nat × List PV) :=
  []
theorem Q15f (p0 : List SpreadRule) (_H : Qev p0) (i0 : Nat) (v0_1 : List Val) (_ho0_0 : List.length v0_1 ≤ i0) (hc0 : (decide ((i0 : Int) < ((List.length p0) : Int))) = false) : Qeu p0 (Qed p0 i0 v0_1) v0_1 := by
 exact ⟨(envF (Qo6 p0 i0 v0_1)), (zoF (Qkr p0 i0 v0_1)), Qe (Q12o p0 i0 v0_1) (x := ((.exit 0), Qqn p0 v0_1 (envF (Qo6 p0 i0 v0_1)) (zoF (Qkr p0 i0 v0_1)))) [hB 0 hc0] [] (by kernel_rfl)⟩
theorem Q15c (p0 : List SpreadRule) (H : Qev p0) (x0 : SpreadRule) (i0 : Nat) (v0_1 : List Val) (hx0 : p0[i0]? = some x0) (hi0 : i0 < List.length p0) (ho0_0 : List.length v0_1 ≤ i0) (hc0 : (decide ((i0 : Int) < ((List.length p0) : Int))) = true) {r : Rs} (hr : Q6 G (Qed p0 (i0 + 1) (v0_1 ++ [(Qan x0)])) r) : Q6 G (Qed p0 i0 v0_1) r := by
 have hB0 := H.1
 exact Ql (Q12o p0 i0 v0_1) (y := (Qw1 p0 (i0 + 1) (v0_1 ++ [(Qan x0)]), Qj7 p0 (i0 + 1) (v0_1 ++ [(Qan x0)]))) [hB 0 hc0, hP 0 (Q1u 4 (SpreadRule.rows p0) i0 _ (SpreadRule.Qb hx0) rfl), hV 8 [(644, Val.rows (v0_1 ++ [(Qan x0)]))] (Q55 1 580 644 5 80 0 0 true (Val.rows v0_1) (Val.rows (v0_1 ++ [(Qan x0)])) (Val.cells (Qan x0)) (List.length v0_1) (List.length (v0_1 ++ [(Qan x0)])) rfl (Val.Q5 v0_1).symm (Val.Q5 (v0_1 ++ [(Qan x0)])).symm (Val.Q12 v0_1 (Qan x0)) (Val.Qf v0_1) rfl (by omega)), hS 0 true (Val.Q9 (v0_1 ++ [(Qan x0)]) 5 rfl), hP 1 (Q27 i0 (by omega))] [aN (Q1pf x0 (H.2.1 x0 (Q2c hx0)))] (by kernel_rfl) hr
theorem Qxr (p0 : List SpreadRule) (H : Qev p0) : ∀ (r0 : List SpreadRule) (i0 : Nat) (v0_1 : List Val), List.drop i0 p0 = r0 → List.length v0_1 ≤ i0 → Qeu p0 (Qed p0 i0 v0_1) (Q3v p0 r0 i0 v0_1)
 | [], i0, v0_1, hd, ho0_0 => by
  have hc0 : (decide ((i0 : Int) < ((List.length p0) : Int))) = false := by have := Q1f hd; simp; omega
  rw [Q3v]
  exact Q15f p0 H i0 v0_1 ho0_0 hc0
 | x0 :: r0, i0, v0_1, hd, ho0_0 => by
  obtain ⟨hx0, hi0, hd'⟩ := Q11 hd
  have hc0 : (decide ((i0 : Int) < ((List.length p0) : Int))) = true := by simp; omega
  rw [Q3v]
  exact Qsw p0 (fun r hr => Q15c p0 H x0 i0 v0_1 hx0 hi0 ho0_0 hc0 hr) _ (Qxr p0 H r0 (i0 + 1) (v0_1 ++ [(Qan x0)]) hd' (by first | omega | (simp; omega)))
def Q5c (p0 : List SpreadRule) : Val := vL (p0.map SpreadRule.enc)
theorem Q13g (p0 : List SpreadRule) : Q5c p0 = ((Qiu (Q3v p0 p0 0 []))) := by
  rw [Qta]
  rfl
def Q150 (p0 : List SpreadRule) : En := .call 116 [.sl (SpreadRule.rows p0), .fn 117 [] []] []
def Qp9 (p0 : List SpreadRule) : Rs := .ret (.agg (Val.cells (Q5c p0))) []
def Qcj (p0 : List SpreadRule) : Prop := LSm SpreadRule.sm p0
theorem Qb9 (p0 : List SpreadRule) (H : Qcj p0) : (Qev p0) ∧ (Qml (Q3v p0 p0 0 [])) ∧ True := by
  refine ⟨⟨Nat.le_trans H.1 (Nat.le_of_ble_eq_true rfl), H.2, trivial⟩, ⟨?_, trivial⟩, trivial⟩
  rw [Qta]
  exact Q2x (fun _ h => SpreadRule.Q24 h) H
theorem Q169 (p0 : List SpreadRule) (H : Qcj p0) : Q6 G (Q150 p0) (Qp9 p0) := by
 unfold Qp9
 rw [Q13g]
 have hl0 := Qxr p0 ((Qb9 p0 H).1) p0 0 [] (by simp) (by simp)
 obtain ⟨z0, zo0, hl0⟩ := hl0
 exact Q7 (fn := Ir.K1x) rfl VOK.nil [hP 3 (Qd (SpreadRule.rows p0) (List.length p0) (SpreadRule.Q5 p0)), hS 0 true (Val.Q9 (Q3v p0 p0 0 []) 5 rfl), hQ (Val.Q5 (Q3v p0 p0 0 [])).symm] [aV [(1, Val.rows (Q3v p0 p0 0 []))] hl0, aN (Qr6 (Q3v p0 p0 0 []) (Qb9 p0 H).2.1)] (by kernel_rfl)
def Qa7 (p0 : Toleration) : Val := Toleration.enc p0
theorem Q1mo (p0 : Toleration) : Qa7 p0 = ((Q9z ([(Qj Q1i (Q15 p0.effect)), (Qj Q1r (Q3e p0.exists_)), (Qj Q1b (Q2g p0.key)), (Qj Q1n (Q15 p0.seconds)), (Qj Q1d (Q2g p0.value))]))) := by
  exact Eq.symm (Q53 (by exact Nat.le_of_ble_eq_true rfl) (by kernel_rfl))
def Q1o3 (p0 : Toleration) : En := .call 119 [.agg (Toleration.cells p0)] []
def Q1k6 (p0 : Toleration) : Rs := .ret (.agg (Val.cells (Qa7 p0))) []
def Q1ex (p0 : Toleration) : Prop := Toleration.sm p0
theorem Q1c2 (p0 : Toleration) (H : Q1ex p0) : (Qdk ([(Qj Q1i (Q15 p0.effect)), (Qj Q1r (Q3e p0.exists_)), (Qj Q1b (Q2g p0.key)), (Qj Q1n (Q15 p0.seconds)), (Qj Q1d (Q2g p0.value))])) ∧ True := by
  repeat' with_reducible apply And.intro
  all_goals first | exact True.intro | exact H | exact H.1 | exact H.2.1 | exact H.2.2.1 | exact H.2.2.2.1 | exact H.2.2.2.2.1 | exact H.2.2.2.2.2.1 | exact H.2.2.2.2.2.2.1 | exact H.2.2.2.2.2.2.2.1 | exact H.2.2.2.2.2.2.2.2.1 | exact H.2.2.2.2.2.2.2.2.2.1 | exact H.2.2.2.2.2.2.2.2.2.2.1 | exact Qhv (by exact Nat.le_of_ble_eq_true rfl) (Toleration.Q24 H).all.2.2.2
theorem Q1pb (p0 : Toleration) (H : Q1ex p0) : Q6 G (Q1o3 p0) (Q1k6 p0) := by
 unfold Q1k6
 rw [Q1mo]
 exact Q7 (fn := Ir.K1q) rfl VOK.nil [] [aN (Q5s p0.effect), aN (Q2p Q1i (Q15 p0.effect)), aN (Qw6 p0.exists_), aN (Q2p Q1r (Q3e p0.exists_)), aN (Qe6 p0.key), aN (Q2p Q1b (Q2g p0.key)), aN (Q5s p0.seconds), aN (Q2p Q1n (Q15 p0.seconds)), aN (Qe6 p0.value), aN (Q2p Q1d (Q2g p0.value)), aN (Q6j (e' := .call 61 [.sl [(Fld.cells (Qj Q1i (Q15 p0.effect))), (Fld.cells (Qj Q1r (Q3e p0.exists_))), (Fld.cells (Qj Q1b (Q2g p0.key))), (Fld.cells (Qj Q1n (Q15 p0.seconds))), (Fld.cells (Qj Q1d (Q2g p0.value)))]] []) (Qhl ([(Qj Q1i (Q15 p0.effect)), (Qj Q1r (Q3e p0.exists_)), (Qj Q1b (Q2g p0.key)), (Qj Q1n (Q15 p0.seconds)), (Qj Q1d (Q2g p0.value))]) (Q1c2 p0 H).1) (by simp only [Qe8, Fld.Q2j, Fld.Q34]))] (by kernel_rfl)
def Q3w (p0 : List Toleration) : List Toleration → Nat → (List Val) → List Val
 | [], _i0, v0_1 =>
  v0_1
 | x0 :: r0, i0, v0_1 =>
  Q3w p0 r0 (i0 + 1) (v0_1 ++ [(Qa7 x0)])
theorem Qs4 (p0 : List Toleration) : ∀ (l : List Toleration) (i : Nat) (a : List Val), Q3w p0 l i a = a ++ l.map (fun x0 => (Qa7 x0))
  | [], _, _ => by simp [Q3w]
  | x :: r, i, a => by rw [Q3w, Qs4 p0 r]; simp
def Qwd (p0 : List Toleration) (i0 : Nat) (v0_1 : List Val) : List PV :=
  [.un, .fn 119 [] [], .un, .un, .bx 0 0, .ms 1 5 0 (List.length v0_1), .un, .un, .sl (Toleration.rows p0), .int .i64 ((List.length p0) : Int), .int .i64 (i0 : Int)] ++ nuns 12
def Qjq (_p0 : List Toleration) (_i0 : Nat) (v0_1 : List Val) : List Ob :=
  [⟨5, 0, true, [.int .i64 0, .int .i64 0, .str eB, .ms 2 5 0 0, .ms 3 6 0 0]⟩, ⟨5, 0, true, (Val.rows v0_1).flatten⟩, ⟨5, 0, true, []⟩, ⟨6, 0, true, []⟩]
def Qf4 (p0 : List Toleration) (i0 : Nat) (v0_1 : List Val) : En := .loop 0 Ir.Qm0 Ir.Q1db (Qwd p0 i0 v0_1) (Qjq p0 i0 v0_1)
def Qnl (_p0 : List Toleration) (q0 : List Val) (z : Nat → PV) (_zo : Nat → List PV) : St :=
  ⟨[z 0, z 1, z 2, z 3, .bx 0 0, .ms 1 5 0 (List.length q0)] ++ zr z 6 17, [(0, ⟨5, 0, true, [.int .i64 0, .int .i64 0, .str eB, .ms 2 5 0 0, .ms 3 6 0 0]⟩), (1, ⟨5, 0, true, (Val.rows q0).flatten⟩), (2, ⟨5, 0, true, []⟩), (3, ⟨6, 0, true, []⟩)], 68⟩
theorem Q122 (p0 : List Toleration) (i0 : Nat) (v0_1 : List Val) : VOK (Go.Pv.look (number 0 (Qjq p0 i0 v0_1))) [(1, Val.rows v0_1)] := (VOK.cons (show Seen _ _ from Q3h (ob := ⟨5, 0, true, (Val.rows v0_1).flatten⟩) (Val.Q9 v0_1 5 rfl)) VOK.nil)
def Qep (p0 : List Toleration) (e : En) (q : List Val) : Prop := ∃ z zo, Q6 G e (.st (.exit 0) (Qnl p0 q z zo))
theorem Qt8 (p0 : List Toleration) {e e' : En} (h : ∀ r, Q6 G e r → Q6 G e' r) : ∀ q, Qep p0 e q → Qep p0 e' q
  | _, ⟨z, zo, hz⟩ => ⟨z, zo, h _ hz⟩
def Qec (p0 : List Toleration) : Prop := (List.length p0 ≤ 137438953472) ∧ (∀ x0 ∈ p0, Q1ex x0) ∧ True
def Qoh (p0 : List Toleration) (i0 : Nat) (_v0_1 : List Val) : List PV :=
  [.un, .fn 119 [] []] ++ nuns 6 ++ [.sl (Toleration.rows p0), .int .i64 ((List.length p0) : Int), .int .i64 (i0 : Int), .bool false]
def Qlx (_p0 : List Toleration) (_i0 : Nat) (_v0_1 : List Val) : List (Nat × List PV) :=
  []
theorem Q16g (p0 : List Toleration) (_H : Qec p0) (i0 : Nat) (v0_1 : List Val) (_ho0_0 : List.length v0_1 ≤ i0) (hc0 : (decide ((i0 : Int) < ((List.length p0) : Int))) = false) : Qep p0 (Qf4 p0 i0 v0_1) v0_1 := by
 exact ⟨(envF (Qoh p0 i0 v0_1)), (zoF (Qlx p0 i0 v0_1)), Qe (Q122 p0 i0 v0_1) (x := ((.exit 0), Qnl p0 v0_1 (envF (Qoh p0 i0 v0_1)) (zoF (Qlx p0 i0 v0_1)))) [hB 0 hc0] [] (by kernel_rfl)⟩
theorem Q14v (p0 : List Toleration) (H : Qec p0) (x0 : Toleration) (i0 : Nat) (v0_1 : List Val) (hx0 : p0[i0]? = some x0) (hi0 : i0 < List.length p0) (ho0_0 : List.length v0_1 ≤ i0) (hc0 : (decide ((i0 : Int) < ((List.length p0) : Int))) = true) {r : Rs} (hr : Q6 G (Qf4 p0 (i0 + 1) (v0_1 ++ [(Qa7 x0)])) r) : Q6 G (Qf4 p0 i0 v0_1) r := by
 have hB0 := H.1
 exact Ql (Q122 p0 i0 v0_1) (y := (Qwd p0 (i0 + 1) (v0_1 ++ [(Qa7 x0)]), Qjq p0 (i0 + 1) (v0_1 ++ [(Qa7 x0)]))) [hB 0 hc0, hP 0 (Q1u 5 (Toleration.rows p0) i0 _ (Toleration.Qb hx0) rfl), hV 8 [(644, Val.rows (v0_1 ++ [(Qa7 x0)]))] (Q55 1 580 644 5 80 0 0 true (Val.rows v0_1) (Val.rows (v0_1 ++ [(Qa7 x0)])) (Val.cells (Qa7 x0)) (List.length v0_1) (List.length (v0_1 ++ [(Qa7 x0)])) rfl (Val.Q5 v0_1).symm (Val.Q5 (v0_1 ++ [(Qa7 x0)])).symm (Val.Q12 v0_1 (Qa7 x0)) (Val.Qf v0_1) rfl (by omega)), hS 0 true (Val.Q9 (v0_1 ++ [(Qa7 x0)]) 5 rfl), hP 1 (Q27 i0 (by omega))] [aN (Q1pb x0 (H.2.1 x0 (Q2c hx0)))] (by kernel_rfl) hr
theorem Qu1 (p0 : List Toleration) (H : Qec p0) : ∀ (r0 : List Toleration) (i0 : Nat) (v0_1 : List Val), List.drop i0 p0 = r0 → List.length v0_1 ≤ i0 → Qep p0 (Qf4 p0 i0 v0_1) (Q3w p0 r0 i0 v0_1)
 | [], i0, v0_1, hd, ho0_0 => by
  have hc0 : (decide ((i0 : Int) < ((List.length p0) : Int))) = false := by have := Q1f hd; simp; omega
  rw [Q3w]
  exact Q16g p0 H i0 v0_1 ho0_0 hc0
 | x0 :: r0, i0, v0_1, hd, ho0_0 => by
  obtain ⟨hx0, hi0, hd'⟩ := Q11 hd
  have hc0 : (decide ((i0 : Int) < ((List.length p0) : Int))) = true := by simp; omega
  rw [Q3w]
  exact Qt8 p0 (fun r hr => Q14v p0 H x0 i0 v0_1 hx0 hi0 ho0_0 hc0 hr) _ (Qu1 p0 H r0 (i0 + 1) (v0_1 ++ [(Qa7 x0)]) hd' (by first | omega | (simp; omega)))
def Q5h (p0 : List Toleration) : Val := vL (p0.map Toleration.enc)
theorem Q15b (p0 : List Toleration) : Q5h p0 = ((Qiu (Q3w p0 p0 0 []))) := by
  rw [Qs4]
  rfl
def Q131 (p0 : List Toleration) : En := .call 118 [.sl (Toleration.rows p0), .fn 119 [] []] []
def Qn6 (p0 : List Toleration) : Rs := .ret (.agg (Val.cells (Q5h p0))) []
def Qco (p0 : List Toleration) : Prop := LSm Toleration.sm p0
theorem Qay (p0 : List Toleration) (H : Qco p0) : (Qec p0) ∧ (Qml (Q3w p0 p0 0 [])) ∧ True := by
  refine ⟨⟨Nat.le_trans H.1 (Nat.le_of_ble_eq_true rfl), H.2, trivial⟩, ⟨?_, trivial⟩, trivial⟩
  rw [Qs4]
  exact Q2x (fun _ h => Toleration.Q24 h) H
theorem Q13v (p0 : List Toleration) (H : Qco p0) : Q6 G (Q131 p0) (Qn6 p0) := by
 unfold Qn6
 rw [Q15b]
 have hl0 := Qu1 p0 ((Qay p0 H).1) p0 0 [] (by simp) (by simp)
 obtain ⟨z0, zo0, hl0⟩ := hl0
 exact Q7 (fn := Ir.K1y) rfl VOK.nil [hP 3 (Qd (Toleration.rows p0) (List.length p0) (Toleration.Q5 p0)), hS 0 true (Val.Q9 (Q3w p0 p0 0 []) 5 rfl), hQ (Val.Q5 (Q3w p0 p0 0 [])).symm] [aV [(1, Val.rows (Q3w p0 p0 0 []))] hl0, aN (Qr6 (Q3w p0 p0 0 []) (Qay p0 H).2.1)] (by kernel_rfl)
def Q1fl (p0 : PodSpec) : Val := PodSpec.enc p0
theorem Q1nk (p0 : PodSpec) : Q1fl p0 = ((Q9z ([(Qj Qh (Q5l p0.containers)), (Qj Q25 (Q15 p0.grace)), (Qj Q28 (Q2g p0.node)), (Qj Qk (Q26 p0.nodeSelector)), (Qj Qs (Q5b p0.nodeTerms)), (Qj Qz (Q5i p0.podTerms)), (Qj Qx (Q15 p0.priority)), (Qj Q19 (Q15 p0.restart)), (Qj Q1q (Q5c p0.spread)), (Qj Qq (Q5h p0.tolerations))]))) := by
  exact Eq.symm (Q53 (by exact Nat.le_of_ble_eq_true rfl) (by kernel_rfl))
def Q1nd (p0 : PodSpec) : En := .call 56 [.agg (PodSpec.cells p0)] []
def Q1hs (p0 : PodSpec) : Rs := .ret (.agg (Val.cells (Q1fl p0))) []
def Q1ff (p0 : PodSpec) : Prop := PodSpec.sm p0
theorem Q7t (p0 : PodSpec) (H : Q1ff p0) : (Qcr p0.containers) ∧ (Q62 p0.nodeSelector) ∧ (Qcs p0.nodeTerms) ∧ (Qd6 p0.podTerms) ∧ (Qcj p0.spread) ∧ (Qco p0.tolerations) ∧ (Qdk ([(Qj Qh (Q5l p0.containers)), (Qj Q25 (Q15 p0.grace)), (Qj Q28 (Q2g p0.node)), (Qj Qk (Q26 p0.nodeSelector)), (Qj Qs (Q5b p0.nodeTerms)), (Qj Qz (Q5i p0.podTerms)), (Qj Qx (Q15 p0.priority)), (Qj Q19 (Q15 p0.restart)), (Qj Q1q (Q5c p0.spread)), (Qj Qq (Q5h p0.tolerations))])) ∧ True := by
  repeat' with_reducible apply And.intro
  all_goals first | exact True.intro | exact H | exact H.1 | exact H.2.1 | exact H.2.2.1 | exact H.2.2.2.1 | exact H.2.2.2.2.1 | exact H.2.2.2.2.2.1 | exact H.2.2.2.2.2.2.1 | exact H.2.2.2.2.2.2.2.1 | exact H.2.2.2.2.2.2.2.2.1 | exact H.2.2.2.2.2.2.2.2.2.1 | exact H.2.2.2.2.2.2.2.2.2.2.1 | exact Qhv (by exact Nat.le_of_ble_eq_true rfl) (PodSpec.Q24 H).all.2.2.2
theorem Q1nr (p0 : PodSpec) (H : Q1ff p0) : Q6 G (Q1nd p0) (Q1hs p0) := by
 unfold Q1hs
 rw [Q1nk]
 exact Q7 (fn := Ir.K1m) rfl VOK.nil [] [aN (Q14e p0.containers (Q7t p0 H).1), aN (Q2p Qh (Q5l p0.containers)), aN (Q5s p0.grace), aN (Q2p Q25 (Q15 p0.grace)), aN (Qe6 p0.node), aN (Q2p Q28 (Q2g p0.node)), aN (Q9m p0.nodeSelector (Q7t p0 H).2.1), aN (Q2p Qk (Q26 p0.nodeSelector)), aN (Q13o p0.nodeTerms (Q7t p0 H).2.2.1), aN (Q2p Qs (Q5b p0.nodeTerms)), aN (Q170 p0.podTerms (Q7t p0 H).2.2.2.1), aN (Q2p Qz (Q5i p0.podTerms)), aN (Q5s p0.priority), aN (Q2p Qx (Q15 p0.priority)), aN (Q5s p0.restart), aN (Q2p Q19 (Q15 p0.restart)), aN (Q169 p0.spread (Q7t p0 H).2.2.2.2.1), aN (Q2p Q1q (Q5c p0.spread)), aN (Q13v p0.tolerations (Q7t p0 H).2.2.2.2.2.1), aN (Q2p Qq (Q5h p0.tolerations)), aN (Q6j (e' := .call 61 [.sl [(Fld.cells (Qj Qh (Q5l p0.containers))), (Fld.cells (Qj Q25 (Q15 p0.grace))), (Fld.cells (Qj Q28 (Q2g p0.node))), (Fld.cells (Qj Qk (Q26 p0.nodeSelector))), (Fld.cells (Qj Qs (Q5b p0.nodeTerms))), (Fld.cells (Qj Qz (Q5i p0.podTerms))), (Fld.cells (Qj Qx (Q15 p0.priority))), (Fld.cells (Qj Q19 (Q15 p0.restart))), (Fld.cells (Qj Q1q (Q5c p0.spread))), (Fld.cells (Qj Qq (Q5h p0.tolerations)))]] []) (Qhl ([(Qj Qh (Q5l p0.containers)), (Qj Q25 (Q15 p0.grace)), (Qj Q28 (Q2g p0.node)), (Qj Qk (Q26 p0.nodeSelector)), (Qj Qs (Q5b p0.nodeTerms)), (Qj Qz (Q5i p0.podTerms)), (Qj Qx (Q15 p0.priority)), (Qj Q19 (Q15 p0.restart)), (Qj Q1q (Q5c p0.spread)), (Qj Qq (Q5h p0.tolerations))]) (Q7t p0 H).2.2.2.2.2.2.1) (by simp only [Qe8, Fld.Q2j, Fld.Q34]))] (by kernel_rfl)
def Qaa (p0 : ContainerStatus) : Val := ContainerStatus.enc p0
theorem Q1mh (p0 : ContainerStatus) : Qaa p0 = ((Q9z ([(Qj Qy (Q15 p0.exitCode)), (Qj Qr (Q2g p0.name)), (Qj Qn (Q3e p0.ready)), (Qj Qw (Q15 p0.restarts)), (Qj Q1v (Q15 p0.since)), (Qj Qt (Q3e p0.started)), (Qj Q1t (Q15 p0.state))]))) := by
  exact Eq.symm (Q53 (by exact Nat.le_of_ble_eq_true rfl) (by kernel_rfl))
def Q1nz (p0 : ContainerStatus) : En := .call 121 [.agg (ContainerStatus.cells p0)] []
def Q1j8 (p0 : ContainerStatus) : Rs := .ret (.agg (Val.cells (Qaa p0))) []
def Q1f8 (p0 : ContainerStatus) : Prop := ContainerStatus.sm p0
theorem Q1as (p0 : ContainerStatus) (H : Q1f8 p0) : (Qdk ([(Qj Qy (Q15 p0.exitCode)), (Qj Qr (Q2g p0.name)), (Qj Qn (Q3e p0.ready)), (Qj Qw (Q15 p0.restarts)), (Qj Q1v (Q15 p0.since)), (Qj Qt (Q3e p0.started)), (Qj Q1t (Q15 p0.state))])) ∧ True := by
  repeat' with_reducible apply And.intro
  all_goals first | exact True.intro | exact H | exact H.1 | exact H.2.1 | exact H.2.2.1 | exact H.2.2.2.1 | exact H.2.2.2.2.1 | exact H.2.2.2.2.2.1 | exact H.2.2.2.2.2.2.1 | exact H.2.2.2.2.2.2.2.1 | exact H.2.2.2.2.2.2.2.2.1 | exact H.2.2.2.2.2.2.2.2.2.1 | exact H.2.2.2.2.2.2.2.2.2.2.1 | exact Qhv (by exact Nat.le_of_ble_eq_true rfl) (ContainerStatus.Q24 H).all.2.2.2
theorem Q1kz (p0 : ContainerStatus) (H : Q1f8 p0) : Q6 G (Q1nz p0) (Q1j8 p0) := by
 unfold Q1j8
 rw [Q1mh]
 exact Q7 (fn := Ir.K1e) rfl VOK.nil [] [aN (Q5s p0.exitCode), aN (Q2p Qy (Q15 p0.exitCode)), aN (Qe6 p0.name), aN (Q2p Qr (Q2g p0.name)), aN (Qw6 p0.ready), aN (Q2p Qn (Q3e p0.ready)), aN (Q5s p0.restarts), aN (Q2p Qw (Q15 p0.restarts)), aN (Q5s p0.since), aN (Q2p Q1v (Q15 p0.since)), aN (Qw6 p0.started), aN (Q2p Qt (Q3e p0.started)), aN (Q5s p0.state), aN (Q2p Q1t (Q15 p0.state)), aN (Q6j (e' := .call 61 [.sl [(Fld.cells (Qj Qy (Q15 p0.exitCode))), (Fld.cells (Qj Qr (Q2g p0.name))), (Fld.cells (Qj Qn (Q3e p0.ready))), (Fld.cells (Qj Qw (Q15 p0.restarts))), (Fld.cells (Qj Q1v (Q15 p0.since))), (Fld.cells (Qj Qt (Q3e p0.started))), (Fld.cells (Qj Q1t (Q15 p0.state)))]] []) (Qhl ([(Qj Qy (Q15 p0.exitCode)), (Qj Qr (Q2g p0.name)), (Qj Qn (Q3e p0.ready)), (Qj Qw (Q15 p0.restarts)), (Qj Q1v (Q15 p0.since)), (Qj Qt (Q3e p0.started)), (Qj Q1t (Q15 p0.state))]) (Q1as p0 H).1) (by simp only [Qe8, Fld.Q2j, Fld.Q34]))] (by kernel_rfl)
def Q3x (p0 : List ContainerStatus) : List ContainerStatus → Nat → (List Val) → List Val
 | [], _i0, v0_1 =>
  v0_1
 | x0 :: r0, i0, v0_1 =>
  Q3x p0 r0 (i0 + 1) (v0_1 ++ [(Qaa x0)])
theorem Qrf (p0 : List ContainerStatus) : ∀ (l : List ContainerStatus) (i : Nat) (a : List Val), Q3x p0 l i a = a ++ l.map (fun x0 => (Qaa x0))
  | [], _, _ => by simp [Q3x]
  | x :: r, i, a => by rw [Q3x, Qrf p0 r]; simp
def Qvu (p0 : List ContainerStatus) (i0 : Nat) (v0_1 : List Val) : List PV :=
  [.un, .fn 121 [] [], .un, .un, .bx 0 0, .ms 1 5 0 (List.length v0_1), .un, .un, .sl (ContainerStatus.rows p0), .int .i64 ((List.length p0) : Int), .int .i64 (i0 : Int)] ++ nuns 12
def Qlf (_p0 : List ContainerStatus) (_i0 : Nat) (v0_1 : List Val) : List Ob :=
  [⟨5, 0, true, [.int .i64 0, .int .i64 0, .str eB, .ms 2 5 0 0, .ms 3 6 0 0]⟩, ⟨5, 0, true, (Val.rows v0_1).flatten⟩, ⟨5, 0, true, []⟩, ⟨6, 0, true, []⟩]
def Qgc (p0 : List ContainerStatus) (i0 : Nat) (v0_1 : List Val) : En := .loop 0 Ir.Qmc Ir.Q1dv (Qvu p0 i0 v0_1) (Qlf p0 i0 v0_1)
def Qqj (_p0 : List ContainerStatus) (q0 : List Val) (z : Nat → PV) (_zo : Nat → List PV) : St :=
  ⟨[z 0, z 1, z 2, z 3, .bx 0 0, .ms 1 5 0 (List.length q0)] ++ zr z 6 17, [(0, ⟨5, 0, true, [.int .i64 0, .int .i64 0, .str eB, .ms 2 5 0 0, .ms 3 6 0 0]⟩), (1, ⟨5, 0, true, (Val.rows q0).flatten⟩), (2, ⟨5, 0, true, []⟩), (3, ⟨6, 0, true, []⟩)], 68⟩
theorem Q124 (p0 : List ContainerStatus) (i0 : Nat) (v0_1 : List Val) : VOK (Go.Pv.look (number 0 (Qlf p0 i0 v0_1))) [(1, Val.rows v0_1)] := (VOK.cons (show Seen _ _ from Q3h (ob := ⟨5, 0, true, (Val.rows v0_1).flatten⟩) (Val.Q9 v0_1 5 rfl)) VOK.nil)
def Qgl (p0 : List ContainerStatus) (e : En) (q : List Val) : Prop := ∃ z zo, Q6 G e (.st (.exit 0) (Qqj p0 q z zo))
theorem Qsj (p0 : List ContainerStatus) {e e' : En} (h : ∀ r, Q6 G e r → Q6 G e' r) : ∀ q, Qgl p0 e q → Qgl p0 e' q
  | _, ⟨z, zo, hz⟩ => ⟨z, zo, h _ hz⟩
def Qgb (p0 : List ContainerStatus) : Prop := (List.length p0 ≤ 137438953472) ∧ (∀ x0 ∈ p0, Q1f8 x0) ∧ True
def Qr3 (p0 : List ContainerStatus) (i0 : Nat) (_v0_1 : List Val) : List PV :=
  [.un, .fn 121 [] []] ++ nuns 6 ++ [.sl (ContainerStatus.rows p0), .int .i64 ((List.length p0) : Int), .int .i64 (i0 : Int), .bool false]
def Qid (_p0 : List ContainerStatus) (_i0 : Nat) (_v0_1 : List Val) : List (Nat × List PV) :=
  []
theorem Q16r (p0 : List ContainerStatus) (_H : Qgb p0) (i0 : Nat) (v0_1 : List Val) (_ho0_0 : List.length v0_1 ≤ i0) (hc0 : (decide ((i0 : Int) < ((List.length p0) : Int))) = false) : Qgl p0 (Qgc p0 i0 v0_1) v0_1 := by
 exact ⟨(envF (Qr3 p0 i0 v0_1)), (zoF (Qid p0 i0 v0_1)), Qe (Q124 p0 i0 v0_1) (x := ((.exit 0), Qqj p0 v0_1 (envF (Qr3 p0 i0 v0_1)) (zoF (Qid p0 i0 v0_1)))) [hB 0 hc0] [] (by kernel_rfl)⟩
theorem Q17h (p0 : List ContainerStatus) (H : Qgb p0) (x0 : ContainerStatus) (i0 : Nat) (v0_1 : List Val) (hx0 : p0[i0]? = some x0) (hi0 : i0 < List.length p0) (ho0_0 : List.length v0_1 ≤ i0) (hc0 : (decide ((i0 : Int) < ((List.length p0) : Int))) = true) {r : Rs} (hr : Q6 G (Qgc p0 (i0 + 1) (v0_1 ++ [(Qaa x0)])) r) : Q6 G (Qgc p0 i0 v0_1) r := by
 have hB0 := H.1
 exact Ql (Q124 p0 i0 v0_1) (y := (Qvu p0 (i0 + 1) (v0_1 ++ [(Qaa x0)]), Qlf p0 (i0 + 1) (v0_1 ++ [(Qaa x0)]))) [hB 0 hc0, hP 0 (Q1u 7 (ContainerStatus.rows p0) i0 _ (ContainerStatus.Qb hx0) rfl), hV 8 [(644, Val.rows (v0_1 ++ [(Qaa x0)]))] (Q55 1 580 644 5 80 0 0 true (Val.rows v0_1) (Val.rows (v0_1 ++ [(Qaa x0)])) (Val.cells (Qaa x0)) (List.length v0_1) (List.length (v0_1 ++ [(Qaa x0)])) rfl (Val.Q5 v0_1).symm (Val.Q5 (v0_1 ++ [(Qaa x0)])).symm (Val.Q12 v0_1 (Qaa x0)) (Val.Qf v0_1) rfl (by omega)), hS 0 true (Val.Q9 (v0_1 ++ [(Qaa x0)]) 5 rfl), hP 1 (Q27 i0 (by omega))] [aN (Q1kz x0 (H.2.1 x0 (Q2c hx0)))] (by kernel_rfl) hr
theorem Qxi (p0 : List ContainerStatus) (H : Qgb p0) : ∀ (r0 : List ContainerStatus) (i0 : Nat) (v0_1 : List Val), List.drop i0 p0 = r0 → List.length v0_1 ≤ i0 → Qgl p0 (Qgc p0 i0 v0_1) (Q3x p0 r0 i0 v0_1)
 | [], i0, v0_1, hd, ho0_0 => by
  have hc0 : (decide ((i0 : Int) < ((List.length p0) : Int))) = false := by have := Q1f hd; simp; omega
  rw [Q3x]
  exact Q16r p0 H i0 v0_1 ho0_0 hc0
 | x0 :: r0, i0, v0_1, hd, ho0_0 => by
  obtain ⟨hx0, hi0, hd'⟩ := Q11 hd
  have hc0 : (decide ((i0 : Int) < ((List.length p0) : Int))) = true := by simp; omega
  rw [Q3x]
  exact Qsj p0 (fun r hr => Q17h p0 H x0 i0 v0_1 hx0 hi0 ho0_0 hc0 hr) _ (Qxi p0 H r0 (i0 + 1) (v0_1 ++ [(Qaa x0)]) hd' (by first | omega | (simp; omega)))
def Q5g (p0 : List ContainerStatus) : Val := vL (p0.map ContainerStatus.enc)
theorem Q16c (p0 : List ContainerStatus) : Q5g p0 = ((Qiu (Q3x p0 p0 0 []))) := by
  rw [Qrf]
  rfl
def Q12v (p0 : List ContainerStatus) : En := .call 120 [.sl (ContainerStatus.rows p0), .fn 121 [] []] []
def Qn2 (p0 : List ContainerStatus) : Rs := .ret (.agg (Val.cells (Q5g p0))) []
def Qd0 (p0 : List ContainerStatus) : Prop := LSm ContainerStatus.sm p0
theorem Qb0 (p0 : List ContainerStatus) (H : Qd0 p0) : (Qgb p0) ∧ (Qml (Q3x p0 p0 0 [])) ∧ True := by
  refine ⟨⟨Nat.le_trans H.1 (Nat.le_of_ble_eq_true rfl), H.2, trivial⟩, ⟨?_, trivial⟩, trivial⟩
  rw [Qrf]
  exact Q2x (fun _ h => ContainerStatus.Q24 h) H
theorem Q15j (p0 : List ContainerStatus) (H : Qd0 p0) : Q6 G (Q12v p0) (Qn2 p0) := by
 unfold Qn2
 rw [Q16c]
 have hl0 := Qxi p0 ((Qb0 p0 H).1) p0 0 [] (by simp) (by simp)
 obtain ⟨z0, zo0, hl0⟩ := hl0
 exact Q7 (fn := Ir.K1z) rfl VOK.nil [hP 3 (Qd (ContainerStatus.rows p0) (List.length p0) (ContainerStatus.Q5 p0)), hS 0 true (Val.Q9 (Q3x p0 p0 0 []) 5 rfl), hQ (Val.Q5 (Q3x p0 p0 0 [])).symm] [aV [(1, Val.rows (Q3x p0 p0 0 []))] hl0, aN (Qr6 (Q3x p0 p0 0 []) (Qb0 p0 H).2.1)] (by kernel_rfl)
def Q1fy (p0 : PodStatus) : Val := PodStatus.enc p0
theorem Q1p5 (p0 : PodStatus) : Q1fy p0 = ((Q9z ([(Qj Q2a (Q15 p0.address)), (Qj Qh (Q5g p0.containers)), (Qj Q2i (Q15 p0.finished)), (Qj Q21 (Q2g p0.nominated)), (Qj Q2n (Q15 p0.phase)), (Qj Qn (Q3e p0.ready)), (Qj Q1l (Q15 p0.readySince)), (Qj Q2y (Q2g p0.reason)), (Qj Qt (Q15 p0.started))]))) := by
  exact Eq.symm (Q53 (by exact Nat.le_of_ble_eq_true rfl) (by kernel_rfl))
def Q1o0 (p0 : PodStatus) : En := .call 57 [.agg (PodStatus.cells p0)] []
def Q1ht (p0 : PodStatus) : Rs := .ret (.agg (Val.cells (Q1fy p0))) []
def Q1f7 (p0 : PodStatus) : Prop := PodStatus.sm p0
theorem Q120 (p0 : PodStatus) (H : Q1f7 p0) : (Qd0 p0.containers) ∧ (Qdk ([(Qj Q2a (Q15 p0.address)), (Qj Qh (Q5g p0.containers)), (Qj Q2i (Q15 p0.finished)), (Qj Q21 (Q2g p0.nominated)), (Qj Q2n (Q15 p0.phase)), (Qj Qn (Q3e p0.ready)), (Qj Q1l (Q15 p0.readySince)), (Qj Q2y (Q2g p0.reason)), (Qj Qt (Q15 p0.started))])) ∧ True := by
  repeat' with_reducible apply And.intro
  all_goals first | exact True.intro | exact H | exact H.1 | exact H.2.1 | exact H.2.2.1 | exact H.2.2.2.1 | exact H.2.2.2.2.1 | exact H.2.2.2.2.2.1 | exact H.2.2.2.2.2.2.1 | exact H.2.2.2.2.2.2.2.1 | exact H.2.2.2.2.2.2.2.2.1 | exact H.2.2.2.2.2.2.2.2.2.1 | exact H.2.2.2.2.2.2.2.2.2.2.1 | exact Qhv (by exact Nat.le_of_ble_eq_true rfl) (PodStatus.Q24 H).all.2.2.2
theorem Q1m5 (p0 : PodStatus) (H : Q1f7 p0) : Q6 G (Q1o0 p0) (Q1ht p0) := by
 unfold Q1ht
 rw [Q1p5]
 exact Q7 (fn := Ir.K1o) rfl VOK.nil [] [aN (Q5s p0.address), aN (Q2p Q2a (Q15 p0.address)), aN (Q15j p0.containers (Q120 p0 H).1), aN (Q2p Qh (Q5g p0.containers)), aN (Q5s p0.finished), aN (Q2p Q2i (Q15 p0.finished)), aN (Qe6 p0.nominated), aN (Q2p Q21 (Q2g p0.nominated)), aN (Q5s p0.phase), aN (Q2p Q2n (Q15 p0.phase)), aN (Qw6 p0.ready), aN (Q2p Qn (Q3e p0.ready)), aN (Q5s p0.readySince), aN (Q2p Q1l (Q15 p0.readySince)), aN (Qe6 p0.reason), aN (Q2p Q2y (Q2g p0.reason)), aN (Q5s p0.started), aN (Q2p Qt (Q15 p0.started)), aN (Q6j (e' := .call 61 [.sl [(Fld.cells (Qj Q2a (Q15 p0.address))), (Fld.cells (Qj Qh (Q5g p0.containers))), (Fld.cells (Qj Q2i (Q15 p0.finished))), (Fld.cells (Qj Q21 (Q2g p0.nominated))), (Fld.cells (Qj Q2n (Q15 p0.phase))), (Fld.cells (Qj Qn (Q3e p0.ready))), (Fld.cells (Qj Q1l (Q15 p0.readySince))), (Fld.cells (Qj Q2y (Q2g p0.reason))), (Fld.cells (Qj Qt (Q15 p0.started)))]] []) (Qhl ([(Qj Q2a (Q15 p0.address)), (Qj Qh (Q5g p0.containers)), (Qj Q2i (Q15 p0.finished)), (Qj Q21 (Q2g p0.nominated)), (Qj Q2n (Q15 p0.phase)), (Qj Qn (Q3e p0.ready)), (Qj Q1l (Q15 p0.readySince)), (Qj Q2y (Q2g p0.reason)), (Qj Qt (Q15 p0.started))]) (Q120 p0 H).2.1) (by simp only [Qe8, Fld.Q2j, Fld.Q34]))] (by kernel_rfl)
end Go.Proofs.YtiflaadeikaghaaGreat
end

