/- What the functions of the chapter on resources compute (printed by a program). -/
import Derived.Test.YtpmdkaecfoakkaaIr
import Derived.Test.YtpmdkaecfoakkaaPvX
import Derived.Test.YtpmdkaecfoakkaaPvY
namespace Go.Proofs.Ytpmdkaecfoakkaa
open Go.Pv

abbrev G : Nat → Option Fun := tabG Ir.table
abbrev Γ : Nat → Option Ty := fun _ => none

structure Resources where
  cPU : Int
  memory : Int
  disk : Int
def Resources.cells (x : Resources) : List PV :=
  [.int .i64 x.cPU, .int .i64 x.memory, .int .i64 x.disk]
def Resources.rows (l : List Resources) : List (List PV) := l.map Resources.cells
theorem Resources.rowsLen (l : List Resources) : (Resources.rows l).length = l.length := by simp [Resources.rows]
theorem Resources.rowsGet {l : List Resources} {i : Nat} {x : Resources} (h : l[i]? = some x) : (Resources.rows l)[i]? = some (Resources.cells x) := Go.Pv.rowsGet h
theorem Resources.rowsSnoc (l : List Resources) (x : Resources) : Resources.rows (l ++ [x]) = Resources.rows l ++ [Resources.cells x] := by simp [Resources.rows]
theorem Resources.rowsTake (l : List Resources) (n : Nat) : Resources.rows (l.take n) = (Resources.rows l).take n := by simp [Resources.rows, List.map_take]
theorem Resources.rowsDrop (l : List Resources) (n : Nat) : Resources.rows (l.drop n) = (Resources.rows l).drop n := by simp [Resources.rows, List.map_drop]
theorem Resources.rowsSize (l : List Resources) : ∀ r ∈ Resources.rows l, r.length = 3 := mapSize (f := Resources.cells) (fun _ => rfl) l
theorem Resources.rowsView (l : List Resources) (sz : Nat) (h : sz = 3) : ViewOK sz (Resources.rows l).flatten (Resources.rows l) := by subst h; exact ⟨rfl, Resources.rowsSize l, mapPlain (f := Resources.cells) (fun _ => rfl) l⟩

structure Probe where
  delay : Int
  period : Int
  success : Int
  failure : Int
def Probe.cells (x : Probe) : List PV :=
  [.int .i64 x.delay, .int .i64 x.period, .int .i64 x.success, .int .i64 x.failure]
def Probe.rows (l : List Probe) : List (List PV) := l.map Probe.cells
theorem Probe.rowsLen (l : List Probe) : (Probe.rows l).length = l.length := by simp [Probe.rows]
theorem Probe.rowsGet {l : List Probe} {i : Nat} {x : Probe} (h : l[i]? = some x) : (Probe.rows l)[i]? = some (Probe.cells x) := Go.Pv.rowsGet h
theorem Probe.rowsSnoc (l : List Probe) (x : Probe) : Probe.rows (l ++ [x]) = Probe.rows l ++ [Probe.cells x] := by simp [Probe.rows]
theorem Probe.rowsTake (l : List Probe) (n : Nat) : Probe.rows (l.take n) = (Probe.rows l).take n := by simp [Probe.rows, List.map_take]
theorem Probe.rowsDrop (l : List Probe) (n : Nat) : Probe.rows (l.drop n) = (Probe.rows l).drop n := by simp [Probe.rows, List.map_drop]
theorem Probe.rowsSize (l : List Probe) : ∀ r ∈ Probe.rows l, r.length = 4 := mapSize (f := Probe.cells) (fun _ => rfl) l
theorem Probe.rowsView (l : List Probe) (sz : Nat) (h : sz = 4) : ViewOK sz (Probe.rows l).flatten (Probe.rows l) := by subst h; exact ⟨rfl, Probe.rowsSize l, mapPlain (f := Probe.cells) (fun _ => rfl) l⟩

structure Container where
  name : ByteArray
  image : ByteArray
  request : Resources
  limit : Resources
  live : List Probe
  ready : List Probe
  startup : List Probe
def Container.cells (x : Container) : List PV :=
  [.str x.name, .str x.image, .int .i64 x.request.cPU, .int .i64 x.request.memory, .int .i64 x.request.disk, .int .i64 x.limit.cPU, .int .i64 x.limit.memory, .int .i64 x.limit.disk, .sl (Probe.rows x.live), .sl (Probe.rows x.ready), .sl (Probe.rows x.startup)]
def Container.rows (l : List Container) : List (List PV) := l.map Container.cells
theorem Container.rowsLen (l : List Container) : (Container.rows l).length = l.length := by simp [Container.rows]
theorem Container.rowsGet {l : List Container} {i : Nat} {x : Container} (h : l[i]? = some x) : (Container.rows l)[i]? = some (Container.cells x) := Go.Pv.rowsGet h
theorem Container.rowsSnoc (l : List Container) (x : Container) : Container.rows (l ++ [x]) = Container.rows l ++ [Container.cells x] := by simp [Container.rows]
theorem Container.rowsTake (l : List Container) (n : Nat) : Container.rows (l.take n) = (Container.rows l).take n := by simp [Container.rows, List.map_take]
theorem Container.rowsDrop (l : List Container) (n : Nat) : Container.rows (l.drop n) = (Container.rows l).drop n := by simp [Container.rows, List.map_drop]
theorem Container.rowsSize (l : List Container) : ∀ r ∈ Container.rows l, r.length = 11 := mapSize (f := Container.cells) (fun _ => rfl) l
theorem Container.rowsView (l : List Container) (sz : Nat) (h : sz = 11) : ViewOK sz (Container.rows l).flatten (Container.rows l) := by subst h; exact ⟨rfl, Container.rowsSize l, mapPlain (f := Container.cells) (fun _ => rfl) l⟩

structure Requirement where
  key : ByteArray
  op : Int
  values : List ByteArray
def Requirement.cells (x : Requirement) : List PV :=
  [.str x.key, .int .i64 x.op, .sl (strRows x.values)]
def Requirement.rows (l : List Requirement) : List (List PV) := l.map Requirement.cells
theorem Requirement.rowsLen (l : List Requirement) : (Requirement.rows l).length = l.length := by simp [Requirement.rows]
theorem Requirement.rowsGet {l : List Requirement} {i : Nat} {x : Requirement} (h : l[i]? = some x) : (Requirement.rows l)[i]? = some (Requirement.cells x) := Go.Pv.rowsGet h
theorem Requirement.rowsSnoc (l : List Requirement) (x : Requirement) : Requirement.rows (l ++ [x]) = Requirement.rows l ++ [Requirement.cells x] := by simp [Requirement.rows]
theorem Requirement.rowsTake (l : List Requirement) (n : Nat) : Requirement.rows (l.take n) = (Requirement.rows l).take n := by simp [Requirement.rows, List.map_take]
theorem Requirement.rowsDrop (l : List Requirement) (n : Nat) : Requirement.rows (l.drop n) = (Requirement.rows l).drop n := by simp [Requirement.rows, List.map_drop]
theorem Requirement.rowsSize (l : List Requirement) : ∀ r ∈ Requirement.rows l, r.length = 3 := mapSize (f := Requirement.cells) (fun _ => rfl) l
theorem Requirement.rowsView (l : List Requirement) (sz : Nat) (h : sz = 3) : ViewOK sz (Requirement.rows l).flatten (Requirement.rows l) := by subst h; exact ⟨rfl, Requirement.rowsSize l, mapPlain (f := Requirement.cells) (fun _ => rfl) l⟩

structure NodeTerm where
  required : Bool
  selector : List Requirement
  weight : Int
def NodeTerm.cells (x : NodeTerm) : List PV :=
  [.bool x.required, .sl (Requirement.rows x.selector), .int .i64 x.weight]
def NodeTerm.rows (l : List NodeTerm) : List (List PV) := l.map NodeTerm.cells
theorem NodeTerm.rowsLen (l : List NodeTerm) : (NodeTerm.rows l).length = l.length := by simp [NodeTerm.rows]
theorem NodeTerm.rowsGet {l : List NodeTerm} {i : Nat} {x : NodeTerm} (h : l[i]? = some x) : (NodeTerm.rows l)[i]? = some (NodeTerm.cells x) := Go.Pv.rowsGet h
theorem NodeTerm.rowsSnoc (l : List NodeTerm) (x : NodeTerm) : NodeTerm.rows (l ++ [x]) = NodeTerm.rows l ++ [NodeTerm.cells x] := by simp [NodeTerm.rows]
theorem NodeTerm.rowsTake (l : List NodeTerm) (n : Nat) : NodeTerm.rows (l.take n) = (NodeTerm.rows l).take n := by simp [NodeTerm.rows, List.map_take]
theorem NodeTerm.rowsDrop (l : List NodeTerm) (n : Nat) : NodeTerm.rows (l.drop n) = (NodeTerm.rows l).drop n := by simp [NodeTerm.rows, List.map_drop]
theorem NodeTerm.rowsSize (l : List NodeTerm) : ∀ r ∈ NodeTerm.rows l, r.length = 3 := mapSize (f := NodeTerm.cells) (fun _ => rfl) l
theorem NodeTerm.rowsView (l : List NodeTerm) (sz : Nat) (h : sz = 3) : ViewOK sz (NodeTerm.rows l).flatten (NodeTerm.rows l) := by subst h; exact ⟨rfl, NodeTerm.rowsSize l, mapPlain (f := NodeTerm.cells) (fun _ => rfl) l⟩

structure PodTerm where
  required : Bool
  anti : Bool
  selector : List Requirement
  topology : ByteArray
  weight : Int
def PodTerm.cells (x : PodTerm) : List PV :=
  [.bool x.required, .bool x.anti, .sl (Requirement.rows x.selector), .str x.topology, .int .i64 x.weight]
def PodTerm.rows (l : List PodTerm) : List (List PV) := l.map PodTerm.cells
theorem PodTerm.rowsLen (l : List PodTerm) : (PodTerm.rows l).length = l.length := by simp [PodTerm.rows]
theorem PodTerm.rowsGet {l : List PodTerm} {i : Nat} {x : PodTerm} (h : l[i]? = some x) : (PodTerm.rows l)[i]? = some (PodTerm.cells x) := Go.Pv.rowsGet h
theorem PodTerm.rowsSnoc (l : List PodTerm) (x : PodTerm) : PodTerm.rows (l ++ [x]) = PodTerm.rows l ++ [PodTerm.cells x] := by simp [PodTerm.rows]
theorem PodTerm.rowsTake (l : List PodTerm) (n : Nat) : PodTerm.rows (l.take n) = (PodTerm.rows l).take n := by simp [PodTerm.rows, List.map_take]
theorem PodTerm.rowsDrop (l : List PodTerm) (n : Nat) : PodTerm.rows (l.drop n) = (PodTerm.rows l).drop n := by simp [PodTerm.rows, List.map_drop]
theorem PodTerm.rowsSize (l : List PodTerm) : ∀ r ∈ PodTerm.rows l, r.length = 5 := mapSize (f := PodTerm.cells) (fun _ => rfl) l
theorem PodTerm.rowsView (l : List PodTerm) (sz : Nat) (h : sz = 5) : ViewOK sz (PodTerm.rows l).flatten (PodTerm.rows l) := by subst h; exact ⟨rfl, PodTerm.rowsSize l, mapPlain (f := PodTerm.cells) (fun _ => rfl) l⟩

structure SpreadRule where
  maxSkew : Int
  topology : ByteArray
  selector : List Requirement
  required : Bool
def SpreadRule.cells (x : SpreadRule) : List PV :=
  [.int .i64 x.maxSkew, .str x.topology, .sl (Requirement.rows x.selector), .bool x.required]
def SpreadRule.rows (l : List SpreadRule) : List (List PV) := l.map SpreadRule.cells
theorem SpreadRule.rowsLen (l : List SpreadRule) : (SpreadRule.rows l).length = l.length := by simp [SpreadRule.rows]
theorem SpreadRule.rowsGet {l : List SpreadRule} {i : Nat} {x : SpreadRule} (h : l[i]? = some x) : (SpreadRule.rows l)[i]? = some (SpreadRule.cells x) := Go.Pv.rowsGet h
theorem SpreadRule.rowsSnoc (l : List SpreadRule) (x : SpreadRule) : SpreadRule.rows (l ++ [x]) = SpreadRule.rows l ++ [SpreadRule.cells x] := by simp [SpreadRule.rows]
theorem SpreadRule.rowsTake (l : List SpreadRule) (n : Nat) : SpreadRule.rows (l.take n) = (SpreadRule.rows l).take n := by simp [SpreadRule.rows, List.map_take]
theorem SpreadRule.rowsDrop (l : List SpreadRule) (n : Nat) : SpreadRule.rows (l.drop n) = (SpreadRule.rows l).drop n := by simp [SpreadRule.rows, List.map_drop]
theorem SpreadRule.rowsSize (l : List SpreadRule) : ∀ r ∈ SpreadRule.rows l, r.length = 4 := mapSize (f := SpreadRule.cells) (fun _ => rfl) l
theorem SpreadRule.rowsView (l : List SpreadRule) (sz : Nat) (h : sz = 4) : ViewOK sz (SpreadRule.rows l).flatten (SpreadRule.rows l) := by subst h; exact ⟨rfl, SpreadRule.rowsSize l, mapPlain (f := SpreadRule.cells) (fun _ => rfl) l⟩

structure Toleration where
  key : ByteArray
  value : ByteArray
  exists_ : Bool
  effect : Int
  seconds : Int
def Toleration.cells (x : Toleration) : List PV :=
  [.str x.key, .str x.value, .bool x.exists_, .int .i64 x.effect, .int .i64 x.seconds]
def Toleration.rows (l : List Toleration) : List (List PV) := l.map Toleration.cells
theorem Toleration.rowsLen (l : List Toleration) : (Toleration.rows l).length = l.length := by simp [Toleration.rows]
theorem Toleration.rowsGet {l : List Toleration} {i : Nat} {x : Toleration} (h : l[i]? = some x) : (Toleration.rows l)[i]? = some (Toleration.cells x) := Go.Pv.rowsGet h
theorem Toleration.rowsSnoc (l : List Toleration) (x : Toleration) : Toleration.rows (l ++ [x]) = Toleration.rows l ++ [Toleration.cells x] := by simp [Toleration.rows]
theorem Toleration.rowsTake (l : List Toleration) (n : Nat) : Toleration.rows (l.take n) = (Toleration.rows l).take n := by simp [Toleration.rows, List.map_take]
theorem Toleration.rowsDrop (l : List Toleration) (n : Nat) : Toleration.rows (l.drop n) = (Toleration.rows l).drop n := by simp [Toleration.rows, List.map_drop]
theorem Toleration.rowsSize (l : List Toleration) : ∀ r ∈ Toleration.rows l, r.length = 5 := mapSize (f := Toleration.cells) (fun _ => rfl) l
theorem Toleration.rowsView (l : List Toleration) (sz : Nat) (h : sz = 5) : ViewOK sz (Toleration.rows l).flatten (Toleration.rows l) := by subst h; exact ⟨rfl, Toleration.rowsSize l, mapPlain (f := Toleration.cells) (fun _ => rfl) l⟩

structure PodSpec where
  node : ByteArray
  priority : Int
  restart : Int
  grace : Int
  containers : List Container
  nodeSelector : List Requirement
  nodeTerms : List NodeTerm
  podTerms : List PodTerm
  spread : List SpreadRule
  tolerations : List Toleration
def PodSpec.cells (x : PodSpec) : List PV :=
  [.str x.node, .int .i64 x.priority, .int .i64 x.restart, .int .i64 x.grace, .sl (Container.rows x.containers), .sl (Requirement.rows x.nodeSelector), .sl (NodeTerm.rows x.nodeTerms), .sl (PodTerm.rows x.podTerms), .sl (SpreadRule.rows x.spread), .sl (Toleration.rows x.tolerations)]
def PodSpec.rows (l : List PodSpec) : List (List PV) := l.map PodSpec.cells
theorem PodSpec.rowsLen (l : List PodSpec) : (PodSpec.rows l).length = l.length := by simp [PodSpec.rows]
theorem PodSpec.rowsGet {l : List PodSpec} {i : Nat} {x : PodSpec} (h : l[i]? = some x) : (PodSpec.rows l)[i]? = some (PodSpec.cells x) := Go.Pv.rowsGet h
theorem PodSpec.rowsSnoc (l : List PodSpec) (x : PodSpec) : PodSpec.rows (l ++ [x]) = PodSpec.rows l ++ [PodSpec.cells x] := by simp [PodSpec.rows]
theorem PodSpec.rowsTake (l : List PodSpec) (n : Nat) : PodSpec.rows (l.take n) = (PodSpec.rows l).take n := by simp [PodSpec.rows, List.map_take]
theorem PodSpec.rowsDrop (l : List PodSpec) (n : Nat) : PodSpec.rows (l.drop n) = (PodSpec.rows l).drop n := by simp [PodSpec.rows, List.map_drop]
theorem PodSpec.rowsSize (l : List PodSpec) : ∀ r ∈ PodSpec.rows l, r.length = 10 := mapSize (f := PodSpec.cells) (fun _ => rfl) l
theorem PodSpec.rowsView (l : List PodSpec) (sz : Nat) (h : sz = 10) : ViewOK sz (PodSpec.rows l).flatten (PodSpec.rows l) := by subst h; exact ⟨rfl, PodSpec.rowsSize l, mapPlain (f := PodSpec.cells) (fun _ => rfl) l⟩

/-- orchestrator/ orchestratorlaw02.lives -/
theorem t_law02_lives : Tells G (.call 12 [] []) (.ret (.bool true) []) := ⟨20, by kernel_rfl⟩

/-- orchestrator/ resource.clamp -/
def s_resource_clamp (p0 : Int) : Int :=
  (mn (mx p0 0) 1000000000000000)
def c_resource_clamp (p0 : Int) : En := .call 37 [.int .i64 p0] []
def a_resource_clamp (p0 : Int) : Rs := .ret (.int .i64 (s_resource_clamp p0)) []
theorem t_resource_clamp (p0 : Int) : Tells G (c_resource_clamp p0) (a_resource_clamp p0) := by
  unfold a_resource_clamp s_resource_clamp
  exact tells_V (fn := Ir.resource_clamp) rfl VOK.nil (hs := []) (as := []) Met.nil Told.nil (by kernel_rfl)

/-- orchestrator/ resource.Add$1 -/
def s_resource_Add_1 (p0 : Int) (p1 : Int) : Int :=
  (s_resource_clamp (w64 (p0 + p1)))
def c_resource_Add_1 (p0 : Int) (p1 : Int) : En := .call 36 [.int .i64 p0, .int .i64 p1] []
def a_resource_Add_1 (p0 : Int) (p1 : Int) : Rs := .ret (.int .i64 (s_resource_Add_1 p0 p1)) []
theorem t_resource_Add_1 (p0 : Int) (p1 : Int) : Tells G (c_resource_Add_1 p0 p1) (a_resource_Add_1 p0 p1) := by
  unfold a_resource_Add_1 s_resource_Add_1
  exact tells_V (fn := Ir.resource_Add_1) rfl VOK.nil (hs := []) (as := [⟨a_resource_clamp (w64 (p0 + p1)), []⟩]) Met.nil (Told.cons (t_resource_clamp (w64 (p0 + p1))) Told.nil) (by kernel_rfl)

/-- orchestrator/ resource.each -/
def s_resource_each_f36 (p0 : Resources) (p1 : Resources) : Resources :=
  (Resources.mk (s_resource_Add_1 (s_resource_clamp p0.cPU) (s_resource_clamp p1.cPU)) (s_resource_Add_1 (s_resource_clamp p0.memory) (s_resource_clamp p1.memory)) (s_resource_Add_1 (s_resource_clamp p0.disk) (s_resource_clamp p1.disk)))
def c_resource_each_f36 (p0 : Resources) (p1 : Resources) : En := .call 35 [.agg (Resources.cells p0), .agg (Resources.cells p1), .fn 36 [] []] []
def a_resource_each_f36 (p0 : Resources) (p1 : Resources) : Rs := .ret (.agg (Resources.cells (s_resource_each_f36 p0 p1))) []
theorem t_resource_each_f36 (p0 : Resources) (p1 : Resources) : Tells G (c_resource_each_f36 p0 p1) (a_resource_each_f36 p0 p1) := by
  unfold a_resource_each_f36 s_resource_each_f36
  exact tells_V (fn := Ir.resource_each) rfl VOK.nil (hs := []) (as := [⟨a_resource_clamp p0.cPU, []⟩, ⟨a_resource_clamp p1.cPU, []⟩, ⟨a_resource_Add_1 (s_resource_clamp p0.cPU) (s_resource_clamp p1.cPU), []⟩, ⟨a_resource_clamp p0.memory, []⟩, ⟨a_resource_clamp p1.memory, []⟩, ⟨a_resource_Add_1 (s_resource_clamp p0.memory) (s_resource_clamp p1.memory), []⟩, ⟨a_resource_clamp p0.disk, []⟩, ⟨a_resource_clamp p1.disk, []⟩, ⟨a_resource_Add_1 (s_resource_clamp p0.disk) (s_resource_clamp p1.disk), []⟩]) Met.nil (Told.cons (t_resource_clamp p0.cPU) (Told.cons (t_resource_clamp p1.cPU) (Told.cons (t_resource_Add_1 (s_resource_clamp p0.cPU) (s_resource_clamp p1.cPU)) (Told.cons (t_resource_clamp p0.memory) (Told.cons (t_resource_clamp p1.memory) (Told.cons (t_resource_Add_1 (s_resource_clamp p0.memory) (s_resource_clamp p1.memory)) (Told.cons (t_resource_clamp p0.disk) (Told.cons (t_resource_clamp p1.disk) (Told.cons (t_resource_Add_1 (s_resource_clamp p0.disk) (s_resource_clamp p1.disk)) Told.nil))))))))) (by kernel_rfl)

/-- orchestrator/ resource.Add -/
def s_resource_Add (p0 : Resources) (p1 : Resources) : Resources :=
  (s_resource_each_f36 p0 p1)
def c_resource_Add (p0 : Resources) (p1 : Resources) : En := .call 13 [.agg (Resources.cells p0), .agg (Resources.cells p1)] []
def a_resource_Add (p0 : Resources) (p1 : Resources) : Rs := .ret (.agg (Resources.cells (s_resource_Add p0 p1))) []
theorem t_resource_Add (p0 : Resources) (p1 : Resources) : Tells G (c_resource_Add p0 p1) (a_resource_Add p0 p1) := by
  unfold a_resource_Add s_resource_Add
  exact tells_V (fn := Ir.resource_Add) rfl VOK.nil (hs := []) (as := [⟨a_resource_each_f36 p0 p1, []⟩]) Met.nil (Told.cons (t_resource_each_f36 p0 p1) Told.nil) (by kernel_rfl)

/-- orchestrator/ orchestratorref02.clamp -/
def s_ref02_clamp (p0 : Int) : Int :=
  (mn 1000000000000000 (mx 0 p0))
def c_ref02_clamp (p0 : Int) : En := .call 38 [.int .i64 p0] []
def a_ref02_clamp (p0 : Int) : Rs := .ret (.int .i64 (s_ref02_clamp p0)) []
theorem t_ref02_clamp (p0 : Int) : Tells G (c_ref02_clamp p0) (a_ref02_clamp p0) := by
  unfold a_ref02_clamp s_ref02_clamp
  exact tells_V (fn := Ir.ref02_clamp) rfl VOK.nil (hs := []) (as := []) Met.nil Told.nil (by kernel_rfl)

/-- orchestrator/ orchestratorref02.Add -/
def s_ref02_Add (p0 : Resources) (p1 : Resources) : Resources :=
  (Resources.mk (s_ref02_clamp (w64 ((s_ref02_clamp p0.cPU) + (s_ref02_clamp p1.cPU)))) (s_ref02_clamp (w64 ((s_ref02_clamp p0.memory) + (s_ref02_clamp p1.memory)))) (s_ref02_clamp (w64 ((s_ref02_clamp p0.disk) + (s_ref02_clamp p1.disk)))))
def c_ref02_Add (p0 : Resources) (p1 : Resources) : En := .call 14 [.agg (Resources.cells p0), .agg (Resources.cells p1)] []
def a_ref02_Add (p0 : Resources) (p1 : Resources) : Rs := .ret (.agg (Resources.cells (s_ref02_Add p0 p1))) []
theorem t_ref02_Add (p0 : Resources) (p1 : Resources) : Tells G (c_ref02_Add p0 p1) (a_ref02_Add p0 p1) := by
  unfold a_ref02_Add s_ref02_Add
  exact tells_V (fn := Ir.ref02_Add) rfl VOK.nil (hs := []) (as := [⟨a_ref02_clamp p0.cPU, []⟩, ⟨a_ref02_clamp p1.cPU, []⟩, ⟨a_ref02_clamp (w64 ((s_ref02_clamp p0.cPU) + (s_ref02_clamp p1.cPU))), []⟩, ⟨a_ref02_clamp p0.memory, []⟩, ⟨a_ref02_clamp p1.memory, []⟩, ⟨a_ref02_clamp (w64 ((s_ref02_clamp p0.memory) + (s_ref02_clamp p1.memory))), []⟩, ⟨a_ref02_clamp p0.disk, []⟩, ⟨a_ref02_clamp p1.disk, []⟩, ⟨a_ref02_clamp (w64 ((s_ref02_clamp p0.disk) + (s_ref02_clamp p1.disk))), []⟩]) Met.nil (Told.cons (t_ref02_clamp p0.cPU) (Told.cons (t_ref02_clamp p1.cPU) (Told.cons (t_ref02_clamp (w64 ((s_ref02_clamp p0.cPU) + (s_ref02_clamp p1.cPU)))) (Told.cons (t_ref02_clamp p0.memory) (Told.cons (t_ref02_clamp p1.memory) (Told.cons (t_ref02_clamp (w64 ((s_ref02_clamp p0.memory) + (s_ref02_clamp p1.memory)))) (Told.cons (t_ref02_clamp p0.disk) (Told.cons (t_ref02_clamp p1.disk) (Told.cons (t_ref02_clamp (w64 ((s_ref02_clamp p0.disk) + (s_ref02_clamp p1.disk)))) Told.nil))))))))) (by kernel_rfl)

/-- orchestrator/ resource.Sub$1 -/
def s_resource_Sub_1 (p0 : Int) (p1 : Int) : Int :=
  (s_resource_clamp (w64 (p0 - p1)))
def c_resource_Sub_1 (p0 : Int) (p1 : Int) : En := .call 39 [.int .i64 p0, .int .i64 p1] []
def a_resource_Sub_1 (p0 : Int) (p1 : Int) : Rs := .ret (.int .i64 (s_resource_Sub_1 p0 p1)) []
theorem t_resource_Sub_1 (p0 : Int) (p1 : Int) : Tells G (c_resource_Sub_1 p0 p1) (a_resource_Sub_1 p0 p1) := by
  unfold a_resource_Sub_1 s_resource_Sub_1
  exact tells_V (fn := Ir.resource_Sub_1) rfl VOK.nil (hs := []) (as := [⟨a_resource_clamp (w64 (p0 - p1)), []⟩]) Met.nil (Told.cons (t_resource_clamp (w64 (p0 - p1))) Told.nil) (by kernel_rfl)

/-- orchestrator/ resource.each -/
def s_resource_each_f39 (p0 : Resources) (p1 : Resources) : Resources :=
  (Resources.mk (s_resource_Sub_1 (s_resource_clamp p0.cPU) (s_resource_clamp p1.cPU)) (s_resource_Sub_1 (s_resource_clamp p0.memory) (s_resource_clamp p1.memory)) (s_resource_Sub_1 (s_resource_clamp p0.disk) (s_resource_clamp p1.disk)))
def c_resource_each_f39 (p0 : Resources) (p1 : Resources) : En := .call 35 [.agg (Resources.cells p0), .agg (Resources.cells p1), .fn 39 [] []] []
def a_resource_each_f39 (p0 : Resources) (p1 : Resources) : Rs := .ret (.agg (Resources.cells (s_resource_each_f39 p0 p1))) []
theorem t_resource_each_f39 (p0 : Resources) (p1 : Resources) : Tells G (c_resource_each_f39 p0 p1) (a_resource_each_f39 p0 p1) := by
  unfold a_resource_each_f39 s_resource_each_f39
  exact tells_V (fn := Ir.resource_each) rfl VOK.nil (hs := []) (as := [⟨a_resource_clamp p0.cPU, []⟩, ⟨a_resource_clamp p1.cPU, []⟩, ⟨a_resource_Sub_1 (s_resource_clamp p0.cPU) (s_resource_clamp p1.cPU), []⟩, ⟨a_resource_clamp p0.memory, []⟩, ⟨a_resource_clamp p1.memory, []⟩, ⟨a_resource_Sub_1 (s_resource_clamp p0.memory) (s_resource_clamp p1.memory), []⟩, ⟨a_resource_clamp p0.disk, []⟩, ⟨a_resource_clamp p1.disk, []⟩, ⟨a_resource_Sub_1 (s_resource_clamp p0.disk) (s_resource_clamp p1.disk), []⟩]) Met.nil (Told.cons (t_resource_clamp p0.cPU) (Told.cons (t_resource_clamp p1.cPU) (Told.cons (t_resource_Sub_1 (s_resource_clamp p0.cPU) (s_resource_clamp p1.cPU)) (Told.cons (t_resource_clamp p0.memory) (Told.cons (t_resource_clamp p1.memory) (Told.cons (t_resource_Sub_1 (s_resource_clamp p0.memory) (s_resource_clamp p1.memory)) (Told.cons (t_resource_clamp p0.disk) (Told.cons (t_resource_clamp p1.disk) (Told.cons (t_resource_Sub_1 (s_resource_clamp p0.disk) (s_resource_clamp p1.disk)) Told.nil))))))))) (by kernel_rfl)

/-- orchestrator/ resource.Sub -/
def s_resource_Sub (p0 : Resources) (p1 : Resources) : Resources :=
  (s_resource_each_f39 p0 p1)
def c_resource_Sub (p0 : Resources) (p1 : Resources) : En := .call 15 [.agg (Resources.cells p0), .agg (Resources.cells p1)] []
def a_resource_Sub (p0 : Resources) (p1 : Resources) : Rs := .ret (.agg (Resources.cells (s_resource_Sub p0 p1))) []
theorem t_resource_Sub (p0 : Resources) (p1 : Resources) : Tells G (c_resource_Sub p0 p1) (a_resource_Sub p0 p1) := by
  unfold a_resource_Sub s_resource_Sub
  exact tells_V (fn := Ir.resource_Sub) rfl VOK.nil (hs := []) (as := [⟨a_resource_each_f39 p0 p1, []⟩]) Met.nil (Told.cons (t_resource_each_f39 p0 p1) Told.nil) (by kernel_rfl)

/-- orchestrator/ orchestratorref02.Sub -/
def s_ref02_Sub (p0 : Resources) (p1 : Resources) : Resources :=
  (Resources.mk (s_ref02_clamp (w64 ((s_ref02_clamp p0.cPU) - (s_ref02_clamp p1.cPU)))) (s_ref02_clamp (w64 ((s_ref02_clamp p0.memory) - (s_ref02_clamp p1.memory)))) (s_ref02_clamp (w64 ((s_ref02_clamp p0.disk) - (s_ref02_clamp p1.disk)))))
def c_ref02_Sub (p0 : Resources) (p1 : Resources) : En := .call 16 [.agg (Resources.cells p0), .agg (Resources.cells p1)] []
def a_ref02_Sub (p0 : Resources) (p1 : Resources) : Rs := .ret (.agg (Resources.cells (s_ref02_Sub p0 p1))) []
theorem t_ref02_Sub (p0 : Resources) (p1 : Resources) : Tells G (c_ref02_Sub p0 p1) (a_ref02_Sub p0 p1) := by
  unfold a_ref02_Sub s_ref02_Sub
  exact tells_V (fn := Ir.ref02_Sub) rfl VOK.nil (hs := []) (as := [⟨a_ref02_clamp p0.cPU, []⟩, ⟨a_ref02_clamp p1.cPU, []⟩, ⟨a_ref02_clamp (w64 ((s_ref02_clamp p0.cPU) - (s_ref02_clamp p1.cPU))), []⟩, ⟨a_ref02_clamp p0.memory, []⟩, ⟨a_ref02_clamp p1.memory, []⟩, ⟨a_ref02_clamp (w64 ((s_ref02_clamp p0.memory) - (s_ref02_clamp p1.memory))), []⟩, ⟨a_ref02_clamp p0.disk, []⟩, ⟨a_ref02_clamp p1.disk, []⟩, ⟨a_ref02_clamp (w64 ((s_ref02_clamp p0.disk) - (s_ref02_clamp p1.disk))), []⟩]) Met.nil (Told.cons (t_ref02_clamp p0.cPU) (Told.cons (t_ref02_clamp p1.cPU) (Told.cons (t_ref02_clamp (w64 ((s_ref02_clamp p0.cPU) - (s_ref02_clamp p1.cPU)))) (Told.cons (t_ref02_clamp p0.memory) (Told.cons (t_ref02_clamp p1.memory) (Told.cons (t_ref02_clamp (w64 ((s_ref02_clamp p0.memory) - (s_ref02_clamp p1.memory)))) (Told.cons (t_ref02_clamp p0.disk) (Told.cons (t_ref02_clamp p1.disk) (Told.cons (t_ref02_clamp (w64 ((s_ref02_clamp p0.disk) - (s_ref02_clamp p1.disk)))) Told.nil))))))))) (by kernel_rfl)

/-- orchestrator/ resource.Fits -/
def s_resource_Fits (p0 : Resources) (p1 : Resources) : Bool :=
  (((s_resource_Sub p0 p1).cPU == 0) && (((s_resource_Sub p0 p1).memory == 0) && (((s_resource_Sub p0 p1).disk == 0) && true)))
def c_resource_Fits (p0 : Resources) (p1 : Resources) : En := .call 17 [.agg (Resources.cells p0), .agg (Resources.cells p1)] []
def a_resource_Fits (p0 : Resources) (p1 : Resources) : Rs := .ret (.bool (s_resource_Fits p0 p1)) []
theorem t_resource_Fits (p0 : Resources) (p1 : Resources) : Tells G (c_resource_Fits p0 p1) (a_resource_Fits p0 p1) := by
  unfold a_resource_Fits s_resource_Fits
  exact tells_V (fn := Ir.resource_Fits) rfl VOK.nil (hs := []) (as := [⟨a_resource_Sub p0 p1, []⟩]) Met.nil (Told.cons (t_resource_Sub p0 p1) Told.nil) (by kernel_rfl)

/-- orchestrator/ orchestratorref02.Fits -/
def s_ref02_Fits (p0 : Resources) (p1 : Resources) : Bool :=
  bif (decide ((s_ref02_clamp p0.cPU) ≤ (s_ref02_clamp p1.cPU))) then
    bif (decide ((s_ref02_clamp p0.memory) ≤ (s_ref02_clamp p1.memory))) then
      (decide ((s_ref02_clamp p0.disk) ≤ (s_ref02_clamp p1.disk)))
    else
      false
  else
    false
def c_ref02_Fits (p0 : Resources) (p1 : Resources) : En := .call 18 [.agg (Resources.cells p0), .agg (Resources.cells p1)] []
def a_ref02_Fits (p0 : Resources) (p1 : Resources) : Rs := .ret (.bool (s_ref02_Fits p0 p1)) []
theorem t_ref02_Fits (p0 : Resources) (p1 : Resources) : Tells G (c_ref02_Fits p0 p1) (a_ref02_Fits p0 p1) := by
  unfold a_ref02_Fits s_ref02_Fits
  cases h0 : (decide ((s_ref02_clamp p0.cPU) ≤ (s_ref02_clamp p1.cPU))) with
  | true =>
    cases h1 : (decide ((s_ref02_clamp p0.memory) ≤ (s_ref02_clamp p1.memory))) with
    | true =>
      exact tells_V (fn := Ir.ref02_Fits) rfl VOK.nil (hs := [(9, (bE true, [])), (7, (bE true, []))]) (as := [⟨a_ref02_clamp p0.cPU, []⟩, ⟨a_ref02_clamp p1.cPU, []⟩, ⟨a_ref02_clamp p0.memory, []⟩, ⟨a_ref02_clamp p1.memory, []⟩, ⟨a_ref02_clamp p0.disk, []⟩, ⟨a_ref02_clamp p1.disk, []⟩]) (Met.cons (dec (decide ((s_ref02_clamp p0.cPU) ≤ (s_ref02_clamp p1.cPU))) true h0) (Met.cons (dec (decide ((s_ref02_clamp p0.memory) ≤ (s_ref02_clamp p1.memory))) true h1) Met.nil)) (Told.cons (t_ref02_clamp p0.cPU) (Told.cons (t_ref02_clamp p1.cPU) (Told.cons (t_ref02_clamp p0.memory) (Told.cons (t_ref02_clamp p1.memory) (Told.cons (t_ref02_clamp p0.disk) (Told.cons (t_ref02_clamp p1.disk) Told.nil)))))) (by kernel_rfl)
    | false =>
      exact tells_V (fn := Ir.ref02_Fits) rfl VOK.nil (hs := [(9, (bE true, [])), (7, (bE false, []))]) (as := [⟨a_ref02_clamp p0.cPU, []⟩, ⟨a_ref02_clamp p1.cPU, []⟩, ⟨a_ref02_clamp p0.memory, []⟩, ⟨a_ref02_clamp p1.memory, []⟩]) (Met.cons (dec (decide ((s_ref02_clamp p0.cPU) ≤ (s_ref02_clamp p1.cPU))) true h0) (Met.cons (dec (decide ((s_ref02_clamp p0.memory) ≤ (s_ref02_clamp p1.memory))) false h1) Met.nil)) (Told.cons (t_ref02_clamp p0.cPU) (Told.cons (t_ref02_clamp p1.cPU) (Told.cons (t_ref02_clamp p0.memory) (Told.cons (t_ref02_clamp p1.memory) Told.nil)))) (by kernel_rfl)
  | false =>
    exact tells_V (fn := Ir.ref02_Fits) rfl VOK.nil (hs := [(9, (bE false, []))]) (as := [⟨a_ref02_clamp p0.cPU, []⟩, ⟨a_ref02_clamp p1.cPU, []⟩]) (Met.cons (dec (decide ((s_ref02_clamp p0.cPU) ≤ (s_ref02_clamp p1.cPU))) false h0) Met.nil) (Told.cons (t_ref02_clamp p0.cPU) (Told.cons (t_ref02_clamp p1.cPU) Told.nil)) (by kernel_rfl)

/-- orchestrator/ orchestratorlaw02.ResourceSums -/
def s_law02_ResourceSums (p0 : Resources) (p1 : Resources) : Bool :=
  bif (((s_resource_Add p0 p1).cPU == (s_ref02_Add p0 p1).cPU) && (((s_resource_Add p0 p1).memory == (s_ref02_Add p0 p1).memory) && (((s_resource_Add p0 p1).disk == (s_ref02_Add p0 p1).disk) && true))) then
    bif (((s_resource_Sub p0 p1).cPU == (s_ref02_Sub p0 p1).cPU) && (((s_resource_Sub p0 p1).memory == (s_ref02_Sub p0 p1).memory) && (((s_resource_Sub p0 p1).disk == (s_ref02_Sub p0 p1).disk) && true))) then
      ((s_resource_Fits p0 p1) == (s_ref02_Fits p0 p1))
    else
      false
  else
    false
def c_law02_ResourceSums (p0 : Resources) (p1 : Resources) : En := .call 3 [.agg (Resources.cells p0), .agg (Resources.cells p1)] []
def a_law02_ResourceSums (p0 : Resources) (p1 : Resources) : Rs := .ret (.bool (s_law02_ResourceSums p0 p1)) []
theorem t_law02_ResourceSums (p0 : Resources) (p1 : Resources) : Tells G (c_law02_ResourceSums p0 p1) (a_law02_ResourceSums p0 p1) := by
  unfold a_law02_ResourceSums s_law02_ResourceSums
  cases h0 : (((s_resource_Add p0 p1).cPU == (s_ref02_Add p0 p1).cPU) && (((s_resource_Add p0 p1).memory == (s_ref02_Add p0 p1).memory) && (((s_resource_Add p0 p1).disk == (s_ref02_Add p0 p1).disk) && true))) with
  | true =>
    cases h1 : (((s_resource_Sub p0 p1).cPU == (s_ref02_Sub p0 p1).cPU) && (((s_resource_Sub p0 p1).memory == (s_ref02_Sub p0 p1).memory) && (((s_resource_Sub p0 p1).disk == (s_ref02_Sub p0 p1).disk) && true))) with
    | true =>
      exact tells_V (fn := Ir.law02_ResourceSums) rfl VOK.nil (hs := [(11, (bE true, [])), (8, (bE true, []))]) (as := [⟨.ret (.bool true) [], []⟩, ⟨a_resource_Add p0 p1, []⟩, ⟨a_ref02_Add p0 p1, []⟩, ⟨a_resource_Sub p0 p1, []⟩, ⟨a_ref02_Sub p0 p1, []⟩, ⟨a_resource_Fits p0 p1, []⟩, ⟨a_ref02_Fits p0 p1, []⟩]) (Met.cons (dec (((s_resource_Add p0 p1).cPU == (s_ref02_Add p0 p1).cPU) && (((s_resource_Add p0 p1).memory == (s_ref02_Add p0 p1).memory) && (((s_resource_Add p0 p1).disk == (s_ref02_Add p0 p1).disk) && true))) true h0) (Met.cons (dec (((s_resource_Sub p0 p1).cPU == (s_ref02_Sub p0 p1).cPU) && (((s_resource_Sub p0 p1).memory == (s_ref02_Sub p0 p1).memory) && (((s_resource_Sub p0 p1).disk == (s_ref02_Sub p0 p1).disk) && true))) true h1) Met.nil)) (Told.cons t_law02_lives (Told.cons (t_resource_Add p0 p1) (Told.cons (t_ref02_Add p0 p1) (Told.cons (t_resource_Sub p0 p1) (Told.cons (t_ref02_Sub p0 p1) (Told.cons (t_resource_Fits p0 p1) (Told.cons (t_ref02_Fits p0 p1) Told.nil))))))) (by kernel_rfl)
    | false =>
      exact tells_V (fn := Ir.law02_ResourceSums) rfl VOK.nil (hs := [(11, (bE true, [])), (8, (bE false, []))]) (as := [⟨.ret (.bool true) [], []⟩, ⟨a_resource_Add p0 p1, []⟩, ⟨a_ref02_Add p0 p1, []⟩, ⟨a_resource_Sub p0 p1, []⟩, ⟨a_ref02_Sub p0 p1, []⟩]) (Met.cons (dec (((s_resource_Add p0 p1).cPU == (s_ref02_Add p0 p1).cPU) && (((s_resource_Add p0 p1).memory == (s_ref02_Add p0 p1).memory) && (((s_resource_Add p0 p1).disk == (s_ref02_Add p0 p1).disk) && true))) true h0) (Met.cons (dec (((s_resource_Sub p0 p1).cPU == (s_ref02_Sub p0 p1).cPU) && (((s_resource_Sub p0 p1).memory == (s_ref02_Sub p0 p1).memory) && (((s_resource_Sub p0 p1).disk == (s_ref02_Sub p0 p1).disk) && true))) false h1) Met.nil)) (Told.cons t_law02_lives (Told.cons (t_resource_Add p0 p1) (Told.cons (t_ref02_Add p0 p1) (Told.cons (t_resource_Sub p0 p1) (Told.cons (t_ref02_Sub p0 p1) Told.nil))))) (by kernel_rfl)
  | false =>
    exact tells_V (fn := Ir.law02_ResourceSums) rfl VOK.nil (hs := [(11, (bE false, []))]) (as := [⟨.ret (.bool true) [], []⟩, ⟨a_resource_Add p0 p1, []⟩, ⟨a_ref02_Add p0 p1, []⟩]) (Met.cons (dec (((s_resource_Add p0 p1).cPU == (s_ref02_Add p0 p1).cPU) && (((s_resource_Add p0 p1).memory == (s_ref02_Add p0 p1).memory) && (((s_resource_Add p0 p1).disk == (s_ref02_Add p0 p1).disk) && true))) false h0) Met.nil) (Told.cons t_law02_lives (Told.cons (t_resource_Add p0 p1) (Told.cons (t_ref02_Add p0 p1) Told.nil))) (by kernel_rfl)

def Resources_ty : Ty := .st [.int .i64, .int .i64, .int .i64]
def Resources_ok (x : Resources) : Prop := okI64 x.cPU ∧ okI64 x.memory ∧ okI64 x.disk
theorem Resources_open {c : List PV} (h : Of Γ Resources_ty c) : ∃ x : Resources, c = x.cells ∧ Resources_ok x := by
  have g0 := h.st1
  obtain ⟨a0, b0, rfl, h0, g1⟩ := g0.uncons
  obtain ⟨x0, rfl, k0⟩ := h0.i64
  obtain ⟨a1, b1, rfl, h1, g2⟩ := g1.uncons
  obtain ⟨x1, rfl, k1⟩ := h1.i64
  obtain ⟨a2, b2, rfl, h2, g3⟩ := g2.uncons
  obtain ⟨x2, rfl, k2⟩ := h2.i64
  have e := g3.empty
  subst e
  exact ⟨⟨x0, x1, x2⟩, rfl, ⟨k0, k1, k2⟩⟩

def tysResourceSums : List Ty := [Resources_ty, Resources_ty]
theorem pureResourceSums (hp : ∀ (p0 : Resources) (p1 : Resources), Resources_ok p0 → Resources_ok p1 → s_law02_ResourceSums p0 p1 = true) : ∀ qs, Args Γ tysResourceSums qs → ∃ n, runs G n (.call 3 qs []) = some (.ret (.bool true) []) := by
  intro qs h
  cases qs with
  | nil => cases h
  | cons q0 qs =>
  obtain ⟨h0, h⟩ := h
  cases qs with
  | nil => cases h
  | cons q1 qs =>
  obtain ⟨h1, h⟩ := h
  cases qs with
  | cons _ _ => cases h
  | nil =>
  obtain ⟨c0, rfl, g0⟩ := h0.agg rfl
  obtain ⟨p0, rfl, k0⟩ := (Resources_open g0)
  obtain ⟨c1, rfl, g1⟩ := h1.agg rfl
  obtain ⟨p1, rfl, k1⟩ := (Resources_open g1)
  have e := hp p0 p1 k0 k1
  have t := t_law02_ResourceSums p0 p1
  unfold a_law02_ResourceSums at t
  rw [e] at t
  exact t

def HE_resource_Requests_b0 (p0 : PodSpec) (i0 : Nat) (v0_1 : Resources) : List PV :=
  [.un, .un, .bx 0 0, .bx 1 0, .un, .un, .un, .sl (Container.rows p0.containers), .int .i64 ((List.length p0.containers) : Int), .int .i64 (i0 : Int), .un, .un, .un, .un, .un, .un, .un, .un, .un]
def HO_resource_Requests_b0 (p0 : PodSpec) (i0 : Nat) (v0_1 : Resources) : List Ob :=
  [⟨3, 0, true, [.int .i64 0, .int .i64 0, .int .i64 0]⟩, ⟨3, 0, true, [.int .i64 v0_1.cPU, .int .i64 v0_1.memory, .int .i64 v0_1.disk]⟩]
def E_resource_Requests_b0 (p0 : PodSpec) (i0 : Nat) (v0_1 : Resources) : En := .loop 0 Ir.resource_Requests_b0_live Ir.resource_Requests_b0 (HE_resource_Requests_b0 p0 i0 v0_1) (HO_resource_Requests_b0 p0 i0 v0_1)
def S_resource_Requests_b0_0 (p0 : PodSpec) (q0 : Resources) (z : Nat → PV) (zo : Nat → List PV) : St :=
  ⟨[z 0, z 1, .bx 0 0, .bx 1 0, z 4, z 5, z 6, z 7, z 8, z 9, z 10, z 11, z 12, z 13, z 14, z 15, z 16, z 17, z 18], [(0, ⟨3, 0, true, [.int .i64 0, .int .i64 0, .int .i64 0]⟩), (1, ⟨3, 0, true, [.int .i64 q0.cPU, .int .i64 q0.memory, .int .i64 q0.disk]⟩)], 66⟩
def P_resource_Requests_b0 (p0 : PodSpec) (e : En) (q : Resources) : Prop := ∃ z zo, Tells G e (.st (.exit 0) (S_resource_Requests_b0_0 p0 q z zo))
theorem P_resource_Requests_b0_mono (p0 : PodSpec) {e e' : En} (h : ∀ r, Tells G e r → Tells G e' r) : ∀ q, P_resource_Requests_b0 p0 e q → P_resource_Requests_b0 p0 e' q
  | _, ⟨z, zo, hz⟩ => ⟨z, zo, h _ hz⟩
def l_resource_Requests_b0 (p0 : PodSpec) : List Container → Nat → Resources → Resources
  | [], i0, v0_1 =>
    v0_1
  | x0 :: r0, i0, v0_1 =>
    l_resource_Requests_b0 p0 r0 (i0 + 1) (s_resource_Add v0_1 x0.request)
def H_resource_Requests_b0 (p0 : PodSpec) : Prop := (List.length p0.containers ≤ 4611686018427387904) ∧ True
theorem x_resource_Requests_b0_0 (p0 : PodSpec) (H : H_resource_Requests_b0 p0) (i0 : Nat) (v0_1 : Resources) (hc0 : (decide ((i0 : Int) < ((List.length p0.containers) : Int))) = false) : P_resource_Requests_b0 p0 (E_resource_Requests_b0 p0 i0 v0_1) v0_1 := by
  exact ⟨(envF [.un, .un, .un, .un, .un, .un, .un, .sl (Container.rows p0.containers), .int .i64 ((List.length p0.containers) : Int), .int .i64 (i0 : Int), .bool false, .un, .un, .un, .un, .un, .un, .un, .un]), (zoF []), tells_outV (vw := []) VOK.nil (x := ((.exit 0), S_resource_Requests_b0_0 p0 v0_1 (envF [.un, .un, .un, .un, .un, .un, .un, .sl (Container.rows p0.containers), .int .i64 ((List.length p0.containers) : Int), .int .i64 (i0 : Int), .bool false, .un, .un, .un, .un, .un, .un, .un, .un]) (zoF []))) (hs := [(0, (bE false, []))]) (as := []) (Met.cons (dec (decide ((i0 : Int) < ((List.length p0.containers) : Int))) false hc0) Met.nil) Told.nil (by kernel_rfl)⟩
theorem n_resource_Requests_b0_1 (p0 : PodSpec) (H : H_resource_Requests_b0 p0) (x0 : Container) (i0 : Nat) (v0_1 : Resources) (hx0 : p0.containers[i0]? = some x0) (hi0 : i0 < List.length p0.containers) (hc0 : (decide ((i0 : Int) < ((List.length p0.containers) : Int))) = true) {r : Rs} (hr : Tells G (E_resource_Requests_b0 p0 (i0 + 1) (s_resource_Add v0_1 x0.request)) r) : Tells G (E_resource_Requests_b0 p0 i0 v0_1) r := by
  have hB := H.1
  exact tells_nextV (vw := []) VOK.nil (y := (HE_resource_Requests_b0 p0 (i0 + 1) (s_resource_Add v0_1 x0.request), HO_resource_Requests_b0 p0 (i0 + 1) (s_resource_Add v0_1 x0.request))) (hs := [(0, (bE true, [])), (0, (vE (.rf (Container.cells x0)), [])), (8, (vE (.int .i64 ((i0 + 1 : Nat) : Int)), []))]) (as := [⟨a_resource_Add v0_1 x0.request, []⟩]) (Met.cons (dec (decide ((i0 : Int) < ((List.length p0.containers) : Int))) true hc0) (Met.cons (ix_ok 11 (Container.rows p0.containers) i0 _ (Container.rowsGet hx0) rfl) (Met.cons (inc_ok i0 (by omega)) Met.nil))) (Told.cons (t_resource_Add v0_1 x0.request) Told.nil) (by kernel_rfl) hr
theorem lt_resource_Requests_b0 (p0 : PodSpec) (H : H_resource_Requests_b0 p0) : ∀ (r0 : List Container) (i0 : Nat) (v0_1 : Resources), List.drop i0 p0.containers = r0 → P_resource_Requests_b0 p0 (E_resource_Requests_b0 p0 i0 v0_1) (l_resource_Requests_b0 p0 r0 i0 v0_1)
  | [], i0, v0_1, hd => by
    have hc0 : (decide ((i0 : Int) < ((List.length p0.containers) : Int))) = false := by have := drop_end hd; simp; omega
    rw [l_resource_Requests_b0]
    exact x_resource_Requests_b0_0 p0 H i0 v0_1 hc0
  | x0 :: r0, i0, v0_1, hd => by
    obtain ⟨hx0, hi0, hd'⟩ := drop_get hd
    have hc0 : (decide ((i0 : Int) < ((List.length p0.containers) : Int))) = true := by simp; omega
    rw [l_resource_Requests_b0]
    exact P_resource_Requests_b0_mono p0 (fun r hr => n_resource_Requests_b0_1 p0 H x0 i0 v0_1 hx0 hi0 hc0 hr) _ (lt_resource_Requests_b0 p0 H r0 (i0 + 1) (s_resource_Add v0_1 x0.request) hd')
/-- orchestrator/ resource.Requests -/
def s_resource_Requests (p0 : PodSpec) : Resources :=
  (l_resource_Requests_b0 p0 p0.containers 0 (Resources.mk 0 0 0))
def c_resource_Requests (p0 : PodSpec) : En := .call 19 [.agg (PodSpec.cells p0)] []
def a_resource_Requests (p0 : PodSpec) : Rs := .ret (.agg (Resources.cells (s_resource_Requests p0))) []
def H_resource_Requests (p0 : PodSpec) : Prop := (H_resource_Requests_b0 p0) ∧ True
theorem t_resource_Requests (p0 : PodSpec) (H : H_resource_Requests p0) : Tells G (c_resource_Requests p0) (a_resource_Requests p0) := by
  unfold a_resource_Requests s_resource_Requests
  have hl0 := lt_resource_Requests_b0 p0 H.1 p0.containers 0 (Resources.mk 0 0 0) (by simp)
  obtain ⟨z0, zo0, hl0⟩ := hl0
  exact tells_V (fn := Ir.resource_Requests) rfl VOK.nil (hs := [(5, (vE (.int .i64 ((List.length p0.containers) : Int)), []))]) (as := [⟨.st (.exit 0) (S_resource_Requests_b0_0 p0 (l_resource_Requests_b0 p0 p0.containers 0 (Resources.mk 0 0 0)) z0 zo0), []⟩]) (Met.cons (len_ok (Container.rows p0.containers) (List.length p0.containers) (Container.rowsLen p0.containers)) Met.nil) (Told.cons hl0 Told.nil) (by kernel_rfl)

def HE_ref02_Requests_b0 (p0 : PodSpec) (i0 : Nat) (v0_1 : Resources) : List PV :=
  [.un, .bx 0 0, .bx 1 0, .bx 2 0, .int .i64 (i0 : Int), .un, .un, .un, .un, .un, .un, .un, .un, .un, .un, .un, .un, .un, .un, .un, .un, .un]
def HO_ref02_Requests_b0 (p0 : PodSpec) (i0 : Nat) (v0_1 : Resources) : List Ob :=
  [⟨10, 0, true, [.str p0.node, .int .i64 p0.priority, .int .i64 p0.restart, .int .i64 p0.grace, .sl (Container.rows p0.containers), .sl (Requirement.rows p0.nodeSelector), .sl (NodeTerm.rows p0.nodeTerms), .sl (PodTerm.rows p0.podTerms), .sl (SpreadRule.rows p0.spread), .sl (Toleration.rows p0.tolerations)]⟩, ⟨3, 0, true, [.int .i64 0, .int .i64 0, .int .i64 0]⟩, ⟨3, 0, true, [.int .i64 v0_1.cPU, .int .i64 v0_1.memory, .int .i64 v0_1.disk]⟩]
def E_ref02_Requests_b0 (p0 : PodSpec) (i0 : Nat) (v0_1 : Resources) : En := .loop 0 Ir.ref02_Requests_b0_live Ir.ref02_Requests_b0 (HE_ref02_Requests_b0 p0 i0 v0_1) (HO_ref02_Requests_b0 p0 i0 v0_1)
def S_ref02_Requests_b0_0 (p0 : PodSpec) (q0 : Resources) (z : Nat → PV) (zo : Nat → List PV) : St :=
  ⟨[z 0, z 1, .bx 1 0, .bx 2 0, z 4, z 5, z 6, z 7, z 8, z 9, z 10, z 11, z 12, z 13, z 14, z 15, z 16, z 17, z 18, z 19, z 20, z 21], [(0, ⟨10, 0, true, [.str p0.node, .int .i64 p0.priority, .int .i64 p0.restart, .int .i64 p0.grace, .sl (Container.rows p0.containers), .sl (Requirement.rows p0.nodeSelector), .sl (NodeTerm.rows p0.nodeTerms), .sl (PodTerm.rows p0.podTerms), .sl (SpreadRule.rows p0.spread), .sl (Toleration.rows p0.tolerations)]⟩), (1, ⟨3, 0, true, [.int .i64 0, .int .i64 0, .int .i64 0]⟩), (2, ⟨3, 0, true, [.int .i64 q0.cPU, .int .i64 q0.memory, .int .i64 q0.disk]⟩)], 323⟩
def P_ref02_Requests_b0 (p0 : PodSpec) (e : En) (q : Resources) : Prop := ∃ z zo, Tells G e (.st (.exit 0) (S_ref02_Requests_b0_0 p0 q z zo))
theorem P_ref02_Requests_b0_mono (p0 : PodSpec) {e e' : En} (h : ∀ r, Tells G e r → Tells G e' r) : ∀ q, P_ref02_Requests_b0 p0 e q → P_ref02_Requests_b0 p0 e' q
  | _, ⟨z, zo, hz⟩ => ⟨z, zo, h _ hz⟩
def l_ref02_Requests_b0 (p0 : PodSpec) : List Container → Nat → Resources → Resources
  | [], i0, v0_1 =>
    v0_1
  | x0 :: r0, i0, v0_1 =>
    l_ref02_Requests_b0 p0 r0 (i0 + 1) (s_ref02_Add v0_1 x0.request)
def H_ref02_Requests_b0 (p0 : PodSpec) : Prop := (List.length p0.containers ≤ 4611686018427387904) ∧ True
theorem x_ref02_Requests_b0_0 (p0 : PodSpec) (H : H_ref02_Requests_b0 p0) (i0 : Nat) (v0_1 : Resources) (hc0 : (decide ((i0 : Int) < ((List.length p0.containers) : Int))) = false) : P_ref02_Requests_b0 p0 (E_ref02_Requests_b0 p0 i0 v0_1) v0_1 := by
  exact ⟨(envF [.un, .bx 0 0, .un, .un, .int .i64 (i0 : Int), .un, .int .i64 (i0 : Int), .bx 0 4, .sl (Container.rows p0.containers), .int .i64 ((List.length p0.containers) : Int), .bool false, .un, .un, .un, .un, .un, .un, .un, .un, .un, .un, .un]), (zoF []), tells_outV (vw := []) VOK.nil (x := ((.exit 0), S_ref02_Requests_b0_0 p0 v0_1 (envF [.un, .bx 0 0, .un, .un, .int .i64 (i0 : Int), .un, .int .i64 (i0 : Int), .bx 0 4, .sl (Container.rows p0.containers), .int .i64 ((List.length p0.containers) : Int), .bool false, .un, .un, .un, .un, .un, .un, .un, .un, .un, .un, .un]) (zoF []))) (hs := [(3, (vE (.int .i64 ((List.length p0.containers) : Int)), [])), (0, (bE false, []))]) (as := []) (Met.cons (len_ok (Container.rows p0.containers) (List.length p0.containers) (Container.rowsLen p0.containers)) (Met.cons (dec (decide ((i0 : Int) < ((List.length p0.containers) : Int))) false hc0) Met.nil)) Told.nil (by kernel_rfl)⟩
theorem n_ref02_Requests_b0_1 (p0 : PodSpec) (H : H_ref02_Requests_b0 p0) (x0 : Container) (i0 : Nat) (v0_1 : Resources) (hx0 : p0.containers[i0]? = some x0) (hi0 : i0 < List.length p0.containers) (hc0 : (decide ((i0 : Int) < ((List.length p0.containers) : Int))) = true) {r : Rs} (hr : Tells G (E_ref02_Requests_b0 p0 (i0 + 1) (s_ref02_Add v0_1 x0.request)) r) : Tells G (E_ref02_Requests_b0 p0 i0 v0_1) r := by
  have hB := H.1
  exact tells_nextV (vw := []) VOK.nil (y := (HE_ref02_Requests_b0 p0 (i0 + 1) (s_ref02_Add v0_1 x0.request), HO_ref02_Requests_b0 p0 (i0 + 1) (s_ref02_Add v0_1 x0.request))) (hs := [(3, (vE (.int .i64 ((List.length p0.containers) : Int)), [])), (0, (bE true, [])), (4, (vE (.rf (Container.cells x0)), [])), (5, (vE (.int .i64 ((i0 + 1 : Nat) : Int)), []))]) (as := [⟨a_ref02_Add v0_1 x0.request, []⟩]) (Met.cons (len_ok (Container.rows p0.containers) (List.length p0.containers) (Container.rowsLen p0.containers)) (Met.cons (dec (decide ((i0 : Int) < ((List.length p0.containers) : Int))) true hc0) (Met.cons (ix_ok 11 (Container.rows p0.containers) i0 _ (Container.rowsGet hx0) rfl) (Met.cons (inc_ok i0 (by omega)) Met.nil)))) (Told.cons (t_ref02_Add v0_1 x0.request) Told.nil) (by kernel_rfl) hr
theorem lt_ref02_Requests_b0 (p0 : PodSpec) (H : H_ref02_Requests_b0 p0) : ∀ (r0 : List Container) (i0 : Nat) (v0_1 : Resources), List.drop i0 p0.containers = r0 → P_ref02_Requests_b0 p0 (E_ref02_Requests_b0 p0 i0 v0_1) (l_ref02_Requests_b0 p0 r0 i0 v0_1)
  | [], i0, v0_1, hd => by
    have hc0 : (decide ((i0 : Int) < ((List.length p0.containers) : Int))) = false := by have := drop_end hd; simp; omega
    rw [l_ref02_Requests_b0]
    exact x_ref02_Requests_b0_0 p0 H i0 v0_1 hc0
  | x0 :: r0, i0, v0_1, hd => by
    obtain ⟨hx0, hi0, hd'⟩ := drop_get hd
    have hc0 : (decide ((i0 : Int) < ((List.length p0.containers) : Int))) = true := by simp; omega
    rw [l_ref02_Requests_b0]
    exact P_ref02_Requests_b0_mono p0 (fun r hr => n_ref02_Requests_b0_1 p0 H x0 i0 v0_1 hx0 hi0 hc0 hr) _ (lt_ref02_Requests_b0 p0 H r0 (i0 + 1) (s_ref02_Add v0_1 x0.request) hd')
/-- orchestrator/ orchestratorref02.Requests -/
def s_ref02_Requests (p0 : PodSpec) : Resources :=
  (l_ref02_Requests_b0 p0 p0.containers 0 (Resources.mk 0 0 0))
def c_ref02_Requests (p0 : PodSpec) : En := .call 20 [.agg (PodSpec.cells p0)] []
def a_ref02_Requests (p0 : PodSpec) : Rs := .ret (.agg (Resources.cells (s_ref02_Requests p0))) []
def H_ref02_Requests (p0 : PodSpec) : Prop := (H_ref02_Requests_b0 p0) ∧ True
theorem t_ref02_Requests (p0 : PodSpec) (H : H_ref02_Requests p0) : Tells G (c_ref02_Requests p0) (a_ref02_Requests p0) := by
  unfold a_ref02_Requests s_ref02_Requests
  have hl0 := lt_ref02_Requests_b0 p0 H.1 p0.containers 0 (Resources.mk 0 0 0) (by simp)
  obtain ⟨z0, zo0, hl0⟩ := hl0
  exact tells_V (fn := Ir.ref02_Requests) rfl VOK.nil (hs := []) (as := [⟨.st (.exit 0) (S_ref02_Requests_b0_0 p0 (l_ref02_Requests_b0 p0 p0.containers 0 (Resources.mk 0 0 0)) z0 zo0), []⟩]) Met.nil (Told.cons hl0 Told.nil) (by kernel_rfl)

def HE_resource_Limits_b0 (p0 : PodSpec) (i0 : Nat) (v0_1 : Resources) : List PV :=
  [.un, .un, .bx 0 0, .bx 1 0, .un, .un, .un, .sl (Container.rows p0.containers), .int .i64 ((List.length p0.containers) : Int), .int .i64 (i0 : Int), .un, .un, .un, .un, .un, .un, .un, .un, .un]
def HO_resource_Limits_b0 (p0 : PodSpec) (i0 : Nat) (v0_1 : Resources) : List Ob :=
  [⟨3, 0, true, [.int .i64 0, .int .i64 0, .int .i64 0]⟩, ⟨3, 0, true, [.int .i64 v0_1.cPU, .int .i64 v0_1.memory, .int .i64 v0_1.disk]⟩]
def E_resource_Limits_b0 (p0 : PodSpec) (i0 : Nat) (v0_1 : Resources) : En := .loop 0 Ir.resource_Limits_b0_live Ir.resource_Limits_b0 (HE_resource_Limits_b0 p0 i0 v0_1) (HO_resource_Limits_b0 p0 i0 v0_1)
def S_resource_Limits_b0_0 (p0 : PodSpec) (q0 : Resources) (z : Nat → PV) (zo : Nat → List PV) : St :=
  ⟨[z 0, z 1, .bx 0 0, .bx 1 0, z 4, z 5, z 6, z 7, z 8, z 9, z 10, z 11, z 12, z 13, z 14, z 15, z 16, z 17, z 18], [(0, ⟨3, 0, true, [.int .i64 0, .int .i64 0, .int .i64 0]⟩), (1, ⟨3, 0, true, [.int .i64 q0.cPU, .int .i64 q0.memory, .int .i64 q0.disk]⟩)], 66⟩
def P_resource_Limits_b0 (p0 : PodSpec) (e : En) (q : Resources) : Prop := ∃ z zo, Tells G e (.st (.exit 0) (S_resource_Limits_b0_0 p0 q z zo))
theorem P_resource_Limits_b0_mono (p0 : PodSpec) {e e' : En} (h : ∀ r, Tells G e r → Tells G e' r) : ∀ q, P_resource_Limits_b0 p0 e q → P_resource_Limits_b0 p0 e' q
  | _, ⟨z, zo, hz⟩ => ⟨z, zo, h _ hz⟩
def l_resource_Limits_b0 (p0 : PodSpec) : List Container → Nat → Resources → Resources
  | [], i0, v0_1 =>
    v0_1
  | x0 :: r0, i0, v0_1 =>
    l_resource_Limits_b0 p0 r0 (i0 + 1) (s_resource_Add v0_1 x0.limit)
def H_resource_Limits_b0 (p0 : PodSpec) : Prop := (List.length p0.containers ≤ 4611686018427387904) ∧ True
theorem x_resource_Limits_b0_0 (p0 : PodSpec) (H : H_resource_Limits_b0 p0) (i0 : Nat) (v0_1 : Resources) (hc0 : (decide ((i0 : Int) < ((List.length p0.containers) : Int))) = false) : P_resource_Limits_b0 p0 (E_resource_Limits_b0 p0 i0 v0_1) v0_1 := by
  exact ⟨(envF [.un, .un, .un, .un, .un, .un, .un, .sl (Container.rows p0.containers), .int .i64 ((List.length p0.containers) : Int), .int .i64 (i0 : Int), .bool false, .un, .un, .un, .un, .un, .un, .un, .un]), (zoF []), tells_outV (vw := []) VOK.nil (x := ((.exit 0), S_resource_Limits_b0_0 p0 v0_1 (envF [.un, .un, .un, .un, .un, .un, .un, .sl (Container.rows p0.containers), .int .i64 ((List.length p0.containers) : Int), .int .i64 (i0 : Int), .bool false, .un, .un, .un, .un, .un, .un, .un, .un]) (zoF []))) (hs := [(0, (bE false, []))]) (as := []) (Met.cons (dec (decide ((i0 : Int) < ((List.length p0.containers) : Int))) false hc0) Met.nil) Told.nil (by kernel_rfl)⟩
theorem n_resource_Limits_b0_1 (p0 : PodSpec) (H : H_resource_Limits_b0 p0) (x0 : Container) (i0 : Nat) (v0_1 : Resources) (hx0 : p0.containers[i0]? = some x0) (hi0 : i0 < List.length p0.containers) (hc0 : (decide ((i0 : Int) < ((List.length p0.containers) : Int))) = true) {r : Rs} (hr : Tells G (E_resource_Limits_b0 p0 (i0 + 1) (s_resource_Add v0_1 x0.limit)) r) : Tells G (E_resource_Limits_b0 p0 i0 v0_1) r := by
  have hB := H.1
  exact tells_nextV (vw := []) VOK.nil (y := (HE_resource_Limits_b0 p0 (i0 + 1) (s_resource_Add v0_1 x0.limit), HO_resource_Limits_b0 p0 (i0 + 1) (s_resource_Add v0_1 x0.limit))) (hs := [(0, (bE true, [])), (0, (vE (.rf (Container.cells x0)), [])), (8, (vE (.int .i64 ((i0 + 1 : Nat) : Int)), []))]) (as := [⟨a_resource_Add v0_1 x0.limit, []⟩]) (Met.cons (dec (decide ((i0 : Int) < ((List.length p0.containers) : Int))) true hc0) (Met.cons (ix_ok 11 (Container.rows p0.containers) i0 _ (Container.rowsGet hx0) rfl) (Met.cons (inc_ok i0 (by omega)) Met.nil))) (Told.cons (t_resource_Add v0_1 x0.limit) Told.nil) (by kernel_rfl) hr
theorem lt_resource_Limits_b0 (p0 : PodSpec) (H : H_resource_Limits_b0 p0) : ∀ (r0 : List Container) (i0 : Nat) (v0_1 : Resources), List.drop i0 p0.containers = r0 → P_resource_Limits_b0 p0 (E_resource_Limits_b0 p0 i0 v0_1) (l_resource_Limits_b0 p0 r0 i0 v0_1)
  | [], i0, v0_1, hd => by
    have hc0 : (decide ((i0 : Int) < ((List.length p0.containers) : Int))) = false := by have := drop_end hd; simp; omega
    rw [l_resource_Limits_b0]
    exact x_resource_Limits_b0_0 p0 H i0 v0_1 hc0
  | x0 :: r0, i0, v0_1, hd => by
    obtain ⟨hx0, hi0, hd'⟩ := drop_get hd
    have hc0 : (decide ((i0 : Int) < ((List.length p0.containers) : Int))) = true := by simp; omega
    rw [l_resource_Limits_b0]
    exact P_resource_Limits_b0_mono p0 (fun r hr => n_resource_Limits_b0_1 p0 H x0 i0 v0_1 hx0 hi0 hc0 hr) _ (lt_resource_Limits_b0 p0 H r0 (i0 + 1) (s_resource_Add v0_1 x0.limit) hd')
/-- orchestrator/ resource.Limits -/
def s_resource_Limits (p0 : PodSpec) : Resources :=
  (l_resource_Limits_b0 p0 p0.containers 0 (Resources.mk 0 0 0))
def c_resource_Limits (p0 : PodSpec) : En := .call 21 [.agg (PodSpec.cells p0)] []
def a_resource_Limits (p0 : PodSpec) : Rs := .ret (.agg (Resources.cells (s_resource_Limits p0))) []
def H_resource_Limits (p0 : PodSpec) : Prop := (H_resource_Limits_b0 p0) ∧ True
theorem t_resource_Limits (p0 : PodSpec) (H : H_resource_Limits p0) : Tells G (c_resource_Limits p0) (a_resource_Limits p0) := by
  unfold a_resource_Limits s_resource_Limits
  have hl0 := lt_resource_Limits_b0 p0 H.1 p0.containers 0 (Resources.mk 0 0 0) (by simp)
  obtain ⟨z0, zo0, hl0⟩ := hl0
  exact tells_V (fn := Ir.resource_Limits) rfl VOK.nil (hs := [(5, (vE (.int .i64 ((List.length p0.containers) : Int)), []))]) (as := [⟨.st (.exit 0) (S_resource_Limits_b0_0 p0 (l_resource_Limits_b0 p0 p0.containers 0 (Resources.mk 0 0 0)) z0 zo0), []⟩]) (Met.cons (len_ok (Container.rows p0.containers) (List.length p0.containers) (Container.rowsLen p0.containers)) Met.nil) (Told.cons hl0 Told.nil) (by kernel_rfl)

def HE_ref02_Limits_b0 (p0 : PodSpec) (i0 : Nat) (v0_1 : Resources) : List PV :=
  [.un, .bx 0 0, .bx 1 0, .bx 2 0, .int .i64 (i0 : Int), .un, .un, .un, .un, .un, .un, .un, .un, .un, .un, .un, .un, .un, .un, .un, .un, .un]
def HO_ref02_Limits_b0 (p0 : PodSpec) (i0 : Nat) (v0_1 : Resources) : List Ob :=
  [⟨10, 0, true, [.str p0.node, .int .i64 p0.priority, .int .i64 p0.restart, .int .i64 p0.grace, .sl (Container.rows p0.containers), .sl (Requirement.rows p0.nodeSelector), .sl (NodeTerm.rows p0.nodeTerms), .sl (PodTerm.rows p0.podTerms), .sl (SpreadRule.rows p0.spread), .sl (Toleration.rows p0.tolerations)]⟩, ⟨3, 0, true, [.int .i64 0, .int .i64 0, .int .i64 0]⟩, ⟨3, 0, true, [.int .i64 v0_1.cPU, .int .i64 v0_1.memory, .int .i64 v0_1.disk]⟩]
def E_ref02_Limits_b0 (p0 : PodSpec) (i0 : Nat) (v0_1 : Resources) : En := .loop 0 Ir.ref02_Limits_b0_live Ir.ref02_Limits_b0 (HE_ref02_Limits_b0 p0 i0 v0_1) (HO_ref02_Limits_b0 p0 i0 v0_1)
def S_ref02_Limits_b0_0 (p0 : PodSpec) (q0 : Resources) (z : Nat → PV) (zo : Nat → List PV) : St :=
  ⟨[z 0, z 1, .bx 1 0, .bx 2 0, z 4, z 5, z 6, z 7, z 8, z 9, z 10, z 11, z 12, z 13, z 14, z 15, z 16, z 17, z 18, z 19, z 20, z 21], [(0, ⟨10, 0, true, [.str p0.node, .int .i64 p0.priority, .int .i64 p0.restart, .int .i64 p0.grace, .sl (Container.rows p0.containers), .sl (Requirement.rows p0.nodeSelector), .sl (NodeTerm.rows p0.nodeTerms), .sl (PodTerm.rows p0.podTerms), .sl (SpreadRule.rows p0.spread), .sl (Toleration.rows p0.tolerations)]⟩), (1, ⟨3, 0, true, [.int .i64 0, .int .i64 0, .int .i64 0]⟩), (2, ⟨3, 0, true, [.int .i64 q0.cPU, .int .i64 q0.memory, .int .i64 q0.disk]⟩)], 323⟩
def P_ref02_Limits_b0 (p0 : PodSpec) (e : En) (q : Resources) : Prop := ∃ z zo, Tells G e (.st (.exit 0) (S_ref02_Limits_b0_0 p0 q z zo))
theorem P_ref02_Limits_b0_mono (p0 : PodSpec) {e e' : En} (h : ∀ r, Tells G e r → Tells G e' r) : ∀ q, P_ref02_Limits_b0 p0 e q → P_ref02_Limits_b0 p0 e' q
  | _, ⟨z, zo, hz⟩ => ⟨z, zo, h _ hz⟩
def l_ref02_Limits_b0 (p0 : PodSpec) : List Container → Nat → Resources → Resources
  | [], i0, v0_1 =>
    v0_1
  | x0 :: r0, i0, v0_1 =>
    l_ref02_Limits_b0 p0 r0 (i0 + 1) (s_ref02_Add v0_1 x0.limit)
def H_ref02_Limits_b0 (p0 : PodSpec) : Prop := (List.length p0.containers ≤ 4611686018427387904) ∧ True
theorem x_ref02_Limits_b0_0 (p0 : PodSpec) (H : H_ref02_Limits_b0 p0) (i0 : Nat) (v0_1 : Resources) (hc0 : (decide ((i0 : Int) < ((List.length p0.containers) : Int))) = false) : P_ref02_Limits_b0 p0 (E_ref02_Limits_b0 p0 i0 v0_1) v0_1 := by
  exact ⟨(envF [.un, .bx 0 0, .un, .un, .int .i64 (i0 : Int), .un, .int .i64 (i0 : Int), .bx 0 4, .sl (Container.rows p0.containers), .int .i64 ((List.length p0.containers) : Int), .bool false, .un, .un, .un, .un, .un, .un, .un, .un, .un, .un, .un]), (zoF []), tells_outV (vw := []) VOK.nil (x := ((.exit 0), S_ref02_Limits_b0_0 p0 v0_1 (envF [.un, .bx 0 0, .un, .un, .int .i64 (i0 : Int), .un, .int .i64 (i0 : Int), .bx 0 4, .sl (Container.rows p0.containers), .int .i64 ((List.length p0.containers) : Int), .bool false, .un, .un, .un, .un, .un, .un, .un, .un, .un, .un, .un]) (zoF []))) (hs := [(3, (vE (.int .i64 ((List.length p0.containers) : Int)), [])), (0, (bE false, []))]) (as := []) (Met.cons (len_ok (Container.rows p0.containers) (List.length p0.containers) (Container.rowsLen p0.containers)) (Met.cons (dec (decide ((i0 : Int) < ((List.length p0.containers) : Int))) false hc0) Met.nil)) Told.nil (by kernel_rfl)⟩
theorem n_ref02_Limits_b0_1 (p0 : PodSpec) (H : H_ref02_Limits_b0 p0) (x0 : Container) (i0 : Nat) (v0_1 : Resources) (hx0 : p0.containers[i0]? = some x0) (hi0 : i0 < List.length p0.containers) (hc0 : (decide ((i0 : Int) < ((List.length p0.containers) : Int))) = true) {r : Rs} (hr : Tells G (E_ref02_Limits_b0 p0 (i0 + 1) (s_ref02_Add v0_1 x0.limit)) r) : Tells G (E_ref02_Limits_b0 p0 i0 v0_1) r := by
  have hB := H.1
  exact tells_nextV (vw := []) VOK.nil (y := (HE_ref02_Limits_b0 p0 (i0 + 1) (s_ref02_Add v0_1 x0.limit), HO_ref02_Limits_b0 p0 (i0 + 1) (s_ref02_Add v0_1 x0.limit))) (hs := [(3, (vE (.int .i64 ((List.length p0.containers) : Int)), [])), (0, (bE true, [])), (4, (vE (.rf (Container.cells x0)), [])), (5, (vE (.int .i64 ((i0 + 1 : Nat) : Int)), []))]) (as := [⟨a_ref02_Add v0_1 x0.limit, []⟩]) (Met.cons (len_ok (Container.rows p0.containers) (List.length p0.containers) (Container.rowsLen p0.containers)) (Met.cons (dec (decide ((i0 : Int) < ((List.length p0.containers) : Int))) true hc0) (Met.cons (ix_ok 11 (Container.rows p0.containers) i0 _ (Container.rowsGet hx0) rfl) (Met.cons (inc_ok i0 (by omega)) Met.nil)))) (Told.cons (t_ref02_Add v0_1 x0.limit) Told.nil) (by kernel_rfl) hr
theorem lt_ref02_Limits_b0 (p0 : PodSpec) (H : H_ref02_Limits_b0 p0) : ∀ (r0 : List Container) (i0 : Nat) (v0_1 : Resources), List.drop i0 p0.containers = r0 → P_ref02_Limits_b0 p0 (E_ref02_Limits_b0 p0 i0 v0_1) (l_ref02_Limits_b0 p0 r0 i0 v0_1)
  | [], i0, v0_1, hd => by
    have hc0 : (decide ((i0 : Int) < ((List.length p0.containers) : Int))) = false := by have := drop_end hd; simp; omega
    rw [l_ref02_Limits_b0]
    exact x_ref02_Limits_b0_0 p0 H i0 v0_1 hc0
  | x0 :: r0, i0, v0_1, hd => by
    obtain ⟨hx0, hi0, hd'⟩ := drop_get hd
    have hc0 : (decide ((i0 : Int) < ((List.length p0.containers) : Int))) = true := by simp; omega
    rw [l_ref02_Limits_b0]
    exact P_ref02_Limits_b0_mono p0 (fun r hr => n_ref02_Limits_b0_1 p0 H x0 i0 v0_1 hx0 hi0 hc0 hr) _ (lt_ref02_Limits_b0 p0 H r0 (i0 + 1) (s_ref02_Add v0_1 x0.limit) hd')
/-- orchestrator/ orchestratorref02.Limits -/
def s_ref02_Limits (p0 : PodSpec) : Resources :=
  (l_ref02_Limits_b0 p0 p0.containers 0 (Resources.mk 0 0 0))
def c_ref02_Limits (p0 : PodSpec) : En := .call 22 [.agg (PodSpec.cells p0)] []
def a_ref02_Limits (p0 : PodSpec) : Rs := .ret (.agg (Resources.cells (s_ref02_Limits p0))) []
def H_ref02_Limits (p0 : PodSpec) : Prop := (H_ref02_Limits_b0 p0) ∧ True
theorem t_ref02_Limits (p0 : PodSpec) (H : H_ref02_Limits p0) : Tells G (c_ref02_Limits p0) (a_ref02_Limits p0) := by
  unfold a_ref02_Limits s_ref02_Limits
  have hl0 := lt_ref02_Limits_b0 p0 H.1 p0.containers 0 (Resources.mk 0 0 0) (by simp)
  obtain ⟨z0, zo0, hl0⟩ := hl0
  exact tells_V (fn := Ir.ref02_Limits) rfl VOK.nil (hs := []) (as := [⟨.st (.exit 0) (S_ref02_Limits_b0_0 p0 (l_ref02_Limits_b0 p0 p0.containers 0 (Resources.mk 0 0 0)) z0 zo0), []⟩]) Met.nil (Told.cons hl0 Told.nil) (by kernel_rfl)

/-- orchestrator/ orchestratorlaw02.ResourcePods -/
def s_law02_ResourcePods (p0 : PodSpec) (p1 : Int) : Bool :=
  bif (((s_resource_Requests p0).cPU == (s_ref02_Requests p0).cPU) && (((s_resource_Requests p0).memory == (s_ref02_Requests p0).memory) && (((s_resource_Requests p0).disk == (s_ref02_Requests p0).disk) && true))) then
    bif (((s_resource_Limits p0).cPU == (s_ref02_Limits p0).cPU) && (((s_resource_Limits p0).memory == (s_ref02_Limits p0).memory) && (((s_resource_Limits p0).disk == (s_ref02_Limits p0).disk) && true))) then
      bif (decide (p1 < 0)) then
        true
      else
        bif (decide (((List.length p0.containers) : Int) < p1)) then
          true
        else
          bif (((s_resource_Add (s_resource_Requests (PodSpec.mk (⟨#[]⟩ : ByteArray) 0 0 0 (List.take (Int.toNat p1) p0.containers) [] [] [] [] [])) (s_resource_Requests (PodSpec.mk (⟨#[]⟩ : ByteArray) 0 0 0 (List.drop (Int.toNat p1) p0.containers) [] [] [] [] []))).cPU == (s_resource_Requests p0).cPU) && (((s_resource_Add (s_resource_Requests (PodSpec.mk (⟨#[]⟩ : ByteArray) 0 0 0 (List.take (Int.toNat p1) p0.containers) [] [] [] [] [])) (s_resource_Requests (PodSpec.mk (⟨#[]⟩ : ByteArray) 0 0 0 (List.drop (Int.toNat p1) p0.containers) [] [] [] [] []))).memory == (s_resource_Requests p0).memory) && (((s_resource_Add (s_resource_Requests (PodSpec.mk (⟨#[]⟩ : ByteArray) 0 0 0 (List.take (Int.toNat p1) p0.containers) [] [] [] [] [])) (s_resource_Requests (PodSpec.mk (⟨#[]⟩ : ByteArray) 0 0 0 (List.drop (Int.toNat p1) p0.containers) [] [] [] [] []))).disk == (s_resource_Requests p0).disk) && true))) then
            (((s_resource_Add (s_resource_Limits (PodSpec.mk (⟨#[]⟩ : ByteArray) 0 0 0 (List.drop (Int.toNat p1) p0.containers) [] [] [] [] [])) (s_resource_Limits (PodSpec.mk (⟨#[]⟩ : ByteArray) 0 0 0 (List.take (Int.toNat p1) p0.containers) [] [] [] [] []))).cPU == (s_resource_Limits p0).cPU) && (((s_resource_Add (s_resource_Limits (PodSpec.mk (⟨#[]⟩ : ByteArray) 0 0 0 (List.drop (Int.toNat p1) p0.containers) [] [] [] [] [])) (s_resource_Limits (PodSpec.mk (⟨#[]⟩ : ByteArray) 0 0 0 (List.take (Int.toNat p1) p0.containers) [] [] [] [] []))).memory == (s_resource_Limits p0).memory) && (((s_resource_Add (s_resource_Limits (PodSpec.mk (⟨#[]⟩ : ByteArray) 0 0 0 (List.drop (Int.toNat p1) p0.containers) [] [] [] [] [])) (s_resource_Limits (PodSpec.mk (⟨#[]⟩ : ByteArray) 0 0 0 (List.take (Int.toNat p1) p0.containers) [] [] [] [] []))).disk == (s_resource_Limits p0).disk) && true)))
          else
            false
    else
      false
  else
    false
def c_law02_ResourcePods (p0 : PodSpec) (p1 : Int) : En := .call 4 [.agg (PodSpec.cells p0), .int .i64 p1] []
def a_law02_ResourcePods (p0 : PodSpec) (p1 : Int) : Rs := .ret (.bool (s_law02_ResourcePods p0 p1)) []
def H_law02_ResourcePods (p0 : PodSpec) (p1 : Int) : Prop := (H_resource_Requests p0) ∧ (H_ref02_Requests p0) ∧ (H_resource_Limits p0) ∧ (H_ref02_Limits p0) ∧ (H_resource_Requests (PodSpec.mk (⟨#[]⟩ : ByteArray) 0 0 0 (List.take (Int.toNat p1) p0.containers) [] [] [] [] [])) ∧ (H_resource_Requests (PodSpec.mk (⟨#[]⟩ : ByteArray) 0 0 0 (List.drop (Int.toNat p1) p0.containers) [] [] [] [] [])) ∧ (H_resource_Limits (PodSpec.mk (⟨#[]⟩ : ByteArray) 0 0 0 (List.drop (Int.toNat p1) p0.containers) [] [] [] [] [])) ∧ (H_resource_Limits (PodSpec.mk (⟨#[]⟩ : ByteArray) 0 0 0 (List.take (Int.toNat p1) p0.containers) [] [] [] [] [])) ∧ True
theorem t_law02_ResourcePods (p0 : PodSpec) (p1 : Int) (H : H_law02_ResourcePods p0 p1) : Tells G (c_law02_ResourcePods p0 p1) (a_law02_ResourcePods p0 p1) := by
  unfold a_law02_ResourcePods s_law02_ResourcePods
  cases h0 : (((s_resource_Requests p0).cPU == (s_ref02_Requests p0).cPU) && (((s_resource_Requests p0).memory == (s_ref02_Requests p0).memory) && (((s_resource_Requests p0).disk == (s_ref02_Requests p0).disk) && true))) with
  | true =>
    cases h1 : (((s_resource_Limits p0).cPU == (s_ref02_Limits p0).cPU) && (((s_resource_Limits p0).memory == (s_ref02_Limits p0).memory) && (((s_resource_Limits p0).disk == (s_ref02_Limits p0).disk) && true))) with
    | true =>
      cases h2 : (decide (p1 < 0)) with
      | true =>
        exact tells_V (fn := Ir.law02_ResourcePods) rfl VOK.nil (hs := [(6, (bE false, [])), (5, (bE false, [])), (2, (bE true, []))]) (as := [⟨a_resource_Requests p0, []⟩, ⟨a_ref02_Requests p0, []⟩, ⟨a_resource_Limits p0, []⟩, ⟨a_ref02_Limits p0, []⟩, ⟨.ret (.bool true) [], []⟩]) (Met.cons (dec (!(((s_resource_Requests p0).cPU == (s_ref02_Requests p0).cPU) && (((s_resource_Requests p0).memory == (s_ref02_Requests p0).memory) && (((s_resource_Requests p0).disk == (s_ref02_Requests p0).disk) && true)))) false (by rw [h0]; rfl)) (Met.cons (dec (!(((s_resource_Limits p0).cPU == (s_ref02_Limits p0).cPU) && (((s_resource_Limits p0).memory == (s_ref02_Limits p0).memory) && (((s_resource_Limits p0).disk == (s_ref02_Limits p0).disk) && true)))) false (by rw [h1]; rfl)) (Met.cons (dec (decide (p1 < 0)) true h2) Met.nil))) (Told.cons (t_resource_Requests p0 H.1) (Told.cons (t_ref02_Requests p0 H.2.1) (Told.cons (t_resource_Limits p0 H.2.2.1) (Told.cons (t_ref02_Limits p0 H.2.2.2.1) (Told.cons t_law02_lives Told.nil))))) (by kernel_rfl)
      | false =>
        cases h3 : (decide (((List.length p0.containers) : Int) < p1)) with
        | true =>
          exact tells_V (fn := Ir.law02_ResourcePods) rfl VOK.nil (hs := [(6, (bE false, [])), (5, (bE false, [])), (2, (bE false, [])), (4, (vE (.int .i64 ((List.length p0.containers) : Int)), [])), (0, (bE true, []))]) (as := [⟨a_resource_Requests p0, []⟩, ⟨a_ref02_Requests p0, []⟩, ⟨a_resource_Limits p0, []⟩, ⟨a_ref02_Limits p0, []⟩, ⟨.ret (.bool true) [], []⟩]) (Met.cons (dec (!(((s_resource_Requests p0).cPU == (s_ref02_Requests p0).cPU) && (((s_resource_Requests p0).memory == (s_ref02_Requests p0).memory) && (((s_resource_Requests p0).disk == (s_ref02_Requests p0).disk) && true)))) false (by rw [h0]; rfl)) (Met.cons (dec (!(((s_resource_Limits p0).cPU == (s_ref02_Limits p0).cPU) && (((s_resource_Limits p0).memory == (s_ref02_Limits p0).memory) && (((s_resource_Limits p0).disk == (s_ref02_Limits p0).disk) && true)))) false (by rw [h1]; rfl)) (Met.cons (dec (decide (p1 < 0)) false h2) (Met.cons (len_ok (Container.rows p0.containers) (List.length p0.containers) (Container.rowsLen p0.containers)) (Met.cons (dec (decide (((List.length p0.containers) : Int) < p1)) true h3) Met.nil))))) (Told.cons (t_resource_Requests p0 H.1) (Told.cons (t_ref02_Requests p0 H.2.1) (Told.cons (t_resource_Limits p0 H.2.2.1) (Told.cons (t_ref02_Limits p0 H.2.2.2.1) (Told.cons t_law02_lives Told.nil))))) (by kernel_rfl)
        | false =>
          cases h4 : (((s_resource_Add (s_resource_Requests (PodSpec.mk (⟨#[]⟩ : ByteArray) 0 0 0 (List.take (Int.toNat p1) p0.containers) [] [] [] [] [])) (s_resource_Requests (PodSpec.mk (⟨#[]⟩ : ByteArray) 0 0 0 (List.drop (Int.toNat p1) p0.containers) [] [] [] [] []))).cPU == (s_resource_Requests p0).cPU) && (((s_resource_Add (s_resource_Requests (PodSpec.mk (⟨#[]⟩ : ByteArray) 0 0 0 (List.take (Int.toNat p1) p0.containers) [] [] [] [] [])) (s_resource_Requests (PodSpec.mk (⟨#[]⟩ : ByteArray) 0 0 0 (List.drop (Int.toNat p1) p0.containers) [] [] [] [] []))).memory == (s_resource_Requests p0).memory) && (((s_resource_Add (s_resource_Requests (PodSpec.mk (⟨#[]⟩ : ByteArray) 0 0 0 (List.take (Int.toNat p1) p0.containers) [] [] [] [] [])) (s_resource_Requests (PodSpec.mk (⟨#[]⟩ : ByteArray) 0 0 0 (List.drop (Int.toNat p1) p0.containers) [] [] [] [] []))).disk == (s_resource_Requests p0).disk) && true))) with
          | true =>
            exact tells_V (fn := Ir.law02_ResourcePods) rfl VOK.nil (hs := [(6, (bE false, [])), (5, (bE false, [])), (2, (bE false, [])), (4, (vE (.int .i64 ((List.length p0.containers) : Int)), [])), (0, (bE false, [])), (4, (vE (.sl (Container.rows (List.take (Int.toNat p1) p0.containers))), [])), (4, (vE (.sl (Container.rows (List.drop (Int.toNat p1) p0.containers))), [])), (14, (bE true, []))]) (as := [⟨a_resource_Requests p0, []⟩, ⟨a_ref02_Requests p0, []⟩, ⟨a_resource_Limits p0, []⟩, ⟨a_ref02_Limits p0, []⟩, ⟨.ret (.bool true) [], []⟩, ⟨a_resource_Requests (PodSpec.mk (⟨#[]⟩ : ByteArray) 0 0 0 (List.take (Int.toNat p1) p0.containers) [] [] [] [] []), []⟩, ⟨a_resource_Requests (PodSpec.mk (⟨#[]⟩ : ByteArray) 0 0 0 (List.drop (Int.toNat p1) p0.containers) [] [] [] [] []), []⟩, ⟨a_resource_Add (s_resource_Requests (PodSpec.mk (⟨#[]⟩ : ByteArray) 0 0 0 (List.take (Int.toNat p1) p0.containers) [] [] [] [] [])) (s_resource_Requests (PodSpec.mk (⟨#[]⟩ : ByteArray) 0 0 0 (List.drop (Int.toNat p1) p0.containers) [] [] [] [] [])), []⟩, ⟨a_resource_Requests p0, []⟩, ⟨a_resource_Limits (PodSpec.mk (⟨#[]⟩ : ByteArray) 0 0 0 (List.drop (Int.toNat p1) p0.containers) [] [] [] [] []), []⟩, ⟨a_resource_Limits (PodSpec.mk (⟨#[]⟩ : ByteArray) 0 0 0 (List.take (Int.toNat p1) p0.containers) [] [] [] [] []), []⟩, ⟨a_resource_Add (s_resource_Limits (PodSpec.mk (⟨#[]⟩ : ByteArray) 0 0 0 (List.drop (Int.toNat p1) p0.containers) [] [] [] [] [])) (s_resource_Limits (PodSpec.mk (⟨#[]⟩ : ByteArray) 0 0 0 (List.take (Int.toNat p1) p0.containers) [] [] [] [] [])), []⟩, ⟨a_resource_Limits p0, []⟩]) (Met.cons (dec (!(((s_resource_Requests p0).cPU == (s_ref02_Requests p0).cPU) && (((s_resource_Requests p0).memory == (s_ref02_Requests p0).memory) && (((s_resource_Requests p0).disk == (s_ref02_Requests p0).disk) && true)))) false (by rw [h0]; rfl)) (Met.cons (dec (!(((s_resource_Limits p0).cPU == (s_ref02_Limits p0).cPU) && (((s_resource_Limits p0).memory == (s_ref02_Limits p0).memory) && (((s_resource_Limits p0).disk == (s_ref02_Limits p0).disk) && true)))) false (by rw [h1]; rfl)) (Met.cons (dec (decide (p1 < 0)) false h2) (Met.cons (len_ok (Container.rows p0.containers) (List.length p0.containers) (Container.rowsLen p0.containers)) (Met.cons (dec (decide (((List.length p0.containers) : Int) < p1)) false h3) (Met.cons (take_ok 11 (Container.rows p0.containers) _ p1 (Container.rowsSize p0.containers) (by have e2 := of_decide_eq_false h2; have e3 := of_decide_eq_false h3; omega) (by rw [Container.rowsLen]; exact (by have e2 := of_decide_eq_false h2; have e3 := of_decide_eq_false h3; omega)) (Container.rowsTake p0.containers (Int.toNat p1))) (Met.cons (drop_ok 11 (Container.rows p0.containers) _ p1 (Container.rowsSize p0.containers) (by have e2 := of_decide_eq_false h2; have e3 := of_decide_eq_false h3; omega) (by rw [Container.rowsLen]; exact (by have e2 := of_decide_eq_false h2; have e3 := of_decide_eq_false h3; omega)) (Container.rowsDrop p0.containers (Int.toNat p1))) (Met.cons (dec (((s_resource_Add (s_resource_Requests (PodSpec.mk (⟨#[]⟩ : ByteArray) 0 0 0 (List.take (Int.toNat p1) p0.containers) [] [] [] [] [])) (s_resource_Requests (PodSpec.mk (⟨#[]⟩ : ByteArray) 0 0 0 (List.drop (Int.toNat p1) p0.containers) [] [] [] [] []))).cPU == (s_resource_Requests p0).cPU) && (((s_resource_Add (s_resource_Requests (PodSpec.mk (⟨#[]⟩ : ByteArray) 0 0 0 (List.take (Int.toNat p1) p0.containers) [] [] [] [] [])) (s_resource_Requests (PodSpec.mk (⟨#[]⟩ : ByteArray) 0 0 0 (List.drop (Int.toNat p1) p0.containers) [] [] [] [] []))).memory == (s_resource_Requests p0).memory) && (((s_resource_Add (s_resource_Requests (PodSpec.mk (⟨#[]⟩ : ByteArray) 0 0 0 (List.take (Int.toNat p1) p0.containers) [] [] [] [] [])) (s_resource_Requests (PodSpec.mk (⟨#[]⟩ : ByteArray) 0 0 0 (List.drop (Int.toNat p1) p0.containers) [] [] [] [] []))).disk == (s_resource_Requests p0).disk) && true))) true h4) Met.nil)))))))) (Told.cons (t_resource_Requests p0 H.1) (Told.cons (t_ref02_Requests p0 H.2.1) (Told.cons (t_resource_Limits p0 H.2.2.1) (Told.cons (t_ref02_Limits p0 H.2.2.2.1) (Told.cons t_law02_lives (Told.cons (t_resource_Requests (PodSpec.mk (⟨#[]⟩ : ByteArray) 0 0 0 (List.take (Int.toNat p1) p0.containers) [] [] [] [] []) H.2.2.2.2.1) (Told.cons (t_resource_Requests (PodSpec.mk (⟨#[]⟩ : ByteArray) 0 0 0 (List.drop (Int.toNat p1) p0.containers) [] [] [] [] []) H.2.2.2.2.2.1) (Told.cons (t_resource_Add (s_resource_Requests (PodSpec.mk (⟨#[]⟩ : ByteArray) 0 0 0 (List.take (Int.toNat p1) p0.containers) [] [] [] [] [])) (s_resource_Requests (PodSpec.mk (⟨#[]⟩ : ByteArray) 0 0 0 (List.drop (Int.toNat p1) p0.containers) [] [] [] [] []))) (Told.cons (t_resource_Requests p0 H.1) (Told.cons (t_resource_Limits (PodSpec.mk (⟨#[]⟩ : ByteArray) 0 0 0 (List.drop (Int.toNat p1) p0.containers) [] [] [] [] []) H.2.2.2.2.2.2.1) (Told.cons (t_resource_Limits (PodSpec.mk (⟨#[]⟩ : ByteArray) 0 0 0 (List.take (Int.toNat p1) p0.containers) [] [] [] [] []) H.2.2.2.2.2.2.2.1) (Told.cons (t_resource_Add (s_resource_Limits (PodSpec.mk (⟨#[]⟩ : ByteArray) 0 0 0 (List.drop (Int.toNat p1) p0.containers) [] [] [] [] [])) (s_resource_Limits (PodSpec.mk (⟨#[]⟩ : ByteArray) 0 0 0 (List.take (Int.toNat p1) p0.containers) [] [] [] [] []))) (Told.cons (t_resource_Limits p0 H.2.2.1) Told.nil))))))))))))) (by kernel_rfl)
          | false =>
            exact tells_V (fn := Ir.law02_ResourcePods) rfl VOK.nil (hs := [(6, (bE false, [])), (5, (bE false, [])), (2, (bE false, [])), (4, (vE (.int .i64 ((List.length p0.containers) : Int)), [])), (0, (bE false, [])), (4, (vE (.sl (Container.rows (List.take (Int.toNat p1) p0.containers))), [])), (4, (vE (.sl (Container.rows (List.drop (Int.toNat p1) p0.containers))), [])), (14, (bE false, []))]) (as := [⟨a_resource_Requests p0, []⟩, ⟨a_ref02_Requests p0, []⟩, ⟨a_resource_Limits p0, []⟩, ⟨a_ref02_Limits p0, []⟩, ⟨.ret (.bool true) [], []⟩, ⟨a_resource_Requests (PodSpec.mk (⟨#[]⟩ : ByteArray) 0 0 0 (List.take (Int.toNat p1) p0.containers) [] [] [] [] []), []⟩, ⟨a_resource_Requests (PodSpec.mk (⟨#[]⟩ : ByteArray) 0 0 0 (List.drop (Int.toNat p1) p0.containers) [] [] [] [] []), []⟩, ⟨a_resource_Add (s_resource_Requests (PodSpec.mk (⟨#[]⟩ : ByteArray) 0 0 0 (List.take (Int.toNat p1) p0.containers) [] [] [] [] [])) (s_resource_Requests (PodSpec.mk (⟨#[]⟩ : ByteArray) 0 0 0 (List.drop (Int.toNat p1) p0.containers) [] [] [] [] [])), []⟩, ⟨a_resource_Requests p0, []⟩]) (Met.cons (dec (!(((s_resource_Requests p0).cPU == (s_ref02_Requests p0).cPU) && (((s_resource_Requests p0).memory == (s_ref02_Requests p0).memory) && (((s_resource_Requests p0).disk == (s_ref02_Requests p0).disk) && true)))) false (by rw [h0]; rfl)) (Met.cons (dec (!(((s_resource_Limits p0).cPU == (s_ref02_Limits p0).cPU) && (((s_resource_Limits p0).memory == (s_ref02_Limits p0).memory) && (((s_resource_Limits p0).disk == (s_ref02_Limits p0).disk) && true)))) false (by rw [h1]; rfl)) (Met.cons (dec (decide (p1 < 0)) false h2) (Met.cons (len_ok (Container.rows p0.containers) (List.length p0.containers) (Container.rowsLen p0.containers)) (Met.cons (dec (decide (((List.length p0.containers) : Int) < p1)) false h3) (Met.cons (take_ok 11 (Container.rows p0.containers) _ p1 (Container.rowsSize p0.containers) (by have e2 := of_decide_eq_false h2; have e3 := of_decide_eq_false h3; omega) (by rw [Container.rowsLen]; exact (by have e2 := of_decide_eq_false h2; have e3 := of_decide_eq_false h3; omega)) (Container.rowsTake p0.containers (Int.toNat p1))) (Met.cons (drop_ok 11 (Container.rows p0.containers) _ p1 (Container.rowsSize p0.containers) (by have e2 := of_decide_eq_false h2; have e3 := of_decide_eq_false h3; omega) (by rw [Container.rowsLen]; exact (by have e2 := of_decide_eq_false h2; have e3 := of_decide_eq_false h3; omega)) (Container.rowsDrop p0.containers (Int.toNat p1))) (Met.cons (dec (((s_resource_Add (s_resource_Requests (PodSpec.mk (⟨#[]⟩ : ByteArray) 0 0 0 (List.take (Int.toNat p1) p0.containers) [] [] [] [] [])) (s_resource_Requests (PodSpec.mk (⟨#[]⟩ : ByteArray) 0 0 0 (List.drop (Int.toNat p1) p0.containers) [] [] [] [] []))).cPU == (s_resource_Requests p0).cPU) && (((s_resource_Add (s_resource_Requests (PodSpec.mk (⟨#[]⟩ : ByteArray) 0 0 0 (List.take (Int.toNat p1) p0.containers) [] [] [] [] [])) (s_resource_Requests (PodSpec.mk (⟨#[]⟩ : ByteArray) 0 0 0 (List.drop (Int.toNat p1) p0.containers) [] [] [] [] []))).memory == (s_resource_Requests p0).memory) && (((s_resource_Add (s_resource_Requests (PodSpec.mk (⟨#[]⟩ : ByteArray) 0 0 0 (List.take (Int.toNat p1) p0.containers) [] [] [] [] [])) (s_resource_Requests (PodSpec.mk (⟨#[]⟩ : ByteArray) 0 0 0 (List.drop (Int.toNat p1) p0.containers) [] [] [] [] []))).disk == (s_resource_Requests p0).disk) && true))) false h4) Met.nil)))))))) (Told.cons (t_resource_Requests p0 H.1) (Told.cons (t_ref02_Requests p0 H.2.1) (Told.cons (t_resource_Limits p0 H.2.2.1) (Told.cons (t_ref02_Limits p0 H.2.2.2.1) (Told.cons t_law02_lives (Told.cons (t_resource_Requests (PodSpec.mk (⟨#[]⟩ : ByteArray) 0 0 0 (List.take (Int.toNat p1) p0.containers) [] [] [] [] []) H.2.2.2.2.1) (Told.cons (t_resource_Requests (PodSpec.mk (⟨#[]⟩ : ByteArray) 0 0 0 (List.drop (Int.toNat p1) p0.containers) [] [] [] [] []) H.2.2.2.2.2.1) (Told.cons (t_resource_Add (s_resource_Requests (PodSpec.mk (⟨#[]⟩ : ByteArray) 0 0 0 (List.take (Int.toNat p1) p0.containers) [] [] [] [] [])) (s_resource_Requests (PodSpec.mk (⟨#[]⟩ : ByteArray) 0 0 0 (List.drop (Int.toNat p1) p0.containers) [] [] [] [] []))) (Told.cons (t_resource_Requests p0 H.1) Told.nil))))))))) (by kernel_rfl)
    | false =>
      exact tells_V (fn := Ir.law02_ResourcePods) rfl VOK.nil (hs := [(6, (bE false, [])), (5, (bE true, []))]) (as := [⟨a_resource_Requests p0, []⟩, ⟨a_ref02_Requests p0, []⟩, ⟨a_resource_Limits p0, []⟩, ⟨a_ref02_Limits p0, []⟩]) (Met.cons (dec (!(((s_resource_Requests p0).cPU == (s_ref02_Requests p0).cPU) && (((s_resource_Requests p0).memory == (s_ref02_Requests p0).memory) && (((s_resource_Requests p0).disk == (s_ref02_Requests p0).disk) && true)))) false (by rw [h0]; rfl)) (Met.cons (dec (!(((s_resource_Limits p0).cPU == (s_ref02_Limits p0).cPU) && (((s_resource_Limits p0).memory == (s_ref02_Limits p0).memory) && (((s_resource_Limits p0).disk == (s_ref02_Limits p0).disk) && true)))) true (by rw [h1]; rfl)) Met.nil)) (Told.cons (t_resource_Requests p0 H.1) (Told.cons (t_ref02_Requests p0 H.2.1) (Told.cons (t_resource_Limits p0 H.2.2.1) (Told.cons (t_ref02_Limits p0 H.2.2.2.1) Told.nil)))) (by kernel_rfl)
  | false =>
    exact tells_V (fn := Ir.law02_ResourcePods) rfl VOK.nil (hs := [(6, (bE true, []))]) (as := [⟨a_resource_Requests p0, []⟩, ⟨a_ref02_Requests p0, []⟩]) (Met.cons (dec (!(((s_resource_Requests p0).cPU == (s_ref02_Requests p0).cPU) && (((s_resource_Requests p0).memory == (s_ref02_Requests p0).memory) && (((s_resource_Requests p0).disk == (s_ref02_Requests p0).disk) && true)))) true (by rw [h0]; rfl)) Met.nil) (Told.cons (t_resource_Requests p0 H.1) (Told.cons (t_ref02_Requests p0 H.2.1) Told.nil)) (by kernel_rfl)

def Probe_ty : Ty := .st [.int .i64, .int .i64, .int .i64, .int .i64]
def Probe_ok (x : Probe) : Prop := okI64 x.delay ∧ okI64 x.period ∧ okI64 x.success ∧ okI64 x.failure
theorem Probe_open {c : List PV} (h : Of Γ Probe_ty c) : ∃ x : Probe, c = x.cells ∧ Probe_ok x := by
  have g0 := h.st1
  obtain ⟨a0, b0, rfl, h0, g1⟩ := g0.uncons
  obtain ⟨x0, rfl, k0⟩ := h0.i64
  obtain ⟨a1, b1, rfl, h1, g2⟩ := g1.uncons
  obtain ⟨x1, rfl, k1⟩ := h1.i64
  obtain ⟨a2, b2, rfl, h2, g3⟩ := g2.uncons
  obtain ⟨x2, rfl, k2⟩ := h2.i64
  obtain ⟨a3, b3, rfl, h3, g4⟩ := g3.uncons
  obtain ⟨x3, rfl, k3⟩ := h3.i64
  have e := g4.empty
  subst e
  exact ⟨⟨x0, x1, x2, x3⟩, rfl, ⟨k0, k1, k2, k3⟩⟩

def Container_ty : Ty := .st [.str, .str, Resources_ty, Resources_ty, .sl 32 Probe_ty, .sl 32 Probe_ty, .sl 32 Probe_ty]
def Container_ok (x : Container) : Prop := okS x.name ∧ okS x.image ∧ Resources_ok x.request ∧ Resources_ok x.limit ∧ (okL 32 Probe_ok) x.live ∧ (okL 32 Probe_ok) x.ready ∧ (okL 32 Probe_ok) x.startup
theorem Container_open {c : List PV} (h : Of Γ Container_ty c) : ∃ x : Container, c = x.cells ∧ Container_ok x := by
  have g0 := h.st1
  obtain ⟨a0, b0, rfl, h0, g1⟩ := g0.uncons
  obtain ⟨x0, rfl, k0⟩ := h0.str1
  obtain ⟨a1, b1, rfl, h1, g2⟩ := g1.uncons
  obtain ⟨x1, rfl, k1⟩ := h1.str1
  obtain ⟨a2, b2, rfl, h2, g3⟩ := g2.uncons
  obtain ⟨x2, rfl, k2⟩ := (Resources_open h2)
  obtain ⟨a3, b3, rfl, h3, g4⟩ := g3.uncons
  obtain ⟨x3, rfl, k3⟩ := (Resources_open h3)
  obtain ⟨a4, b4, rfl, h4, g5⟩ := g4.uncons
  obtain ⟨x4, rfl, k4⟩ := (h4.sl1 (f := Probe.cells) (ok := Probe_ok) fun r hr => (Probe_open hr))
  obtain ⟨a5, b5, rfl, h5, g6⟩ := g5.uncons
  obtain ⟨x5, rfl, k5⟩ := (h5.sl1 (f := Probe.cells) (ok := Probe_ok) fun r hr => (Probe_open hr))
  obtain ⟨a6, b6, rfl, h6, g7⟩ := g6.uncons
  obtain ⟨x6, rfl, k6⟩ := (h6.sl1 (f := Probe.cells) (ok := Probe_ok) fun r hr => (Probe_open hr))
  have e := g7.empty
  subst e
  exact ⟨⟨x0, x1, x2, x3, x4, x5, x6⟩, rfl, ⟨k0, k1, k2, k3, k4, k5, k6⟩⟩

def Requirement_ty : Ty := .st [.str, .int .i64, .sl 16 .str]
def Requirement_ok (x : Requirement) : Prop := okS x.key ∧ okI64 x.op ∧ (okL 16 okS) x.values
theorem Requirement_open {c : List PV} (h : Of Γ Requirement_ty c) : ∃ x : Requirement, c = x.cells ∧ Requirement_ok x := by
  have g0 := h.st1
  obtain ⟨a0, b0, rfl, h0, g1⟩ := g0.uncons
  obtain ⟨x0, rfl, k0⟩ := h0.str1
  obtain ⟨a1, b1, rfl, h1, g2⟩ := g1.uncons
  obtain ⟨x1, rfl, k1⟩ := h1.i64
  obtain ⟨a2, b2, rfl, h2, g3⟩ := g2.uncons
  obtain ⟨x2, rfl, k2⟩ := (h2.sl1 (f := (fun s : ByteArray => [.str s])) (ok := okS) fun r hr => hr.str1)
  have e := g3.empty
  subst e
  exact ⟨⟨x0, x1, x2⟩, rfl, ⟨k0, k1, k2⟩⟩

def NodeTerm_ty : Ty := .st [.bool, .sl 48 Requirement_ty, .int .i64]
def NodeTerm_ok (x : NodeTerm) : Prop := (fun _ : Bool => True) x.required ∧ (okL 48 Requirement_ok) x.selector ∧ okI64 x.weight
theorem NodeTerm_open {c : List PV} (h : Of Γ NodeTerm_ty c) : ∃ x : NodeTerm, c = x.cells ∧ NodeTerm_ok x := by
  have g0 := h.st1
  obtain ⟨a0, b0, rfl, h0, g1⟩ := g0.uncons
  obtain ⟨x0, rfl, k0⟩ := h0.bool2
  obtain ⟨a1, b1, rfl, h1, g2⟩ := g1.uncons
  obtain ⟨x1, rfl, k1⟩ := (h1.sl1 (f := Requirement.cells) (ok := Requirement_ok) fun r hr => (Requirement_open hr))
  obtain ⟨a2, b2, rfl, h2, g3⟩ := g2.uncons
  obtain ⟨x2, rfl, k2⟩ := h2.i64
  have e := g3.empty
  subst e
  exact ⟨⟨x0, x1, x2⟩, rfl, ⟨k0, k1, k2⟩⟩

def PodTerm_ty : Ty := .st [.bool, .bool, .sl 48 Requirement_ty, .str, .int .i64]
def PodTerm_ok (x : PodTerm) : Prop := (fun _ : Bool => True) x.required ∧ (fun _ : Bool => True) x.anti ∧ (okL 48 Requirement_ok) x.selector ∧ okS x.topology ∧ okI64 x.weight
theorem PodTerm_open {c : List PV} (h : Of Γ PodTerm_ty c) : ∃ x : PodTerm, c = x.cells ∧ PodTerm_ok x := by
  have g0 := h.st1
  obtain ⟨a0, b0, rfl, h0, g1⟩ := g0.uncons
  obtain ⟨x0, rfl, k0⟩ := h0.bool2
  obtain ⟨a1, b1, rfl, h1, g2⟩ := g1.uncons
  obtain ⟨x1, rfl, k1⟩ := h1.bool2
  obtain ⟨a2, b2, rfl, h2, g3⟩ := g2.uncons
  obtain ⟨x2, rfl, k2⟩ := (h2.sl1 (f := Requirement.cells) (ok := Requirement_ok) fun r hr => (Requirement_open hr))
  obtain ⟨a3, b3, rfl, h3, g4⟩ := g3.uncons
  obtain ⟨x3, rfl, k3⟩ := h3.str1
  obtain ⟨a4, b4, rfl, h4, g5⟩ := g4.uncons
  obtain ⟨x4, rfl, k4⟩ := h4.i64
  have e := g5.empty
  subst e
  exact ⟨⟨x0, x1, x2, x3, x4⟩, rfl, ⟨k0, k1, k2, k3, k4⟩⟩

def SpreadRule_ty : Ty := .st [.int .i64, .str, .sl 48 Requirement_ty, .bool]
def SpreadRule_ok (x : SpreadRule) : Prop := okI64 x.maxSkew ∧ okS x.topology ∧ (okL 48 Requirement_ok) x.selector ∧ (fun _ : Bool => True) x.required
theorem SpreadRule_open {c : List PV} (h : Of Γ SpreadRule_ty c) : ∃ x : SpreadRule, c = x.cells ∧ SpreadRule_ok x := by
  have g0 := h.st1
  obtain ⟨a0, b0, rfl, h0, g1⟩ := g0.uncons
  obtain ⟨x0, rfl, k0⟩ := h0.i64
  obtain ⟨a1, b1, rfl, h1, g2⟩ := g1.uncons
  obtain ⟨x1, rfl, k1⟩ := h1.str1
  obtain ⟨a2, b2, rfl, h2, g3⟩ := g2.uncons
  obtain ⟨x2, rfl, k2⟩ := (h2.sl1 (f := Requirement.cells) (ok := Requirement_ok) fun r hr => (Requirement_open hr))
  obtain ⟨a3, b3, rfl, h3, g4⟩ := g3.uncons
  obtain ⟨x3, rfl, k3⟩ := h3.bool2
  have e := g4.empty
  subst e
  exact ⟨⟨x0, x1, x2, x3⟩, rfl, ⟨k0, k1, k2, k3⟩⟩

def Toleration_ty : Ty := .st [.str, .str, .bool, .int .i64, .int .i64]
def Toleration_ok (x : Toleration) : Prop := okS x.key ∧ okS x.value ∧ (fun _ : Bool => True) x.exists_ ∧ okI64 x.effect ∧ okI64 x.seconds
theorem Toleration_open {c : List PV} (h : Of Γ Toleration_ty c) : ∃ x : Toleration, c = x.cells ∧ Toleration_ok x := by
  have g0 := h.st1
  obtain ⟨a0, b0, rfl, h0, g1⟩ := g0.uncons
  obtain ⟨x0, rfl, k0⟩ := h0.str1
  obtain ⟨a1, b1, rfl, h1, g2⟩ := g1.uncons
  obtain ⟨x1, rfl, k1⟩ := h1.str1
  obtain ⟨a2, b2, rfl, h2, g3⟩ := g2.uncons
  obtain ⟨x2, rfl, k2⟩ := h2.bool2
  obtain ⟨a3, b3, rfl, h3, g4⟩ := g3.uncons
  obtain ⟨x3, rfl, k3⟩ := h3.i64
  obtain ⟨a4, b4, rfl, h4, g5⟩ := g4.uncons
  obtain ⟨x4, rfl, k4⟩ := h4.i64
  have e := g5.empty
  subst e
  exact ⟨⟨x0, x1, x2, x3, x4⟩, rfl, ⟨k0, k1, k2, k3, k4⟩⟩

def PodSpec_ty : Ty := .st [.str, .int .i64, .int .i64, .int .i64, .sl 152 Container_ty, .sl 48 Requirement_ty, .sl 40 NodeTerm_ty, .sl 56 PodTerm_ty, .sl 56 SpreadRule_ty, .sl 56 Toleration_ty]
def PodSpec_ok (x : PodSpec) : Prop := okS x.node ∧ okI64 x.priority ∧ okI64 x.restart ∧ okI64 x.grace ∧ (okL 152 Container_ok) x.containers ∧ (okL 48 Requirement_ok) x.nodeSelector ∧ (okL 40 NodeTerm_ok) x.nodeTerms ∧ (okL 56 PodTerm_ok) x.podTerms ∧ (okL 56 SpreadRule_ok) x.spread ∧ (okL 56 Toleration_ok) x.tolerations
theorem PodSpec_open {c : List PV} (h : Of Γ PodSpec_ty c) : ∃ x : PodSpec, c = x.cells ∧ PodSpec_ok x := by
  have g0 := h.st1
  obtain ⟨a0, b0, rfl, h0, g1⟩ := g0.uncons
  obtain ⟨x0, rfl, k0⟩ := h0.str1
  obtain ⟨a1, b1, rfl, h1, g2⟩ := g1.uncons
  obtain ⟨x1, rfl, k1⟩ := h1.i64
  obtain ⟨a2, b2, rfl, h2, g3⟩ := g2.uncons
  obtain ⟨x2, rfl, k2⟩ := h2.i64
  obtain ⟨a3, b3, rfl, h3, g4⟩ := g3.uncons
  obtain ⟨x3, rfl, k3⟩ := h3.i64
  obtain ⟨a4, b4, rfl, h4, g5⟩ := g4.uncons
  obtain ⟨x4, rfl, k4⟩ := (h4.sl1 (f := Container.cells) (ok := Container_ok) fun r hr => (Container_open hr))
  obtain ⟨a5, b5, rfl, h5, g6⟩ := g5.uncons
  obtain ⟨x5, rfl, k5⟩ := (h5.sl1 (f := Requirement.cells) (ok := Requirement_ok) fun r hr => (Requirement_open hr))
  obtain ⟨a6, b6, rfl, h6, g7⟩ := g6.uncons
  obtain ⟨x6, rfl, k6⟩ := (h6.sl1 (f := NodeTerm.cells) (ok := NodeTerm_ok) fun r hr => (NodeTerm_open hr))
  obtain ⟨a7, b7, rfl, h7, g8⟩ := g7.uncons
  obtain ⟨x7, rfl, k7⟩ := (h7.sl1 (f := PodTerm.cells) (ok := PodTerm_ok) fun r hr => (PodTerm_open hr))
  obtain ⟨a8, b8, rfl, h8, g9⟩ := g8.uncons
  obtain ⟨x8, rfl, k8⟩ := (h8.sl1 (f := SpreadRule.cells) (ok := SpreadRule_ok) fun r hr => (SpreadRule_open hr))
  obtain ⟨a9, b9, rfl, h9, g10⟩ := g9.uncons
  obtain ⟨x9, rfl, k9⟩ := (h9.sl1 (f := Toleration.cells) (ok := Toleration_ok) fun r hr => (Toleration_open hr))
  have e := g10.empty
  subst e
  exact ⟨⟨x0, x1, x2, x3, x4, x5, x6, x7, x8, x9⟩, rfl, ⟨k0, k1, k2, k3, k4, k5, k6, k7, k8, k9⟩⟩

def tysResourcePods : List Ty := [PodSpec_ty, .int .i64]
theorem pureResourcePods (hp : ∀ (p0 : PodSpec) (p1 : Int), PodSpec_ok p0 → okI64 p1 → H_law02_ResourcePods p0 p1 ∧ s_law02_ResourcePods p0 p1 = true) : ∀ qs, Args Γ tysResourcePods qs → ∃ n, runs G n (.call 4 qs []) = some (.ret (.bool true) []) := by
  intro qs h
  cases qs with
  | nil => cases h
  | cons q0 qs =>
  obtain ⟨h0, h⟩ := h
  cases qs with
  | nil => cases h
  | cons q1 qs =>
  obtain ⟨h1, h⟩ := h
  cases qs with
  | cons _ _ => cases h
  | nil =>
  obtain ⟨c0, rfl, g0⟩ := h0.agg rfl
  obtain ⟨p0, rfl, k0⟩ := (PodSpec_open g0)
  have g1 := h1.one rfl
  obtain ⟨p1, e1, k1⟩ := g1.i64
  injection e1 with e1
  subst e1
  have e := hp p0 p1 k0 k1
  have t := t_law02_ResourcePods p0 p1 e.1
  unfold a_law02_ResourcePods at t
  rw [e.2] at t
  exact t

/-- orchestrator/ orchestratorlaw02.ResourceBalance -/
def s_law02_ResourceBalance (p0 : Resources) (p1 : Resources) (p2 : Resources) : Bool :=
  bif (decide ((s_resource_Add p0 p1).cPU < 1000000000000000)) then
    bif (decide ((s_resource_Add p0 p1).memory < 1000000000000000)) then
      bif (decide ((s_resource_Add p0 p1).disk < 1000000000000000)) then
        bif (((s_resource_Sub (s_resource_Add p0 p1) p1).cPU == (s_resource_Add p0 (Resources.mk 0 0 0)).cPU) && (((s_resource_Sub (s_resource_Add p0 p1) p1).memory == (s_resource_Add p0 (Resources.mk 0 0 0)).memory) && (((s_resource_Sub (s_resource_Add p0 p1) p1).disk == (s_resource_Add p0 (Resources.mk 0 0 0)).disk) && true))) then
          bif (s_resource_Fits p0 (s_resource_Add p0 p1)) then
            bif (s_resource_Fits p1 (s_resource_Add p0 p1)) then
              bif (s_resource_Fits p2 p0) then
                (s_resource_Fits p2 (s_resource_Add p0 p1))
              else
                true
            else
              false
          else
            false
        else
          false
      else
        bif (s_resource_Fits p0 (s_resource_Add p0 p1)) then
          bif (s_resource_Fits p1 (s_resource_Add p0 p1)) then
            bif (s_resource_Fits p2 p0) then
              (s_resource_Fits p2 (s_resource_Add p0 p1))
            else
              true
          else
            false
        else
          false
    else
      bif (s_resource_Fits p0 (s_resource_Add p0 p1)) then
        bif (s_resource_Fits p1 (s_resource_Add p0 p1)) then
          bif (s_resource_Fits p2 p0) then
            (s_resource_Fits p2 (s_resource_Add p0 p1))
          else
            true
        else
          false
      else
        false
  else
    bif (s_resource_Fits p0 (s_resource_Add p0 p1)) then
      bif (s_resource_Fits p1 (s_resource_Add p0 p1)) then
        bif (s_resource_Fits p2 p0) then
          (s_resource_Fits p2 (s_resource_Add p0 p1))
        else
          true
      else
        false
    else
      false
def c_law02_ResourceBalance (p0 : Resources) (p1 : Resources) (p2 : Resources) : En := .call 5 [.agg (Resources.cells p0), .agg (Resources.cells p1), .agg (Resources.cells p2)] []
def a_law02_ResourceBalance (p0 : Resources) (p1 : Resources) (p2 : Resources) : Rs := .ret (.bool (s_law02_ResourceBalance p0 p1 p2)) []
theorem t_law02_ResourceBalance_0 (p0 : Resources) (p1 : Resources) (p2 : Resources) (h0 : (decide ((s_resource_Add p0 p1).cPU < 1000000000000000)) = true) (h1 : (decide ((s_resource_Add p0 p1).memory < 1000000000000000)) = true) (h2 : (decide ((s_resource_Add p0 p1).disk < 1000000000000000)) = true) (h3 : (((s_resource_Sub (s_resource_Add p0 p1) p1).cPU == (s_resource_Add p0 (Resources.mk 0 0 0)).cPU) && (((s_resource_Sub (s_resource_Add p0 p1) p1).memory == (s_resource_Add p0 (Resources.mk 0 0 0)).memory) && (((s_resource_Sub (s_resource_Add p0 p1) p1).disk == (s_resource_Add p0 (Resources.mk 0 0 0)).disk) && true))) = true) (h4 : (s_resource_Fits p0 (s_resource_Add p0 p1)) = true) (h5 : (s_resource_Fits p1 (s_resource_Add p0 p1)) = true) (h6 : (s_resource_Fits p2 p0) = true) : Tells G (c_law02_ResourceBalance p0 p1 p2) (.ret (.bool (s_resource_Fits p2 (s_resource_Add p0 p1))) []) :=
  tells_V (fn := Ir.law02_ResourceBalance) rfl VOK.nil (hs := [(11, (bE true, [])), (3, (bE true, [])), (4, (bE true, [])), (8, (bE false, []))]) (as := [⟨a_resource_Add p0 p1, []⟩, ⟨a_resource_Sub (s_resource_Add p0 p1) p1, []⟩, ⟨a_resource_Add p0 (Resources.mk 0 0 0), []⟩, ⟨.ret (.bool true) [], []⟩, ⟨.ret (.bool true) [], []⟩, ⟨.ret (.bool true) [], []⟩, ⟨.ret (.bool true) [], []⟩, ⟨a_resource_Fits p2 (s_resource_Add p0 p1), []⟩]) (Met.cons (dec (decide ((s_resource_Add p0 p1).cPU < 1000000000000000)) true h0) (Met.cons (dec (decide ((s_resource_Add p0 p1).memory < 1000000000000000)) true h1) (Met.cons (dec (decide ((s_resource_Add p0 p1).disk < 1000000000000000)) true h2) (Met.cons (dec (!(((s_resource_Sub (s_resource_Add p0 p1) p1).cPU == (s_resource_Add p0 (Resources.mk 0 0 0)).cPU) && (((s_resource_Sub (s_resource_Add p0 p1) p1).memory == (s_resource_Add p0 (Resources.mk 0 0 0)).memory) && (((s_resource_Sub (s_resource_Add p0 p1) p1).disk == (s_resource_Add p0 (Resources.mk 0 0 0)).disk) && true)))) false (by rw [h3]; rfl)) Met.nil)))) (Told.cons (t_resource_Add p0 p1) (Told.cons (t_resource_Sub (s_resource_Add p0 p1) p1) (Told.cons (t_resource_Add p0 (Resources.mk 0 0 0)) (Told.cons t_law02_lives (Told.cons (toldOf (t_resource_Fits p0 (s_resource_Add p0 p1)) (congrArg (fun b => Rs.ret (.bool b) []) h4)) (Told.cons (toldOf (t_resource_Fits p1 (s_resource_Add p0 p1)) (congrArg (fun b => Rs.ret (.bool b) []) h5)) (Told.cons (toldOf (t_resource_Fits p2 p0) (congrArg (fun b => Rs.ret (.bool b) []) h6)) (Told.cons (t_resource_Fits p2 (s_resource_Add p0 p1)) Told.nil)))))))) (by kernel_rfl)
theorem t_law02_ResourceBalance_1 (p0 : Resources) (p1 : Resources) (p2 : Resources) (h0 : (decide ((s_resource_Add p0 p1).cPU < 1000000000000000)) = true) (h1 : (decide ((s_resource_Add p0 p1).memory < 1000000000000000)) = true) (h2 : (decide ((s_resource_Add p0 p1).disk < 1000000000000000)) = true) (h3 : (((s_resource_Sub (s_resource_Add p0 p1) p1).cPU == (s_resource_Add p0 (Resources.mk 0 0 0)).cPU) && (((s_resource_Sub (s_resource_Add p0 p1) p1).memory == (s_resource_Add p0 (Resources.mk 0 0 0)).memory) && (((s_resource_Sub (s_resource_Add p0 p1) p1).disk == (s_resource_Add p0 (Resources.mk 0 0 0)).disk) && true))) = true) (h4 : (s_resource_Fits p0 (s_resource_Add p0 p1)) = true) (h5 : (s_resource_Fits p1 (s_resource_Add p0 p1)) = true) (h6 : (s_resource_Fits p2 p0) = false) : Tells G (c_law02_ResourceBalance p0 p1 p2) (.ret (.bool true) []) :=
  tells_V (fn := Ir.law02_ResourceBalance) rfl VOK.nil (hs := [(11, (bE true, [])), (3, (bE true, [])), (4, (bE true, [])), (8, (bE false, []))]) (as := [⟨a_resource_Add p0 p1, []⟩, ⟨a_resource_Sub (s_resource_Add p0 p1) p1, []⟩, ⟨a_resource_Add p0 (Resources.mk 0 0 0), []⟩, ⟨.ret (.bool true) [], []⟩, ⟨.ret (.bool true) [], []⟩, ⟨.ret (.bool true) [], []⟩, ⟨.ret (.bool false) [], []⟩]) (Met.cons (dec (decide ((s_resource_Add p0 p1).cPU < 1000000000000000)) true h0) (Met.cons (dec (decide ((s_resource_Add p0 p1).memory < 1000000000000000)) true h1) (Met.cons (dec (decide ((s_resource_Add p0 p1).disk < 1000000000000000)) true h2) (Met.cons (dec (!(((s_resource_Sub (s_resource_Add p0 p1) p1).cPU == (s_resource_Add p0 (Resources.mk 0 0 0)).cPU) && (((s_resource_Sub (s_resource_Add p0 p1) p1).memory == (s_resource_Add p0 (Resources.mk 0 0 0)).memory) && (((s_resource_Sub (s_resource_Add p0 p1) p1).disk == (s_resource_Add p0 (Resources.mk 0 0 0)).disk) && true)))) false (by rw [h3]; rfl)) Met.nil)))) (Told.cons (t_resource_Add p0 p1) (Told.cons (t_resource_Sub (s_resource_Add p0 p1) p1) (Told.cons (t_resource_Add p0 (Resources.mk 0 0 0)) (Told.cons t_law02_lives (Told.cons (toldOf (t_resource_Fits p0 (s_resource_Add p0 p1)) (congrArg (fun b => Rs.ret (.bool b) []) h4)) (Told.cons (toldOf (t_resource_Fits p1 (s_resource_Add p0 p1)) (congrArg (fun b => Rs.ret (.bool b) []) h5)) (Told.cons (toldOf (t_resource_Fits p2 p0) (congrArg (fun b => Rs.ret (.bool b) []) h6)) Told.nil))))))) (by kernel_rfl)
theorem t_law02_ResourceBalance_2 (p0 : Resources) (p1 : Resources) (p2 : Resources) (h0 : (decide ((s_resource_Add p0 p1).cPU < 1000000000000000)) = true) (h1 : (decide ((s_resource_Add p0 p1).memory < 1000000000000000)) = true) (h2 : (decide ((s_resource_Add p0 p1).disk < 1000000000000000)) = true) (h3 : (((s_resource_Sub (s_resource_Add p0 p1) p1).cPU == (s_resource_Add p0 (Resources.mk 0 0 0)).cPU) && (((s_resource_Sub (s_resource_Add p0 p1) p1).memory == (s_resource_Add p0 (Resources.mk 0 0 0)).memory) && (((s_resource_Sub (s_resource_Add p0 p1) p1).disk == (s_resource_Add p0 (Resources.mk 0 0 0)).disk) && true))) = true) (h4 : (s_resource_Fits p0 (s_resource_Add p0 p1)) = true) (h5 : (s_resource_Fits p1 (s_resource_Add p0 p1)) = false) : Tells G (c_law02_ResourceBalance p0 p1 p2) (.ret (.bool false) []) :=
  tells_V (fn := Ir.law02_ResourceBalance) rfl VOK.nil (hs := [(11, (bE true, [])), (3, (bE true, [])), (4, (bE true, [])), (8, (bE false, []))]) (as := [⟨a_resource_Add p0 p1, []⟩, ⟨a_resource_Sub (s_resource_Add p0 p1) p1, []⟩, ⟨a_resource_Add p0 (Resources.mk 0 0 0), []⟩, ⟨.ret (.bool true) [], []⟩, ⟨.ret (.bool true) [], []⟩, ⟨.ret (.bool false) [], []⟩]) (Met.cons (dec (decide ((s_resource_Add p0 p1).cPU < 1000000000000000)) true h0) (Met.cons (dec (decide ((s_resource_Add p0 p1).memory < 1000000000000000)) true h1) (Met.cons (dec (decide ((s_resource_Add p0 p1).disk < 1000000000000000)) true h2) (Met.cons (dec (!(((s_resource_Sub (s_resource_Add p0 p1) p1).cPU == (s_resource_Add p0 (Resources.mk 0 0 0)).cPU) && (((s_resource_Sub (s_resource_Add p0 p1) p1).memory == (s_resource_Add p0 (Resources.mk 0 0 0)).memory) && (((s_resource_Sub (s_resource_Add p0 p1) p1).disk == (s_resource_Add p0 (Resources.mk 0 0 0)).disk) && true)))) false (by rw [h3]; rfl)) Met.nil)))) (Told.cons (t_resource_Add p0 p1) (Told.cons (t_resource_Sub (s_resource_Add p0 p1) p1) (Told.cons (t_resource_Add p0 (Resources.mk 0 0 0)) (Told.cons t_law02_lives (Told.cons (toldOf (t_resource_Fits p0 (s_resource_Add p0 p1)) (congrArg (fun b => Rs.ret (.bool b) []) h4)) (Told.cons (toldOf (t_resource_Fits p1 (s_resource_Add p0 p1)) (congrArg (fun b => Rs.ret (.bool b) []) h5)) Told.nil)))))) (by kernel_rfl)
theorem t_law02_ResourceBalance_3 (p0 : Resources) (p1 : Resources) (p2 : Resources) (h0 : (decide ((s_resource_Add p0 p1).cPU < 1000000000000000)) = true) (h1 : (decide ((s_resource_Add p0 p1).memory < 1000000000000000)) = true) (h2 : (decide ((s_resource_Add p0 p1).disk < 1000000000000000)) = true) (h3 : (((s_resource_Sub (s_resource_Add p0 p1) p1).cPU == (s_resource_Add p0 (Resources.mk 0 0 0)).cPU) && (((s_resource_Sub (s_resource_Add p0 p1) p1).memory == (s_resource_Add p0 (Resources.mk 0 0 0)).memory) && (((s_resource_Sub (s_resource_Add p0 p1) p1).disk == (s_resource_Add p0 (Resources.mk 0 0 0)).disk) && true))) = true) (h4 : (s_resource_Fits p0 (s_resource_Add p0 p1)) = false) : Tells G (c_law02_ResourceBalance p0 p1 p2) (.ret (.bool false) []) :=
  tells_V (fn := Ir.law02_ResourceBalance) rfl VOK.nil (hs := [(11, (bE true, [])), (3, (bE true, [])), (4, (bE true, [])), (8, (bE false, []))]) (as := [⟨a_resource_Add p0 p1, []⟩, ⟨a_resource_Sub (s_resource_Add p0 p1) p1, []⟩, ⟨a_resource_Add p0 (Resources.mk 0 0 0), []⟩, ⟨.ret (.bool true) [], []⟩, ⟨.ret (.bool false) [], []⟩]) (Met.cons (dec (decide ((s_resource_Add p0 p1).cPU < 1000000000000000)) true h0) (Met.cons (dec (decide ((s_resource_Add p0 p1).memory < 1000000000000000)) true h1) (Met.cons (dec (decide ((s_resource_Add p0 p1).disk < 1000000000000000)) true h2) (Met.cons (dec (!(((s_resource_Sub (s_resource_Add p0 p1) p1).cPU == (s_resource_Add p0 (Resources.mk 0 0 0)).cPU) && (((s_resource_Sub (s_resource_Add p0 p1) p1).memory == (s_resource_Add p0 (Resources.mk 0 0 0)).memory) && (((s_resource_Sub (s_resource_Add p0 p1) p1).disk == (s_resource_Add p0 (Resources.mk 0 0 0)).disk) && true)))) false (by rw [h3]; rfl)) Met.nil)))) (Told.cons (t_resource_Add p0 p1) (Told.cons (t_resource_Sub (s_resource_Add p0 p1) p1) (Told.cons (t_resource_Add p0 (Resources.mk 0 0 0)) (Told.cons t_law02_lives (Told.cons (toldOf (t_resource_Fits p0 (s_resource_Add p0 p1)) (congrArg (fun b => Rs.ret (.bool b) []) h4)) Told.nil))))) (by kernel_rfl)
theorem t_law02_ResourceBalance_4 (p0 : Resources) (p1 : Resources) (p2 : Resources) (h0 : (decide ((s_resource_Add p0 p1).cPU < 1000000000000000)) = true) (h1 : (decide ((s_resource_Add p0 p1).memory < 1000000000000000)) = true) (h2 : (decide ((s_resource_Add p0 p1).disk < 1000000000000000)) = true) (h3 : (((s_resource_Sub (s_resource_Add p0 p1) p1).cPU == (s_resource_Add p0 (Resources.mk 0 0 0)).cPU) && (((s_resource_Sub (s_resource_Add p0 p1) p1).memory == (s_resource_Add p0 (Resources.mk 0 0 0)).memory) && (((s_resource_Sub (s_resource_Add p0 p1) p1).disk == (s_resource_Add p0 (Resources.mk 0 0 0)).disk) && true))) = false) : Tells G (c_law02_ResourceBalance p0 p1 p2) (.ret (.bool false) []) :=
  tells_V (fn := Ir.law02_ResourceBalance) rfl VOK.nil (hs := [(11, (bE true, [])), (3, (bE true, [])), (4, (bE true, [])), (8, (bE true, []))]) (as := [⟨a_resource_Add p0 p1, []⟩, ⟨a_resource_Sub (s_resource_Add p0 p1) p1, []⟩, ⟨a_resource_Add p0 (Resources.mk 0 0 0), []⟩]) (Met.cons (dec (decide ((s_resource_Add p0 p1).cPU < 1000000000000000)) true h0) (Met.cons (dec (decide ((s_resource_Add p0 p1).memory < 1000000000000000)) true h1) (Met.cons (dec (decide ((s_resource_Add p0 p1).disk < 1000000000000000)) true h2) (Met.cons (dec (!(((s_resource_Sub (s_resource_Add p0 p1) p1).cPU == (s_resource_Add p0 (Resources.mk 0 0 0)).cPU) && (((s_resource_Sub (s_resource_Add p0 p1) p1).memory == (s_resource_Add p0 (Resources.mk 0 0 0)).memory) && (((s_resource_Sub (s_resource_Add p0 p1) p1).disk == (s_resource_Add p0 (Resources.mk 0 0 0)).disk) && true)))) true (by rw [h3]; rfl)) Met.nil)))) (Told.cons (t_resource_Add p0 p1) (Told.cons (t_resource_Sub (s_resource_Add p0 p1) p1) (Told.cons (t_resource_Add p0 (Resources.mk 0 0 0)) Told.nil))) (by kernel_rfl)
theorem t_law02_ResourceBalance_5 (p0 : Resources) (p1 : Resources) (p2 : Resources) (h0 : (decide ((s_resource_Add p0 p1).cPU < 1000000000000000)) = true) (h1 : (decide ((s_resource_Add p0 p1).memory < 1000000000000000)) = true) (h2 : (decide ((s_resource_Add p0 p1).disk < 1000000000000000)) = false) (h3 : (s_resource_Fits p0 (s_resource_Add p0 p1)) = true) (h4 : (s_resource_Fits p1 (s_resource_Add p0 p1)) = true) (h5 : (s_resource_Fits p2 p0) = true) : Tells G (c_law02_ResourceBalance p0 p1 p2) (.ret (.bool (s_resource_Fits p2 (s_resource_Add p0 p1))) []) :=
  tells_V (fn := Ir.law02_ResourceBalance) rfl VOK.nil (hs := [(11, (bE true, [])), (3, (bE true, [])), (4, (bE false, []))]) (as := [⟨a_resource_Add p0 p1, []⟩, ⟨.ret (.bool true) [], []⟩, ⟨.ret (.bool true) [], []⟩, ⟨.ret (.bool true) [], []⟩, ⟨.ret (.bool true) [], []⟩, ⟨a_resource_Fits p2 (s_resource_Add p0 p1), []⟩]) (Met.cons (dec (decide ((s_resource_Add p0 p1).cPU < 1000000000000000)) true h0) (Met.cons (dec (decide ((s_resource_Add p0 p1).memory < 1000000000000000)) true h1) (Met.cons (dec (decide ((s_resource_Add p0 p1).disk < 1000000000000000)) false h2) Met.nil))) (Told.cons (t_resource_Add p0 p1) (Told.cons t_law02_lives (Told.cons (toldOf (t_resource_Fits p0 (s_resource_Add p0 p1)) (congrArg (fun b => Rs.ret (.bool b) []) h3)) (Told.cons (toldOf (t_resource_Fits p1 (s_resource_Add p0 p1)) (congrArg (fun b => Rs.ret (.bool b) []) h4)) (Told.cons (toldOf (t_resource_Fits p2 p0) (congrArg (fun b => Rs.ret (.bool b) []) h5)) (Told.cons (t_resource_Fits p2 (s_resource_Add p0 p1)) Told.nil)))))) (by kernel_rfl)
theorem t_law02_ResourceBalance_6 (p0 : Resources) (p1 : Resources) (p2 : Resources) (h0 : (decide ((s_resource_Add p0 p1).cPU < 1000000000000000)) = true) (h1 : (decide ((s_resource_Add p0 p1).memory < 1000000000000000)) = true) (h2 : (decide ((s_resource_Add p0 p1).disk < 1000000000000000)) = false) (h3 : (s_resource_Fits p0 (s_resource_Add p0 p1)) = true) (h4 : (s_resource_Fits p1 (s_resource_Add p0 p1)) = true) (h5 : (s_resource_Fits p2 p0) = false) : Tells G (c_law02_ResourceBalance p0 p1 p2) (.ret (.bool true) []) :=
  tells_V (fn := Ir.law02_ResourceBalance) rfl VOK.nil (hs := [(11, (bE true, [])), (3, (bE true, [])), (4, (bE false, []))]) (as := [⟨a_resource_Add p0 p1, []⟩, ⟨.ret (.bool true) [], []⟩, ⟨.ret (.bool true) [], []⟩, ⟨.ret (.bool true) [], []⟩, ⟨.ret (.bool false) [], []⟩]) (Met.cons (dec (decide ((s_resource_Add p0 p1).cPU < 1000000000000000)) true h0) (Met.cons (dec (decide ((s_resource_Add p0 p1).memory < 1000000000000000)) true h1) (Met.cons (dec (decide ((s_resource_Add p0 p1).disk < 1000000000000000)) false h2) Met.nil))) (Told.cons (t_resource_Add p0 p1) (Told.cons t_law02_lives (Told.cons (toldOf (t_resource_Fits p0 (s_resource_Add p0 p1)) (congrArg (fun b => Rs.ret (.bool b) []) h3)) (Told.cons (toldOf (t_resource_Fits p1 (s_resource_Add p0 p1)) (congrArg (fun b => Rs.ret (.bool b) []) h4)) (Told.cons (toldOf (t_resource_Fits p2 p0) (congrArg (fun b => Rs.ret (.bool b) []) h5)) Told.nil))))) (by kernel_rfl)
theorem t_law02_ResourceBalance_7 (p0 : Resources) (p1 : Resources) (p2 : Resources) (h0 : (decide ((s_resource_Add p0 p1).cPU < 1000000000000000)) = true) (h1 : (decide ((s_resource_Add p0 p1).memory < 1000000000000000)) = true) (h2 : (decide ((s_resource_Add p0 p1).disk < 1000000000000000)) = false) (h3 : (s_resource_Fits p0 (s_resource_Add p0 p1)) = true) (h4 : (s_resource_Fits p1 (s_resource_Add p0 p1)) = false) : Tells G (c_law02_ResourceBalance p0 p1 p2) (.ret (.bool false) []) :=
  tells_V (fn := Ir.law02_ResourceBalance) rfl VOK.nil (hs := [(11, (bE true, [])), (3, (bE true, [])), (4, (bE false, []))]) (as := [⟨a_resource_Add p0 p1, []⟩, ⟨.ret (.bool true) [], []⟩, ⟨.ret (.bool true) [], []⟩, ⟨.ret (.bool false) [], []⟩]) (Met.cons (dec (decide ((s_resource_Add p0 p1).cPU < 1000000000000000)) true h0) (Met.cons (dec (decide ((s_resource_Add p0 p1).memory < 1000000000000000)) true h1) (Met.cons (dec (decide ((s_resource_Add p0 p1).disk < 1000000000000000)) false h2) Met.nil))) (Told.cons (t_resource_Add p0 p1) (Told.cons t_law02_lives (Told.cons (toldOf (t_resource_Fits p0 (s_resource_Add p0 p1)) (congrArg (fun b => Rs.ret (.bool b) []) h3)) (Told.cons (toldOf (t_resource_Fits p1 (s_resource_Add p0 p1)) (congrArg (fun b => Rs.ret (.bool b) []) h4)) Told.nil)))) (by kernel_rfl)
theorem t_law02_ResourceBalance_8 (p0 : Resources) (p1 : Resources) (p2 : Resources) (h0 : (decide ((s_resource_Add p0 p1).cPU < 1000000000000000)) = true) (h1 : (decide ((s_resource_Add p0 p1).memory < 1000000000000000)) = true) (h2 : (decide ((s_resource_Add p0 p1).disk < 1000000000000000)) = false) (h3 : (s_resource_Fits p0 (s_resource_Add p0 p1)) = false) : Tells G (c_law02_ResourceBalance p0 p1 p2) (.ret (.bool false) []) :=
  tells_V (fn := Ir.law02_ResourceBalance) rfl VOK.nil (hs := [(11, (bE true, [])), (3, (bE true, [])), (4, (bE false, []))]) (as := [⟨a_resource_Add p0 p1, []⟩, ⟨.ret (.bool true) [], []⟩, ⟨.ret (.bool false) [], []⟩]) (Met.cons (dec (decide ((s_resource_Add p0 p1).cPU < 1000000000000000)) true h0) (Met.cons (dec (decide ((s_resource_Add p0 p1).memory < 1000000000000000)) true h1) (Met.cons (dec (decide ((s_resource_Add p0 p1).disk < 1000000000000000)) false h2) Met.nil))) (Told.cons (t_resource_Add p0 p1) (Told.cons t_law02_lives (Told.cons (toldOf (t_resource_Fits p0 (s_resource_Add p0 p1)) (congrArg (fun b => Rs.ret (.bool b) []) h3)) Told.nil))) (by kernel_rfl)
theorem t_law02_ResourceBalance_9 (p0 : Resources) (p1 : Resources) (p2 : Resources) (h0 : (decide ((s_resource_Add p0 p1).cPU < 1000000000000000)) = true) (h1 : (decide ((s_resource_Add p0 p1).memory < 1000000000000000)) = false) (h2 : (s_resource_Fits p0 (s_resource_Add p0 p1)) = true) (h3 : (s_resource_Fits p1 (s_resource_Add p0 p1)) = true) (h4 : (s_resource_Fits p2 p0) = true) : Tells G (c_law02_ResourceBalance p0 p1 p2) (.ret (.bool (s_resource_Fits p2 (s_resource_Add p0 p1))) []) :=
  tells_V (fn := Ir.law02_ResourceBalance) rfl VOK.nil (hs := [(11, (bE true, [])), (3, (bE false, []))]) (as := [⟨a_resource_Add p0 p1, []⟩, ⟨.ret (.bool true) [], []⟩, ⟨.ret (.bool true) [], []⟩, ⟨.ret (.bool true) [], []⟩, ⟨.ret (.bool true) [], []⟩, ⟨a_resource_Fits p2 (s_resource_Add p0 p1), []⟩]) (Met.cons (dec (decide ((s_resource_Add p0 p1).cPU < 1000000000000000)) true h0) (Met.cons (dec (decide ((s_resource_Add p0 p1).memory < 1000000000000000)) false h1) Met.nil)) (Told.cons (t_resource_Add p0 p1) (Told.cons t_law02_lives (Told.cons (toldOf (t_resource_Fits p0 (s_resource_Add p0 p1)) (congrArg (fun b => Rs.ret (.bool b) []) h2)) (Told.cons (toldOf (t_resource_Fits p1 (s_resource_Add p0 p1)) (congrArg (fun b => Rs.ret (.bool b) []) h3)) (Told.cons (toldOf (t_resource_Fits p2 p0) (congrArg (fun b => Rs.ret (.bool b) []) h4)) (Told.cons (t_resource_Fits p2 (s_resource_Add p0 p1)) Told.nil)))))) (by kernel_rfl)
theorem t_law02_ResourceBalance_10 (p0 : Resources) (p1 : Resources) (p2 : Resources) (h0 : (decide ((s_resource_Add p0 p1).cPU < 1000000000000000)) = true) (h1 : (decide ((s_resource_Add p0 p1).memory < 1000000000000000)) = false) (h2 : (s_resource_Fits p0 (s_resource_Add p0 p1)) = true) (h3 : (s_resource_Fits p1 (s_resource_Add p0 p1)) = true) (h4 : (s_resource_Fits p2 p0) = false) : Tells G (c_law02_ResourceBalance p0 p1 p2) (.ret (.bool true) []) :=
  tells_V (fn := Ir.law02_ResourceBalance) rfl VOK.nil (hs := [(11, (bE true, [])), (3, (bE false, []))]) (as := [⟨a_resource_Add p0 p1, []⟩, ⟨.ret (.bool true) [], []⟩, ⟨.ret (.bool true) [], []⟩, ⟨.ret (.bool true) [], []⟩, ⟨.ret (.bool false) [], []⟩]) (Met.cons (dec (decide ((s_resource_Add p0 p1).cPU < 1000000000000000)) true h0) (Met.cons (dec (decide ((s_resource_Add p0 p1).memory < 1000000000000000)) false h1) Met.nil)) (Told.cons (t_resource_Add p0 p1) (Told.cons t_law02_lives (Told.cons (toldOf (t_resource_Fits p0 (s_resource_Add p0 p1)) (congrArg (fun b => Rs.ret (.bool b) []) h2)) (Told.cons (toldOf (t_resource_Fits p1 (s_resource_Add p0 p1)) (congrArg (fun b => Rs.ret (.bool b) []) h3)) (Told.cons (toldOf (t_resource_Fits p2 p0) (congrArg (fun b => Rs.ret (.bool b) []) h4)) Told.nil))))) (by kernel_rfl)
theorem t_law02_ResourceBalance_11 (p0 : Resources) (p1 : Resources) (p2 : Resources) (h0 : (decide ((s_resource_Add p0 p1).cPU < 1000000000000000)) = true) (h1 : (decide ((s_resource_Add p0 p1).memory < 1000000000000000)) = false) (h2 : (s_resource_Fits p0 (s_resource_Add p0 p1)) = true) (h3 : (s_resource_Fits p1 (s_resource_Add p0 p1)) = false) : Tells G (c_law02_ResourceBalance p0 p1 p2) (.ret (.bool false) []) :=
  tells_V (fn := Ir.law02_ResourceBalance) rfl VOK.nil (hs := [(11, (bE true, [])), (3, (bE false, []))]) (as := [⟨a_resource_Add p0 p1, []⟩, ⟨.ret (.bool true) [], []⟩, ⟨.ret (.bool true) [], []⟩, ⟨.ret (.bool false) [], []⟩]) (Met.cons (dec (decide ((s_resource_Add p0 p1).cPU < 1000000000000000)) true h0) (Met.cons (dec (decide ((s_resource_Add p0 p1).memory < 1000000000000000)) false h1) Met.nil)) (Told.cons (t_resource_Add p0 p1) (Told.cons t_law02_lives (Told.cons (toldOf (t_resource_Fits p0 (s_resource_Add p0 p1)) (congrArg (fun b => Rs.ret (.bool b) []) h2)) (Told.cons (toldOf (t_resource_Fits p1 (s_resource_Add p0 p1)) (congrArg (fun b => Rs.ret (.bool b) []) h3)) Told.nil)))) (by kernel_rfl)
theorem t_law02_ResourceBalance_12 (p0 : Resources) (p1 : Resources) (p2 : Resources) (h0 : (decide ((s_resource_Add p0 p1).cPU < 1000000000000000)) = true) (h1 : (decide ((s_resource_Add p0 p1).memory < 1000000000000000)) = false) (h2 : (s_resource_Fits p0 (s_resource_Add p0 p1)) = false) : Tells G (c_law02_ResourceBalance p0 p1 p2) (.ret (.bool false) []) :=
  tells_V (fn := Ir.law02_ResourceBalance) rfl VOK.nil (hs := [(11, (bE true, [])), (3, (bE false, []))]) (as := [⟨a_resource_Add p0 p1, []⟩, ⟨.ret (.bool true) [], []⟩, ⟨.ret (.bool false) [], []⟩]) (Met.cons (dec (decide ((s_resource_Add p0 p1).cPU < 1000000000000000)) true h0) (Met.cons (dec (decide ((s_resource_Add p0 p1).memory < 1000000000000000)) false h1) Met.nil)) (Told.cons (t_resource_Add p0 p1) (Told.cons t_law02_lives (Told.cons (toldOf (t_resource_Fits p0 (s_resource_Add p0 p1)) (congrArg (fun b => Rs.ret (.bool b) []) h2)) Told.nil))) (by kernel_rfl)
theorem t_law02_ResourceBalance_13 (p0 : Resources) (p1 : Resources) (p2 : Resources) (h0 : (decide ((s_resource_Add p0 p1).cPU < 1000000000000000)) = false) (h1 : (s_resource_Fits p0 (s_resource_Add p0 p1)) = true) (h2 : (s_resource_Fits p1 (s_resource_Add p0 p1)) = true) (h3 : (s_resource_Fits p2 p0) = true) : Tells G (c_law02_ResourceBalance p0 p1 p2) (.ret (.bool (s_resource_Fits p2 (s_resource_Add p0 p1))) []) :=
  tells_V (fn := Ir.law02_ResourceBalance) rfl VOK.nil (hs := [(11, (bE false, []))]) (as := [⟨a_resource_Add p0 p1, []⟩, ⟨.ret (.bool true) [], []⟩, ⟨.ret (.bool true) [], []⟩, ⟨.ret (.bool true) [], []⟩, ⟨.ret (.bool true) [], []⟩, ⟨a_resource_Fits p2 (s_resource_Add p0 p1), []⟩]) (Met.cons (dec (decide ((s_resource_Add p0 p1).cPU < 1000000000000000)) false h0) Met.nil) (Told.cons (t_resource_Add p0 p1) (Told.cons t_law02_lives (Told.cons (toldOf (t_resource_Fits p0 (s_resource_Add p0 p1)) (congrArg (fun b => Rs.ret (.bool b) []) h1)) (Told.cons (toldOf (t_resource_Fits p1 (s_resource_Add p0 p1)) (congrArg (fun b => Rs.ret (.bool b) []) h2)) (Told.cons (toldOf (t_resource_Fits p2 p0) (congrArg (fun b => Rs.ret (.bool b) []) h3)) (Told.cons (t_resource_Fits p2 (s_resource_Add p0 p1)) Told.nil)))))) (by kernel_rfl)
theorem t_law02_ResourceBalance_14 (p0 : Resources) (p1 : Resources) (p2 : Resources) (h0 : (decide ((s_resource_Add p0 p1).cPU < 1000000000000000)) = false) (h1 : (s_resource_Fits p0 (s_resource_Add p0 p1)) = true) (h2 : (s_resource_Fits p1 (s_resource_Add p0 p1)) = true) (h3 : (s_resource_Fits p2 p0) = false) : Tells G (c_law02_ResourceBalance p0 p1 p2) (.ret (.bool true) []) :=
  tells_V (fn := Ir.law02_ResourceBalance) rfl VOK.nil (hs := [(11, (bE false, []))]) (as := [⟨a_resource_Add p0 p1, []⟩, ⟨.ret (.bool true) [], []⟩, ⟨.ret (.bool true) [], []⟩, ⟨.ret (.bool true) [], []⟩, ⟨.ret (.bool false) [], []⟩]) (Met.cons (dec (decide ((s_resource_Add p0 p1).cPU < 1000000000000000)) false h0) Met.nil) (Told.cons (t_resource_Add p0 p1) (Told.cons t_law02_lives (Told.cons (toldOf (t_resource_Fits p0 (s_resource_Add p0 p1)) (congrArg (fun b => Rs.ret (.bool b) []) h1)) (Told.cons (toldOf (t_resource_Fits p1 (s_resource_Add p0 p1)) (congrArg (fun b => Rs.ret (.bool b) []) h2)) (Told.cons (toldOf (t_resource_Fits p2 p0) (congrArg (fun b => Rs.ret (.bool b) []) h3)) Told.nil))))) (by kernel_rfl)
theorem t_law02_ResourceBalance_15 (p0 : Resources) (p1 : Resources) (p2 : Resources) (h0 : (decide ((s_resource_Add p0 p1).cPU < 1000000000000000)) = false) (h1 : (s_resource_Fits p0 (s_resource_Add p0 p1)) = true) (h2 : (s_resource_Fits p1 (s_resource_Add p0 p1)) = false) : Tells G (c_law02_ResourceBalance p0 p1 p2) (.ret (.bool false) []) :=
  tells_V (fn := Ir.law02_ResourceBalance) rfl VOK.nil (hs := [(11, (bE false, []))]) (as := [⟨a_resource_Add p0 p1, []⟩, ⟨.ret (.bool true) [], []⟩, ⟨.ret (.bool true) [], []⟩, ⟨.ret (.bool false) [], []⟩]) (Met.cons (dec (decide ((s_resource_Add p0 p1).cPU < 1000000000000000)) false h0) Met.nil) (Told.cons (t_resource_Add p0 p1) (Told.cons t_law02_lives (Told.cons (toldOf (t_resource_Fits p0 (s_resource_Add p0 p1)) (congrArg (fun b => Rs.ret (.bool b) []) h1)) (Told.cons (toldOf (t_resource_Fits p1 (s_resource_Add p0 p1)) (congrArg (fun b => Rs.ret (.bool b) []) h2)) Told.nil)))) (by kernel_rfl)
theorem t_law02_ResourceBalance_16 (p0 : Resources) (p1 : Resources) (p2 : Resources) (h0 : (decide ((s_resource_Add p0 p1).cPU < 1000000000000000)) = false) (h1 : (s_resource_Fits p0 (s_resource_Add p0 p1)) = false) : Tells G (c_law02_ResourceBalance p0 p1 p2) (.ret (.bool false) []) :=
  tells_V (fn := Ir.law02_ResourceBalance) rfl VOK.nil (hs := [(11, (bE false, []))]) (as := [⟨a_resource_Add p0 p1, []⟩, ⟨.ret (.bool true) [], []⟩, ⟨.ret (.bool false) [], []⟩]) (Met.cons (dec (decide ((s_resource_Add p0 p1).cPU < 1000000000000000)) false h0) Met.nil) (Told.cons (t_resource_Add p0 p1) (Told.cons t_law02_lives (Told.cons (toldOf (t_resource_Fits p0 (s_resource_Add p0 p1)) (congrArg (fun b => Rs.ret (.bool b) []) h1)) Told.nil))) (by kernel_rfl)
theorem t_law02_ResourceBalance (p0 : Resources) (p1 : Resources) (p2 : Resources) : Tells G (c_law02_ResourceBalance p0 p1 p2) (a_law02_ResourceBalance p0 p1 p2) := by
  unfold a_law02_ResourceBalance s_law02_ResourceBalance
  cases h0 : (decide ((s_resource_Add p0 p1).cPU < 1000000000000000)) with
  | true =>
    cases h1 : (decide ((s_resource_Add p0 p1).memory < 1000000000000000)) with
    | true =>
      cases h2 : (decide ((s_resource_Add p0 p1).disk < 1000000000000000)) with
      | true =>
        cases h3 : (((s_resource_Sub (s_resource_Add p0 p1) p1).cPU == (s_resource_Add p0 (Resources.mk 0 0 0)).cPU) && (((s_resource_Sub (s_resource_Add p0 p1) p1).memory == (s_resource_Add p0 (Resources.mk 0 0 0)).memory) && (((s_resource_Sub (s_resource_Add p0 p1) p1).disk == (s_resource_Add p0 (Resources.mk 0 0 0)).disk) && true))) with
        | true =>
          cases h4 : (s_resource_Fits p0 (s_resource_Add p0 p1)) with
          | true =>
            cases h5 : (s_resource_Fits p1 (s_resource_Add p0 p1)) with
            | true =>
              cases h6 : (s_resource_Fits p2 p0) with
              | true =>
                exact t_law02_ResourceBalance_0 p0 p1 p2 h0 h1 h2 h3 h4 h5 h6
              | false =>
                exact t_law02_ResourceBalance_1 p0 p1 p2 h0 h1 h2 h3 h4 h5 h6
            | false =>
              exact t_law02_ResourceBalance_2 p0 p1 p2 h0 h1 h2 h3 h4 h5
          | false =>
            exact t_law02_ResourceBalance_3 p0 p1 p2 h0 h1 h2 h3 h4
        | false =>
          exact t_law02_ResourceBalance_4 p0 p1 p2 h0 h1 h2 h3
      | false =>
        cases h3 : (s_resource_Fits p0 (s_resource_Add p0 p1)) with
        | true =>
          cases h4 : (s_resource_Fits p1 (s_resource_Add p0 p1)) with
          | true =>
            cases h5 : (s_resource_Fits p2 p0) with
            | true =>
              exact t_law02_ResourceBalance_5 p0 p1 p2 h0 h1 h2 h3 h4 h5
            | false =>
              exact t_law02_ResourceBalance_6 p0 p1 p2 h0 h1 h2 h3 h4 h5
          | false =>
            exact t_law02_ResourceBalance_7 p0 p1 p2 h0 h1 h2 h3 h4
        | false =>
          exact t_law02_ResourceBalance_8 p0 p1 p2 h0 h1 h2 h3
    | false =>
      cases h2 : (s_resource_Fits p0 (s_resource_Add p0 p1)) with
      | true =>
        cases h3 : (s_resource_Fits p1 (s_resource_Add p0 p1)) with
        | true =>
          cases h4 : (s_resource_Fits p2 p0) with
          | true =>
            exact t_law02_ResourceBalance_9 p0 p1 p2 h0 h1 h2 h3 h4
          | false =>
            exact t_law02_ResourceBalance_10 p0 p1 p2 h0 h1 h2 h3 h4
        | false =>
          exact t_law02_ResourceBalance_11 p0 p1 p2 h0 h1 h2 h3
      | false =>
        exact t_law02_ResourceBalance_12 p0 p1 p2 h0 h1 h2
  | false =>
    cases h1 : (s_resource_Fits p0 (s_resource_Add p0 p1)) with
    | true =>
      cases h2 : (s_resource_Fits p1 (s_resource_Add p0 p1)) with
      | true =>
        cases h3 : (s_resource_Fits p2 p0) with
        | true =>
          exact t_law02_ResourceBalance_13 p0 p1 p2 h0 h1 h2 h3
        | false =>
          exact t_law02_ResourceBalance_14 p0 p1 p2 h0 h1 h2 h3
      | false =>
        exact t_law02_ResourceBalance_15 p0 p1 p2 h0 h1 h2
    | false =>
      exact t_law02_ResourceBalance_16 p0 p1 p2 h0 h1

def tysResourceBalance : List Ty := [Resources_ty, Resources_ty, Resources_ty]
theorem pureResourceBalance (hp : ∀ (p0 : Resources) (p1 : Resources) (p2 : Resources), Resources_ok p0 → Resources_ok p1 → Resources_ok p2 → s_law02_ResourceBalance p0 p1 p2 = true) : ∀ qs, Args Γ tysResourceBalance qs → ∃ n, runs G n (.call 5 qs []) = some (.ret (.bool true) []) := by
  intro qs h
  cases qs with
  | nil => cases h
  | cons q0 qs =>
  obtain ⟨h0, h⟩ := h
  cases qs with
  | nil => cases h
  | cons q1 qs =>
  obtain ⟨h1, h⟩ := h
  cases qs with
  | nil => cases h
  | cons q2 qs =>
  obtain ⟨h2, h⟩ := h
  cases qs with
  | cons _ _ => cases h
  | nil =>
  obtain ⟨c0, rfl, g0⟩ := h0.agg rfl
  obtain ⟨p0, rfl, k0⟩ := (Resources_open g0)
  obtain ⟨c1, rfl, g1⟩ := h1.agg rfl
  obtain ⟨p1, rfl, k1⟩ := (Resources_open g1)
  obtain ⟨c2, rfl, g2⟩ := h2.agg rfl
  obtain ⟨p2, rfl, k2⟩ := (Resources_open g2)
  have e := hp p0 p1 p2 k0 k1 k2
  have t := t_law02_ResourceBalance p0 p1 p2
  unfold a_law02_ResourceBalance at t
  rw [e] at t
  exact t

/-- orchestrator/ orchestratorlaw02.ResourceAdds -/
def s_law02_ResourceAdds (p0 : Resources) (p1 : Resources) (p2 : Resources) : Bool :=
  bif (decide ((s_resource_Add p0 p1).cPU < 0)) then
    false
  else
    bif (decide (1000000000000000 < (s_resource_Add p0 p1).cPU)) then
      false
    else
      bif (decide ((s_resource_Add p0 p1).memory < 0)) then
        false
      else
        bif (decide (1000000000000000 < (s_resource_Add p0 p1).memory)) then
          false
        else
          bif (decide ((s_resource_Add p0 p1).disk < 0)) then
            false
          else
            bif (decide (1000000000000000 < (s_resource_Add p0 p1).disk)) then
              false
            else
              bif (((s_resource_Add p0 p1).cPU == (s_resource_Add p1 p0).cPU) && (((s_resource_Add p0 p1).memory == (s_resource_Add p1 p0).memory) && (((s_resource_Add p0 p1).disk == (s_resource_Add p1 p0).disk) && true))) then
                bif (((s_resource_Add (s_resource_Add p0 p1) p2).cPU == (s_resource_Add p0 (s_resource_Add p1 p2)).cPU) && (((s_resource_Add (s_resource_Add p0 p1) p2).memory == (s_resource_Add p0 (s_resource_Add p1 p2)).memory) && (((s_resource_Add (s_resource_Add p0 p1) p2).disk == (s_resource_Add p0 (s_resource_Add p1 p2)).disk) && true))) then
                  (((s_resource_Add (s_resource_Add p0 p1) (Resources.mk 0 0 0)).cPU == (s_resource_Add p0 p1).cPU) && (((s_resource_Add (s_resource_Add p0 p1) (Resources.mk 0 0 0)).memory == (s_resource_Add p0 p1).memory) && (((s_resource_Add (s_resource_Add p0 p1) (Resources.mk 0 0 0)).disk == (s_resource_Add p0 p1).disk) && true)))
                else
                  false
              else
                false
def c_law02_ResourceAdds (p0 : Resources) (p1 : Resources) (p2 : Resources) : En := .call 6 [.agg (Resources.cells p0), .agg (Resources.cells p1), .agg (Resources.cells p2)] []
def a_law02_ResourceAdds (p0 : Resources) (p1 : Resources) (p2 : Resources) : Rs := .ret (.bool (s_law02_ResourceAdds p0 p1 p2)) []
theorem t_law02_ResourceAdds_0 (p0 : Resources) (p1 : Resources) (p2 : Resources) (h0 : (decide ((s_resource_Add p0 p1).cPU < 0)) = true) : Tells G (c_law02_ResourceAdds p0 p1 p2) (.ret (.bool false) []) :=
  tells_V (fn := Ir.law02_ResourceAdds) rfl VOK.nil (hs := [(11, (bE true, []))]) (as := [⟨a_resource_Add p0 p1, []⟩]) (Met.cons (dec (decide ((s_resource_Add p0 p1).cPU < 0)) true h0) Met.nil) (Told.cons (t_resource_Add p0 p1) Told.nil) (by kernel_rfl)
theorem t_law02_ResourceAdds_1 (p0 : Resources) (p1 : Resources) (p2 : Resources) (h0 : (decide ((s_resource_Add p0 p1).cPU < 0)) = false) (h1 : (decide (1000000000000000 < (s_resource_Add p0 p1).cPU)) = true) : Tells G (c_law02_ResourceAdds p0 p1 p2) (.ret (.bool false) []) :=
  tells_V (fn := Ir.law02_ResourceAdds) rfl VOK.nil (hs := [(11, (bE false, [])), (3, (bE true, []))]) (as := [⟨a_resource_Add p0 p1, []⟩]) (Met.cons (dec (decide ((s_resource_Add p0 p1).cPU < 0)) false h0) (Met.cons (dec (decide (1000000000000000 < (s_resource_Add p0 p1).cPU)) true h1) Met.nil)) (Told.cons (t_resource_Add p0 p1) Told.nil) (by kernel_rfl)
theorem t_law02_ResourceAdds_2 (p0 : Resources) (p1 : Resources) (p2 : Resources) (h0 : (decide ((s_resource_Add p0 p1).cPU < 0)) = false) (h1 : (decide (1000000000000000 < (s_resource_Add p0 p1).cPU)) = false) (h2 : (decide ((s_resource_Add p0 p1).memory < 0)) = true) : Tells G (c_law02_ResourceAdds p0 p1 p2) (.ret (.bool false) []) :=
  tells_V (fn := Ir.law02_ResourceAdds) rfl VOK.nil (hs := [(11, (bE false, [])), (3, (bE false, [])), (4, (bE true, []))]) (as := [⟨a_resource_Add p0 p1, []⟩]) (Met.cons (dec (decide ((s_resource_Add p0 p1).cPU < 0)) false h0) (Met.cons (dec (decide (1000000000000000 < (s_resource_Add p0 p1).cPU)) false h1) (Met.cons (dec (decide ((s_resource_Add p0 p1).memory < 0)) true h2) Met.nil))) (Told.cons (t_resource_Add p0 p1) Told.nil) (by kernel_rfl)
theorem t_law02_ResourceAdds_3 (p0 : Resources) (p1 : Resources) (p2 : Resources) (h0 : (decide ((s_resource_Add p0 p1).cPU < 0)) = false) (h1 : (decide (1000000000000000 < (s_resource_Add p0 p1).cPU)) = false) (h2 : (decide ((s_resource_Add p0 p1).memory < 0)) = false) (h3 : (decide (1000000000000000 < (s_resource_Add p0 p1).memory)) = true) : Tells G (c_law02_ResourceAdds p0 p1 p2) (.ret (.bool false) []) :=
  tells_V (fn := Ir.law02_ResourceAdds) rfl VOK.nil (hs := [(11, (bE false, [])), (3, (bE false, [])), (4, (bE false, [])), (4, (bE true, []))]) (as := [⟨a_resource_Add p0 p1, []⟩]) (Met.cons (dec (decide ((s_resource_Add p0 p1).cPU < 0)) false h0) (Met.cons (dec (decide (1000000000000000 < (s_resource_Add p0 p1).cPU)) false h1) (Met.cons (dec (decide ((s_resource_Add p0 p1).memory < 0)) false h2) (Met.cons (dec (decide (1000000000000000 < (s_resource_Add p0 p1).memory)) true h3) Met.nil)))) (Told.cons (t_resource_Add p0 p1) Told.nil) (by kernel_rfl)
theorem t_law02_ResourceAdds_4 (p0 : Resources) (p1 : Resources) (p2 : Resources) (h0 : (decide ((s_resource_Add p0 p1).cPU < 0)) = false) (h1 : (decide (1000000000000000 < (s_resource_Add p0 p1).cPU)) = false) (h2 : (decide ((s_resource_Add p0 p1).memory < 0)) = false) (h3 : (decide (1000000000000000 < (s_resource_Add p0 p1).memory)) = false) (h4 : (decide ((s_resource_Add p0 p1).disk < 0)) = true) : Tells G (c_law02_ResourceAdds p0 p1 p2) (.ret (.bool false) []) :=
  tells_V (fn := Ir.law02_ResourceAdds) rfl VOK.nil (hs := [(11, (bE false, [])), (3, (bE false, [])), (4, (bE false, [])), (4, (bE false, [])), (4, (bE true, []))]) (as := [⟨a_resource_Add p0 p1, []⟩]) (Met.cons (dec (decide ((s_resource_Add p0 p1).cPU < 0)) false h0) (Met.cons (dec (decide (1000000000000000 < (s_resource_Add p0 p1).cPU)) false h1) (Met.cons (dec (decide ((s_resource_Add p0 p1).memory < 0)) false h2) (Met.cons (dec (decide (1000000000000000 < (s_resource_Add p0 p1).memory)) false h3) (Met.cons (dec (decide ((s_resource_Add p0 p1).disk < 0)) true h4) Met.nil))))) (Told.cons (t_resource_Add p0 p1) Told.nil) (by kernel_rfl)
theorem t_law02_ResourceAdds_5 (p0 : Resources) (p1 : Resources) (p2 : Resources) (h0 : (decide ((s_resource_Add p0 p1).cPU < 0)) = false) (h1 : (decide (1000000000000000 < (s_resource_Add p0 p1).cPU)) = false) (h2 : (decide ((s_resource_Add p0 p1).memory < 0)) = false) (h3 : (decide (1000000000000000 < (s_resource_Add p0 p1).memory)) = false) (h4 : (decide ((s_resource_Add p0 p1).disk < 0)) = false) (h5 : (decide (1000000000000000 < (s_resource_Add p0 p1).disk)) = true) : Tells G (c_law02_ResourceAdds p0 p1 p2) (.ret (.bool false) []) :=
  tells_V (fn := Ir.law02_ResourceAdds) rfl VOK.nil (hs := [(11, (bE false, [])), (3, (bE false, [])), (4, (bE false, [])), (4, (bE false, [])), (4, (bE false, [])), (4, (bE true, []))]) (as := [⟨a_resource_Add p0 p1, []⟩]) (Met.cons (dec (decide ((s_resource_Add p0 p1).cPU < 0)) false h0) (Met.cons (dec (decide (1000000000000000 < (s_resource_Add p0 p1).cPU)) false h1) (Met.cons (dec (decide ((s_resource_Add p0 p1).memory < 0)) false h2) (Met.cons (dec (decide (1000000000000000 < (s_resource_Add p0 p1).memory)) false h3) (Met.cons (dec (decide ((s_resource_Add p0 p1).disk < 0)) false h4) (Met.cons (dec (decide (1000000000000000 < (s_resource_Add p0 p1).disk)) true h5) Met.nil)))))) (Told.cons (t_resource_Add p0 p1) Told.nil) (by kernel_rfl)
theorem t_law02_ResourceAdds_6 (p0 : Resources) (p1 : Resources) (p2 : Resources) (h0 : (decide ((s_resource_Add p0 p1).cPU < 0)) = false) (h1 : (decide (1000000000000000 < (s_resource_Add p0 p1).cPU)) = false) (h2 : (decide ((s_resource_Add p0 p1).memory < 0)) = false) (h3 : (decide (1000000000000000 < (s_resource_Add p0 p1).memory)) = false) (h4 : (decide ((s_resource_Add p0 p1).disk < 0)) = false) (h5 : (decide (1000000000000000 < (s_resource_Add p0 p1).disk)) = false) (h6 : (((s_resource_Add p0 p1).cPU == (s_resource_Add p1 p0).cPU) && (((s_resource_Add p0 p1).memory == (s_resource_Add p1 p0).memory) && (((s_resource_Add p0 p1).disk == (s_resource_Add p1 p0).disk) && true))) = true) (h7 : (((s_resource_Add (s_resource_Add p0 p1) p2).cPU == (s_resource_Add p0 (s_resource_Add p1 p2)).cPU) && (((s_resource_Add (s_resource_Add p0 p1) p2).memory == (s_resource_Add p0 (s_resource_Add p1 p2)).memory) && (((s_resource_Add (s_resource_Add p0 p1) p2).disk == (s_resource_Add p0 (s_resource_Add p1 p2)).disk) && true))) = true) : Tells G (c_law02_ResourceAdds p0 p1 p2) (.ret (.bool (((s_resource_Add (s_resource_Add p0 p1) (Resources.mk 0 0 0)).cPU == (s_resource_Add p0 p1).cPU) && (((s_resource_Add (s_resource_Add p0 p1) (Resources.mk 0 0 0)).memory == (s_resource_Add p0 p1).memory) && (((s_resource_Add (s_resource_Add p0 p1) (Resources.mk 0 0 0)).disk == (s_resource_Add p0 p1).disk) && true)))) []) :=
  tells_V (fn := Ir.law02_ResourceAdds) rfl VOK.nil (hs := [(11, (bE false, [])), (3, (bE false, [])), (4, (bE false, [])), (4, (bE false, [])), (4, (bE false, [])), (4, (bE false, [])), (7, (bE true, [])), (10, (bE true, []))]) (as := [⟨a_resource_Add p0 p1, []⟩, ⟨.ret (.bool true) [], []⟩, ⟨a_resource_Add p1 p0, []⟩, ⟨a_resource_Add (s_resource_Add p0 p1) p2, []⟩, ⟨a_resource_Add p1 p2, []⟩, ⟨a_resource_Add p0 (s_resource_Add p1 p2), []⟩, ⟨a_resource_Add (s_resource_Add p0 p1) (Resources.mk 0 0 0), []⟩]) (Met.cons (dec (decide ((s_resource_Add p0 p1).cPU < 0)) false h0) (Met.cons (dec (decide (1000000000000000 < (s_resource_Add p0 p1).cPU)) false h1) (Met.cons (dec (decide ((s_resource_Add p0 p1).memory < 0)) false h2) (Met.cons (dec (decide (1000000000000000 < (s_resource_Add p0 p1).memory)) false h3) (Met.cons (dec (decide ((s_resource_Add p0 p1).disk < 0)) false h4) (Met.cons (dec (decide (1000000000000000 < (s_resource_Add p0 p1).disk)) false h5) (Met.cons (dec (((s_resource_Add p0 p1).cPU == (s_resource_Add p1 p0).cPU) && (((s_resource_Add p0 p1).memory == (s_resource_Add p1 p0).memory) && (((s_resource_Add p0 p1).disk == (s_resource_Add p1 p0).disk) && true))) true h6) (Met.cons (dec (((s_resource_Add (s_resource_Add p0 p1) p2).cPU == (s_resource_Add p0 (s_resource_Add p1 p2)).cPU) && (((s_resource_Add (s_resource_Add p0 p1) p2).memory == (s_resource_Add p0 (s_resource_Add p1 p2)).memory) && (((s_resource_Add (s_resource_Add p0 p1) p2).disk == (s_resource_Add p0 (s_resource_Add p1 p2)).disk) && true))) true h7) Met.nil)))))))) (Told.cons (t_resource_Add p0 p1) (Told.cons t_law02_lives (Told.cons (t_resource_Add p1 p0) (Told.cons (t_resource_Add (s_resource_Add p0 p1) p2) (Told.cons (t_resource_Add p1 p2) (Told.cons (t_resource_Add p0 (s_resource_Add p1 p2)) (Told.cons (t_resource_Add (s_resource_Add p0 p1) (Resources.mk 0 0 0)) Told.nil))))))) (by kernel_rfl)
theorem t_law02_ResourceAdds_7 (p0 : Resources) (p1 : Resources) (p2 : Resources) (h0 : (decide ((s_resource_Add p0 p1).cPU < 0)) = false) (h1 : (decide (1000000000000000 < (s_resource_Add p0 p1).cPU)) = false) (h2 : (decide ((s_resource_Add p0 p1).memory < 0)) = false) (h3 : (decide (1000000000000000 < (s_resource_Add p0 p1).memory)) = false) (h4 : (decide ((s_resource_Add p0 p1).disk < 0)) = false) (h5 : (decide (1000000000000000 < (s_resource_Add p0 p1).disk)) = false) (h6 : (((s_resource_Add p0 p1).cPU == (s_resource_Add p1 p0).cPU) && (((s_resource_Add p0 p1).memory == (s_resource_Add p1 p0).memory) && (((s_resource_Add p0 p1).disk == (s_resource_Add p1 p0).disk) && true))) = true) (h7 : (((s_resource_Add (s_resource_Add p0 p1) p2).cPU == (s_resource_Add p0 (s_resource_Add p1 p2)).cPU) && (((s_resource_Add (s_resource_Add p0 p1) p2).memory == (s_resource_Add p0 (s_resource_Add p1 p2)).memory) && (((s_resource_Add (s_resource_Add p0 p1) p2).disk == (s_resource_Add p0 (s_resource_Add p1 p2)).disk) && true))) = false) : Tells G (c_law02_ResourceAdds p0 p1 p2) (.ret (.bool false) []) :=
  tells_V (fn := Ir.law02_ResourceAdds) rfl VOK.nil (hs := [(11, (bE false, [])), (3, (bE false, [])), (4, (bE false, [])), (4, (bE false, [])), (4, (bE false, [])), (4, (bE false, [])), (7, (bE true, [])), (10, (bE false, []))]) (as := [⟨a_resource_Add p0 p1, []⟩, ⟨.ret (.bool true) [], []⟩, ⟨a_resource_Add p1 p0, []⟩, ⟨a_resource_Add (s_resource_Add p0 p1) p2, []⟩, ⟨a_resource_Add p1 p2, []⟩, ⟨a_resource_Add p0 (s_resource_Add p1 p2), []⟩]) (Met.cons (dec (decide ((s_resource_Add p0 p1).cPU < 0)) false h0) (Met.cons (dec (decide (1000000000000000 < (s_resource_Add p0 p1).cPU)) false h1) (Met.cons (dec (decide ((s_resource_Add p0 p1).memory < 0)) false h2) (Met.cons (dec (decide (1000000000000000 < (s_resource_Add p0 p1).memory)) false h3) (Met.cons (dec (decide ((s_resource_Add p0 p1).disk < 0)) false h4) (Met.cons (dec (decide (1000000000000000 < (s_resource_Add p0 p1).disk)) false h5) (Met.cons (dec (((s_resource_Add p0 p1).cPU == (s_resource_Add p1 p0).cPU) && (((s_resource_Add p0 p1).memory == (s_resource_Add p1 p0).memory) && (((s_resource_Add p0 p1).disk == (s_resource_Add p1 p0).disk) && true))) true h6) (Met.cons (dec (((s_resource_Add (s_resource_Add p0 p1) p2).cPU == (s_resource_Add p0 (s_resource_Add p1 p2)).cPU) && (((s_resource_Add (s_resource_Add p0 p1) p2).memory == (s_resource_Add p0 (s_resource_Add p1 p2)).memory) && (((s_resource_Add (s_resource_Add p0 p1) p2).disk == (s_resource_Add p0 (s_resource_Add p1 p2)).disk) && true))) false h7) Met.nil)))))))) (Told.cons (t_resource_Add p0 p1) (Told.cons t_law02_lives (Told.cons (t_resource_Add p1 p0) (Told.cons (t_resource_Add (s_resource_Add p0 p1) p2) (Told.cons (t_resource_Add p1 p2) (Told.cons (t_resource_Add p0 (s_resource_Add p1 p2)) Told.nil)))))) (by kernel_rfl)
theorem t_law02_ResourceAdds_8 (p0 : Resources) (p1 : Resources) (p2 : Resources) (h0 : (decide ((s_resource_Add p0 p1).cPU < 0)) = false) (h1 : (decide (1000000000000000 < (s_resource_Add p0 p1).cPU)) = false) (h2 : (decide ((s_resource_Add p0 p1).memory < 0)) = false) (h3 : (decide (1000000000000000 < (s_resource_Add p0 p1).memory)) = false) (h4 : (decide ((s_resource_Add p0 p1).disk < 0)) = false) (h5 : (decide (1000000000000000 < (s_resource_Add p0 p1).disk)) = false) (h6 : (((s_resource_Add p0 p1).cPU == (s_resource_Add p1 p0).cPU) && (((s_resource_Add p0 p1).memory == (s_resource_Add p1 p0).memory) && (((s_resource_Add p0 p1).disk == (s_resource_Add p1 p0).disk) && true))) = false) : Tells G (c_law02_ResourceAdds p0 p1 p2) (.ret (.bool false) []) :=
  tells_V (fn := Ir.law02_ResourceAdds) rfl VOK.nil (hs := [(11, (bE false, [])), (3, (bE false, [])), (4, (bE false, [])), (4, (bE false, [])), (4, (bE false, [])), (4, (bE false, [])), (7, (bE false, []))]) (as := [⟨a_resource_Add p0 p1, []⟩, ⟨.ret (.bool true) [], []⟩, ⟨a_resource_Add p1 p0, []⟩]) (Met.cons (dec (decide ((s_resource_Add p0 p1).cPU < 0)) false h0) (Met.cons (dec (decide (1000000000000000 < (s_resource_Add p0 p1).cPU)) false h1) (Met.cons (dec (decide ((s_resource_Add p0 p1).memory < 0)) false h2) (Met.cons (dec (decide (1000000000000000 < (s_resource_Add p0 p1).memory)) false h3) (Met.cons (dec (decide ((s_resource_Add p0 p1).disk < 0)) false h4) (Met.cons (dec (decide (1000000000000000 < (s_resource_Add p0 p1).disk)) false h5) (Met.cons (dec (((s_resource_Add p0 p1).cPU == (s_resource_Add p1 p0).cPU) && (((s_resource_Add p0 p1).memory == (s_resource_Add p1 p0).memory) && (((s_resource_Add p0 p1).disk == (s_resource_Add p1 p0).disk) && true))) false h6) Met.nil))))))) (Told.cons (t_resource_Add p0 p1) (Told.cons t_law02_lives (Told.cons (t_resource_Add p1 p0) Told.nil))) (by kernel_rfl)
theorem t_law02_ResourceAdds (p0 : Resources) (p1 : Resources) (p2 : Resources) : Tells G (c_law02_ResourceAdds p0 p1 p2) (a_law02_ResourceAdds p0 p1 p2) := by
  unfold a_law02_ResourceAdds s_law02_ResourceAdds
  cases h0 : (decide ((s_resource_Add p0 p1).cPU < 0)) with
  | true =>
    exact t_law02_ResourceAdds_0 p0 p1 p2 h0
  | false =>
    cases h1 : (decide (1000000000000000 < (s_resource_Add p0 p1).cPU)) with
    | true =>
      exact t_law02_ResourceAdds_1 p0 p1 p2 h0 h1
    | false =>
      cases h2 : (decide ((s_resource_Add p0 p1).memory < 0)) with
      | true =>
        exact t_law02_ResourceAdds_2 p0 p1 p2 h0 h1 h2
      | false =>
        cases h3 : (decide (1000000000000000 < (s_resource_Add p0 p1).memory)) with
        | true =>
          exact t_law02_ResourceAdds_3 p0 p1 p2 h0 h1 h2 h3
        | false =>
          cases h4 : (decide ((s_resource_Add p0 p1).disk < 0)) with
          | true =>
            exact t_law02_ResourceAdds_4 p0 p1 p2 h0 h1 h2 h3 h4
          | false =>
            cases h5 : (decide (1000000000000000 < (s_resource_Add p0 p1).disk)) with
            | true =>
              exact t_law02_ResourceAdds_5 p0 p1 p2 h0 h1 h2 h3 h4 h5
            | false =>
              cases h6 : (((s_resource_Add p0 p1).cPU == (s_resource_Add p1 p0).cPU) && (((s_resource_Add p0 p1).memory == (s_resource_Add p1 p0).memory) && (((s_resource_Add p0 p1).disk == (s_resource_Add p1 p0).disk) && true))) with
              | true =>
                cases h7 : (((s_resource_Add (s_resource_Add p0 p1) p2).cPU == (s_resource_Add p0 (s_resource_Add p1 p2)).cPU) && (((s_resource_Add (s_resource_Add p0 p1) p2).memory == (s_resource_Add p0 (s_resource_Add p1 p2)).memory) && (((s_resource_Add (s_resource_Add p0 p1) p2).disk == (s_resource_Add p0 (s_resource_Add p1 p2)).disk) && true))) with
                | true =>
                  exact t_law02_ResourceAdds_6 p0 p1 p2 h0 h1 h2 h3 h4 h5 h6 h7
                | false =>
                  exact t_law02_ResourceAdds_7 p0 p1 p2 h0 h1 h2 h3 h4 h5 h6 h7
              | false =>
                exact t_law02_ResourceAdds_8 p0 p1 p2 h0 h1 h2 h3 h4 h5 h6

def tysResourceAdds : List Ty := [Resources_ty, Resources_ty, Resources_ty]
theorem pureResourceAdds (hp : ∀ (p0 : Resources) (p1 : Resources) (p2 : Resources), Resources_ok p0 → Resources_ok p1 → Resources_ok p2 → s_law02_ResourceAdds p0 p1 p2 = true) : ∀ qs, Args Γ tysResourceAdds qs → ∃ n, runs G n (.call 6 qs []) = some (.ret (.bool true) []) := by
  intro qs h
  cases qs with
  | nil => cases h
  | cons q0 qs =>
  obtain ⟨h0, h⟩ := h
  cases qs with
  | nil => cases h
  | cons q1 qs =>
  obtain ⟨h1, h⟩ := h
  cases qs with
  | nil => cases h
  | cons q2 qs =>
  obtain ⟨h2, h⟩ := h
  cases qs with
  | cons _ _ => cases h
  | nil =>
  obtain ⟨c0, rfl, g0⟩ := h0.agg rfl
  obtain ⟨p0, rfl, k0⟩ := (Resources_open g0)
  obtain ⟨c1, rfl, g1⟩ := h1.agg rfl
  obtain ⟨p1, rfl, k1⟩ := (Resources_open g1)
  obtain ⟨c2, rfl, g2⟩ := h2.agg rfl
  obtain ⟨p2, rfl, k2⟩ := (Resources_open g2)
  have e := hp p0 p1 p2 k0 k1 k2
  have t := t_law02_ResourceAdds p0 p1 p2
  unfold a_law02_ResourceAdds at t
  rw [e] at t
  exact t

/-- orchestrator/ orchestratorlaw02.ResourceOrder -/
def s_law02_ResourceOrder (p0 : Resources) (p1 : Resources) (p2 : Resources) : Bool :=
  bif (s_resource_Fits p0 p1) then
    bif ((s_resource_Fits p1 p0) == (((s_resource_Add p0 (Resources.mk 0 0 0)).cPU == (s_resource_Add p1 (Resources.mk 0 0 0)).cPU) && (((s_resource_Add p0 (Resources.mk 0 0 0)).memory == (s_resource_Add p1 (Resources.mk 0 0 0)).memory) && (((s_resource_Add p0 (Resources.mk 0 0 0)).disk == (s_resource_Add p1 (Resources.mk 0 0 0)).disk) && true)))) then
      bif (s_resource_Fits p1 p2) then
        bif (s_resource_Fits p0 p2) then
          (true == (((s_resource_Add p0 (s_resource_Sub p1 p0)).cPU == (s_resource_Add p1 (Resources.mk 0 0 0)).cPU) && (((s_resource_Add p0 (s_resource_Sub p1 p0)).memory == (s_resource_Add p1 (Resources.mk 0 0 0)).memory) && (((s_resource_Add p0 (s_resource_Sub p1 p0)).disk == (s_resource_Add p1 (Resources.mk 0 0 0)).disk) && true))))
        else
          false
      else
        (true == (((s_resource_Add p0 (s_resource_Sub p1 p0)).cPU == (s_resource_Add p1 (Resources.mk 0 0 0)).cPU) && (((s_resource_Add p0 (s_resource_Sub p1 p0)).memory == (s_resource_Add p1 (Resources.mk 0 0 0)).memory) && (((s_resource_Add p0 (s_resource_Sub p1 p0)).disk == (s_resource_Add p1 (Resources.mk 0 0 0)).disk) && true))))
    else
      false
  else
    bif (false == (((s_resource_Add p0 (Resources.mk 0 0 0)).cPU == (s_resource_Add p1 (Resources.mk 0 0 0)).cPU) && (((s_resource_Add p0 (Resources.mk 0 0 0)).memory == (s_resource_Add p1 (Resources.mk 0 0 0)).memory) && (((s_resource_Add p0 (Resources.mk 0 0 0)).disk == (s_resource_Add p1 (Resources.mk 0 0 0)).disk) && true)))) then
      (false == (((s_resource_Add p0 (s_resource_Sub p1 p0)).cPU == (s_resource_Add p1 (Resources.mk 0 0 0)).cPU) && (((s_resource_Add p0 (s_resource_Sub p1 p0)).memory == (s_resource_Add p1 (Resources.mk 0 0 0)).memory) && (((s_resource_Add p0 (s_resource_Sub p1 p0)).disk == (s_resource_Add p1 (Resources.mk 0 0 0)).disk) && true))))
    else
      false
def c_law02_ResourceOrder (p0 : Resources) (p1 : Resources) (p2 : Resources) : En := .call 7 [.agg (Resources.cells p0), .agg (Resources.cells p1), .agg (Resources.cells p2)] []
def a_law02_ResourceOrder (p0 : Resources) (p1 : Resources) (p2 : Resources) : Rs := .ret (.bool (s_law02_ResourceOrder p0 p1 p2)) []
theorem t_law02_ResourceOrder (p0 : Resources) (p1 : Resources) (p2 : Resources) : Tells G (c_law02_ResourceOrder p0 p1 p2) (a_law02_ResourceOrder p0 p1 p2) := by
  unfold a_law02_ResourceOrder s_law02_ResourceOrder
  cases h0 : (s_resource_Fits p0 p1) with
  | true =>
    cases h1 : ((s_resource_Fits p1 p0) == (((s_resource_Add p0 (Resources.mk 0 0 0)).cPU == (s_resource_Add p1 (Resources.mk 0 0 0)).cPU) && (((s_resource_Add p0 (Resources.mk 0 0 0)).memory == (s_resource_Add p1 (Resources.mk 0 0 0)).memory) && (((s_resource_Add p0 (Resources.mk 0 0 0)).disk == (s_resource_Add p1 (Resources.mk 0 0 0)).disk) && true)))) with
    | true =>
      cases h2 : (s_resource_Fits p1 p2) with
      | true =>
        cases h3 : (s_resource_Fits p0 p2) with
        | true =>
          exact tells_V (fn := Ir.law02_ResourceOrder) rfl VOK.nil (hs := [(25, (bE false, []))]) (as := [⟨a_resource_Add p0 (Resources.mk 0 0 0), []⟩, ⟨a_resource_Add p1 (Resources.mk 0 0 0), []⟩, ⟨.ret (.bool true) [], []⟩, ⟨a_resource_Fits p1 p0, []⟩, ⟨.ret (.bool true) [], []⟩, ⟨.ret (.bool true) [], []⟩, ⟨.ret (.bool true) [], []⟩, ⟨.ret (.bool true) [], []⟩, ⟨.ret (.bool true) [], []⟩, ⟨a_resource_Sub p1 p0, []⟩, ⟨a_resource_Add p0 (s_resource_Sub p1 p0), []⟩]) (Met.cons (dec (!((s_resource_Fits p1 p0) == (((s_resource_Add p0 (Resources.mk 0 0 0)).cPU == (s_resource_Add p1 (Resources.mk 0 0 0)).cPU) && (((s_resource_Add p0 (Resources.mk 0 0 0)).memory == (s_resource_Add p1 (Resources.mk 0 0 0)).memory) && (((s_resource_Add p0 (Resources.mk 0 0 0)).disk == (s_resource_Add p1 (Resources.mk 0 0 0)).disk) && true))))) false (by rw [h1]; rfl)) Met.nil) (Told.cons (t_resource_Add p0 (Resources.mk 0 0 0)) (Told.cons (t_resource_Add p1 (Resources.mk 0 0 0)) (Told.cons (toldOf (t_resource_Fits p0 p1) (congrArg (fun b => Rs.ret (.bool b) []) h0)) (Told.cons (t_resource_Fits p1 p0) (Told.cons (toldOf (t_resource_Fits p0 p1) (congrArg (fun b => Rs.ret (.bool b) []) h0)) (Told.cons (toldOf (t_resource_Fits p1 p2) (congrArg (fun b => Rs.ret (.bool b) []) h2)) (Told.cons (toldOf (t_resource_Fits p0 p2) (congrArg (fun b => Rs.ret (.bool b) []) h3)) (Told.cons t_law02_lives (Told.cons (toldOf (t_resource_Fits p0 p1) (congrArg (fun b => Rs.ret (.bool b) []) h0)) (Told.cons (t_resource_Sub p1 p0) (Told.cons (t_resource_Add p0 (s_resource_Sub p1 p0)) Told.nil))))))))))) (by kernel_rfl)
        | false =>
          exact tells_V (fn := Ir.law02_ResourceOrder) rfl VOK.nil (hs := [(25, (bE false, []))]) (as := [⟨a_resource_Add p0 (Resources.mk 0 0 0), []⟩, ⟨a_resource_Add p1 (Resources.mk 0 0 0), []⟩, ⟨.ret (.bool true) [], []⟩, ⟨a_resource_Fits p1 p0, []⟩, ⟨.ret (.bool true) [], []⟩, ⟨.ret (.bool true) [], []⟩, ⟨.ret (.bool false) [], []⟩]) (Met.cons (dec (!((s_resource_Fits p1 p0) == (((s_resource_Add p0 (Resources.mk 0 0 0)).cPU == (s_resource_Add p1 (Resources.mk 0 0 0)).cPU) && (((s_resource_Add p0 (Resources.mk 0 0 0)).memory == (s_resource_Add p1 (Resources.mk 0 0 0)).memory) && (((s_resource_Add p0 (Resources.mk 0 0 0)).disk == (s_resource_Add p1 (Resources.mk 0 0 0)).disk) && true))))) false (by rw [h1]; rfl)) Met.nil) (Told.cons (t_resource_Add p0 (Resources.mk 0 0 0)) (Told.cons (t_resource_Add p1 (Resources.mk 0 0 0)) (Told.cons (toldOf (t_resource_Fits p0 p1) (congrArg (fun b => Rs.ret (.bool b) []) h0)) (Told.cons (t_resource_Fits p1 p0) (Told.cons (toldOf (t_resource_Fits p0 p1) (congrArg (fun b => Rs.ret (.bool b) []) h0)) (Told.cons (toldOf (t_resource_Fits p1 p2) (congrArg (fun b => Rs.ret (.bool b) []) h2)) (Told.cons (toldOf (t_resource_Fits p0 p2) (congrArg (fun b => Rs.ret (.bool b) []) h3)) Told.nil))))))) (by kernel_rfl)
      | false =>
        exact tells_V (fn := Ir.law02_ResourceOrder) rfl VOK.nil (hs := [(25, (bE false, []))]) (as := [⟨a_resource_Add p0 (Resources.mk 0 0 0), []⟩, ⟨a_resource_Add p1 (Resources.mk 0 0 0), []⟩, ⟨.ret (.bool true) [], []⟩, ⟨a_resource_Fits p1 p0, []⟩, ⟨.ret (.bool true) [], []⟩, ⟨.ret (.bool false) [], []⟩, ⟨.ret (.bool true) [], []⟩, ⟨.ret (.bool true) [], []⟩, ⟨a_resource_Sub p1 p0, []⟩, ⟨a_resource_Add p0 (s_resource_Sub p1 p0), []⟩]) (Met.cons (dec (!((s_resource_Fits p1 p0) == (((s_resource_Add p0 (Resources.mk 0 0 0)).cPU == (s_resource_Add p1 (Resources.mk 0 0 0)).cPU) && (((s_resource_Add p0 (Resources.mk 0 0 0)).memory == (s_resource_Add p1 (Resources.mk 0 0 0)).memory) && (((s_resource_Add p0 (Resources.mk 0 0 0)).disk == (s_resource_Add p1 (Resources.mk 0 0 0)).disk) && true))))) false (by rw [h1]; rfl)) Met.nil) (Told.cons (t_resource_Add p0 (Resources.mk 0 0 0)) (Told.cons (t_resource_Add p1 (Resources.mk 0 0 0)) (Told.cons (toldOf (t_resource_Fits p0 p1) (congrArg (fun b => Rs.ret (.bool b) []) h0)) (Told.cons (t_resource_Fits p1 p0) (Told.cons (toldOf (t_resource_Fits p0 p1) (congrArg (fun b => Rs.ret (.bool b) []) h0)) (Told.cons (toldOf (t_resource_Fits p1 p2) (congrArg (fun b => Rs.ret (.bool b) []) h2)) (Told.cons t_law02_lives (Told.cons (toldOf (t_resource_Fits p0 p1) (congrArg (fun b => Rs.ret (.bool b) []) h0)) (Told.cons (t_resource_Sub p1 p0) (Told.cons (t_resource_Add p0 (s_resource_Sub p1 p0)) Told.nil)))))))))) (by kernel_rfl)
    | false =>
      exact tells_V (fn := Ir.law02_ResourceOrder) rfl VOK.nil (hs := [(25, (bE true, []))]) (as := [⟨a_resource_Add p0 (Resources.mk 0 0 0), []⟩, ⟨a_resource_Add p1 (Resources.mk 0 0 0), []⟩, ⟨.ret (.bool true) [], []⟩, ⟨a_resource_Fits p1 p0, []⟩]) (Met.cons (dec (!((s_resource_Fits p1 p0) == (((s_resource_Add p0 (Resources.mk 0 0 0)).cPU == (s_resource_Add p1 (Resources.mk 0 0 0)).cPU) && (((s_resource_Add p0 (Resources.mk 0 0 0)).memory == (s_resource_Add p1 (Resources.mk 0 0 0)).memory) && (((s_resource_Add p0 (Resources.mk 0 0 0)).disk == (s_resource_Add p1 (Resources.mk 0 0 0)).disk) && true))))) true (by rw [h1]; rfl)) Met.nil) (Told.cons (t_resource_Add p0 (Resources.mk 0 0 0)) (Told.cons (t_resource_Add p1 (Resources.mk 0 0 0)) (Told.cons (toldOf (t_resource_Fits p0 p1) (congrArg (fun b => Rs.ret (.bool b) []) h0)) (Told.cons (t_resource_Fits p1 p0) Told.nil)))) (by kernel_rfl)
  | false =>
    cases h1 : (false == (((s_resource_Add p0 (Resources.mk 0 0 0)).cPU == (s_resource_Add p1 (Resources.mk 0 0 0)).cPU) && (((s_resource_Add p0 (Resources.mk 0 0 0)).memory == (s_resource_Add p1 (Resources.mk 0 0 0)).memory) && (((s_resource_Add p0 (Resources.mk 0 0 0)).disk == (s_resource_Add p1 (Resources.mk 0 0 0)).disk) && true)))) with
    | true =>
      exact tells_V (fn := Ir.law02_ResourceOrder) rfl VOK.nil (hs := [(25, (bE false, []))]) (as := [⟨a_resource_Add p0 (Resources.mk 0 0 0), []⟩, ⟨a_resource_Add p1 (Resources.mk 0 0 0), []⟩, ⟨.ret (.bool false) [], []⟩, ⟨.ret (.bool false) [], []⟩, ⟨.ret (.bool true) [], []⟩, ⟨.ret (.bool false) [], []⟩, ⟨a_resource_Sub p1 p0, []⟩, ⟨a_resource_Add p0 (s_resource_Sub p1 p0), []⟩]) (Met.cons (dec (!(false == (((s_resource_Add p0 (Resources.mk 0 0 0)).cPU == (s_resource_Add p1 (Resources.mk 0 0 0)).cPU) && (((s_resource_Add p0 (Resources.mk 0 0 0)).memory == (s_resource_Add p1 (Resources.mk 0 0 0)).memory) && (((s_resource_Add p0 (Resources.mk 0 0 0)).disk == (s_resource_Add p1 (Resources.mk 0 0 0)).disk) && true))))) false (by rw [h1]; rfl)) Met.nil) (Told.cons (t_resource_Add p0 (Resources.mk 0 0 0)) (Told.cons (t_resource_Add p1 (Resources.mk 0 0 0)) (Told.cons (toldOf (t_resource_Fits p0 p1) (congrArg (fun b => Rs.ret (.bool b) []) h0)) (Told.cons (toldOf (t_resource_Fits p0 p1) (congrArg (fun b => Rs.ret (.bool b) []) h0)) (Told.cons t_law02_lives (Told.cons (toldOf (t_resource_Fits p0 p1) (congrArg (fun b => Rs.ret (.bool b) []) h0)) (Told.cons (t_resource_Sub p1 p0) (Told.cons (t_resource_Add p0 (s_resource_Sub p1 p0)) Told.nil)))))))) (by kernel_rfl)
    | false =>
      exact tells_V (fn := Ir.law02_ResourceOrder) rfl VOK.nil (hs := [(25, (bE true, []))]) (as := [⟨a_resource_Add p0 (Resources.mk 0 0 0), []⟩, ⟨a_resource_Add p1 (Resources.mk 0 0 0), []⟩, ⟨.ret (.bool false) [], []⟩]) (Met.cons (dec (!(false == (((s_resource_Add p0 (Resources.mk 0 0 0)).cPU == (s_resource_Add p1 (Resources.mk 0 0 0)).cPU) && (((s_resource_Add p0 (Resources.mk 0 0 0)).memory == (s_resource_Add p1 (Resources.mk 0 0 0)).memory) && (((s_resource_Add p0 (Resources.mk 0 0 0)).disk == (s_resource_Add p1 (Resources.mk 0 0 0)).disk) && true))))) true (by rw [h1]; rfl)) Met.nil) (Told.cons (t_resource_Add p0 (Resources.mk 0 0 0)) (Told.cons (t_resource_Add p1 (Resources.mk 0 0 0)) (Told.cons (toldOf (t_resource_Fits p0 p1) (congrArg (fun b => Rs.ret (.bool b) []) h0)) Told.nil))) (by kernel_rfl)

def tysResourceOrder : List Ty := [Resources_ty, Resources_ty, Resources_ty]
theorem pureResourceOrder (hp : ∀ (p0 : Resources) (p1 : Resources) (p2 : Resources), Resources_ok p0 → Resources_ok p1 → Resources_ok p2 → s_law02_ResourceOrder p0 p1 p2 = true) : ∀ qs, Args Γ tysResourceOrder qs → ∃ n, runs G n (.call 7 qs []) = some (.ret (.bool true) []) := by
  intro qs h
  cases qs with
  | nil => cases h
  | cons q0 qs =>
  obtain ⟨h0, h⟩ := h
  cases qs with
  | nil => cases h
  | cons q1 qs =>
  obtain ⟨h1, h⟩ := h
  cases qs with
  | nil => cases h
  | cons q2 qs =>
  obtain ⟨h2, h⟩ := h
  cases qs with
  | cons _ _ => cases h
  | nil =>
  obtain ⟨c0, rfl, g0⟩ := h0.agg rfl
  obtain ⟨p0, rfl, k0⟩ := (Resources_open g0)
  obtain ⟨c1, rfl, g1⟩ := h1.agg rfl
  obtain ⟨p1, rfl, k1⟩ := (Resources_open g1)
  obtain ⟨c2, rfl, g2⟩ := h2.agg rfl
  obtain ⟨p2, rfl, k2⟩ := (Resources_open g2)
  have e := hp p0 p1 p2 k0 k1 k2
  have t := t_law02_ResourceOrder p0 p1 p2
  unfold a_law02_ResourceOrder at t
  rw [e] at t
  exact t

end Go.Proofs.Ytpmdkaecfoakkaa
