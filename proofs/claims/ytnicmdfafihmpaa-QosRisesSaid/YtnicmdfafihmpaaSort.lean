/- What sorting computes (printed by a program). -/
import Derived.Test.YtnicmdfafihmpaaIr
import Derived.Test.YtnicmdfafihmpaaPvX10
import Derived.Test.YtnicmdfafihmpaaPvY
import Derived.Test.YtnicmdfafihmpaaPvZ
import Derived.Test.YtnicmdfafihmpaaPvS2
namespace Go.Proofs.Ytnicmdfafihmpaa
open Go.Pv

abbrev G : Nat → Option Fun := tabG Ir.table
abbrev Γ : Nat → Option Ty := fun _ => none

structure Label where
  key : ByteArray
  value : ByteArray
def Label.cells (x : Label) : List PV :=
  [.str x.key, .str x.value]
def Label.rows (l : List Label) : List (List PV) := l.map Label.cells
theorem Label.rowsLen (l : List Label) : (Label.rows l).length = l.length := by simp [Label.rows]
theorem Label.rowsGet {l : List Label} {i : Nat} {x : Label} (h : l[i]? = some x) : (Label.rows l)[i]? = some (Label.cells x) := Go.Pv.rowsGet h
theorem Label.rowsSnoc (l : List Label) (x : Label) : Label.rows (l ++ [x]) = Label.rows l ++ [Label.cells x] := by simp [Label.rows]
theorem Label.rowsApp (l m : List Label) : Label.rows (l ++ m) = Label.rows l ++ Label.rows m := by simp [Label.rows]
theorem Label.rowsSet (l : List Label) (k : Nat) (x : Label) : Label.rows (l.set k x) = (Label.rows l).set k (Label.cells x) := by simp [Label.rows, List.map_set]
theorem Label.rowsTake (l : List Label) (n : Nat) : Label.rows (l.take n) = (Label.rows l).take n := by simp [Label.rows, List.map_take]
theorem Label.rowsDrop (l : List Label) (n : Nat) : Label.rows (l.drop n) = (Label.rows l).drop n := by simp [Label.rows, List.map_drop]
theorem Label.rowsSize (l : List Label) : ∀ r ∈ Label.rows l, r.length = 2 := mapSize (f := Label.cells) (fun _ => rfl) l
theorem Label.rowsView (l : List Label) (sz : Nat) (h : sz = 2) : ViewOK sz (Label.rows l).flatten (Label.rows l) := by subst h; exact ⟨rfl, Label.rowsSize l, mapPlain (f := Label.cells) (fun _ => rfl) l⟩

structure Owner where
  kind : ByteArray
  name : ByteArray
  uid : Int
  controller : Bool
  block : Bool
def Owner.cells (x : Owner) : List PV :=
  [.str x.kind, .str x.name, .int .i64 x.uid, .bool x.controller, .bool x.block]
def Owner.rows (l : List Owner) : List (List PV) := l.map Owner.cells
theorem Owner.rowsLen (l : List Owner) : (Owner.rows l).length = l.length := by simp [Owner.rows]
theorem Owner.rowsGet {l : List Owner} {i : Nat} {x : Owner} (h : l[i]? = some x) : (Owner.rows l)[i]? = some (Owner.cells x) := Go.Pv.rowsGet h
theorem Owner.rowsSnoc (l : List Owner) (x : Owner) : Owner.rows (l ++ [x]) = Owner.rows l ++ [Owner.cells x] := by simp [Owner.rows]
theorem Owner.rowsApp (l m : List Owner) : Owner.rows (l ++ m) = Owner.rows l ++ Owner.rows m := by simp [Owner.rows]
theorem Owner.rowsSet (l : List Owner) (k : Nat) (x : Owner) : Owner.rows (l.set k x) = (Owner.rows l).set k (Owner.cells x) := by simp [Owner.rows, List.map_set]
theorem Owner.rowsTake (l : List Owner) (n : Nat) : Owner.rows (l.take n) = (Owner.rows l).take n := by simp [Owner.rows, List.map_take]
theorem Owner.rowsDrop (l : List Owner) (n : Nat) : Owner.rows (l.drop n) = (Owner.rows l).drop n := by simp [Owner.rows, List.map_drop]
theorem Owner.rowsSize (l : List Owner) : ∀ r ∈ Owner.rows l, r.length = 5 := mapSize (f := Owner.cells) (fun _ => rfl) l
theorem Owner.rowsView (l : List Owner) (sz : Nat) (h : sz = 5) : ViewOK sz (Owner.rows l).flatten (Owner.rows l) := by subst h; exact ⟨rfl, Owner.rowsSize l, mapPlain (f := Owner.cells) (fun _ => rfl) l⟩

structure Manager where
  name : ByteArray
  fields : List ByteArray
def Manager.cells (x : Manager) : List PV :=
  [.str x.name, .sl (strRows x.fields)]
def Manager.rows (l : List Manager) : List (List PV) := l.map Manager.cells
theorem Manager.rowsLen (l : List Manager) : (Manager.rows l).length = l.length := by simp [Manager.rows]
theorem Manager.rowsGet {l : List Manager} {i : Nat} {x : Manager} (h : l[i]? = some x) : (Manager.rows l)[i]? = some (Manager.cells x) := Go.Pv.rowsGet h
theorem Manager.rowsSnoc (l : List Manager) (x : Manager) : Manager.rows (l ++ [x]) = Manager.rows l ++ [Manager.cells x] := by simp [Manager.rows]
theorem Manager.rowsApp (l m : List Manager) : Manager.rows (l ++ m) = Manager.rows l ++ Manager.rows m := by simp [Manager.rows]
theorem Manager.rowsSet (l : List Manager) (k : Nat) (x : Manager) : Manager.rows (l.set k x) = (Manager.rows l).set k (Manager.cells x) := by simp [Manager.rows, List.map_set]
theorem Manager.rowsTake (l : List Manager) (n : Nat) : Manager.rows (l.take n) = (Manager.rows l).take n := by simp [Manager.rows, List.map_take]
theorem Manager.rowsDrop (l : List Manager) (n : Nat) : Manager.rows (l.drop n) = (Manager.rows l).drop n := by simp [Manager.rows, List.map_drop]
theorem Manager.rowsSize (l : List Manager) : ∀ r ∈ Manager.rows l, r.length = 2 := mapSize (f := Manager.cells) (fun _ => rfl) l
theorem Manager.rowsView (l : List Manager) (sz : Nat) (h : sz = 2) : ViewOK sz (Manager.rows l).flatten (Manager.rows l) := by subst h; exact ⟨rfl, Manager.rowsSize l, mapPlain (f := Manager.cells) (fun _ => rfl) l⟩

structure Meta where
  kind : ByteArray
  namespace_ : ByteArray
  name : ByteArray
  uid : Int
  version : Int
  generation : Int
  created : Int
  deleting : Bool
  deleteAt : Int
  labels : List Label
  owners : List Owner
  finalizers : List ByteArray
  managers : List Manager
def Meta.cells (x : Meta) : List PV :=
  [.str x.kind, .str x.namespace_, .str x.name, .int .i64 x.uid, .int .i64 x.version, .int .i64 x.generation, .int .i64 x.created, .bool x.deleting, .int .i64 x.deleteAt, .sl (Label.rows x.labels), .sl (Owner.rows x.owners), .sl (strRows x.finalizers), .sl (Manager.rows x.managers)]
def Meta.rows (l : List Meta) : List (List PV) := l.map Meta.cells
theorem Meta.rowsLen (l : List Meta) : (Meta.rows l).length = l.length := by simp [Meta.rows]
theorem Meta.rowsGet {l : List Meta} {i : Nat} {x : Meta} (h : l[i]? = some x) : (Meta.rows l)[i]? = some (Meta.cells x) := Go.Pv.rowsGet h
theorem Meta.rowsSnoc (l : List Meta) (x : Meta) : Meta.rows (l ++ [x]) = Meta.rows l ++ [Meta.cells x] := by simp [Meta.rows]
theorem Meta.rowsApp (l m : List Meta) : Meta.rows (l ++ m) = Meta.rows l ++ Meta.rows m := by simp [Meta.rows]
theorem Meta.rowsSet (l : List Meta) (k : Nat) (x : Meta) : Meta.rows (l.set k x) = (Meta.rows l).set k (Meta.cells x) := by simp [Meta.rows, List.map_set]
theorem Meta.rowsTake (l : List Meta) (n : Nat) : Meta.rows (l.take n) = (Meta.rows l).take n := by simp [Meta.rows, List.map_take]
theorem Meta.rowsDrop (l : List Meta) (n : Nat) : Meta.rows (l.drop n) = (Meta.rows l).drop n := by simp [Meta.rows, List.map_drop]
theorem Meta.rowsSize (l : List Meta) : ∀ r ∈ Meta.rows l, r.length = 13 := mapSize (f := Meta.cells) (fun _ => rfl) l
theorem Meta.rowsView (l : List Meta) (sz : Nat) (h : sz = 13) : ViewOK sz (Meta.rows l).flatten (Meta.rows l) := by subst h; exact ⟨rfl, Meta.rowsSize l, mapPlain (f := Meta.cells) (fun _ => rfl) l⟩

structure Resources where
  cPU : Int
  memory : Int
  disk : Int
def Resources.cells (x : Resources) : List PV :=
  [.int .i64 x.cPU, .int .i64 x.memory, .int .i64 x.disk]
def Resources.rows (l : List Resources) : List (List PV) := l.map Resources.cells
theorem Resources.rowsLen (l : List Resources) : (Resources.rows l).length = l.length := by simp [Resources.rows]
theorem Resources.rowsGet {l : List Resources} {i : Nat} {x : Resources} (h : l[i]? = some x) : (Resources.rows l)[i]? = some (Resources.cells x) := Go.Pv.rowsGet h
theorem Resources.rowsSnoc (l : List Resources) (x : Resources) : Resources.rows (l ++ [x]) = Resources.rows l ++ [Resources.cells x] := by simp [Resources.rows]
theorem Resources.rowsApp (l m : List Resources) : Resources.rows (l ++ m) = Resources.rows l ++ Resources.rows m := by simp [Resources.rows]
theorem Resources.rowsSet (l : List Resources) (k : Nat) (x : Resources) : Resources.rows (l.set k x) = (Resources.rows l).set k (Resources.cells x) := by simp [Resources.rows, List.map_set]
theorem Resources.rowsTake (l : List Resources) (n : Nat) : Resources.rows (l.take n) = (Resources.rows l).take n := by simp [Resources.rows, List.map_take]
theorem Resources.rowsDrop (l : List Resources) (n : Nat) : Resources.rows (l.drop n) = (Resources.rows l).drop n := by simp [Resources.rows, List.map_drop]
theorem Resources.rowsSize (l : List Resources) : ∀ r ∈ Resources.rows l, r.length = 3 := mapSize (f := Resources.cells) (fun _ => rfl) l
theorem Resources.rowsView (l : List Resources) (sz : Nat) (h : sz = 3) : ViewOK sz (Resources.rows l).flatten (Resources.rows l) := by subst h; exact ⟨rfl, Resources.rowsSize l, mapPlain (f := Resources.cells) (fun _ => rfl) l⟩

structure Probe where
  delay : Int
  period : Int
  success : Int
  failure : Int
def Probe.cells (x : Probe) : List PV :=
  [.int .i64 x.delay, .int .i64 x.period, .int .i64 x.success, .int .i64 x.failure]
def Probe.rows (l : List Probe) : List (List PV) := l.map Probe.cells
theorem Probe.rowsLen (l : List Probe) : (Probe.rows l).length = l.length := by simp [Probe.rows]
theorem Probe.rowsGet {l : List Probe} {i : Nat} {x : Probe} (h : l[i]? = some x) : (Probe.rows l)[i]? = some (Probe.cells x) := Go.Pv.rowsGet h
theorem Probe.rowsSnoc (l : List Probe) (x : Probe) : Probe.rows (l ++ [x]) = Probe.rows l ++ [Probe.cells x] := by simp [Probe.rows]
theorem Probe.rowsApp (l m : List Probe) : Probe.rows (l ++ m) = Probe.rows l ++ Probe.rows m := by simp [Probe.rows]
theorem Probe.rowsSet (l : List Probe) (k : Nat) (x : Probe) : Probe.rows (l.set k x) = (Probe.rows l).set k (Probe.cells x) := by simp [Probe.rows, List.map_set]
theorem Probe.rowsTake (l : List Probe) (n : Nat) : Probe.rows (l.take n) = (Probe.rows l).take n := by simp [Probe.rows, List.map_take]
theorem Probe.rowsDrop (l : List Probe) (n : Nat) : Probe.rows (l.drop n) = (Probe.rows l).drop n := by simp [Probe.rows, List.map_drop]
theorem Probe.rowsSize (l : List Probe) : ∀ r ∈ Probe.rows l, r.length = 4 := mapSize (f := Probe.cells) (fun _ => rfl) l
theorem Probe.rowsView (l : List Probe) (sz : Nat) (h : sz = 4) : ViewOK sz (Probe.rows l).flatten (Probe.rows l) := by subst h; exact ⟨rfl, Probe.rowsSize l, mapPlain (f := Probe.cells) (fun _ => rfl) l⟩

structure Container where
  name : ByteArray
  image : ByteArray
  request : Resources
  limit : Resources
  live : List Probe
  ready : List Probe
  startup : List Probe
def Container.cells (x : Container) : List PV :=
  [.str x.name, .str x.image, .int .i64 x.request.cPU, .int .i64 x.request.memory, .int .i64 x.request.disk, .int .i64 x.limit.cPU, .int .i64 x.limit.memory, .int .i64 x.limit.disk, .sl (Probe.rows x.live), .sl (Probe.rows x.ready), .sl (Probe.rows x.startup)]
def Container.rows (l : List Container) : List (List PV) := l.map Container.cells
theorem Container.rowsLen (l : List Container) : (Container.rows l).length = l.length := by simp [Container.rows]
theorem Container.rowsGet {l : List Container} {i : Nat} {x : Container} (h : l[i]? = some x) : (Container.rows l)[i]? = some (Container.cells x) := Go.Pv.rowsGet h
theorem Container.rowsSnoc (l : List Container) (x : Container) : Container.rows (l ++ [x]) = Container.rows l ++ [Container.cells x] := by simp [Container.rows]
theorem Container.rowsApp (l m : List Container) : Container.rows (l ++ m) = Container.rows l ++ Container.rows m := by simp [Container.rows]
theorem Container.rowsSet (l : List Container) (k : Nat) (x : Container) : Container.rows (l.set k x) = (Container.rows l).set k (Container.cells x) := by simp [Container.rows, List.map_set]
theorem Container.rowsTake (l : List Container) (n : Nat) : Container.rows (l.take n) = (Container.rows l).take n := by simp [Container.rows, List.map_take]
theorem Container.rowsDrop (l : List Container) (n : Nat) : Container.rows (l.drop n) = (Container.rows l).drop n := by simp [Container.rows, List.map_drop]
theorem Container.rowsSize (l : List Container) : ∀ r ∈ Container.rows l, r.length = 11 := mapSize (f := Container.cells) (fun _ => rfl) l
theorem Container.rowsView (l : List Container) (sz : Nat) (h : sz = 11) : ViewOK sz (Container.rows l).flatten (Container.rows l) := by subst h; exact ⟨rfl, Container.rowsSize l, mapPlain (f := Container.cells) (fun _ => rfl) l⟩

structure Requirement where
  key : ByteArray
  op : Int
  values : List ByteArray
def Requirement.cells (x : Requirement) : List PV :=
  [.str x.key, .int .i64 x.op, .sl (strRows x.values)]
def Requirement.rows (l : List Requirement) : List (List PV) := l.map Requirement.cells
theorem Requirement.rowsLen (l : List Requirement) : (Requirement.rows l).length = l.length := by simp [Requirement.rows]
theorem Requirement.rowsGet {l : List Requirement} {i : Nat} {x : Requirement} (h : l[i]? = some x) : (Requirement.rows l)[i]? = some (Requirement.cells x) := Go.Pv.rowsGet h
theorem Requirement.rowsSnoc (l : List Requirement) (x : Requirement) : Requirement.rows (l ++ [x]) = Requirement.rows l ++ [Requirement.cells x] := by simp [Requirement.rows]
theorem Requirement.rowsApp (l m : List Requirement) : Requirement.rows (l ++ m) = Requirement.rows l ++ Requirement.rows m := by simp [Requirement.rows]
theorem Requirement.rowsSet (l : List Requirement) (k : Nat) (x : Requirement) : Requirement.rows (l.set k x) = (Requirement.rows l).set k (Requirement.cells x) := by simp [Requirement.rows, List.map_set]
theorem Requirement.rowsTake (l : List Requirement) (n : Nat) : Requirement.rows (l.take n) = (Requirement.rows l).take n := by simp [Requirement.rows, List.map_take]
theorem Requirement.rowsDrop (l : List Requirement) (n : Nat) : Requirement.rows (l.drop n) = (Requirement.rows l).drop n := by simp [Requirement.rows, List.map_drop]
theorem Requirement.rowsSize (l : List Requirement) : ∀ r ∈ Requirement.rows l, r.length = 3 := mapSize (f := Requirement.cells) (fun _ => rfl) l
theorem Requirement.rowsView (l : List Requirement) (sz : Nat) (h : sz = 3) : ViewOK sz (Requirement.rows l).flatten (Requirement.rows l) := by subst h; exact ⟨rfl, Requirement.rowsSize l, mapPlain (f := Requirement.cells) (fun _ => rfl) l⟩

structure NodeTerm where
  required : Bool
  selector : List Requirement
  weight : Int
def NodeTerm.cells (x : NodeTerm) : List PV :=
  [.bool x.required, .sl (Requirement.rows x.selector), .int .i64 x.weight]
def NodeTerm.rows (l : List NodeTerm) : List (List PV) := l.map NodeTerm.cells
theorem NodeTerm.rowsLen (l : List NodeTerm) : (NodeTerm.rows l).length = l.length := by simp [NodeTerm.rows]
theorem NodeTerm.rowsGet {l : List NodeTerm} {i : Nat} {x : NodeTerm} (h : l[i]? = some x) : (NodeTerm.rows l)[i]? = some (NodeTerm.cells x) := Go.Pv.rowsGet h
theorem NodeTerm.rowsSnoc (l : List NodeTerm) (x : NodeTerm) : NodeTerm.rows (l ++ [x]) = NodeTerm.rows l ++ [NodeTerm.cells x] := by simp [NodeTerm.rows]
theorem NodeTerm.rowsApp (l m : List NodeTerm) : NodeTerm.rows (l ++ m) = NodeTerm.rows l ++ NodeTerm.rows m := by simp [NodeTerm.rows]
theorem NodeTerm.rowsSet (l : List NodeTerm) (k : Nat) (x : NodeTerm) : NodeTerm.rows (l.set k x) = (NodeTerm.rows l).set k (NodeTerm.cells x) := by simp [NodeTerm.rows, List.map_set]
theorem NodeTerm.rowsTake (l : List NodeTerm) (n : Nat) : NodeTerm.rows (l.take n) = (NodeTerm.rows l).take n := by simp [NodeTerm.rows, List.map_take]
theorem NodeTerm.rowsDrop (l : List NodeTerm) (n : Nat) : NodeTerm.rows (l.drop n) = (NodeTerm.rows l).drop n := by simp [NodeTerm.rows, List.map_drop]
theorem NodeTerm.rowsSize (l : List NodeTerm) : ∀ r ∈ NodeTerm.rows l, r.length = 3 := mapSize (f := NodeTerm.cells) (fun _ => rfl) l
theorem NodeTerm.rowsView (l : List NodeTerm) (sz : Nat) (h : sz = 3) : ViewOK sz (NodeTerm.rows l).flatten (NodeTerm.rows l) := by subst h; exact ⟨rfl, NodeTerm.rowsSize l, mapPlain (f := NodeTerm.cells) (fun _ => rfl) l⟩

structure PodTerm where
  required : Bool
  anti : Bool
  selector : List Requirement
  topology : ByteArray
  weight : Int
def PodTerm.cells (x : PodTerm) : List PV :=
  [.bool x.required, .bool x.anti, .sl (Requirement.rows x.selector), .str x.topology, .int .i64 x.weight]
def PodTerm.rows (l : List PodTerm) : List (List PV) := l.map PodTerm.cells
theorem PodTerm.rowsLen (l : List PodTerm) : (PodTerm.rows l).length = l.length := by simp [PodTerm.rows]
theorem PodTerm.rowsGet {l : List PodTerm} {i : Nat} {x : PodTerm} (h : l[i]? = some x) : (PodTerm.rows l)[i]? = some (PodTerm.cells x) := Go.Pv.rowsGet h
theorem PodTerm.rowsSnoc (l : List PodTerm) (x : PodTerm) : PodTerm.rows (l ++ [x]) = PodTerm.rows l ++ [PodTerm.cells x] := by simp [PodTerm.rows]
theorem PodTerm.rowsApp (l m : List PodTerm) : PodTerm.rows (l ++ m) = PodTerm.rows l ++ PodTerm.rows m := by simp [PodTerm.rows]
theorem PodTerm.rowsSet (l : List PodTerm) (k : Nat) (x : PodTerm) : PodTerm.rows (l.set k x) = (PodTerm.rows l).set k (PodTerm.cells x) := by simp [PodTerm.rows, List.map_set]
theorem PodTerm.rowsTake (l : List PodTerm) (n : Nat) : PodTerm.rows (l.take n) = (PodTerm.rows l).take n := by simp [PodTerm.rows, List.map_take]
theorem PodTerm.rowsDrop (l : List PodTerm) (n : Nat) : PodTerm.rows (l.drop n) = (PodTerm.rows l).drop n := by simp [PodTerm.rows, List.map_drop]
theorem PodTerm.rowsSize (l : List PodTerm) : ∀ r ∈ PodTerm.rows l, r.length = 5 := mapSize (f := PodTerm.cells) (fun _ => rfl) l
theorem PodTerm.rowsView (l : List PodTerm) (sz : Nat) (h : sz = 5) : ViewOK sz (PodTerm.rows l).flatten (PodTerm.rows l) := by subst h; exact ⟨rfl, PodTerm.rowsSize l, mapPlain (f := PodTerm.cells) (fun _ => rfl) l⟩

structure SpreadRule where
  maxSkew : Int
  topology : ByteArray
  selector : List Requirement
  required : Bool
def SpreadRule.cells (x : SpreadRule) : List PV :=
  [.int .i64 x.maxSkew, .str x.topology, .sl (Requirement.rows x.selector), .bool x.required]
def SpreadRule.rows (l : List SpreadRule) : List (List PV) := l.map SpreadRule.cells
theorem SpreadRule.rowsLen (l : List SpreadRule) : (SpreadRule.rows l).length = l.length := by simp [SpreadRule.rows]
theorem SpreadRule.rowsGet {l : List SpreadRule} {i : Nat} {x : SpreadRule} (h : l[i]? = some x) : (SpreadRule.rows l)[i]? = some (SpreadRule.cells x) := Go.Pv.rowsGet h
theorem SpreadRule.rowsSnoc (l : List SpreadRule) (x : SpreadRule) : SpreadRule.rows (l ++ [x]) = SpreadRule.rows l ++ [SpreadRule.cells x] := by simp [SpreadRule.rows]
theorem SpreadRule.rowsApp (l m : List SpreadRule) : SpreadRule.rows (l ++ m) = SpreadRule.rows l ++ SpreadRule.rows m := by simp [SpreadRule.rows]
theorem SpreadRule.rowsSet (l : List SpreadRule) (k : Nat) (x : SpreadRule) : SpreadRule.rows (l.set k x) = (SpreadRule.rows l).set k (SpreadRule.cells x) := by simp [SpreadRule.rows, List.map_set]
theorem SpreadRule.rowsTake (l : List SpreadRule) (n : Nat) : SpreadRule.rows (l.take n) = (SpreadRule.rows l).take n := by simp [SpreadRule.rows, List.map_take]
theorem SpreadRule.rowsDrop (l : List SpreadRule) (n : Nat) : SpreadRule.rows (l.drop n) = (SpreadRule.rows l).drop n := by simp [SpreadRule.rows, List.map_drop]
theorem SpreadRule.rowsSize (l : List SpreadRule) : ∀ r ∈ SpreadRule.rows l, r.length = 4 := mapSize (f := SpreadRule.cells) (fun _ => rfl) l
theorem SpreadRule.rowsView (l : List SpreadRule) (sz : Nat) (h : sz = 4) : ViewOK sz (SpreadRule.rows l).flatten (SpreadRule.rows l) := by subst h; exact ⟨rfl, SpreadRule.rowsSize l, mapPlain (f := SpreadRule.cells) (fun _ => rfl) l⟩

structure Toleration where
  key : ByteArray
  value : ByteArray
  exists_ : Bool
  effect : Int
  seconds : Int
def Toleration.cells (x : Toleration) : List PV :=
  [.str x.key, .str x.value, .bool x.exists_, .int .i64 x.effect, .int .i64 x.seconds]
def Toleration.rows (l : List Toleration) : List (List PV) := l.map Toleration.cells
theorem Toleration.rowsLen (l : List Toleration) : (Toleration.rows l).length = l.length := by simp [Toleration.rows]
theorem Toleration.rowsGet {l : List Toleration} {i : Nat} {x : Toleration} (h : l[i]? = some x) : (Toleration.rows l)[i]? = some (Toleration.cells x) := Go.Pv.rowsGet h
theorem Toleration.rowsSnoc (l : List Toleration) (x : Toleration) : Toleration.rows (l ++ [x]) = Toleration.rows l ++ [Toleration.cells x] := by simp [Toleration.rows]
theorem Toleration.rowsApp (l m : List Toleration) : Toleration.rows (l ++ m) = Toleration.rows l ++ Toleration.rows m := by simp [Toleration.rows]
theorem Toleration.rowsSet (l : List Toleration) (k : Nat) (x : Toleration) : Toleration.rows (l.set k x) = (Toleration.rows l).set k (Toleration.cells x) := by simp [Toleration.rows, List.map_set]
theorem Toleration.rowsTake (l : List Toleration) (n : Nat) : Toleration.rows (l.take n) = (Toleration.rows l).take n := by simp [Toleration.rows, List.map_take]
theorem Toleration.rowsDrop (l : List Toleration) (n : Nat) : Toleration.rows (l.drop n) = (Toleration.rows l).drop n := by simp [Toleration.rows, List.map_drop]
theorem Toleration.rowsSize (l : List Toleration) : ∀ r ∈ Toleration.rows l, r.length = 5 := mapSize (f := Toleration.cells) (fun _ => rfl) l
theorem Toleration.rowsView (l : List Toleration) (sz : Nat) (h : sz = 5) : ViewOK sz (Toleration.rows l).flatten (Toleration.rows l) := by subst h; exact ⟨rfl, Toleration.rowsSize l, mapPlain (f := Toleration.cells) (fun _ => rfl) l⟩

structure PodSpec where
  node : ByteArray
  priority : Int
  restart : Int
  grace : Int
  containers : List Container
  nodeSelector : List Requirement
  nodeTerms : List NodeTerm
  podTerms : List PodTerm
  spread : List SpreadRule
  tolerations : List Toleration
def PodSpec.cells (x : PodSpec) : List PV :=
  [.str x.node, .int .i64 x.priority, .int .i64 x.restart, .int .i64 x.grace, .sl (Container.rows x.containers), .sl (Requirement.rows x.nodeSelector), .sl (NodeTerm.rows x.nodeTerms), .sl (PodTerm.rows x.podTerms), .sl (SpreadRule.rows x.spread), .sl (Toleration.rows x.tolerations)]
def PodSpec.rows (l : List PodSpec) : List (List PV) := l.map PodSpec.cells
theorem PodSpec.rowsLen (l : List PodSpec) : (PodSpec.rows l).length = l.length := by simp [PodSpec.rows]
theorem PodSpec.rowsGet {l : List PodSpec} {i : Nat} {x : PodSpec} (h : l[i]? = some x) : (PodSpec.rows l)[i]? = some (PodSpec.cells x) := Go.Pv.rowsGet h
theorem PodSpec.rowsSnoc (l : List PodSpec) (x : PodSpec) : PodSpec.rows (l ++ [x]) = PodSpec.rows l ++ [PodSpec.cells x] := by simp [PodSpec.rows]
theorem PodSpec.rowsApp (l m : List PodSpec) : PodSpec.rows (l ++ m) = PodSpec.rows l ++ PodSpec.rows m := by simp [PodSpec.rows]
theorem PodSpec.rowsSet (l : List PodSpec) (k : Nat) (x : PodSpec) : PodSpec.rows (l.set k x) = (PodSpec.rows l).set k (PodSpec.cells x) := by simp [PodSpec.rows, List.map_set]
theorem PodSpec.rowsTake (l : List PodSpec) (n : Nat) : PodSpec.rows (l.take n) = (PodSpec.rows l).take n := by simp [PodSpec.rows, List.map_take]
theorem PodSpec.rowsDrop (l : List PodSpec) (n : Nat) : PodSpec.rows (l.drop n) = (PodSpec.rows l).drop n := by simp [PodSpec.rows, List.map_drop]
theorem PodSpec.rowsSize (l : List PodSpec) : ∀ r ∈ PodSpec.rows l, r.length = 10 := mapSize (f := PodSpec.cells) (fun _ => rfl) l
theorem PodSpec.rowsView (l : List PodSpec) (sz : Nat) (h : sz = 10) : ViewOK sz (PodSpec.rows l).flatten (PodSpec.rows l) := by subst h; exact ⟨rfl, PodSpec.rowsSize l, mapPlain (f := PodSpec.cells) (fun _ => rfl) l⟩

structure ContainerStatus where
  name : ByteArray
  state : Int
  restarts : Int
  exitCode : Int
  since : Int
  ready : Bool
  started : Bool
def ContainerStatus.cells (x : ContainerStatus) : List PV :=
  [.str x.name, .int .i64 x.state, .int .i64 x.restarts, .int .i64 x.exitCode, .int .i64 x.since, .bool x.ready, .bool x.started]
def ContainerStatus.rows (l : List ContainerStatus) : List (List PV) := l.map ContainerStatus.cells
theorem ContainerStatus.rowsLen (l : List ContainerStatus) : (ContainerStatus.rows l).length = l.length := by simp [ContainerStatus.rows]
theorem ContainerStatus.rowsGet {l : List ContainerStatus} {i : Nat} {x : ContainerStatus} (h : l[i]? = some x) : (ContainerStatus.rows l)[i]? = some (ContainerStatus.cells x) := Go.Pv.rowsGet h
theorem ContainerStatus.rowsSnoc (l : List ContainerStatus) (x : ContainerStatus) : ContainerStatus.rows (l ++ [x]) = ContainerStatus.rows l ++ [ContainerStatus.cells x] := by simp [ContainerStatus.rows]
theorem ContainerStatus.rowsApp (l m : List ContainerStatus) : ContainerStatus.rows (l ++ m) = ContainerStatus.rows l ++ ContainerStatus.rows m := by simp [ContainerStatus.rows]
theorem ContainerStatus.rowsSet (l : List ContainerStatus) (k : Nat) (x : ContainerStatus) : ContainerStatus.rows (l.set k x) = (ContainerStatus.rows l).set k (ContainerStatus.cells x) := by simp [ContainerStatus.rows, List.map_set]
theorem ContainerStatus.rowsTake (l : List ContainerStatus) (n : Nat) : ContainerStatus.rows (l.take n) = (ContainerStatus.rows l).take n := by simp [ContainerStatus.rows, List.map_take]
theorem ContainerStatus.rowsDrop (l : List ContainerStatus) (n : Nat) : ContainerStatus.rows (l.drop n) = (ContainerStatus.rows l).drop n := by simp [ContainerStatus.rows, List.map_drop]
theorem ContainerStatus.rowsSize (l : List ContainerStatus) : ∀ r ∈ ContainerStatus.rows l, r.length = 7 := mapSize (f := ContainerStatus.cells) (fun _ => rfl) l
theorem ContainerStatus.rowsView (l : List ContainerStatus) (sz : Nat) (h : sz = 7) : ViewOK sz (ContainerStatus.rows l).flatten (ContainerStatus.rows l) := by subst h; exact ⟨rfl, ContainerStatus.rowsSize l, mapPlain (f := ContainerStatus.cells) (fun _ => rfl) l⟩

structure PodStatus where
  phase : Int
  ready : Bool
  readySince : Int
  started : Int
  finished : Int
  containers : List ContainerStatus
  address : Int
  nominated : ByteArray
  reason : ByteArray
def PodStatus.cells (x : PodStatus) : List PV :=
  [.int .i64 x.phase, .bool x.ready, .int .i64 x.readySince, .int .i64 x.started, .int .i64 x.finished, .sl (ContainerStatus.rows x.containers), .int .i64 x.address, .str x.nominated, .str x.reason]
def PodStatus.rows (l : List PodStatus) : List (List PV) := l.map PodStatus.cells
theorem PodStatus.rowsLen (l : List PodStatus) : (PodStatus.rows l).length = l.length := by simp [PodStatus.rows]
theorem PodStatus.rowsGet {l : List PodStatus} {i : Nat} {x : PodStatus} (h : l[i]? = some x) : (PodStatus.rows l)[i]? = some (PodStatus.cells x) := Go.Pv.rowsGet h
theorem PodStatus.rowsSnoc (l : List PodStatus) (x : PodStatus) : PodStatus.rows (l ++ [x]) = PodStatus.rows l ++ [PodStatus.cells x] := by simp [PodStatus.rows]
theorem PodStatus.rowsApp (l m : List PodStatus) : PodStatus.rows (l ++ m) = PodStatus.rows l ++ PodStatus.rows m := by simp [PodStatus.rows]
theorem PodStatus.rowsSet (l : List PodStatus) (k : Nat) (x : PodStatus) : PodStatus.rows (l.set k x) = (PodStatus.rows l).set k (PodStatus.cells x) := by simp [PodStatus.rows, List.map_set]
theorem PodStatus.rowsTake (l : List PodStatus) (n : Nat) : PodStatus.rows (l.take n) = (PodStatus.rows l).take n := by simp [PodStatus.rows, List.map_take]
theorem PodStatus.rowsDrop (l : List PodStatus) (n : Nat) : PodStatus.rows (l.drop n) = (PodStatus.rows l).drop n := by simp [PodStatus.rows, List.map_drop]
theorem PodStatus.rowsSize (l : List PodStatus) : ∀ r ∈ PodStatus.rows l, r.length = 9 := mapSize (f := PodStatus.cells) (fun _ => rfl) l
theorem PodStatus.rowsView (l : List PodStatus) (sz : Nat) (h : sz = 9) : ViewOK sz (PodStatus.rows l).flatten (PodStatus.rows l) := by subst h; exact ⟨rfl, PodStatus.rowsSize l, mapPlain (f := PodStatus.cells) (fun _ => rfl) l⟩

structure Pod where
  meta_ : Meta
  spec : PodSpec
  status : PodStatus
def Pod.cells (x : Pod) : List PV :=
  [.str x.meta_.kind, .str x.meta_.namespace_, .str x.meta_.name, .int .i64 x.meta_.uid, .int .i64 x.meta_.version, .int .i64 x.meta_.generation, .int .i64 x.meta_.created, .bool x.meta_.deleting, .int .i64 x.meta_.deleteAt, .sl (Label.rows x.meta_.labels), .sl (Owner.rows x.meta_.owners), .sl (strRows x.meta_.finalizers), .sl (Manager.rows x.meta_.managers), .str x.spec.node, .int .i64 x.spec.priority, .int .i64 x.spec.restart, .int .i64 x.spec.grace, .sl (Container.rows x.spec.containers), .sl (Requirement.rows x.spec.nodeSelector), .sl (NodeTerm.rows x.spec.nodeTerms), .sl (PodTerm.rows x.spec.podTerms), .sl (SpreadRule.rows x.spec.spread), .sl (Toleration.rows x.spec.tolerations), .int .i64 x.status.phase, .bool x.status.ready, .int .i64 x.status.readySince, .int .i64 x.status.started, .int .i64 x.status.finished, .sl (ContainerStatus.rows x.status.containers), .int .i64 x.status.address, .str x.status.nominated, .str x.status.reason]
def Pod.rows (l : List Pod) : List (List PV) := l.map Pod.cells
theorem Pod.rowsLen (l : List Pod) : (Pod.rows l).length = l.length := by simp [Pod.rows]
theorem Pod.rowsGet {l : List Pod} {i : Nat} {x : Pod} (h : l[i]? = some x) : (Pod.rows l)[i]? = some (Pod.cells x) := Go.Pv.rowsGet h
theorem Pod.rowsSnoc (l : List Pod) (x : Pod) : Pod.rows (l ++ [x]) = Pod.rows l ++ [Pod.cells x] := by simp [Pod.rows]
theorem Pod.rowsApp (l m : List Pod) : Pod.rows (l ++ m) = Pod.rows l ++ Pod.rows m := by simp [Pod.rows]
theorem Pod.rowsSet (l : List Pod) (k : Nat) (x : Pod) : Pod.rows (l.set k x) = (Pod.rows l).set k (Pod.cells x) := by simp [Pod.rows, List.map_set]
theorem Pod.rowsTake (l : List Pod) (n : Nat) : Pod.rows (l.take n) = (Pod.rows l).take n := by simp [Pod.rows, List.map_take]
theorem Pod.rowsDrop (l : List Pod) (n : Nat) : Pod.rows (l.drop n) = (Pod.rows l).drop n := by simp [Pod.rows, List.map_drop]
theorem Pod.rowsSize (l : List Pod) : ∀ r ∈ Pod.rows l, r.length = 32 := mapSize (f := Pod.cells) (fun _ => rfl) l
theorem Pod.rowsView (l : List Pod) (sz : Nat) (h : sz = 32) : ViewOK sz (Pod.rows l).flatten (Pod.rows l) := by subst h; exact ⟨rfl, Pod.rowsSize l, mapPlain (f := Pod.cells) (fun _ => rfl) l⟩

structure Entry where
  key : ByteArray
  priority : Int
  usage : Int
  excess : Int
def Entry.cells (x : Entry) : List PV :=
  [.str x.key, .int .i64 x.priority, .int .i64 x.usage, .int .i64 x.excess]
def Entry.rows (l : List Entry) : List (List PV) := l.map Entry.cells
theorem Entry.rowsLen (l : List Entry) : (Entry.rows l).length = l.length := by simp [Entry.rows]
theorem Entry.rowsGet {l : List Entry} {i : Nat} {x : Entry} (h : l[i]? = some x) : (Entry.rows l)[i]? = some (Entry.cells x) := Go.Pv.rowsGet h
theorem Entry.rowsSnoc (l : List Entry) (x : Entry) : Entry.rows (l ++ [x]) = Entry.rows l ++ [Entry.cells x] := by simp [Entry.rows]
theorem Entry.rowsApp (l m : List Entry) : Entry.rows (l ++ m) = Entry.rows l ++ Entry.rows m := by simp [Entry.rows]
theorem Entry.rowsSet (l : List Entry) (k : Nat) (x : Entry) : Entry.rows (l.set k x) = (Entry.rows l).set k (Entry.cells x) := by simp [Entry.rows, List.map_set]
theorem Entry.rowsTake (l : List Entry) (n : Nat) : Entry.rows (l.take n) = (Entry.rows l).take n := by simp [Entry.rows, List.map_take]
theorem Entry.rowsDrop (l : List Entry) (n : Nat) : Entry.rows (l.drop n) = (Entry.rows l).drop n := by simp [Entry.rows, List.map_drop]
theorem Entry.rowsSize (l : List Entry) : ∀ r ∈ Entry.rows l, r.length = 4 := mapSize (f := Entry.cells) (fun _ => rfl) l
theorem Entry.rowsView (l : List Entry) (sz : Nat) (h : sz = 4) : ViewOK sz (Entry.rows l).flatten (Entry.rows l) := by subst h; exact ⟨rfl, Entry.rowsSize l, mapPlain (f := Entry.cells) (fun _ => rfl) l⟩

theorem t_cmpstr (a b : ByteArray) : Tells G (.call 38 [.str a, .str b] []) (.ret (.int .i64 (sCmp a b)) []) := ⟨1, by kernel_rfl⟩

/-- orchestrator/ meta.Key -/
def s_meta_Key (p0 : ByteArray) (p1 : ByteArray) (p2 : ByteArray) : ByteArray :=
  ((((p0 ++ (⟨#[47]⟩ : ByteArray)) ++ p1) ++ (⟨#[47]⟩ : ByteArray)) ++ p2)
def c_meta_Key (p0 : ByteArray) (p1 : ByteArray) (p2 : ByteArray) : En := .call 26 [.str p0, .str p1, .str p2] []
def a_meta_Key (p0 : ByteArray) (p1 : ByteArray) (p2 : ByteArray) : Rs := .ret (.str (s_meta_Key p0 p1 p2)) []
def H_meta_Key (p0 : ByteArray) (p1 : ByteArray) (p2 : ByteArray) : Prop := (ByteArray.size p0 + ByteArray.size (⟨#[47]⟩ : ByteArray) ≤ 9223372036854775807) ∧ (ByteArray.size (p0 ++ (⟨#[47]⟩ : ByteArray)) + ByteArray.size p1 ≤ 9223372036854775807) ∧ (ByteArray.size ((p0 ++ (⟨#[47]⟩ : ByteArray)) ++ p1) + ByteArray.size (⟨#[47]⟩ : ByteArray) ≤ 9223372036854775807) ∧ (ByteArray.size (((p0 ++ (⟨#[47]⟩ : ByteArray)) ++ p1) ++ (⟨#[47]⟩ : ByteArray)) + ByteArray.size p2 ≤ 9223372036854775807) ∧ True
theorem t_meta_Key (p0 : ByteArray) (p1 : ByteArray) (p2 : ByteArray) (H : H_meta_Key p0 p1 p2) : Tells G (c_meta_Key p0 p1 p2) (a_meta_Key p0 p1 p2) := by
  unfold a_meta_Key s_meta_Key
  exact tells_VI (fn := Ir.meta_Key) rfl VOK.nil [hP 2 (cat_ok p0 (⟨#[47]⟩ : ByteArray) H.1), hP 1 (cat_ok (p0 ++ (⟨#[47]⟩ : ByteArray)) p1 H.2.1), hP 0 (cat_ok ((p0 ++ (⟨#[47]⟩ : ByteArray)) ++ p1) (⟨#[47]⟩ : ByteArray) H.2.2.1), hP 1 (cat_ok (((p0 ++ (⟨#[47]⟩ : ByteArray)) ++ p1) ++ (⟨#[47]⟩ : ByteArray)) p2 H.2.2.2.1)] [] (by kernel_rfl)

/-- orchestrator/ meta.KeyOf -/
def s_meta_KeyOf (p0 : Meta) : ByteArray :=
  (s_meta_Key p0.kind p0.namespace_ p0.name)
def c_meta_KeyOf (p0 : Meta) : En := .call 17 [.agg (Meta.cells p0)] []
def a_meta_KeyOf (p0 : Meta) : Rs := .ret (.str (s_meta_KeyOf p0)) []
def H_meta_KeyOf (p0 : Meta) : Prop := (H_meta_Key p0.kind p0.namespace_ p0.name) ∧ True
theorem t_meta_KeyOf (p0 : Meta) (H : H_meta_KeyOf p0) : Tells G (c_meta_KeyOf p0) (a_meta_KeyOf p0) := by
  unfold a_meta_KeyOf s_meta_KeyOf
  exact tells_VI (fn := Ir.meta_KeyOf) rfl VOK.nil [] [aN (t_meta_Key p0.kind p0.namespace_ p0.name H.1)] (by kernel_rfl)

/-- orchestrator/ qos.clamp -/
def s_qos_clamp (p0 : Int) : Int :=
  (mn (mx p0 0) 1000000000000000)
def c_qos_clamp (p0 : Int) : En := .call 20 [.int .i64 p0] []
def a_qos_clamp (p0 : Int) : Rs := .ret (.int .i64 (s_qos_clamp p0)) []
theorem t_qos_clamp (p0 : Int) : Tells G (c_qos_clamp p0) (a_qos_clamp p0) := by
  unfold a_qos_clamp s_qos_clamp
  exact tells_VI (fn := Ir.qos_clamp) rfl VOK.nil [] [] (by kernel_rfl)

/-- orchestrator/ resource.clamp -/
def s_resource_clamp (p0 : Int) : Int :=
  (mn (mx p0 0) 1000000000000000)
def c_resource_clamp (p0 : Int) : En := .call 42 [.int .i64 p0] []
def a_resource_clamp (p0 : Int) : Rs := .ret (.int .i64 (s_resource_clamp p0)) []
theorem t_resource_clamp (p0 : Int) : Tells G (c_resource_clamp p0) (a_resource_clamp p0) := by
  unfold a_resource_clamp s_resource_clamp
  exact tells_VI (fn := Ir.resource_clamp) rfl VOK.nil [] [] (by kernel_rfl)

/-- orchestrator/ resource.Add$1 -/
def s_resource_Add_1 (p0 : Int) (p1 : Int) : Int :=
  (s_resource_clamp (w64 (p0 + p1)))
def c_resource_Add_1 (p0 : Int) (p1 : Int) : En := .call 41 [.int .i64 p0, .int .i64 p1] []
def a_resource_Add_1 (p0 : Int) (p1 : Int) : Rs := .ret (.int .i64 (s_resource_Add_1 p0 p1)) []
theorem t_resource_Add_1 (p0 : Int) (p1 : Int) : Tells G (c_resource_Add_1 p0 p1) (a_resource_Add_1 p0 p1) := by
  unfold a_resource_Add_1 s_resource_Add_1
  exact tells_VI (fn := Ir.resource_Add_1) rfl VOK.nil [] [aN (t_resource_clamp (w64 (p0 + p1)))] (by kernel_rfl)

/-- orchestrator/ resource.each -/
def s_resource_each_f41 (p0 : Resources) (p1 : Resources) : Resources :=
  (Resources.mk (s_resource_Add_1 (s_resource_clamp p0.cPU) (s_resource_clamp p1.cPU)) (s_resource_Add_1 (s_resource_clamp p0.memory) (s_resource_clamp p1.memory)) (s_resource_Add_1 (s_resource_clamp p0.disk) (s_resource_clamp p1.disk)))
def c_resource_each_f41 (p0 : Resources) (p1 : Resources) : En := .call 40 [.agg (Resources.cells p0), .agg (Resources.cells p1), .fn 41 [] []] []
def a_resource_each_f41 (p0 : Resources) (p1 : Resources) : Rs := .ret (.agg (Resources.cells (s_resource_each_f41 p0 p1))) []
theorem t_resource_each_f41 (p0 : Resources) (p1 : Resources) : Tells G (c_resource_each_f41 p0 p1) (a_resource_each_f41 p0 p1) := by
  unfold a_resource_each_f41 s_resource_each_f41
  exact tells_VI (fn := Ir.resource_each) rfl VOK.nil [] [aN (t_resource_clamp p0.cPU), aN (t_resource_clamp p1.cPU), aN (t_resource_Add_1 (s_resource_clamp p0.cPU) (s_resource_clamp p1.cPU)), aN (t_resource_clamp p0.memory), aN (t_resource_clamp p1.memory), aN (t_resource_Add_1 (s_resource_clamp p0.memory) (s_resource_clamp p1.memory)), aN (t_resource_clamp p0.disk), aN (t_resource_clamp p1.disk), aN (t_resource_Add_1 (s_resource_clamp p0.disk) (s_resource_clamp p1.disk))] (by kernel_rfl)

/-- orchestrator/ resource.Add -/
def s_resource_Add (p0 : Resources) (p1 : Resources) : Resources :=
  (s_resource_each_f41 p0 p1)
def c_resource_Add (p0 : Resources) (p1 : Resources) : En := .call 35 [.agg (Resources.cells p0), .agg (Resources.cells p1)] []
def a_resource_Add (p0 : Resources) (p1 : Resources) : Rs := .ret (.agg (Resources.cells (s_resource_Add p0 p1))) []
theorem t_resource_Add (p0 : Resources) (p1 : Resources) : Tells G (c_resource_Add p0 p1) (a_resource_Add p0 p1) := by
  unfold a_resource_Add s_resource_Add
  exact tells_VI (fn := Ir.resource_Add) rfl VOK.nil [] [aN (t_resource_each_f41 p0 p1)] (by kernel_rfl)

def l_resource_Requests_b0 (p0 : PodSpec) : List Container → Nat → Resources → Resources
  | [], _i0, v0_1 =>
    v0_1
  | x0 :: r0, i0, v0_1 =>
    l_resource_Requests_b0 p0 r0 (i0 + 1) (s_resource_Add v0_1 x0.request)
def HE_resource_Requests_b0 (p0 : PodSpec) (i0 : Nat) (_v0_1 : Resources) : List PV :=
  [.un, .un, .bx 0 0, .bx 1 0, .un, .un, .un, .sl (Container.rows p0.containers), .int .i64 ((List.length p0.containers) : Int), .int .i64 (i0 : Int), .un, .un, .un, .un, .un, .un, .un, .un, .un]
def HO_resource_Requests_b0 (_p0 : PodSpec) (_i0 : Nat) (v0_1 : Resources) : List Ob :=
  [⟨3, 0, true, [.int .i64 0, .int .i64 0, .int .i64 0]⟩, ⟨3, 0, true, [.int .i64 v0_1.cPU, .int .i64 v0_1.memory, .int .i64 v0_1.disk]⟩]
def E_resource_Requests_b0 (p0 : PodSpec) (i0 : Nat) (v0_1 : Resources) : En := .loop 0 Ir.resource_Requests_b0_live Ir.resource_Requests_b0 (HE_resource_Requests_b0 p0 i0 v0_1) (HO_resource_Requests_b0 p0 i0 v0_1)
def S_resource_Requests_b0_0 (_p0 : PodSpec) (q0 : Resources) (z : Nat → PV) (_zo : Nat → List PV) : St :=
  ⟨[z 0, z 1, .bx 0 0, .bx 1 0, z 4, z 5, z 6, z 7, z 8, z 9, z 10, z 11, z 12, z 13, z 14, z 15, z 16, z 17, z 18], [(0, ⟨3, 0, true, [.int .i64 0, .int .i64 0, .int .i64 0]⟩), (1, ⟨3, 0, true, [.int .i64 q0.cPU, .int .i64 q0.memory, .int .i64 q0.disk]⟩)], 66⟩
def P_resource_Requests_b0 (p0 : PodSpec) (e : En) (q : Resources) : Prop := ∃ z zo, Tells G e (.st (.exit 0) (S_resource_Requests_b0_0 p0 q z zo))
theorem P_resource_Requests_b0_mono (p0 : PodSpec) {e e' : En} (h : ∀ r, Tells G e r → Tells G e' r) : ∀ q, P_resource_Requests_b0 p0 e q → P_resource_Requests_b0 p0 e' q
  | _, ⟨z, zo, hz⟩ => ⟨z, zo, h _ hz⟩
def H_resource_Requests_b0 (p0 : PodSpec) : Prop := (List.length p0.containers ≤ 4611686018427387904) ∧ True
def Z_resource_Requests_b0_0 (p0 : PodSpec) (i0 : Nat) (_v0_1 : Resources) : List PV :=
  [.un, .un, .un, .un, .un, .un, .un, .sl (Container.rows p0.containers), .int .i64 ((List.length p0.containers) : Int), .int .i64 (i0 : Int), .bool false]
def ZO_resource_Requests_b0_0 (_p0 : PodSpec) (_i0 : Nat) (_v0_1 : Resources) : List (Nat × List PV) :=
  []
theorem x_resource_Requests_b0_0 (p0 : PodSpec) (_H : H_resource_Requests_b0 p0) (i0 : Nat) (v0_1 : Resources) (hc0 : (decide ((i0 : Int) < ((List.length p0.containers) : Int))) = false) : P_resource_Requests_b0 p0 (E_resource_Requests_b0 p0 i0 v0_1) v0_1 := by
  exact ⟨(envF (Z_resource_Requests_b0_0 p0 i0 v0_1)), (zoF (ZO_resource_Requests_b0_0 p0 i0 v0_1)), tells_outVI VOK.nil (x := ((.exit 0), S_resource_Requests_b0_0 p0 v0_1 (envF (Z_resource_Requests_b0_0 p0 i0 v0_1)) (zoF (ZO_resource_Requests_b0_0 p0 i0 v0_1)))) [hB 0 hc0] [] (by kernel_rfl)⟩
theorem n_resource_Requests_b0_1 (p0 : PodSpec) (H : H_resource_Requests_b0 p0) (x0 : Container) (i0 : Nat) (v0_1 : Resources) (hx0 : p0.containers[i0]? = some x0) (hi0 : i0 < List.length p0.containers) (hc0 : (decide ((i0 : Int) < ((List.length p0.containers) : Int))) = true) {r : Rs} (hr : Tells G (E_resource_Requests_b0 p0 (i0 + 1) (s_resource_Add v0_1 x0.request)) r) : Tells G (E_resource_Requests_b0 p0 i0 v0_1) r := by
  have hB0 := H.1
  exact tells_nextVI VOK.nil (y := (HE_resource_Requests_b0 p0 (i0 + 1) (s_resource_Add v0_1 x0.request), HO_resource_Requests_b0 p0 (i0 + 1) (s_resource_Add v0_1 x0.request))) [hB 0 hc0, hP 0 (ix_ok 11 (Container.rows p0.containers) i0 _ (Container.rowsGet hx0) rfl), hP 8 (inc_ok i0 (by omega))] [aN (t_resource_Add v0_1 x0.request)] (by kernel_rfl) hr
theorem lt_resource_Requests_b0 (p0 : PodSpec) (H : H_resource_Requests_b0 p0) : ∀ (r0 : List Container) (i0 : Nat) (v0_1 : Resources), List.drop i0 p0.containers = r0 → P_resource_Requests_b0 p0 (E_resource_Requests_b0 p0 i0 v0_1) (l_resource_Requests_b0 p0 r0 i0 v0_1)
  | [], i0, v0_1, hd => by
    have hc0 : (decide ((i0 : Int) < ((List.length p0.containers) : Int))) = false := by have := drop_end hd; simp; omega
    rw [l_resource_Requests_b0]
    exact x_resource_Requests_b0_0 p0 H i0 v0_1 hc0
  | x0 :: r0, i0, v0_1, hd => by
    obtain ⟨hx0, hi0, hd'⟩ := drop_get hd
    have hc0 : (decide ((i0 : Int) < ((List.length p0.containers) : Int))) = true := by simp; omega
    rw [l_resource_Requests_b0]
    exact P_resource_Requests_b0_mono p0 (fun r hr => n_resource_Requests_b0_1 p0 H x0 i0 v0_1 hx0 hi0 hc0 hr) _ (lt_resource_Requests_b0 p0 H r0 (i0 + 1) (s_resource_Add v0_1 x0.request) hd')
/-- orchestrator/ resource.Requests -/
def s_resource_Requests (p0 : PodSpec) : Resources :=
  (l_resource_Requests_b0 p0 p0.containers 0 (Resources.mk 0 0 0))
def c_resource_Requests (p0 : PodSpec) : En := .call 27 [.agg (PodSpec.cells p0)] []
def a_resource_Requests (p0 : PodSpec) : Rs := .ret (.agg (Resources.cells (s_resource_Requests p0))) []
def H_resource_Requests (p0 : PodSpec) : Prop := (H_resource_Requests_b0 p0) ∧ True
theorem t_resource_Requests (p0 : PodSpec) (H : H_resource_Requests p0) : Tells G (c_resource_Requests p0) (a_resource_Requests p0) := by
  unfold a_resource_Requests s_resource_Requests
  have hl0 := lt_resource_Requests_b0 p0 (H.1) p0.containers 0 (Resources.mk 0 0 0) (by simp)
  obtain ⟨z0, zo0, hl0⟩ := hl0
  exact tells_VI (fn := Ir.resource_Requests) rfl VOK.nil [hP 5 (len_ok (Container.rows p0.containers) (List.length p0.containers) (Container.rowsLen p0.containers))] [aN hl0] (by kernel_rfl)

/-- cmp.isNaN[int] -/
def s_cmp_isNaN (p0 : Int) : Bool :=
  (!(p0 == p0))
def c_cmp_isNaN (p0 : Int) : En := .call 37 [.int .i64 p0] []
def a_cmp_isNaN (p0 : Int) : Rs := .ret (.bool (s_cmp_isNaN p0)) []
theorem t_cmp_isNaN (p0 : Int) : Tells G (c_cmp_isNaN p0) (a_cmp_isNaN p0) := by
  unfold a_cmp_isNaN s_cmp_isNaN
  exact tells_VI (fn := Ir.cmp_isNaN) rfl VOK.nil [] [] (by kernel_rfl)

/-- cmp.Compare[int] -/
def s_cmp_Compare (p0 : Int) (p1 : Int) : Int :=
  bif (s_cmp_isNaN p0) then
    bif (s_cmp_isNaN p1) then
      0
    else
      (-1)
  else
    bif (s_cmp_isNaN p1) then
      1
    else
      bif (decide (p0 < p1)) then
        (-1)
      else
        bif (decide (p1 < p0)) then
          1
        else
          0
def c_cmp_Compare (p0 : Int) (p1 : Int) : En := .call 31 [.int .i64 p0, .int .i64 p1] []
def a_cmp_Compare (p0 : Int) (p1 : Int) : Rs := .ret (.int .i64 (s_cmp_Compare p0 p1)) []
theorem t_cmp_Compare (p0 : Int) (p1 : Int) : Tells G (c_cmp_Compare p0 p1) (a_cmp_Compare p0 p1) := by
  unfold a_cmp_Compare s_cmp_Compare
  cases h0 : (s_cmp_isNaN p0) with
  | true =>
   cases h1 : (s_cmp_isNaN p1) with
   | true =>
    exact tells_VI (fn := Ir.cmp_Compare) rfl VOK.nil [] [aB (t_cmp_isNaN p0) h0, aB (t_cmp_isNaN p1) h1] (by kernel_rfl)
   | false =>
    exact tells_VI (fn := Ir.cmp_Compare) rfl VOK.nil [] [aB (t_cmp_isNaN p0) h0, aB (t_cmp_isNaN p1) h1] (by kernel_rfl)
  | false =>
   cases h1 : (s_cmp_isNaN p1) with
   | true =>
    exact tells_VI (fn := Ir.cmp_Compare) rfl VOK.nil [] [aB (t_cmp_isNaN p0) h0, aB (t_cmp_isNaN p1) h1] (by kernel_rfl)
   | false =>
    cases h2 : (decide (p0 < p1)) with
    | true =>
     exact tells_VI (fn := Ir.cmp_Compare) rfl VOK.nil [hB 11 h2] [aB (t_cmp_isNaN p0) h0, aB (t_cmp_isNaN p1) h1] (by kernel_rfl)
    | false =>
     cases h3 : (decide (p1 < p0)) with
     | true =>
      exact tells_VI (fn := Ir.cmp_Compare) rfl VOK.nil [hB 11 h2, hB 2 h3] [aB (t_cmp_isNaN p0) h0, aB (t_cmp_isNaN p1) h1] (by kernel_rfl)
     | false =>
      exact tells_VI (fn := Ir.cmp_Compare) rfl VOK.nil [hB 11 h2, hB 2 h3] [aB (t_cmp_isNaN p0) h0, aB (t_cmp_isNaN p1) h1] (by kernel_rfl)

/-- strings.Compare -/
def s_strings_Compare (p0 : ByteArray) (p1 : ByteArray) : Int :=
  (sCmp p0 p1)
def c_strings_Compare (p0 : ByteArray) (p1 : ByteArray) : En := .call 32 [.str p0, .str p1] []
def a_strings_Compare (p0 : ByteArray) (p1 : ByteArray) : Rs := .ret (.int .i64 (s_strings_Compare p0 p1)) []
theorem t_strings_Compare (p0 : ByteArray) (p1 : ByteArray) : Tells G (c_strings_Compare p0 p1) (a_strings_Compare p0 p1) := by
  unfold a_strings_Compare s_strings_Compare
  exact tells_VI (fn := Ir.strings_Compare) rfl VOK.nil [] [aN (t_cmpstr p0 p1)] (by kernel_rfl)

inductive R_cmp_Or_b0 where
  | k0 (q0 : Int)
  | k1 (q0 : Int)
def l_cmp_Or_b0 (p0 : List Int) : List Int → Nat → Int → R_cmp_Or_b0
  | [], _i0, v0_1 =>
    (.k0 v0_1)
  | x0 :: r0, i0, v0_1 =>
    bif (x0 == v0_1) then
      l_cmp_Or_b0 p0 r0 (i0 + 1) v0_1
    else
      (.k1 x0)
def HE_cmp_Or_b0 (p0 : List Int) (i0 : Nat) (v0_1 : Int) : List PV :=
  [.un, .un, .un, .int .i64 v0_1, .un, .un, .sl (intRows p0), .int .i64 ((List.length p0) : Int), .int .i64 (i0 : Int), .un, .un, .un, .un, .un, .un, .un, .un, .un]
def HO_cmp_Or_b0 (_p0 : List Int) (_i0 : Nat) (_v0_1 : Int) : List Ob :=
  []
def E_cmp_Or_b0 (p0 : List Int) (i0 : Nat) (v0_1 : Int) : En := .loop 0 Ir.cmp_Or_b0_live Ir.cmp_Or_b0 (HE_cmp_Or_b0 p0 i0 v0_1) (HO_cmp_Or_b0 p0 i0 v0_1)
def S_cmp_Or_b0_0 (_p0 : List Int) (q0 : Int) (z : Nat → PV) (_zo : Nat → List PV) : St :=
  ⟨[z 0, z 1, z 2, .int .i64 q0, z 4, z 5, z 6, z 7, z 8, z 9, z 10, z 11, z 12, z 13, z 14, z 15, z 16, z 17], [], 64⟩
def S_cmp_Or_b0_1 (_p0 : List Int) (q0 : Int) (z : Nat → PV) (_zo : Nat → List PV) : St :=
  ⟨[z 0, z 1, .int .i64 q0, z 3, z 4, z 5, z 6, z 7, z 8, z 9, z 10, z 11, z 12, z 13, z 14, z 15, z 16, z 17], [], 576⟩
def P_cmp_Or_b0 (p0 : List Int) (e : En) : R_cmp_Or_b0 → Prop
  | .k0 q0 => ∃ z zo, Tells G e (.st (.exit 0) (S_cmp_Or_b0_0 p0 q0 z zo))
  | .k1 q0 => ∃ z zo, Tells G e (.st .ret (S_cmp_Or_b0_1 p0 q0 z zo))
theorem P_cmp_Or_b0_mono (p0 : List Int) {e e' : En} (h : ∀ r, Tells G e r → Tells G e' r) : ∀ q, P_cmp_Or_b0 p0 e q → P_cmp_Or_b0 p0 e' q
  | .k0 _, ⟨z, zo, hz⟩ => ⟨z, zo, h _ hz⟩
  | .k1 _, ⟨z, zo, hz⟩ => ⟨z, zo, h _ hz⟩
def H_cmp_Or_b0 (p0 : List Int) : Prop := (List.length p0 ≤ 4611686018427387904) ∧ True
def Z_cmp_Or_b0_0 (p0 : List Int) (i0 : Nat) (_v0_1 : Int) : List PV :=
  [.un, .un, .un, .un, .un, .un, .sl (intRows p0), .int .i64 ((List.length p0) : Int), .int .i64 (i0 : Int), .bool false]
def ZO_cmp_Or_b0_0 (_p0 : List Int) (_i0 : Nat) (_v0_1 : Int) : List (Nat × List PV) :=
  []
theorem x_cmp_Or_b0_0 (p0 : List Int) (_H : H_cmp_Or_b0 p0) (i0 : Nat) (v0_1 : Int) (hc0 : (decide ((i0 : Int) < ((List.length p0) : Int))) = false) : P_cmp_Or_b0 p0 (E_cmp_Or_b0 p0 i0 v0_1) (.k0 v0_1) := by
  exact ⟨(envF (Z_cmp_Or_b0_0 p0 i0 v0_1)), (zoF (ZO_cmp_Or_b0_0 p0 i0 v0_1)), tells_outVI VOK.nil (x := ((.exit 0), S_cmp_Or_b0_0 p0 v0_1 (envF (Z_cmp_Or_b0_0 p0 i0 v0_1)) (zoF (ZO_cmp_Or_b0_0 p0 i0 v0_1)))) [hB 0 hc0] [] (by kernel_rfl)⟩
theorem n_cmp_Or_b0_1 (p0 : List Int) (H : H_cmp_Or_b0 p0) (x0 : Int) (i0 : Nat) (v0_1 : Int) (hx0 : p0[i0]? = some x0) (hi0 : i0 < List.length p0) (hc0 : (decide ((i0 : Int) < ((List.length p0) : Int))) = true) (h0 : (x0 == v0_1) = true) {r : Rs} (hr : Tells G (E_cmp_Or_b0 p0 (i0 + 1) v0_1) r) : Tells G (E_cmp_Or_b0 p0 i0 v0_1) r := by
  have hB0 := H.1; have e0 := eq_of_beq h0
  exact tells_nextVI VOK.nil (y := (HE_cmp_Or_b0 p0 (i0 + 1) v0_1, HO_cmp_Or_b0 p0 (i0 + 1) v0_1)) [hB 0 hc0, hP 0 (ix_ok 1 (intRows p0) i0 _ (intRowsGet hx0) rfl), hP 4 (dec (!(x0 == v0_1)) false (by rw [h0]; rfl)), hP 0 (inc_ok i0 (by omega))] [] (by kernel_rfl) hr
def Z_cmp_Or_b0_2 (p0 : List Int) (i0 : Nat) (v0_1 : Int) (x0 : Int) : List PV :=
  [.un, .un, .un, .int .i64 v0_1, .un, .int .i64 x0, .sl (intRows p0), .int .i64 ((List.length p0) : Int), .int .i64 (i0 : Int), .bool true, .rf [.int .i64 x0], .int .i64 x0, .int .i64 x0, .int .i64 v0_1, .bool true, .int .i64 x0]
def ZO_cmp_Or_b0_2 (_p0 : List Int) (_i0 : Nat) (_v0_1 : Int) (_x0 : Int) : List (Nat × List PV) :=
  []
theorem x_cmp_Or_b0_2 (p0 : List Int) (_H : H_cmp_Or_b0 p0) (x0 : Int) (i0 : Nat) (v0_1 : Int) (hx0 : p0[i0]? = some x0) (_hi0 : i0 < List.length p0) (hc0 : (decide ((i0 : Int) < ((List.length p0) : Int))) = true) (h0 : (x0 == v0_1) = false) : P_cmp_Or_b0 p0 (E_cmp_Or_b0 p0 i0 v0_1) (.k1 x0) := by
  exact ⟨(envF (Z_cmp_Or_b0_2 p0 i0 v0_1 x0)), (zoF (ZO_cmp_Or_b0_2 p0 i0 v0_1 x0)), tells_outVI VOK.nil (x := (.ret, S_cmp_Or_b0_1 p0 x0 (envF (Z_cmp_Or_b0_2 p0 i0 v0_1 x0)) (zoF (ZO_cmp_Or_b0_2 p0 i0 v0_1 x0)))) [hB 0 hc0, hP 0 (ix_ok 1 (intRows p0) i0 _ (intRowsGet hx0) rfl), hP 4 (dec (!(x0 == v0_1)) true (by rw [h0]; rfl))] [] (by kernel_rfl)⟩
theorem lt_cmp_Or_b0 (p0 : List Int) (H : H_cmp_Or_b0 p0) : ∀ (r0 : List Int) (i0 : Nat) (v0_1 : Int), List.drop i0 p0 = r0 → P_cmp_Or_b0 p0 (E_cmp_Or_b0 p0 i0 v0_1) (l_cmp_Or_b0 p0 r0 i0 v0_1)
  | [], i0, v0_1, hd => by
    have hc0 : (decide ((i0 : Int) < ((List.length p0) : Int))) = false := by have := drop_end hd; simp; omega
    rw [l_cmp_Or_b0]
    exact x_cmp_Or_b0_0 p0 H i0 v0_1 hc0
  | x0 :: r0, i0, v0_1, hd => by
    obtain ⟨hx0, hi0, hd'⟩ := drop_get hd
    have hc0 : (decide ((i0 : Int) < ((List.length p0) : Int))) = true := by simp; omega
    rw [l_cmp_Or_b0]
    cases h0 : (x0 == v0_1) with
    | true =>
     exact P_cmp_Or_b0_mono p0 (fun r hr => n_cmp_Or_b0_1 p0 H x0 i0 v0_1 hx0 hi0 hc0 h0 hr) _ (lt_cmp_Or_b0 p0 H r0 (i0 + 1) v0_1 hd')
    | false =>
     exact x_cmp_Or_b0_2 p0 H x0 i0 v0_1 hx0 hi0 hc0 h0
/-- cmp.Or[int] -/
def s_cmp_Or (p0 : List Int) : Int :=
  (match (l_cmp_Or_b0 p0 p0 0 0) with
  | .k0 y0_0 => y0_0
  | .k1 y0_0 => y0_0)
def c_cmp_Or (p0 : List Int) : En := .call 30 [.sl (intRows p0)] []
def a_cmp_Or (p0 : List Int) : Rs := .ret (.int .i64 (s_cmp_Or p0)) []
def H_cmp_Or (p0 : List Int) : Prop := (H_cmp_Or_b0 p0) ∧ True
theorem t_cmp_Or (p0 : List Int) (H : H_cmp_Or p0) : Tells G (c_cmp_Or p0) (a_cmp_Or p0) := by
  unfold a_cmp_Or s_cmp_Or
  have hl0 := lt_cmp_Or_b0 p0 (H.1) p0 0 0 (by simp)
  cases hr0 : (l_cmp_Or_b0 p0 p0 0 0) with
  | k0 y0_0 =>
    rw [hr0] at hl0
    obtain ⟨z0, zo0, hl0⟩ := hl0
    exact tells_VI (fn := Ir.cmp_Or) rfl VOK.nil [hP 3 (len_ok (intRows p0) (List.length p0) (intRowsLen p0))] [aN hl0] (by kernel_rfl)
  | k1 y0_0 =>
    rw [hr0] at hl0
    obtain ⟨z0, zo0, hl0⟩ := hl0
    exact tells_VI (fn := Ir.cmp_Or) rfl VOK.nil [hP 3 (len_ok (intRows p0) (List.length p0) (intRowsLen p0))] [aN hl0] (by kernel_rfl)

/-- orchestrator/ qos.ranked$1 -/
def s_qos_ranked_1 (p0 : Entry) (p1 : Entry) : Int :=
  bif (decide (0 < p0.excess)) then
    bif (true == (decide (0 < p1.excess))) then
      (s_cmp_Or ([(s_cmp_Compare p0.priority p1.priority), (s_cmp_Compare p1.excess p0.excess), (s_strings_Compare p0.key p1.key)]))
    else
      (-1)
  else
    bif (false == (decide (0 < p1.excess))) then
      (s_cmp_Or ([(s_cmp_Compare p0.priority p1.priority), (s_cmp_Compare p1.excess p0.excess), (s_strings_Compare p0.key p1.key)]))
    else
      1
def c_qos_ranked_1 (p0 : Entry) (p1 : Entry) : En := .call 29 [.agg (Entry.cells p0), .agg (Entry.cells p1)] []
def a_qos_ranked_1 (p0 : Entry) (p1 : Entry) : Rs := .ret (.int .i64 (s_qos_ranked_1 p0 p1)) []
theorem t_qos_ranked_1 (p0 : Entry) (p1 : Entry) : Tells G (c_qos_ranked_1 p0 p1) (a_qos_ranked_1 p0 p1) := by
  unfold a_qos_ranked_1 s_qos_ranked_1
  cases h0 : (decide (0 < p0.excess)) with
  | true =>
   cases h1 : (true == (decide (0 < p1.excess))) with
   | true =>
    exact tells_VI (fn := Ir.qos_ranked_1) rfl VOK.nil [hB 5 h0, hP 5 (dec (!(true == (decide (0 < p1.excess)))) false (by rw [h1]; rfl))] [aN (t_cmp_Compare p0.priority p1.priority), aN (t_cmp_Compare p1.excess p0.excess), aN (t_strings_Compare p0.key p1.key), aN (t_cmp_Or ([(s_cmp_Compare p0.priority p1.priority), (s_cmp_Compare p1.excess p0.excess), (s_strings_Compare p0.key p1.key)]) (by simp [H_cmp_Or, H_cmp_Or_b0]))] (by kernel_rfl)
   | false =>
    exact tells_VI (fn := Ir.qos_ranked_1) rfl VOK.nil [hB 5 h0, hP 5 (dec (!(true == (decide (0 < p1.excess)))) true (by rw [h1]; rfl))] [] (by kernel_rfl)
  | false =>
   cases h1 : (false == (decide (0 < p1.excess))) with
   | true =>
    exact tells_VI (fn := Ir.qos_ranked_1) rfl VOK.nil [hB 5 h0, hP 5 (dec (!(false == (decide (0 < p1.excess)))) false (by rw [h1]; rfl))] [aN (t_cmp_Compare p0.priority p1.priority), aN (t_cmp_Compare p1.excess p0.excess), aN (t_strings_Compare p0.key p1.key), aN (t_cmp_Or ([(s_cmp_Compare p0.priority p1.priority), (s_cmp_Compare p1.excess p0.excess), (s_strings_Compare p0.key p1.key)]) (by simp [H_cmp_Or, H_cmp_Or_b0]))] (by kernel_rfl)
   | false =>
    exact tells_VI (fn := Ir.qos_ranked_1) rfl VOK.nil [hB 5 h0, hP 5 (dec (!(false == (decide (0 < p1.excess)))) true (by rw [h1]; rfl))] [] (by kernel_rfl)

def l_slices_insertionSortCmpFunc_b1 (n0 : Nat) (p1 : Int) (p2 : Int) (v0_0 : Int) : Nat → (List Entry) → Int → List Entry
  | 0, v1_0, _v1_1 => v1_0
  | k1 + 1, v1_0, v1_1 =>
    bif (decide (p1 < v1_1)) then
      bif (decide ((s_qos_ranked_1 (List.getD v1_0 (Int.toNat v1_1) (Entry.mk (⟨#[]⟩ : ByteArray) 0 0 0)) (List.getD v1_0 (Int.toNat (v1_1 - 1)) (Entry.mk (⟨#[]⟩ : ByteArray) 0 0 0))) < 0)) then
        l_slices_insertionSortCmpFunc_b1 n0 p1 p2 v0_0 k1 (List.set (List.set v1_0 (Int.toNat v1_1) (List.getD v1_0 (Int.toNat (v1_1 - 1)) (Entry.mk (⟨#[]⟩ : ByteArray) 0 0 0))) (Int.toNat (v1_1 - 1)) (List.getD v1_0 (Int.toNat v1_1) (Entry.mk (⟨#[]⟩ : ByteArray) 0 0 0))) (v1_1 - 1)
      else
        v1_0
    else
      v1_0
def HE_slices_insertionSortCmpFunc_b1 (n0 : Nat) (p1 : Int) (p2 : Int) (v0_0 : Int) (_v1_0 : List Entry) (v1_1 : Int) : List PV :=
  [.ms 0 4 0 n0, .int .i64 p1, .int .i64 p2, .fn 29 [] [], .un, .un, .un, .un, .int .i64 v0_0, .int .i64 v1_1, .un, .un, .un, .un, .un, .un, .un, .un, .un, .un, .un, .un, .un, .un, .un, .un, .un, .un, .un, .un, .un, .un, .un, .un, .un, .un, .un, .un, .un, .un, .un, .un, .un, .un, .un, .un, .un, .un, .un, .un, .un, .un, .un]
def HO_slices_insertionSortCmpFunc_b1 (_n0 : Nat) (_p1 : Int) (_p2 : Int) (_v0_0 : Int) (v1_0 : List Entry) (_v1_1 : Int) : List Ob :=
  [⟨4, 0, false, (Entry.rows v1_0).flatten⟩]
def E_slices_insertionSortCmpFunc_b1 (n0 : Nat) (p1 : Int) (p2 : Int) (v0_0 : Int) (v1_0 : List Entry) (v1_1 : Int) : En := .loop 1 Ir.slices_insertionSortCmpFunc_b1_live Ir.slices_insertionSortCmpFunc_b1 (HE_slices_insertionSortCmpFunc_b1 n0 p1 p2 v0_0 v1_0 v1_1) (HO_slices_insertionSortCmpFunc_b1 n0 p1 p2 v0_0 v1_0 v1_1)
def S_slices_insertionSortCmpFunc_b1_0 (n0 : Nat) (p1 : Int) (p2 : Int) (v0_0 : Int) (q0 : List Entry) (z : Nat → PV) (_zo : Nat → List PV) : St :=
  ⟨[.ms 0 4 0 n0, .int .i64 p1, .int .i64 p2, .fn 29 [] [], z 4, z 5, z 6, z 7, .int .i64 v0_0, z 9, z 10, z 11, z 12, z 13, z 14, z 15, z 16, z 17, z 18, z 19, z 20, z 21, z 22, z 23, z 24, z 25, z 26, z 27, z 28, z 29, z 30, z 31, z 32, z 33, z 34, z 35, z 36, z 37, z 38, z 39, z 40, z 41, z 42, z 43, z 44, z 45, z 46, z 47, z 48, z 49, z 50, z 51, z 52], [(0, ⟨4, 0, false, (Entry.rows q0).flatten⟩)], 1089⟩
theorem V_slices_insertionSortCmpFunc_b1 (n0 : Nat) (p1 : Int) (p2 : Int) (v0_0 : Int) (v1_0 : List Entry) (v1_1 : Int) : VOK (Go.Pv.look (number 0 (HO_slices_insertionSortCmpFunc_b1 n0 p1 p2 v0_0 v1_0 v1_1))) [(0, Entry.rows v1_0)] := (VOK.cons (show Seen _ _ from seenV (ob := ⟨4, 0, false, (Entry.rows v1_0).flatten⟩) (Entry.rowsView v1_0 4 rfl)) VOK.nil)
def P_slices_insertionSortCmpFunc_b1 (n0 : Nat) (p1 : Int) (p2 : Int) (v0_0 : Int) (e : En) (q : List Entry) : Prop := ∃ z zo, Tells G e (.st (.exit 2) (S_slices_insertionSortCmpFunc_b1_0 n0 p1 p2 v0_0 q z zo))
theorem P_slices_insertionSortCmpFunc_b1_mono (n0 : Nat) (p1 : Int) (p2 : Int) (v0_0 : Int) {e e' : En} (h : ∀ r, Tells G e r → Tells G e' r) : ∀ q, P_slices_insertionSortCmpFunc_b1 n0 p1 p2 v0_0 e q → P_slices_insertionSortCmpFunc_b1 n0 p1 p2 v0_0 e' q
  | _, ⟨z, zo, hz⟩ => ⟨z, zo, h _ hz⟩
theorem n_slices_insertionSortCmpFunc_b1_0 (n0 : Nat) (p1 : Int) (p2 : Int) (v0_0 : Int) (v1_0 : List Entry) (v1_1 : Int) (ho1_0 : 0 ≤ p1) (_ho1_1 : p1 ≤ v1_1) (ho1_2 : v1_1 < n0) (ho1_3 : (n0 : Int) ≤ 1152921504606846976) (ho1_4 : List.length v1_0 = n0) (h0 : (decide (p1 < v1_1)) = true) (h1 : (decide ((s_qos_ranked_1 (List.getD v1_0 (Int.toNat v1_1) (Entry.mk (⟨#[]⟩ : ByteArray) 0 0 0)) (List.getD v1_0 (Int.toNat (v1_1 - 1)) (Entry.mk (⟨#[]⟩ : ByteArray) 0 0 0))) < 0)) = true) {r : Rs} (hr : Tells G (E_slices_insertionSortCmpFunc_b1 n0 p1 p2 v0_0 (List.set (List.set v1_0 (Int.toNat v1_1) (List.getD v1_0 (Int.toNat (v1_1 - 1)) (Entry.mk (⟨#[]⟩ : ByteArray) 0 0 0))) (Int.toNat (v1_1 - 1)) (List.getD v1_0 (Int.toNat v1_1) (Entry.mk (⟨#[]⟩ : ByteArray) 0 0 0))) (v1_1 - 1)) r) : Tells G (E_slices_insertionSortCmpFunc_b1 n0 p1 p2 v0_0 v1_0 v1_1) r := by
  have e0 := of_decide_eq_true h0; have e1 := of_decide_eq_true h1
  exact tells_nextVI (V_slices_insertionSortCmpFunc_b1 n0 p1 p2 v0_0 v1_0 v1_1) (y := (HE_slices_insertionSortCmpFunc_b1 n0 p1 p2 v0_0 (List.set (List.set v1_0 (Int.toNat v1_1) (List.getD v1_0 (Int.toNat (v1_1 - 1)) (Entry.mk (⟨#[]⟩ : ByteArray) 0 0 0))) (Int.toNat (v1_1 - 1)) (List.getD v1_0 (Int.toNat v1_1) (Entry.mk (⟨#[]⟩ : ByteArray) 0 0 0))) (v1_1 - 1), HO_slices_insertionSortCmpFunc_b1 n0 p1 p2 v0_0 (List.set (List.set v1_0 (Int.toNat v1_1) (List.getD v1_0 (Int.toNat (v1_1 - 1)) (Entry.mk (⟨#[]⟩ : ByteArray) 0 0 0))) (Int.toNat (v1_1 - 1)) (List.getD v1_0 (Int.toNat v1_1) (Entry.mk (⟨#[]⟩ : ByteArray) 0 0 0))) (v1_1 - 1))) [hB 2 h0, hP 4 (ixs_ok 0 4 n0 v1_1 (Int.toNat v1_1) rfl (by omega) (by omega)), hP 0 (ld_ok 0 4 0 false ((Entry.rows v1_0).flatten) (Entry.rows v1_0) 4 true (Int.toNat v1_1) 0 ((Int.toNat v1_1) * 4) (Entry.cells (List.getD v1_0 (Int.toNat v1_1) (Entry.mk (⟨#[]⟩ : ByteArray) 0 0 0))) (.agg [.str (List.getD v1_0 (Int.toNat v1_1) (Entry.mk (⟨#[]⟩ : ByteArray) 0 0 0)).key, .int .i64 (List.getD v1_0 (Int.toNat v1_1) (Entry.mk (⟨#[]⟩ : ByteArray) 0 0 0)).priority, .int .i64 (List.getD v1_0 (Int.toNat v1_1) (Entry.mk (⟨#[]⟩ : ByteArray) 0 0 0)).usage, .int .i64 (List.getD v1_0 (Int.toNat v1_1) (Entry.mk (⟨#[]⟩ : ByteArray) 0 0 0)).excess]) rfl rfl (Entry.rowsGet (getD_ok v1_0 (Int.toNat v1_1) (Entry.mk (⟨#[]⟩ : ByteArray) 0 0 0) (by omega))) (Entry.rowsSize v1_0) (by decide) rfl), hP 2 (w_ok (v1_1 - 1) (by omega)), hP 0 (ixs_ok 0 4 n0 (v1_1 - 1) (Int.toNat (v1_1 - 1)) rfl (by omega) (by omega)), hP 0 (ld_ok 0 4 0 false ((Entry.rows v1_0).flatten) (Entry.rows v1_0) 4 true (Int.toNat (v1_1 - 1)) 0 ((Int.toNat (v1_1 - 1)) * 4) (Entry.cells (List.getD v1_0 (Int.toNat (v1_1 - 1)) (Entry.mk (⟨#[]⟩ : ByteArray) 0 0 0))) (.agg [.str (List.getD v1_0 (Int.toNat (v1_1 - 1)) (Entry.mk (⟨#[]⟩ : ByteArray) 0 0 0)).key, .int .i64 (List.getD v1_0 (Int.toNat (v1_1 - 1)) (Entry.mk (⟨#[]⟩ : ByteArray) 0 0 0)).priority, .int .i64 (List.getD v1_0 (Int.toNat (v1_1 - 1)) (Entry.mk (⟨#[]⟩ : ByteArray) 0 0 0)).usage, .int .i64 (List.getD v1_0 (Int.toNat (v1_1 - 1)) (Entry.mk (⟨#[]⟩ : ByteArray) 0 0 0)).excess]) rfl rfl (Entry.rowsGet (getD_ok v1_0 (Int.toNat (v1_1 - 1)) (Entry.mk (⟨#[]⟩ : ByteArray) 0 0 0) (by omega))) (Entry.rowsSize v1_0) (by decide) rfl), hB 1 h1, hP 5 (w_ok (v1_1 - 1) (by omega)), hP 2 (w_ok (v1_1 - 1) (by omega)), hP 0 (ixs_ok 0 4 n0 (v1_1 - 1) (Int.toNat (v1_1 - 1)) rfl (by omega) (by omega)), hP 0 (ld_ok 0 4 0 false ((Entry.rows v1_0).flatten) (Entry.rows v1_0) 4 true (Int.toNat (v1_1 - 1)) 0 ((Int.toNat (v1_1 - 1)) * 4) (Entry.cells (List.getD v1_0 (Int.toNat (v1_1 - 1)) (Entry.mk (⟨#[]⟩ : ByteArray) 0 0 0))) (.agg [.str (List.getD v1_0 (Int.toNat (v1_1 - 1)) (Entry.mk (⟨#[]⟩ : ByteArray) 0 0 0)).key, .int .i64 (List.getD v1_0 (Int.toNat (v1_1 - 1)) (Entry.mk (⟨#[]⟩ : ByteArray) 0 0 0)).priority, .int .i64 (List.getD v1_0 (Int.toNat (v1_1 - 1)) (Entry.mk (⟨#[]⟩ : ByteArray) 0 0 0)).usage, .int .i64 (List.getD v1_0 (Int.toNat (v1_1 - 1)) (Entry.mk (⟨#[]⟩ : ByteArray) 0 0 0)).excess]) rfl rfl (Entry.rowsGet (getD_ok v1_0 (Int.toNat (v1_1 - 1)) (Entry.mk (⟨#[]⟩ : ByteArray) 0 0 0) (by omega))) (Entry.rowsSize v1_0) (by decide) rfl), hP 2 (ixs_ok 0 4 n0 v1_1 (Int.toNat v1_1) rfl (by omega) (by omega)), hP 0 (ld_ok 0 4 0 false ((Entry.rows v1_0).flatten) (Entry.rows v1_0) 4 true (Int.toNat v1_1) 0 ((Int.toNat v1_1) * 4) (Entry.cells (List.getD v1_0 (Int.toNat v1_1) (Entry.mk (⟨#[]⟩ : ByteArray) 0 0 0))) (.agg [.str (List.getD v1_0 (Int.toNat v1_1) (Entry.mk (⟨#[]⟩ : ByteArray) 0 0 0)).key, .int .i64 (List.getD v1_0 (Int.toNat v1_1) (Entry.mk (⟨#[]⟩ : ByteArray) 0 0 0)).priority, .int .i64 (List.getD v1_0 (Int.toNat v1_1) (Entry.mk (⟨#[]⟩ : ByteArray) 0 0 0)).usage, .int .i64 (List.getD v1_0 (Int.toNat v1_1) (Entry.mk (⟨#[]⟩ : ByteArray) 0 0 0)).excess]) rfl rfl (Entry.rowsGet (getD_ok v1_0 (Int.toNat v1_1) (Entry.mk (⟨#[]⟩ : ByteArray) 0 0 0) (by omega))) (Entry.rowsSize v1_0) (by decide) rfl), hP 0 (ixs_ok 0 4 n0 v1_1 (Int.toNat v1_1) rfl (by omega) (by omega)), hV 0 [(0, Entry.rows (List.set v1_0 (Int.toNat v1_1) (List.getD v1_0 (Int.toNat (v1_1 - 1)) (Entry.mk (⟨#[]⟩ : ByteArray) 0 0 0))))] (st_ok 0 4 false ((Entry.rows v1_0).flatten) (Entry.rows v1_0) (Entry.rows (List.set v1_0 (Int.toNat v1_1) (List.getD v1_0 (Int.toNat (v1_1 - 1)) (Entry.mk (⟨#[]⟩ : ByteArray) 0 0 0)))) 4 (Int.toNat v1_1) 0 ((Int.toNat v1_1) * 4) _ (.agg [.str (List.getD v1_0 (Int.toNat (v1_1 - 1)) (Entry.mk (⟨#[]⟩ : ByteArray) 0 0 0)).key, .int .i64 (List.getD v1_0 (Int.toNat (v1_1 - 1)) (Entry.mk (⟨#[]⟩ : ByteArray) 0 0 0)).priority, .int .i64 (List.getD v1_0 (Int.toNat (v1_1 - 1)) (Entry.mk (⟨#[]⟩ : ByteArray) 0 0 0)).usage, .int .i64 (List.getD v1_0 (Int.toNat (v1_1 - 1)) (Entry.mk (⟨#[]⟩ : ByteArray) 0 0 0)).excess]) rfl rfl (Entry.rowsGet (getD_ok v1_0 (Int.toNat v1_1) (Entry.mk (⟨#[]⟩ : ByteArray) 0 0 0) (by omega))) (Entry.rowsSize v1_0) (by decide) rfl rfl (Entry.rowsSet v1_0 (Int.toNat v1_1) (List.getD v1_0 (Int.toNat (v1_1 - 1)) (Entry.mk (⟨#[]⟩ : ByteArray) 0 0 0)))), hS 0 false (Entry.rowsView (List.set v1_0 (Int.toNat v1_1) (List.getD v1_0 (Int.toNat (v1_1 - 1)) (Entry.mk (⟨#[]⟩ : ByteArray) 0 0 0))) 4 rfl), hP 0 (ixs_ok 0 4 n0 (v1_1 - 1) (Int.toNat (v1_1 - 1)) rfl (by have f0 := (lenSet ho1_4 (Int.toNat v1_1) (List.getD v1_0 (Int.toNat (v1_1 - 1)) (Entry.mk (⟨#[]⟩ : ByteArray) 0 0 0))); omega) (by have f0 := (lenSet ho1_4 (Int.toNat v1_1) (List.getD v1_0 (Int.toNat (v1_1 - 1)) (Entry.mk (⟨#[]⟩ : ByteArray) 0 0 0))); omega)), hV 0 [(0, Entry.rows (List.set (List.set v1_0 (Int.toNat v1_1) (List.getD v1_0 (Int.toNat (v1_1 - 1)) (Entry.mk (⟨#[]⟩ : ByteArray) 0 0 0))) (Int.toNat (v1_1 - 1)) (List.getD v1_0 (Int.toNat v1_1) (Entry.mk (⟨#[]⟩ : ByteArray) 0 0 0))))] (st_ok 0 4 false ((Entry.rows (List.set v1_0 (Int.toNat v1_1) (List.getD v1_0 (Int.toNat (v1_1 - 1)) (Entry.mk (⟨#[]⟩ : ByteArray) 0 0 0)))).flatten) (Entry.rows (List.set v1_0 (Int.toNat v1_1) (List.getD v1_0 (Int.toNat (v1_1 - 1)) (Entry.mk (⟨#[]⟩ : ByteArray) 0 0 0)))) (Entry.rows (List.set (List.set v1_0 (Int.toNat v1_1) (List.getD v1_0 (Int.toNat (v1_1 - 1)) (Entry.mk (⟨#[]⟩ : ByteArray) 0 0 0))) (Int.toNat (v1_1 - 1)) (List.getD v1_0 (Int.toNat v1_1) (Entry.mk (⟨#[]⟩ : ByteArray) 0 0 0)))) 4 (Int.toNat (v1_1 - 1)) 0 ((Int.toNat (v1_1 - 1)) * 4) _ (.agg [.str (List.getD v1_0 (Int.toNat v1_1) (Entry.mk (⟨#[]⟩ : ByteArray) 0 0 0)).key, .int .i64 (List.getD v1_0 (Int.toNat v1_1) (Entry.mk (⟨#[]⟩ : ByteArray) 0 0 0)).priority, .int .i64 (List.getD v1_0 (Int.toNat v1_1) (Entry.mk (⟨#[]⟩ : ByteArray) 0 0 0)).usage, .int .i64 (List.getD v1_0 (Int.toNat v1_1) (Entry.mk (⟨#[]⟩ : ByteArray) 0 0 0)).excess]) rfl rfl (Entry.rowsGet (getD_ok (List.set v1_0 (Int.toNat v1_1) (List.getD v1_0 (Int.toNat (v1_1 - 1)) (Entry.mk (⟨#[]⟩ : ByteArray) 0 0 0))) (Int.toNat (v1_1 - 1)) (Entry.mk (⟨#[]⟩ : ByteArray) 0 0 0) (by have f0 := (lenSet ho1_4 (Int.toNat v1_1) (List.getD v1_0 (Int.toNat (v1_1 - 1)) (Entry.mk (⟨#[]⟩ : ByteArray) 0 0 0))); try simp only [List.length_set]; omega))) (Entry.rowsSize (List.set v1_0 (Int.toNat v1_1) (List.getD v1_0 (Int.toNat (v1_1 - 1)) (Entry.mk (⟨#[]⟩ : ByteArray) 0 0 0)))) (by decide) rfl rfl (Entry.rowsSet (List.set v1_0 (Int.toNat v1_1) (List.getD v1_0 (Int.toNat (v1_1 - 1)) (Entry.mk (⟨#[]⟩ : ByteArray) 0 0 0))) (Int.toNat (v1_1 - 1)) (List.getD v1_0 (Int.toNat v1_1) (Entry.mk (⟨#[]⟩ : ByteArray) 0 0 0)))), hS 0 false (Entry.rowsView (List.set (List.set v1_0 (Int.toNat v1_1) (List.getD v1_0 (Int.toNat (v1_1 - 1)) (Entry.mk (⟨#[]⟩ : ByteArray) 0 0 0))) (Int.toNat (v1_1 - 1)) (List.getD v1_0 (Int.toNat v1_1) (Entry.mk (⟨#[]⟩ : ByteArray) 0 0 0))) 4 rfl), hP 1 (w_ok (v1_1 - 1) (by have f0 := (lenSet (lenSet ho1_4 (Int.toNat v1_1) (List.getD v1_0 (Int.toNat (v1_1 - 1)) (Entry.mk (⟨#[]⟩ : ByteArray) 0 0 0))) (Int.toNat (v1_1 - 1)) (List.getD v1_0 (Int.toNat v1_1) (Entry.mk (⟨#[]⟩ : ByteArray) 0 0 0))); omega))] [aN (t_qos_ranked_1 (List.getD v1_0 (Int.toNat v1_1) (Entry.mk (⟨#[]⟩ : ByteArray) 0 0 0)) (List.getD v1_0 (Int.toNat (v1_1 - 1)) (Entry.mk (⟨#[]⟩ : ByteArray) 0 0 0)))] (by kernel_rfl) hr
def Z_slices_insertionSortCmpFunc_b1_1 (n0 : Nat) (p1 : Int) (_p2 : Int) (_v0_0 : Int) (v1_0 : List Entry) (v1_1 : Int) : List PV :=
  [.un, .un, .un, .un, .un, .un, .un, .un, .un, .int .i64 v1_1, .un, .un, .un, .un, .un, .un, .un, .un, .int .i64 v1_1, .int .i64 p1, .bool true, .bool true, .fn 29 [] [], .ms 0 4 0 n0, .int .i64 v1_1, .bx 0 ((Int.toNat v1_1) * 4), .agg [.str (List.getD v1_0 (Int.toNat v1_1) (Entry.mk (⟨#[]⟩ : ByteArray) 0 0 0)).key, .int .i64 (List.getD v1_0 (Int.toNat v1_1) (Entry.mk (⟨#[]⟩ : ByteArray) 0 0 0)).priority, .int .i64 (List.getD v1_0 (Int.toNat v1_1) (Entry.mk (⟨#[]⟩ : ByteArray) 0 0 0)).usage, .int .i64 (List.getD v1_0 (Int.toNat v1_1) (Entry.mk (⟨#[]⟩ : ByteArray) 0 0 0)).excess], .ms 0 4 0 n0, .int .i64 v1_1, .int .i64 (v1_1 - 1), .bx 0 ((Int.toNat (v1_1 - 1)) * 4), .agg [.str (List.getD v1_0 (Int.toNat (v1_1 - 1)) (Entry.mk (⟨#[]⟩ : ByteArray) 0 0 0)).key, .int .i64 (List.getD v1_0 (Int.toNat (v1_1 - 1)) (Entry.mk (⟨#[]⟩ : ByteArray) 0 0 0)).priority, .int .i64 (List.getD v1_0 (Int.toNat (v1_1 - 1)) (Entry.mk (⟨#[]⟩ : ByteArray) 0 0 0)).usage, .int .i64 (List.getD v1_0 (Int.toNat (v1_1 - 1)) (Entry.mk (⟨#[]⟩ : ByteArray) 0 0 0)).excess], .int .i64 (s_qos_ranked_1 (List.getD v1_0 (Int.toNat v1_1) (Entry.mk (⟨#[]⟩ : ByteArray) 0 0 0)) (List.getD v1_0 (Int.toNat (v1_1 - 1)) (Entry.mk (⟨#[]⟩ : ByteArray) 0 0 0))), .bool false, .bool false]
def ZO_slices_insertionSortCmpFunc_b1_1 (_n0 : Nat) (_p1 : Int) (_p2 : Int) (_v0_0 : Int) (_v1_0 : List Entry) (_v1_1 : Int) : List (Nat × List PV) :=
  []
theorem x_slices_insertionSortCmpFunc_b1_1 (n0 : Nat) (p1 : Int) (p2 : Int) (v0_0 : Int) (v1_0 : List Entry) (v1_1 : Int) (ho1_0 : 0 ≤ p1) (_ho1_1 : p1 ≤ v1_1) (ho1_2 : v1_1 < n0) (ho1_3 : (n0 : Int) ≤ 1152921504606846976) (ho1_4 : List.length v1_0 = n0) (h0 : (decide (p1 < v1_1)) = true) (h1 : (decide ((s_qos_ranked_1 (List.getD v1_0 (Int.toNat v1_1) (Entry.mk (⟨#[]⟩ : ByteArray) 0 0 0)) (List.getD v1_0 (Int.toNat (v1_1 - 1)) (Entry.mk (⟨#[]⟩ : ByteArray) 0 0 0))) < 0)) = false) : P_slices_insertionSortCmpFunc_b1 n0 p1 p2 v0_0 (E_slices_insertionSortCmpFunc_b1 n0 p1 p2 v0_0 v1_0 v1_1) v1_0 := by
  have e0 := of_decide_eq_true h0; have e1 := of_decide_eq_false h1
  exact ⟨(envF (Z_slices_insertionSortCmpFunc_b1_1 n0 p1 p2 v0_0 v1_0 v1_1)), (zoF (ZO_slices_insertionSortCmpFunc_b1_1 n0 p1 p2 v0_0 v1_0 v1_1)), tells_outVI (V_slices_insertionSortCmpFunc_b1 n0 p1 p2 v0_0 v1_0 v1_1) (x := ((.exit 2), S_slices_insertionSortCmpFunc_b1_0 n0 p1 p2 v0_0 v1_0 (envF (Z_slices_insertionSortCmpFunc_b1_1 n0 p1 p2 v0_0 v1_0 v1_1)) (zoF (ZO_slices_insertionSortCmpFunc_b1_1 n0 p1 p2 v0_0 v1_0 v1_1)))) [hB 2 h0, hP 4 (ixs_ok 0 4 n0 v1_1 (Int.toNat v1_1) rfl (by omega) (by omega)), hP 0 (ld_ok 0 4 0 false ((Entry.rows v1_0).flatten) (Entry.rows v1_0) 4 true (Int.toNat v1_1) 0 ((Int.toNat v1_1) * 4) (Entry.cells (List.getD v1_0 (Int.toNat v1_1) (Entry.mk (⟨#[]⟩ : ByteArray) 0 0 0))) (.agg [.str (List.getD v1_0 (Int.toNat v1_1) (Entry.mk (⟨#[]⟩ : ByteArray) 0 0 0)).key, .int .i64 (List.getD v1_0 (Int.toNat v1_1) (Entry.mk (⟨#[]⟩ : ByteArray) 0 0 0)).priority, .int .i64 (List.getD v1_0 (Int.toNat v1_1) (Entry.mk (⟨#[]⟩ : ByteArray) 0 0 0)).usage, .int .i64 (List.getD v1_0 (Int.toNat v1_1) (Entry.mk (⟨#[]⟩ : ByteArray) 0 0 0)).excess]) rfl rfl (Entry.rowsGet (getD_ok v1_0 (Int.toNat v1_1) (Entry.mk (⟨#[]⟩ : ByteArray) 0 0 0) (by omega))) (Entry.rowsSize v1_0) (by decide) rfl), hP 2 (w_ok (v1_1 - 1) (by omega)), hP 0 (ixs_ok 0 4 n0 (v1_1 - 1) (Int.toNat (v1_1 - 1)) rfl (by omega) (by omega)), hP 0 (ld_ok 0 4 0 false ((Entry.rows v1_0).flatten) (Entry.rows v1_0) 4 true (Int.toNat (v1_1 - 1)) 0 ((Int.toNat (v1_1 - 1)) * 4) (Entry.cells (List.getD v1_0 (Int.toNat (v1_1 - 1)) (Entry.mk (⟨#[]⟩ : ByteArray) 0 0 0))) (.agg [.str (List.getD v1_0 (Int.toNat (v1_1 - 1)) (Entry.mk (⟨#[]⟩ : ByteArray) 0 0 0)).key, .int .i64 (List.getD v1_0 (Int.toNat (v1_1 - 1)) (Entry.mk (⟨#[]⟩ : ByteArray) 0 0 0)).priority, .int .i64 (List.getD v1_0 (Int.toNat (v1_1 - 1)) (Entry.mk (⟨#[]⟩ : ByteArray) 0 0 0)).usage, .int .i64 (List.getD v1_0 (Int.toNat (v1_1 - 1)) (Entry.mk (⟨#[]⟩ : ByteArray) 0 0 0)).excess]) rfl rfl (Entry.rowsGet (getD_ok v1_0 (Int.toNat (v1_1 - 1)) (Entry.mk (⟨#[]⟩ : ByteArray) 0 0 0) (by omega))) (Entry.rowsSize v1_0) (by decide) rfl), hB 1 h1] [aN (t_qos_ranked_1 (List.getD v1_0 (Int.toNat v1_1) (Entry.mk (⟨#[]⟩ : ByteArray) 0 0 0)) (List.getD v1_0 (Int.toNat (v1_1 - 1)) (Entry.mk (⟨#[]⟩ : ByteArray) 0 0 0)))] (by kernel_rfl)⟩
def Z_slices_insertionSortCmpFunc_b1_2 (_n0 : Nat) (p1 : Int) (_p2 : Int) (_v0_0 : Int) (_v1_0 : List Entry) (v1_1 : Int) : List PV :=
  [.un, .un, .un, .un, .un, .un, .un, .un, .un, .int .i64 v1_1, .un, .un, .un, .un, .un, .un, .un, .un, .int .i64 v1_1, .int .i64 p1, .bool false, .bool false, .tup [], .tup [], .tup [], .tup [], .tup [], .tup [], .tup [], .tup [], .tup [], .tup [], .tup [], .tup [], .bool false]
def ZO_slices_insertionSortCmpFunc_b1_2 (_n0 : Nat) (_p1 : Int) (_p2 : Int) (_v0_0 : Int) (_v1_0 : List Entry) (_v1_1 : Int) : List (Nat × List PV) :=
  []
theorem x_slices_insertionSortCmpFunc_b1_2 (n0 : Nat) (p1 : Int) (p2 : Int) (v0_0 : Int) (v1_0 : List Entry) (v1_1 : Int) (_ho1_0 : 0 ≤ p1) (_ho1_1 : p1 ≤ v1_1) (_ho1_2 : v1_1 < n0) (_ho1_3 : (n0 : Int) ≤ 1152921504606846976) (_ho1_4 : List.length v1_0 = n0) (h0 : (decide (p1 < v1_1)) = false) : P_slices_insertionSortCmpFunc_b1 n0 p1 p2 v0_0 (E_slices_insertionSortCmpFunc_b1 n0 p1 p2 v0_0 v1_0 v1_1) v1_0 := by
  exact ⟨(envF (Z_slices_insertionSortCmpFunc_b1_2 n0 p1 p2 v0_0 v1_0 v1_1)), (zoF (ZO_slices_insertionSortCmpFunc_b1_2 n0 p1 p2 v0_0 v1_0 v1_1)), tells_outVI (V_slices_insertionSortCmpFunc_b1 n0 p1 p2 v0_0 v1_0 v1_1) (x := ((.exit 2), S_slices_insertionSortCmpFunc_b1_0 n0 p1 p2 v0_0 v1_0 (envF (Z_slices_insertionSortCmpFunc_b1_2 n0 p1 p2 v0_0 v1_0 v1_1)) (zoF (ZO_slices_insertionSortCmpFunc_b1_2 n0 p1 p2 v0_0 v1_0 v1_1)))) [hB 2 h0] [] (by kernel_rfl)⟩
theorem lt_slices_insertionSortCmpFunc_b1 (n0 : Nat) (p1 : Int) (p2 : Int) (v0_0 : Int) : ∀ (k1 : Nat) (v1_0 : List Entry) (v1_1 : Int), 0 ≤ p1 → p1 ≤ v1_1 → v1_1 < n0 → (n0 : Int) ≤ 1152921504606846976 → List.length v1_0 = n0 → Int.toNat v1_1 < k1 → P_slices_insertionSortCmpFunc_b1 n0 p1 p2 v0_0 (E_slices_insertionSortCmpFunc_b1 n0 p1 p2 v0_0 v1_0 v1_1) (l_slices_insertionSortCmpFunc_b1 n0 p1 p2 v0_0 k1 v1_0 v1_1)
  | 0, v1_0, v1_1, _, _, _, _, _, hm => absurd hm (Nat.not_lt_zero _)
  | k1 + 1, v1_0, v1_1, ho1_0, ho1_1, ho1_2, ho1_3, ho1_4, hm => by
    rw [l_slices_insertionSortCmpFunc_b1]
    cases h0 : (decide (p1 < v1_1)) with
    | true =>
     have e0 := of_decide_eq_true h0
     cases h1 : (decide ((s_qos_ranked_1 (List.getD v1_0 (Int.toNat v1_1) (Entry.mk (⟨#[]⟩ : ByteArray) 0 0 0)) (List.getD v1_0 (Int.toNat (v1_1 - 1)) (Entry.mk (⟨#[]⟩ : ByteArray) 0 0 0))) < 0)) with
     | true =>
      have e1 := of_decide_eq_true h1
      exact P_slices_insertionSortCmpFunc_b1_mono n0 p1 p2 v0_0 (fun r hr => n_slices_insertionSortCmpFunc_b1_0 n0 p1 p2 v0_0 v1_0 v1_1 ho1_0 ho1_1 ho1_2 ho1_3 ho1_4 h0 h1 hr) _ (lt_slices_insertionSortCmpFunc_b1 n0 p1 p2 v0_0 k1 (List.set (List.set v1_0 (Int.toNat v1_1) (List.getD v1_0 (Int.toNat (v1_1 - 1)) (Entry.mk (⟨#[]⟩ : ByteArray) 0 0 0))) (Int.toNat (v1_1 - 1)) (List.getD v1_0 (Int.toNat v1_1) (Entry.mk (⟨#[]⟩ : ByteArray) 0 0 0))) (v1_1 - 1) (by have f0 := (lenSet (lenSet ho1_4 (Int.toNat v1_1) (List.getD v1_0 (Int.toNat (v1_1 - 1)) (Entry.mk (⟨#[]⟩ : ByteArray) 0 0 0))) (Int.toNat (v1_1 - 1)) (List.getD v1_0 (Int.toNat v1_1) (Entry.mk (⟨#[]⟩ : ByteArray) 0 0 0))); omega) (by have f0 := (lenSet (lenSet ho1_4 (Int.toNat v1_1) (List.getD v1_0 (Int.toNat (v1_1 - 1)) (Entry.mk (⟨#[]⟩ : ByteArray) 0 0 0))) (Int.toNat (v1_1 - 1)) (List.getD v1_0 (Int.toNat v1_1) (Entry.mk (⟨#[]⟩ : ByteArray) 0 0 0))); omega) (by have f0 := (lenSet (lenSet ho1_4 (Int.toNat v1_1) (List.getD v1_0 (Int.toNat (v1_1 - 1)) (Entry.mk (⟨#[]⟩ : ByteArray) 0 0 0))) (Int.toNat (v1_1 - 1)) (List.getD v1_0 (Int.toNat v1_1) (Entry.mk (⟨#[]⟩ : ByteArray) 0 0 0))); omega) (by have f0 := (lenSet (lenSet ho1_4 (Int.toNat v1_1) (List.getD v1_0 (Int.toNat (v1_1 - 1)) (Entry.mk (⟨#[]⟩ : ByteArray) 0 0 0))) (Int.toNat (v1_1 - 1)) (List.getD v1_0 (Int.toNat v1_1) (Entry.mk (⟨#[]⟩ : ByteArray) 0 0 0))); omega) (lenSet (lenSet ho1_4 (Int.toNat v1_1) (List.getD v1_0 (Int.toNat (v1_1 - 1)) (Entry.mk (⟨#[]⟩ : ByteArray) 0 0 0))) (Int.toNat (v1_1 - 1)) (List.getD v1_0 (Int.toNat v1_1) (Entry.mk (⟨#[]⟩ : ByteArray) 0 0 0))) (by have f0 := (lenSet (lenSet ho1_4 (Int.toNat v1_1) (List.getD v1_0 (Int.toNat (v1_1 - 1)) (Entry.mk (⟨#[]⟩ : ByteArray) 0 0 0))) (Int.toNat (v1_1 - 1)) (List.getD v1_0 (Int.toNat v1_1) (Entry.mk (⟨#[]⟩ : ByteArray) 0 0 0))); omega))
     | false =>
      exact x_slices_insertionSortCmpFunc_b1_1 n0 p1 p2 v0_0 v1_0 v1_1 ho1_0 ho1_1 ho1_2 ho1_3 ho1_4 h0 h1
    | false =>
     exact x_slices_insertionSortCmpFunc_b1_2 n0 p1 p2 v0_0 v1_0 v1_1 ho1_0 ho1_1 ho1_2 ho1_3 ho1_4 h0
theorem ll_slices_insertionSortCmpFunc_b1_0 (n0 : Nat) (p1 : Int) (p2 : Int) (v0_0 : Int) : ∀ (k1 : Nat) (v1_0 : List Entry) (v1_1 : Int), List.length v1_0 = n0 → List.length (l_slices_insertionSortCmpFunc_b1 n0 p1 p2 v0_0 k1 v1_0 v1_1) = n0
  | 0, v1_0, v1_1, ho1_4 => by rw [l_slices_insertionSortCmpFunc_b1]; exact ho1_4
  | k1 + 1, v1_0, v1_1, ho1_4 => by
    rw [l_slices_insertionSortCmpFunc_b1]
    cases h0 : (decide (p1 < v1_1)) with
    | true =>
     cases h1 : (decide ((s_qos_ranked_1 (List.getD v1_0 (Int.toNat v1_1) (Entry.mk (⟨#[]⟩ : ByteArray) 0 0 0)) (List.getD v1_0 (Int.toNat (v1_1 - 1)) (Entry.mk (⟨#[]⟩ : ByteArray) 0 0 0))) < 0)) with
     | true =>
      exact ll_slices_insertionSortCmpFunc_b1_0 n0 p1 p2 v0_0 k1 (List.set (List.set v1_0 (Int.toNat v1_1) (List.getD v1_0 (Int.toNat (v1_1 - 1)) (Entry.mk (⟨#[]⟩ : ByteArray) 0 0 0))) (Int.toNat (v1_1 - 1)) (List.getD v1_0 (Int.toNat v1_1) (Entry.mk (⟨#[]⟩ : ByteArray) 0 0 0))) (v1_1 - 1) (lenSet (lenSet ho1_4 (Int.toNat v1_1) (List.getD v1_0 (Int.toNat (v1_1 - 1)) (Entry.mk (⟨#[]⟩ : ByteArray) 0 0 0))) (Int.toNat (v1_1 - 1)) (List.getD v1_0 (Int.toNat v1_1) (Entry.mk (⟨#[]⟩ : ByteArray) 0 0 0)))
     | false =>
      exact ho1_4
    | false =>
     exact ho1_4
def l_slices_insertionSortCmpFunc_b0 (n0 : Nat) (p1 : Int) (p2 : Int) : Nat → Int → (List Entry) → List Entry
  | 0, _v0_0, v0_1 => v0_1
  | k0 + 1, v0_0, v0_1 =>
    bif (decide (v0_0 < p2)) then
      l_slices_insertionSortCmpFunc_b0 n0 p1 p2 k0 (v0_0 + 1) (l_slices_insertionSortCmpFunc_b1 n0 p1 p2 v0_0 ((Int.toNat v0_0) + 1) v0_1 v0_0)
    else
      v0_1
def HE_slices_insertionSortCmpFunc_b0 (n0 : Nat) (p1 : Int) (p2 : Int) (v0_0 : Int) (_v0_1 : List Entry) : List PV :=
  [.ms 0 4 0 n0, .int .i64 p1, .int .i64 p2, .fn 29 [] [], .un, .un, .un, .un, .int .i64 v0_0, .un, .un, .un, .un, .un, .un, .un, .un, .un, .un, .un, .un, .un, .un, .un, .un, .un, .un, .un, .un, .un, .un, .un, .un, .un, .un, .un, .un, .un, .un, .un, .un, .un, .un, .un, .un, .un, .un, .un, .un, .un, .un, .un, .un]
def HO_slices_insertionSortCmpFunc_b0 (_n0 : Nat) (_p1 : Int) (_p2 : Int) (_v0_0 : Int) (v0_1 : List Entry) : List Ob :=
  [⟨4, 0, false, (Entry.rows v0_1).flatten⟩]
def E_slices_insertionSortCmpFunc_b0 (n0 : Nat) (p1 : Int) (p2 : Int) (v0_0 : Int) (v0_1 : List Entry) : En := .loop 1 Ir.slices_insertionSortCmpFunc_b0_live Ir.slices_insertionSortCmpFunc_b0 (HE_slices_insertionSortCmpFunc_b0 n0 p1 p2 v0_0 v0_1) (HO_slices_insertionSortCmpFunc_b0 n0 p1 p2 v0_0 v0_1)
def S_slices_insertionSortCmpFunc_b0_0 (_n0 : Nat) (_p1 : Int) (_p2 : Int) (q0 : List Entry) (z : Nat → PV) (_zo : Nat → List PV) : St :=
  ⟨[z 0, z 1, z 2, z 3, z 4, z 5, z 6, z 7, z 8, z 9, z 10, z 11, z 12, z 13, z 14, z 15, z 16, z 17, z 18, z 19, z 20, z 21, z 22, z 23, z 24, z 25, z 26, z 27, z 28, z 29, z 30, z 31, z 32, z 33, z 34, z 35, z 36, z 37, z 38, z 39, z 40, z 41, z 42, z 43, z 44, z 45, z 46, z 47, z 48, z 49, z 50, z 51, z 52], [(0, ⟨4, 0, false, (Entry.rows q0).flatten⟩)], 193⟩
theorem V_slices_insertionSortCmpFunc_b0 (n0 : Nat) (p1 : Int) (p2 : Int) (v0_0 : Int) (v0_1 : List Entry) : VOK (Go.Pv.look (number 0 (HO_slices_insertionSortCmpFunc_b0 n0 p1 p2 v0_0 v0_1))) [(0, Entry.rows v0_1)] := (VOK.cons (show Seen _ _ from seenV (ob := ⟨4, 0, false, (Entry.rows v0_1).flatten⟩) (Entry.rowsView v0_1 4 rfl)) VOK.nil)
def P_slices_insertionSortCmpFunc_b0 (n0 : Nat) (p1 : Int) (p2 : Int) (e : En) (q : List Entry) : Prop := ∃ z zo, Tells G e (.st (.exit 0) (S_slices_insertionSortCmpFunc_b0_0 n0 p1 p2 q z zo))
theorem P_slices_insertionSortCmpFunc_b0_mono (n0 : Nat) (p1 : Int) (p2 : Int) {e e' : En} (h : ∀ r, Tells G e r → Tells G e' r) : ∀ q, P_slices_insertionSortCmpFunc_b0 n0 p1 p2 e q → P_slices_insertionSortCmpFunc_b0 n0 p1 p2 e' q
  | _, ⟨z, zo, hz⟩ => ⟨z, zo, h _ hz⟩
theorem n_slices_insertionSortCmpFunc_b0_0 (n0 : Nat) (p1 : Int) (p2 : Int) (v0_0 : Int) (v0_1 : List Entry) (ho0_0 : 0 ≤ p1) (ho0_1 : p1 < v0_0) (ho0_2 : p2 ≤ n0) (ho0_3 : (n0 : Int) ≤ 1152921504606846976) (ho0_4 : List.length v0_1 = n0) (h0 : (decide (v0_0 < p2)) = true) (z1 : Nat → PV) (zo1 : Nat → List PV) (hl1 : Tells G (E_slices_insertionSortCmpFunc_b1 n0 p1 p2 v0_0 v0_1 v0_0) (.st (.exit 2) (S_slices_insertionSortCmpFunc_b1_0 n0 p1 p2 v0_0 (l_slices_insertionSortCmpFunc_b1 n0 p1 p2 v0_0 ((Int.toNat v0_0) + 1) v0_1 v0_0) z1 zo1))) {r : Rs} (hr : Tells G (E_slices_insertionSortCmpFunc_b0 n0 p1 p2 (v0_0 + 1) (l_slices_insertionSortCmpFunc_b1 n0 p1 p2 v0_0 ((Int.toNat v0_0) + 1) v0_1 v0_0)) r) : Tells G (E_slices_insertionSortCmpFunc_b0 n0 p1 p2 v0_0 v0_1) r := by
  have e0 := of_decide_eq_true h0
  exact tells_nextVI (V_slices_insertionSortCmpFunc_b0 n0 p1 p2 v0_0 v0_1) (y := (HE_slices_insertionSortCmpFunc_b0 n0 p1 p2 (v0_0 + 1) (l_slices_insertionSortCmpFunc_b1 n0 p1 p2 v0_0 ((Int.toNat v0_0) + 1) v0_1 v0_0), HO_slices_insertionSortCmpFunc_b0 n0 p1 p2 (v0_0 + 1) (l_slices_insertionSortCmpFunc_b1 n0 p1 p2 v0_0 ((Int.toNat v0_0) + 1) v0_1 v0_0))) [hB 2 h0, hS 0 false (Entry.rowsView (l_slices_insertionSortCmpFunc_b1 n0 p1 p2 v0_0 ((Int.toNat v0_0) + 1) v0_1 v0_0) 4 rfl), hP 3 (w_ok (v0_0 + 1) (by have f0 := (ll_slices_insertionSortCmpFunc_b1_0 n0 p1 p2 v0_0 ((Int.toNat v0_0) + 1) v0_1 v0_0 ho0_4); omega))] [aV [(0, Entry.rows (l_slices_insertionSortCmpFunc_b1 n0 p1 p2 v0_0 ((Int.toNat v0_0) + 1) v0_1 v0_0))] hl1] (by kernel_rfl) hr
def Z_slices_insertionSortCmpFunc_b0_1 (n0 : Nat) (p1 : Int) (p2 : Int) (v0_0 : Int) (_v0_1 : List Entry) : List PV :=
  [.ms 0 4 0 n0, .int .i64 p1, .int .i64 p2, .fn 29 [] [], .un, .un, .un, .un, .int .i64 v0_0, .un, .un, .un, .int .i64 v0_0, .int .i64 p2, .bool false]
def ZO_slices_insertionSortCmpFunc_b0_1 (_n0 : Nat) (_p1 : Int) (_p2 : Int) (_v0_0 : Int) (_v0_1 : List Entry) : List (Nat × List PV) :=
  []
theorem x_slices_insertionSortCmpFunc_b0_1 (n0 : Nat) (p1 : Int) (p2 : Int) (v0_0 : Int) (v0_1 : List Entry) (_ho0_0 : 0 ≤ p1) (_ho0_1 : p1 < v0_0) (_ho0_2 : p2 ≤ n0) (_ho0_3 : (n0 : Int) ≤ 1152921504606846976) (_ho0_4 : List.length v0_1 = n0) (h0 : (decide (v0_0 < p2)) = false) : P_slices_insertionSortCmpFunc_b0 n0 p1 p2 (E_slices_insertionSortCmpFunc_b0 n0 p1 p2 v0_0 v0_1) v0_1 := by
  exact ⟨(envF (Z_slices_insertionSortCmpFunc_b0_1 n0 p1 p2 v0_0 v0_1)), (zoF (ZO_slices_insertionSortCmpFunc_b0_1 n0 p1 p2 v0_0 v0_1)), tells_outVI (V_slices_insertionSortCmpFunc_b0 n0 p1 p2 v0_0 v0_1) (x := ((.exit 0), S_slices_insertionSortCmpFunc_b0_0 n0 p1 p2 v0_1 (envF (Z_slices_insertionSortCmpFunc_b0_1 n0 p1 p2 v0_0 v0_1)) (zoF (ZO_slices_insertionSortCmpFunc_b0_1 n0 p1 p2 v0_0 v0_1)))) [hB 2 h0] [] (by kernel_rfl)⟩
theorem lt_slices_insertionSortCmpFunc_b0 (n0 : Nat) (p1 : Int) (p2 : Int) : ∀ (k0 : Nat) (v0_0 : Int) (v0_1 : List Entry), 0 ≤ p1 → p1 < v0_0 → p2 ≤ n0 → (n0 : Int) ≤ 1152921504606846976 → List.length v0_1 = n0 → Int.toNat (p2 - v0_0) < k0 → P_slices_insertionSortCmpFunc_b0 n0 p1 p2 (E_slices_insertionSortCmpFunc_b0 n0 p1 p2 v0_0 v0_1) (l_slices_insertionSortCmpFunc_b0 n0 p1 p2 k0 v0_0 v0_1)
  | 0, v0_0, v0_1, _, _, _, _, _, hm => absurd hm (Nat.not_lt_zero _)
  | k0 + 1, v0_0, v0_1, ho0_0, ho0_1, ho0_2, ho0_3, ho0_4, hm => by
    rw [l_slices_insertionSortCmpFunc_b0]
    cases h0 : (decide (v0_0 < p2)) with
    | true =>
     have e0 := of_decide_eq_true h0
     have hl1 := lt_slices_insertionSortCmpFunc_b1 n0 p1 p2 v0_0 ((Int.toNat v0_0) + 1) v0_1 v0_0 (by omega) (by omega) (by omega) (by omega) ho0_4 (by omega)
     obtain ⟨z1, zo1, hl1⟩ := hl1
     exact P_slices_insertionSortCmpFunc_b0_mono n0 p1 p2 (fun r hr => n_slices_insertionSortCmpFunc_b0_0 n0 p1 p2 v0_0 v0_1 ho0_0 ho0_1 ho0_2 ho0_3 ho0_4 h0 z1 zo1 hl1 hr) _ (lt_slices_insertionSortCmpFunc_b0 n0 p1 p2 k0 (v0_0 + 1) (l_slices_insertionSortCmpFunc_b1 n0 p1 p2 v0_0 ((Int.toNat v0_0) + 1) v0_1 v0_0) (by have f0 := (ll_slices_insertionSortCmpFunc_b1_0 n0 p1 p2 v0_0 ((Int.toNat v0_0) + 1) v0_1 v0_0 ho0_4); omega) (by have f0 := (ll_slices_insertionSortCmpFunc_b1_0 n0 p1 p2 v0_0 ((Int.toNat v0_0) + 1) v0_1 v0_0 ho0_4); omega) (by have f0 := (ll_slices_insertionSortCmpFunc_b1_0 n0 p1 p2 v0_0 ((Int.toNat v0_0) + 1) v0_1 v0_0 ho0_4); omega) (by have f0 := (ll_slices_insertionSortCmpFunc_b1_0 n0 p1 p2 v0_0 ((Int.toNat v0_0) + 1) v0_1 v0_0 ho0_4); omega) (ll_slices_insertionSortCmpFunc_b1_0 n0 p1 p2 v0_0 ((Int.toNat v0_0) + 1) v0_1 v0_0 ho0_4) (by have f0 := (ll_slices_insertionSortCmpFunc_b1_0 n0 p1 p2 v0_0 ((Int.toNat v0_0) + 1) v0_1 v0_0 ho0_4); omega))
    | false =>
     exact x_slices_insertionSortCmpFunc_b0_1 n0 p1 p2 v0_0 v0_1 ho0_0 ho0_1 ho0_2 ho0_3 ho0_4 h0
theorem ll_slices_insertionSortCmpFunc_b0_0 (n0 : Nat) (p1 : Int) (p2 : Int) : ∀ (k0 : Nat) (v0_0 : Int) (v0_1 : List Entry), List.length v0_1 = n0 → List.length (l_slices_insertionSortCmpFunc_b0 n0 p1 p2 k0 v0_0 v0_1) = n0
  | 0, v0_0, v0_1, ho0_4 => by rw [l_slices_insertionSortCmpFunc_b0]; exact ho0_4
  | k0 + 1, v0_0, v0_1, ho0_4 => by
    rw [l_slices_insertionSortCmpFunc_b0]
    cases h0 : (decide (v0_0 < p2)) with
    | true =>
     exact ll_slices_insertionSortCmpFunc_b0_0 n0 p1 p2 k0 (v0_0 + 1) (l_slices_insertionSortCmpFunc_b1 n0 p1 p2 v0_0 ((Int.toNat v0_0) + 1) v0_1 v0_0) (ll_slices_insertionSortCmpFunc_b1_0 n0 p1 p2 v0_0 ((Int.toNat v0_0) + 1) v0_1 v0_0 ho0_4)
    | false =>
     exact ho0_4
/-- slices.insertionSortCmpFunc[orchestrator/ qos.entry] -/
def s_slices_insertionSortCmpFunc_f29 (n0 : Nat) (p0 : List Entry) (p1 : Int) (p2 : Int) : List Entry :=
  (l_slices_insertionSortCmpFunc_b0 n0 p1 p2 ((Int.toNat (p2 - (p1 + 1))) + 1) (p1 + 1) p0)
def c_slices_insertionSortCmpFunc_f29 (n0 : Nat) (p0 : List Entry) (p1 : Int) (p2 : Int) : En := .call 43 [.ms 0 4 0 n0, .int .i64 p1, .int .i64 p2, .fn 29 [] []] [⟨4, 0, false, (Entry.rows p0).flatten⟩]
def a_slices_insertionSortCmpFunc_f29 (n0 : Nat) (p0 : List Entry) (p1 : Int) (p2 : Int) : Rs := .ret (.tup []) [⟨4, 0, false, (Entry.rows (s_slices_insertionSortCmpFunc_f29 n0 p0 p1 p2)).flatten⟩]
theorem lens_slices_insertionSortCmpFunc_f29 (n0 : Nat) (p0 : List Entry) (p1 : Int) (p2 : Int) (hn : List.length p0 = n0) : List.length (s_slices_insertionSortCmpFunc_f29 n0 p0 p1 p2) = n0 := by
  unfold s_slices_insertionSortCmpFunc_f29
  have hz0_0 : List.length (l_slices_insertionSortCmpFunc_b0 n0 p1 p2 ((Int.toNat (p2 - (p1 + 1))) + 1) (p1 + 1) p0) = n0 := ll_slices_insertionSortCmpFunc_b0_0 n0 p1 p2 ((Int.toNat (p2 - (p1 + 1))) + 1) (p1 + 1) p0 hn
  obtain ⟨R0, eR0⟩ : ∃ R, (l_slices_insertionSortCmpFunc_b0 n0 p1 p2 ((Int.toNat (p2 - (p1 + 1))) + 1) (p1 + 1) p0) = R := ⟨_, rfl⟩
  rw [eR0] at hz0_0 ⊢
  exact hz0_0
theorem t_slices_insertionSortCmpFunc_f29 (n0 : Nat) (p0 : List Entry) (p1 : Int) (p2 : Int) (hn : List.length p0 = n0) (hq0 : 0 ≤ p1 ∧ p1 ≤ p2 ∧ p2 ≤ n0 ∧ (n0 : Int) ≤ 1152921504606846976) : Tells G (c_slices_insertionSortCmpFunc_f29 n0 p0 p1 p2) (a_slices_insertionSortCmpFunc_f29 n0 p0 p1 p2) := by
  unfold a_slices_insertionSortCmpFunc_f29 s_slices_insertionSortCmpFunc_f29
  have hl0 := lt_slices_insertionSortCmpFunc_b0 n0 p1 p2 ((Int.toNat (p2 - (p1 + 1))) + 1) (p1 + 1) p0 (by omega) (by omega) (by omega) (by omega) hn (by omega)
  have hz0_0 : List.length (l_slices_insertionSortCmpFunc_b0 n0 p1 p2 ((Int.toNat (p2 - (p1 + 1))) + 1) (p1 + 1) p0) = n0 := ll_slices_insertionSortCmpFunc_b0_0 n0 p1 p2 ((Int.toNat (p2 - (p1 + 1))) + 1) (p1 + 1) p0 hn
  obtain ⟨R0, eR0⟩ : ∃ R, (l_slices_insertionSortCmpFunc_b0 n0 p1 p2 ((Int.toNat (p2 - (p1 + 1))) + 1) (p1 + 1) p0) = R := ⟨_, rfl⟩
  rw [eR0] at hz0_0 hl0 ⊢
  obtain ⟨z0, zo0, hl0⟩ := hl0
  exact tells_VI (fn := Ir.slices_insertionSortCmpFunc) rfl (vk1 (Entry.rowsView p0 4 rfl)) [hP 1 (w_ok (p1 + 1) (by omega)), hS 0 false (Entry.rowsView R0 4 rfl)] [aV [(0, Entry.rows R0)] hl0] (by kernel_rfl)

def l_slices_swapRangeCmpFunc_b0 (n0 : Nat) (p1 : Int) (p2 : Int) (p3 : Int) : Nat → (List Entry) → Int → List Entry
  | 0, v0_0, _v0_1 => v0_0
  | k0 + 1, v0_0, v0_1 =>
    bif (decide (v0_1 < p3)) then
      l_slices_swapRangeCmpFunc_b0 n0 p1 p2 p3 k0 (List.set (List.set v0_0 (Int.toNat (p1 + v0_1)) (List.getD v0_0 (Int.toNat (p2 + v0_1)) (Entry.mk (⟨#[]⟩ : ByteArray) 0 0 0))) (Int.toNat (p2 + v0_1)) (List.getD v0_0 (Int.toNat (p1 + v0_1)) (Entry.mk (⟨#[]⟩ : ByteArray) 0 0 0))) (v0_1 + 1)
    else
      v0_0
def HE_slices_swapRangeCmpFunc_b0 (n0 : Nat) (p1 : Int) (p2 : Int) (p3 : Int) (_v0_0 : List Entry) (v0_1 : Int) : List PV :=
  [.ms 0 4 0 n0, .int .i64 p1, .int .i64 p2, .int .i64 p3, .un, .un, .un, .un, .un, .un, .int .i64 v0_1, .un, .un, .un, .un, .un, .un, .un, .un, .un, .un, .un, .un, .un, .un, .un, .un, .un, .un, .un, .un, .un, .un, .un, .un, .un, .un, .un]
def HO_slices_swapRangeCmpFunc_b0 (_n0 : Nat) (_p1 : Int) (_p2 : Int) (_p3 : Int) (v0_0 : List Entry) (_v0_1 : Int) : List Ob :=
  [⟨4, 0, false, (Entry.rows v0_0).flatten⟩]
def E_slices_swapRangeCmpFunc_b0 (n0 : Nat) (p1 : Int) (p2 : Int) (p3 : Int) (v0_0 : List Entry) (v0_1 : Int) : En := .loop 1 Ir.slices_swapRangeCmpFunc_b0_live Ir.slices_swapRangeCmpFunc_b0 (HE_slices_swapRangeCmpFunc_b0 n0 p1 p2 p3 v0_0 v0_1) (HO_slices_swapRangeCmpFunc_b0 n0 p1 p2 p3 v0_0 v0_1)
def S_slices_swapRangeCmpFunc_b0_0 (_n0 : Nat) (_p1 : Int) (_p2 : Int) (_p3 : Int) (q0 : List Entry) (z : Nat → PV) (_zo : Nat → List PV) : St :=
  ⟨[z 0, z 1, z 2, z 3, z 4, z 5, z 6, z 7, z 8, z 9, z 10, z 11, z 12, z 13, z 14, z 15, z 16, z 17, z 18, z 19, z 20, z 21, z 22, z 23, z 24, z 25, z 26, z 27, z 28, z 29, z 30, z 31, z 32, z 33, z 34, z 35, z 36, z 37], [(0, ⟨4, 0, false, (Entry.rows q0).flatten⟩)], 193⟩
theorem V_slices_swapRangeCmpFunc_b0 (n0 : Nat) (p1 : Int) (p2 : Int) (p3 : Int) (v0_0 : List Entry) (v0_1 : Int) : VOK (Go.Pv.look (number 0 (HO_slices_swapRangeCmpFunc_b0 n0 p1 p2 p3 v0_0 v0_1))) [(0, Entry.rows v0_0)] := (VOK.cons (show Seen _ _ from seenV (ob := ⟨4, 0, false, (Entry.rows v0_0).flatten⟩) (Entry.rowsView v0_0 4 rfl)) VOK.nil)
def P_slices_swapRangeCmpFunc_b0 (n0 : Nat) (p1 : Int) (p2 : Int) (p3 : Int) (e : En) (q : List Entry) : Prop := ∃ z zo, Tells G e (.st (.exit 0) (S_slices_swapRangeCmpFunc_b0_0 n0 p1 p2 p3 q z zo))
theorem P_slices_swapRangeCmpFunc_b0_mono (n0 : Nat) (p1 : Int) (p2 : Int) (p3 : Int) {e e' : En} (h : ∀ r, Tells G e r → Tells G e' r) : ∀ q, P_slices_swapRangeCmpFunc_b0 n0 p1 p2 p3 e q → P_slices_swapRangeCmpFunc_b0 n0 p1 p2 p3 e' q
  | _, ⟨z, zo, hz⟩ => ⟨z, zo, h _ hz⟩
theorem n_slices_swapRangeCmpFunc_b0_0 (n0 : Nat) (p1 : Int) (p2 : Int) (p3 : Int) (v0_0 : List Entry) (v0_1 : Int) (ho0_0 : 0 ≤ v0_1) (ho0_1 : 0 ≤ p1) (ho0_2 : 0 ≤ p2) (ho0_3 : p1 + p3 ≤ n0) (ho0_4 : p2 + p3 ≤ n0) (ho0_5 : (n0 : Int) ≤ 1152921504606846976) (ho0_6 : List.length v0_0 = n0) (h0 : (decide (v0_1 < p3)) = true) {r : Rs} (hr : Tells G (E_slices_swapRangeCmpFunc_b0 n0 p1 p2 p3 (List.set (List.set v0_0 (Int.toNat (p1 + v0_1)) (List.getD v0_0 (Int.toNat (p2 + v0_1)) (Entry.mk (⟨#[]⟩ : ByteArray) 0 0 0))) (Int.toNat (p2 + v0_1)) (List.getD v0_0 (Int.toNat (p1 + v0_1)) (Entry.mk (⟨#[]⟩ : ByteArray) 0 0 0))) (v0_1 + 1)) r) : Tells G (E_slices_swapRangeCmpFunc_b0 n0 p1 p2 p3 v0_0 v0_1) r := by
  have e0 := of_decide_eq_true h0
  exact tells_nextVI (V_slices_swapRangeCmpFunc_b0 n0 p1 p2 p3 v0_0 v0_1) (y := (HE_slices_swapRangeCmpFunc_b0 n0 p1 p2 p3 (List.set (List.set v0_0 (Int.toNat (p1 + v0_1)) (List.getD v0_0 (Int.toNat (p2 + v0_1)) (Entry.mk (⟨#[]⟩ : ByteArray) 0 0 0))) (Int.toNat (p2 + v0_1)) (List.getD v0_0 (Int.toNat (p1 + v0_1)) (Entry.mk (⟨#[]⟩ : ByteArray) 0 0 0))) (v0_1 + 1), HO_slices_swapRangeCmpFunc_b0 n0 p1 p2 p3 (List.set (List.set v0_0 (Int.toNat (p1 + v0_1)) (List.getD v0_0 (Int.toNat (p2 + v0_1)) (Entry.mk (⟨#[]⟩ : ByteArray) 0 0 0))) (Int.toNat (p2 + v0_1)) (List.getD v0_0 (Int.toNat (p1 + v0_1)) (Entry.mk (⟨#[]⟩ : ByteArray) 0 0 0))) (v0_1 + 1))) [hB 2 h0, hP 3 (w_ok (p1 + v0_1) (by omega)), hP 3 (w_ok (p2 + v0_1) (by omega)), hP 3 (w_ok (p2 + v0_1) (by omega)), hP 0 (ixs_ok 0 4 n0 (p2 + v0_1) (Int.toNat (p2 + v0_1)) rfl (by omega) (by omega)), hP 0 (ld_ok 0 4 0 false ((Entry.rows v0_0).flatten) (Entry.rows v0_0) 4 true (Int.toNat (p2 + v0_1)) 0 ((Int.toNat (p2 + v0_1)) * 4) (Entry.cells (List.getD v0_0 (Int.toNat (p2 + v0_1)) (Entry.mk (⟨#[]⟩ : ByteArray) 0 0 0))) (.agg [.str (List.getD v0_0 (Int.toNat (p2 + v0_1)) (Entry.mk (⟨#[]⟩ : ByteArray) 0 0 0)).key, .int .i64 (List.getD v0_0 (Int.toNat (p2 + v0_1)) (Entry.mk (⟨#[]⟩ : ByteArray) 0 0 0)).priority, .int .i64 (List.getD v0_0 (Int.toNat (p2 + v0_1)) (Entry.mk (⟨#[]⟩ : ByteArray) 0 0 0)).usage, .int .i64 (List.getD v0_0 (Int.toNat (p2 + v0_1)) (Entry.mk (⟨#[]⟩ : ByteArray) 0 0 0)).excess]) rfl rfl (Entry.rowsGet (getD_ok v0_0 (Int.toNat (p2 + v0_1)) (Entry.mk (⟨#[]⟩ : ByteArray) 0 0 0) (by omega))) (Entry.rowsSize v0_0) (by decide) rfl), hP 3 (w_ok (p1 + v0_1) (by omega)), hP 0 (ixs_ok 0 4 n0 (p1 + v0_1) (Int.toNat (p1 + v0_1)) rfl (by omega) (by omega)), hP 0 (ld_ok 0 4 0 false ((Entry.rows v0_0).flatten) (Entry.rows v0_0) 4 true (Int.toNat (p1 + v0_1)) 0 ((Int.toNat (p1 + v0_1)) * 4) (Entry.cells (List.getD v0_0 (Int.toNat (p1 + v0_1)) (Entry.mk (⟨#[]⟩ : ByteArray) 0 0 0))) (.agg [.str (List.getD v0_0 (Int.toNat (p1 + v0_1)) (Entry.mk (⟨#[]⟩ : ByteArray) 0 0 0)).key, .int .i64 (List.getD v0_0 (Int.toNat (p1 + v0_1)) (Entry.mk (⟨#[]⟩ : ByteArray) 0 0 0)).priority, .int .i64 (List.getD v0_0 (Int.toNat (p1 + v0_1)) (Entry.mk (⟨#[]⟩ : ByteArray) 0 0 0)).usage, .int .i64 (List.getD v0_0 (Int.toNat (p1 + v0_1)) (Entry.mk (⟨#[]⟩ : ByteArray) 0 0 0)).excess]) rfl rfl (Entry.rowsGet (getD_ok v0_0 (Int.toNat (p1 + v0_1)) (Entry.mk (⟨#[]⟩ : ByteArray) 0 0 0) (by omega))) (Entry.rowsSize v0_0) (by decide) rfl), hP 0 (ixs_ok 0 4 n0 (p1 + v0_1) (Int.toNat (p1 + v0_1)) rfl (by omega) (by omega)), hV 0 [(0, Entry.rows (List.set v0_0 (Int.toNat (p1 + v0_1)) (List.getD v0_0 (Int.toNat (p2 + v0_1)) (Entry.mk (⟨#[]⟩ : ByteArray) 0 0 0))))] (st_ok 0 4 false ((Entry.rows v0_0).flatten) (Entry.rows v0_0) (Entry.rows (List.set v0_0 (Int.toNat (p1 + v0_1)) (List.getD v0_0 (Int.toNat (p2 + v0_1)) (Entry.mk (⟨#[]⟩ : ByteArray) 0 0 0)))) 4 (Int.toNat (p1 + v0_1)) 0 ((Int.toNat (p1 + v0_1)) * 4) _ (.agg [.str (List.getD v0_0 (Int.toNat (p2 + v0_1)) (Entry.mk (⟨#[]⟩ : ByteArray) 0 0 0)).key, .int .i64 (List.getD v0_0 (Int.toNat (p2 + v0_1)) (Entry.mk (⟨#[]⟩ : ByteArray) 0 0 0)).priority, .int .i64 (List.getD v0_0 (Int.toNat (p2 + v0_1)) (Entry.mk (⟨#[]⟩ : ByteArray) 0 0 0)).usage, .int .i64 (List.getD v0_0 (Int.toNat (p2 + v0_1)) (Entry.mk (⟨#[]⟩ : ByteArray) 0 0 0)).excess]) rfl rfl (Entry.rowsGet (getD_ok v0_0 (Int.toNat (p1 + v0_1)) (Entry.mk (⟨#[]⟩ : ByteArray) 0 0 0) (by omega))) (Entry.rowsSize v0_0) (by decide) rfl rfl (Entry.rowsSet v0_0 (Int.toNat (p1 + v0_1)) (List.getD v0_0 (Int.toNat (p2 + v0_1)) (Entry.mk (⟨#[]⟩ : ByteArray) 0 0 0)))), hS 0 false (Entry.rowsView (List.set v0_0 (Int.toNat (p1 + v0_1)) (List.getD v0_0 (Int.toNat (p2 + v0_1)) (Entry.mk (⟨#[]⟩ : ByteArray) 0 0 0))) 4 rfl), hP 0 (ixs_ok 0 4 n0 (p2 + v0_1) (Int.toNat (p2 + v0_1)) rfl (by have f0 := (lenSet ho0_6 (Int.toNat (p1 + v0_1)) (List.getD v0_0 (Int.toNat (p2 + v0_1)) (Entry.mk (⟨#[]⟩ : ByteArray) 0 0 0))); omega) (by have f0 := (lenSet ho0_6 (Int.toNat (p1 + v0_1)) (List.getD v0_0 (Int.toNat (p2 + v0_1)) (Entry.mk (⟨#[]⟩ : ByteArray) 0 0 0))); omega)), hV 0 [(0, Entry.rows (List.set (List.set v0_0 (Int.toNat (p1 + v0_1)) (List.getD v0_0 (Int.toNat (p2 + v0_1)) (Entry.mk (⟨#[]⟩ : ByteArray) 0 0 0))) (Int.toNat (p2 + v0_1)) (List.getD v0_0 (Int.toNat (p1 + v0_1)) (Entry.mk (⟨#[]⟩ : ByteArray) 0 0 0))))] (st_ok 0 4 false ((Entry.rows (List.set v0_0 (Int.toNat (p1 + v0_1)) (List.getD v0_0 (Int.toNat (p2 + v0_1)) (Entry.mk (⟨#[]⟩ : ByteArray) 0 0 0)))).flatten) (Entry.rows (List.set v0_0 (Int.toNat (p1 + v0_1)) (List.getD v0_0 (Int.toNat (p2 + v0_1)) (Entry.mk (⟨#[]⟩ : ByteArray) 0 0 0)))) (Entry.rows (List.set (List.set v0_0 (Int.toNat (p1 + v0_1)) (List.getD v0_0 (Int.toNat (p2 + v0_1)) (Entry.mk (⟨#[]⟩ : ByteArray) 0 0 0))) (Int.toNat (p2 + v0_1)) (List.getD v0_0 (Int.toNat (p1 + v0_1)) (Entry.mk (⟨#[]⟩ : ByteArray) 0 0 0)))) 4 (Int.toNat (p2 + v0_1)) 0 ((Int.toNat (p2 + v0_1)) * 4) _ (.agg [.str (List.getD v0_0 (Int.toNat (p1 + v0_1)) (Entry.mk (⟨#[]⟩ : ByteArray) 0 0 0)).key, .int .i64 (List.getD v0_0 (Int.toNat (p1 + v0_1)) (Entry.mk (⟨#[]⟩ : ByteArray) 0 0 0)).priority, .int .i64 (List.getD v0_0 (Int.toNat (p1 + v0_1)) (Entry.mk (⟨#[]⟩ : ByteArray) 0 0 0)).usage, .int .i64 (List.getD v0_0 (Int.toNat (p1 + v0_1)) (Entry.mk (⟨#[]⟩ : ByteArray) 0 0 0)).excess]) rfl rfl (Entry.rowsGet (getD_ok (List.set v0_0 (Int.toNat (p1 + v0_1)) (List.getD v0_0 (Int.toNat (p2 + v0_1)) (Entry.mk (⟨#[]⟩ : ByteArray) 0 0 0))) (Int.toNat (p2 + v0_1)) (Entry.mk (⟨#[]⟩ : ByteArray) 0 0 0) (by have f0 := (lenSet ho0_6 (Int.toNat (p1 + v0_1)) (List.getD v0_0 (Int.toNat (p2 + v0_1)) (Entry.mk (⟨#[]⟩ : ByteArray) 0 0 0))); try simp only [List.length_set]; omega))) (Entry.rowsSize (List.set v0_0 (Int.toNat (p1 + v0_1)) (List.getD v0_0 (Int.toNat (p2 + v0_1)) (Entry.mk (⟨#[]⟩ : ByteArray) 0 0 0)))) (by decide) rfl rfl (Entry.rowsSet (List.set v0_0 (Int.toNat (p1 + v0_1)) (List.getD v0_0 (Int.toNat (p2 + v0_1)) (Entry.mk (⟨#[]⟩ : ByteArray) 0 0 0))) (Int.toNat (p2 + v0_1)) (List.getD v0_0 (Int.toNat (p1 + v0_1)) (Entry.mk (⟨#[]⟩ : ByteArray) 0 0 0)))), hS 0 false (Entry.rowsView (List.set (List.set v0_0 (Int.toNat (p1 + v0_1)) (List.getD v0_0 (Int.toNat (p2 + v0_1)) (Entry.mk (⟨#[]⟩ : ByteArray) 0 0 0))) (Int.toNat (p2 + v0_1)) (List.getD v0_0 (Int.toNat (p1 + v0_1)) (Entry.mk (⟨#[]⟩ : ByteArray) 0 0 0))) 4 rfl), hP 1 (w_ok (v0_1 + 1) (by have f0 := (lenSet (lenSet ho0_6 (Int.toNat (p1 + v0_1)) (List.getD v0_0 (Int.toNat (p2 + v0_1)) (Entry.mk (⟨#[]⟩ : ByteArray) 0 0 0))) (Int.toNat (p2 + v0_1)) (List.getD v0_0 (Int.toNat (p1 + v0_1)) (Entry.mk (⟨#[]⟩ : ByteArray) 0 0 0))); omega))] [] (by kernel_rfl) hr
def Z_slices_swapRangeCmpFunc_b0_1 (n0 : Nat) (p1 : Int) (p2 : Int) (p3 : Int) (_v0_0 : List Entry) (v0_1 : Int) : List PV :=
  [.ms 0 4 0 n0, .int .i64 p1, .int .i64 p2, .int .i64 p3, .un, .un, .un, .un, .un, .un, .int .i64 v0_1, .int .i64 v0_1, .int .i64 p3, .bool false]
def ZO_slices_swapRangeCmpFunc_b0_1 (_n0 : Nat) (_p1 : Int) (_p2 : Int) (_p3 : Int) (_v0_0 : List Entry) (_v0_1 : Int) : List (Nat × List PV) :=
  []
theorem x_slices_swapRangeCmpFunc_b0_1 (n0 : Nat) (p1 : Int) (p2 : Int) (p3 : Int) (v0_0 : List Entry) (v0_1 : Int) (_ho0_0 : 0 ≤ v0_1) (_ho0_1 : 0 ≤ p1) (_ho0_2 : 0 ≤ p2) (_ho0_3 : p1 + p3 ≤ n0) (_ho0_4 : p2 + p3 ≤ n0) (_ho0_5 : (n0 : Int) ≤ 1152921504606846976) (_ho0_6 : List.length v0_0 = n0) (h0 : (decide (v0_1 < p3)) = false) : P_slices_swapRangeCmpFunc_b0 n0 p1 p2 p3 (E_slices_swapRangeCmpFunc_b0 n0 p1 p2 p3 v0_0 v0_1) v0_0 := by
  exact ⟨(envF (Z_slices_swapRangeCmpFunc_b0_1 n0 p1 p2 p3 v0_0 v0_1)), (zoF (ZO_slices_swapRangeCmpFunc_b0_1 n0 p1 p2 p3 v0_0 v0_1)), tells_outVI (V_slices_swapRangeCmpFunc_b0 n0 p1 p2 p3 v0_0 v0_1) (x := ((.exit 0), S_slices_swapRangeCmpFunc_b0_0 n0 p1 p2 p3 v0_0 (envF (Z_slices_swapRangeCmpFunc_b0_1 n0 p1 p2 p3 v0_0 v0_1)) (zoF (ZO_slices_swapRangeCmpFunc_b0_1 n0 p1 p2 p3 v0_0 v0_1)))) [hB 2 h0] [] (by kernel_rfl)⟩
theorem lt_slices_swapRangeCmpFunc_b0 (n0 : Nat) (p1 : Int) (p2 : Int) (p3 : Int) : ∀ (k0 : Nat) (v0_0 : List Entry) (v0_1 : Int), 0 ≤ v0_1 → 0 ≤ p1 → 0 ≤ p2 → p1 + p3 ≤ n0 → p2 + p3 ≤ n0 → (n0 : Int) ≤ 1152921504606846976 → List.length v0_0 = n0 → Int.toNat (p3 - v0_1) < k0 → P_slices_swapRangeCmpFunc_b0 n0 p1 p2 p3 (E_slices_swapRangeCmpFunc_b0 n0 p1 p2 p3 v0_0 v0_1) (l_slices_swapRangeCmpFunc_b0 n0 p1 p2 p3 k0 v0_0 v0_1)
  | 0, v0_0, v0_1, _, _, _, _, _, _, _, hm => absurd hm (Nat.not_lt_zero _)
  | k0 + 1, v0_0, v0_1, ho0_0, ho0_1, ho0_2, ho0_3, ho0_4, ho0_5, ho0_6, hm => by
    rw [l_slices_swapRangeCmpFunc_b0]
    cases h0 : (decide (v0_1 < p3)) with
    | true =>
     have e0 := of_decide_eq_true h0
     exact P_slices_swapRangeCmpFunc_b0_mono n0 p1 p2 p3 (fun r hr => n_slices_swapRangeCmpFunc_b0_0 n0 p1 p2 p3 v0_0 v0_1 ho0_0 ho0_1 ho0_2 ho0_3 ho0_4 ho0_5 ho0_6 h0 hr) _ (lt_slices_swapRangeCmpFunc_b0 n0 p1 p2 p3 k0 (List.set (List.set v0_0 (Int.toNat (p1 + v0_1)) (List.getD v0_0 (Int.toNat (p2 + v0_1)) (Entry.mk (⟨#[]⟩ : ByteArray) 0 0 0))) (Int.toNat (p2 + v0_1)) (List.getD v0_0 (Int.toNat (p1 + v0_1)) (Entry.mk (⟨#[]⟩ : ByteArray) 0 0 0))) (v0_1 + 1) (by have f0 := (lenSet (lenSet ho0_6 (Int.toNat (p1 + v0_1)) (List.getD v0_0 (Int.toNat (p2 + v0_1)) (Entry.mk (⟨#[]⟩ : ByteArray) 0 0 0))) (Int.toNat (p2 + v0_1)) (List.getD v0_0 (Int.toNat (p1 + v0_1)) (Entry.mk (⟨#[]⟩ : ByteArray) 0 0 0))); omega) (by have f0 := (lenSet (lenSet ho0_6 (Int.toNat (p1 + v0_1)) (List.getD v0_0 (Int.toNat (p2 + v0_1)) (Entry.mk (⟨#[]⟩ : ByteArray) 0 0 0))) (Int.toNat (p2 + v0_1)) (List.getD v0_0 (Int.toNat (p1 + v0_1)) (Entry.mk (⟨#[]⟩ : ByteArray) 0 0 0))); omega) (by have f0 := (lenSet (lenSet ho0_6 (Int.toNat (p1 + v0_1)) (List.getD v0_0 (Int.toNat (p2 + v0_1)) (Entry.mk (⟨#[]⟩ : ByteArray) 0 0 0))) (Int.toNat (p2 + v0_1)) (List.getD v0_0 (Int.toNat (p1 + v0_1)) (Entry.mk (⟨#[]⟩ : ByteArray) 0 0 0))); omega) (by have f0 := (lenSet (lenSet ho0_6 (Int.toNat (p1 + v0_1)) (List.getD v0_0 (Int.toNat (p2 + v0_1)) (Entry.mk (⟨#[]⟩ : ByteArray) 0 0 0))) (Int.toNat (p2 + v0_1)) (List.getD v0_0 (Int.toNat (p1 + v0_1)) (Entry.mk (⟨#[]⟩ : ByteArray) 0 0 0))); omega) (by have f0 := (lenSet (lenSet ho0_6 (Int.toNat (p1 + v0_1)) (List.getD v0_0 (Int.toNat (p2 + v0_1)) (Entry.mk (⟨#[]⟩ : ByteArray) 0 0 0))) (Int.toNat (p2 + v0_1)) (List.getD v0_0 (Int.toNat (p1 + v0_1)) (Entry.mk (⟨#[]⟩ : ByteArray) 0 0 0))); omega) (by have f0 := (lenSet (lenSet ho0_6 (Int.toNat (p1 + v0_1)) (List.getD v0_0 (Int.toNat (p2 + v0_1)) (Entry.mk (⟨#[]⟩ : ByteArray) 0 0 0))) (Int.toNat (p2 + v0_1)) (List.getD v0_0 (Int.toNat (p1 + v0_1)) (Entry.mk (⟨#[]⟩ : ByteArray) 0 0 0))); omega) (lenSet (lenSet ho0_6 (Int.toNat (p1 + v0_1)) (List.getD v0_0 (Int.toNat (p2 + v0_1)) (Entry.mk (⟨#[]⟩ : ByteArray) 0 0 0))) (Int.toNat (p2 + v0_1)) (List.getD v0_0 (Int.toNat (p1 + v0_1)) (Entry.mk (⟨#[]⟩ : ByteArray) 0 0 0))) (by have f0 := (lenSet (lenSet ho0_6 (Int.toNat (p1 + v0_1)) (List.getD v0_0 (Int.toNat (p2 + v0_1)) (Entry.mk (⟨#[]⟩ : ByteArray) 0 0 0))) (Int.toNat (p2 + v0_1)) (List.getD v0_0 (Int.toNat (p1 + v0_1)) (Entry.mk (⟨#[]⟩ : ByteArray) 0 0 0))); omega))
    | false =>
     exact x_slices_swapRangeCmpFunc_b0_1 n0 p1 p2 p3 v0_0 v0_1 ho0_0 ho0_1 ho0_2 ho0_3 ho0_4 ho0_5 ho0_6 h0
theorem ll_slices_swapRangeCmpFunc_b0_0 (n0 : Nat) (p1 : Int) (p2 : Int) (p3 : Int) : ∀ (k0 : Nat) (v0_0 : List Entry) (v0_1 : Int), List.length v0_0 = n0 → List.length (l_slices_swapRangeCmpFunc_b0 n0 p1 p2 p3 k0 v0_0 v0_1) = n0
  | 0, v0_0, v0_1, ho0_6 => by rw [l_slices_swapRangeCmpFunc_b0]; exact ho0_6
  | k0 + 1, v0_0, v0_1, ho0_6 => by
    rw [l_slices_swapRangeCmpFunc_b0]
    cases h0 : (decide (v0_1 < p3)) with
    | true =>
     exact ll_slices_swapRangeCmpFunc_b0_0 n0 p1 p2 p3 k0 (List.set (List.set v0_0 (Int.toNat (p1 + v0_1)) (List.getD v0_0 (Int.toNat (p2 + v0_1)) (Entry.mk (⟨#[]⟩ : ByteArray) 0 0 0))) (Int.toNat (p2 + v0_1)) (List.getD v0_0 (Int.toNat (p1 + v0_1)) (Entry.mk (⟨#[]⟩ : ByteArray) 0 0 0))) (v0_1 + 1) (lenSet (lenSet ho0_6 (Int.toNat (p1 + v0_1)) (List.getD v0_0 (Int.toNat (p2 + v0_1)) (Entry.mk (⟨#[]⟩ : ByteArray) 0 0 0))) (Int.toNat (p2 + v0_1)) (List.getD v0_0 (Int.toNat (p1 + v0_1)) (Entry.mk (⟨#[]⟩ : ByteArray) 0 0 0)))
    | false =>
     exact ho0_6
/-- slices.swapRangeCmpFunc[orchestrator/ qos.entry] -/
def s_slices_swapRangeCmpFunc_f29 (n0 : Nat) (p0 : List Entry) (p1 : Int) (p2 : Int) (p3 : Int) : List Entry :=
  (l_slices_swapRangeCmpFunc_b0 n0 p1 p2 p3 ((Int.toNat (p3 - 0)) + 1) p0 0)
def c_slices_swapRangeCmpFunc_f29 (n0 : Nat) (p0 : List Entry) (p1 : Int) (p2 : Int) (p3 : Int) : En := .call 49 [.ms 0 4 0 n0, .int .i64 p1, .int .i64 p2, .int .i64 p3, .fn 29 [] []] [⟨4, 0, false, (Entry.rows p0).flatten⟩]
def a_slices_swapRangeCmpFunc_f29 (n0 : Nat) (p0 : List Entry) (p1 : Int) (p2 : Int) (p3 : Int) : Rs := .ret (.tup []) [⟨4, 0, false, (Entry.rows (s_slices_swapRangeCmpFunc_f29 n0 p0 p1 p2 p3)).flatten⟩]
theorem lens_slices_swapRangeCmpFunc_f29 (n0 : Nat) (p0 : List Entry) (p1 : Int) (p2 : Int) (p3 : Int) (hn : List.length p0 = n0) : List.length (s_slices_swapRangeCmpFunc_f29 n0 p0 p1 p2 p3) = n0 := by
  unfold s_slices_swapRangeCmpFunc_f29
  have hz0_0 : List.length (l_slices_swapRangeCmpFunc_b0 n0 p1 p2 p3 ((Int.toNat (p3 - 0)) + 1) p0 0) = n0 := ll_slices_swapRangeCmpFunc_b0_0 n0 p1 p2 p3 ((Int.toNat (p3 - 0)) + 1) p0 0 hn
  obtain ⟨R0, eR0⟩ : ∃ R, (l_slices_swapRangeCmpFunc_b0 n0 p1 p2 p3 ((Int.toNat (p3 - 0)) + 1) p0 0) = R := ⟨_, rfl⟩
  rw [eR0] at hz0_0 ⊢
  exact hz0_0
theorem t_slices_swapRangeCmpFunc_f29 (n0 : Nat) (p0 : List Entry) (p1 : Int) (p2 : Int) (p3 : Int) (hn : List.length p0 = n0) (hq0 : 0 ≤ p1 ∧ 0 ≤ p2 ∧ 0 ≤ p3 ∧ p1 + p3 ≤ n0 ∧ p2 + p3 ≤ n0 ∧ (n0 : Int) ≤ 1152921504606846976) : Tells G (c_slices_swapRangeCmpFunc_f29 n0 p0 p1 p2 p3) (a_slices_swapRangeCmpFunc_f29 n0 p0 p1 p2 p3) := by
  unfold a_slices_swapRangeCmpFunc_f29 s_slices_swapRangeCmpFunc_f29
  have hl0 := lt_slices_swapRangeCmpFunc_b0 n0 p1 p2 p3 ((Int.toNat (p3 - 0)) + 1) p0 0 (by omega) (by omega) (by omega) (by omega) (by omega) (by omega) hn (by omega)
  have hz0_0 : List.length (l_slices_swapRangeCmpFunc_b0 n0 p1 p2 p3 ((Int.toNat (p3 - 0)) + 1) p0 0) = n0 := ll_slices_swapRangeCmpFunc_b0_0 n0 p1 p2 p3 ((Int.toNat (p3 - 0)) + 1) p0 0 hn
  obtain ⟨R0, eR0⟩ : ∃ R, (l_slices_swapRangeCmpFunc_b0 n0 p1 p2 p3 ((Int.toNat (p3 - 0)) + 1) p0 0) = R := ⟨_, rfl⟩
  rw [eR0] at hz0_0 hl0 ⊢
  obtain ⟨z0, zo0, hl0⟩ := hl0
  exact tells_VI (fn := Ir.slices_swapRangeCmpFunc) rfl (vk1 (Entry.rowsView p0 4 rfl)) [hS 0 false (Entry.rowsView R0 4 rfl)] [aV [(0, Entry.rows R0)] hl0] (by kernel_rfl)

def l_slices_rotateCmpFunc_b0 (n0 : Nat) (p2 : Int) : Nat → Int → Int → (List Entry) → (List Entry) × Int
  | 0, v0_0, _v0_1, v0_2 => (v0_2, v0_0)
  | k0 + 1, v0_0, v0_1, v0_2 =>
    bif (v0_0 == v0_1) then
      (v0_2, v0_0)
    else
      bif (decide (v0_1 < v0_0)) then
        l_slices_rotateCmpFunc_b0 n0 p2 k0 (v0_0 - v0_1) v0_1 (s_slices_swapRangeCmpFunc_f29 n0 v0_2 (p2 - v0_0) p2 v0_1)
      else
        l_slices_rotateCmpFunc_b0 n0 p2 k0 v0_0 (v0_1 - v0_0) (s_slices_swapRangeCmpFunc_f29 n0 v0_2 (p2 - v0_0) ((p2 + v0_1) - v0_0) v0_0)
def HE_slices_rotateCmpFunc_b0 (n0 : Nat) (p2 : Int) (v0_0 : Int) (v0_1 : Int) (_v0_2 : List Entry) : List PV :=
  [.ms 0 4 0 n0, .un, .int .i64 p2, .un, .fn 29 [] [], .un, .un, .un, .un, .un, .int .i64 v0_0, .int .i64 v0_1, .un, .un, .un, .un, .un, .un, .un, .un, .un, .un, .un, .un, .un, .un, .un, .un, .un, .un, .un, .un, .un, .un, .un, .un, .un, .un, .un, .un, .un, .un, .un, .un, .un, .un, .un, .un, .un, .un, .un, .un, .un, .un, .un, .un, .un, .un]
def HO_slices_rotateCmpFunc_b0 (_n0 : Nat) (_p2 : Int) (_v0_0 : Int) (_v0_1 : Int) (v0_2 : List Entry) : List Ob :=
  [⟨4, 0, false, (Entry.rows v0_2).flatten⟩]
def E_slices_rotateCmpFunc_b0 (n0 : Nat) (p2 : Int) (v0_0 : Int) (v0_1 : Int) (v0_2 : List Entry) : En := .loop 1 Ir.slices_rotateCmpFunc_b0_live Ir.slices_rotateCmpFunc_b0 (HE_slices_rotateCmpFunc_b0 n0 p2 v0_0 v0_1 v0_2) (HO_slices_rotateCmpFunc_b0 n0 p2 v0_0 v0_1 v0_2)
def S_slices_rotateCmpFunc_b0_0 (n0 : Nat) (p2 : Int) (q0 : List Entry) (q1 : Int) (z : Nat → PV) (_zo : Nat → List PV) : St :=
  ⟨[.ms 0 4 0 n0, z 1, .int .i64 p2, z 3, .fn 29 [] [], z 5, z 6, z 7, z 8, z 9, .int .i64 q1, z 11, z 12, z 13, z 14, z 15, z 16, z 17, z 18, z 19, z 20, z 21, z 22, z 23, z 24, z 25, z 26, z 27, z 28, z 29, z 30, z 31, z 32, z 33, z 34, z 35, z 36, z 37, z 38, z 39, z 40, z 41, z 42, z 43, z 44, z 45, z 46, z 47, z 48, z 49, z 50, z 51, z 52, z 53, z 54, z 55, z 56, z 57], [(0, ⟨4, 0, false, (Entry.rows q0).flatten⟩)], 193⟩
theorem V_slices_rotateCmpFunc_b0 (n0 : Nat) (p2 : Int) (v0_0 : Int) (v0_1 : Int) (v0_2 : List Entry) : VOK (Go.Pv.look (number 0 (HO_slices_rotateCmpFunc_b0 n0 p2 v0_0 v0_1 v0_2))) [(0, Entry.rows v0_2)] := (VOK.cons (show Seen _ _ from seenV (ob := ⟨4, 0, false, (Entry.rows v0_2).flatten⟩) (Entry.rowsView v0_2 4 rfl)) VOK.nil)
def P_slices_rotateCmpFunc_b0 (n0 : Nat) (p2 : Int) (e : En) (q : (List Entry) × Int) : Prop := ∃ z zo, Tells G e (.st (.exit 0) (S_slices_rotateCmpFunc_b0_0 n0 p2 q.1 q.2 z zo))
theorem P_slices_rotateCmpFunc_b0_mono (n0 : Nat) (p2 : Int) {e e' : En} (h : ∀ r, Tells G e r → Tells G e' r) : ∀ q, P_slices_rotateCmpFunc_b0 n0 p2 e q → P_slices_rotateCmpFunc_b0 n0 p2 e' q
  | _, ⟨z, zo, hz⟩ => ⟨z, zo, h _ hz⟩
def Z_slices_rotateCmpFunc_b0_0 (_n0 : Nat) (_p2 : Int) (v0_0 : Int) (v0_1 : Int) (_v0_2 : List Entry) : List PV :=
  [.un, .un, .un, .un, .un, .un, .un, .un, .un, .un, .un, .int .i64 v0_1, .un, .un, .un, .un, .un, .un, .int .i64 v0_0, .int .i64 v0_1, .bool false]
def ZO_slices_rotateCmpFunc_b0_0 (_n0 : Nat) (_p2 : Int) (_v0_0 : Int) (_v0_1 : Int) (_v0_2 : List Entry) : List (Nat × List PV) :=
  []
theorem x_slices_rotateCmpFunc_b0_0 (n0 : Nat) (p2 : Int) (v0_0 : Int) (v0_1 : Int) (v0_2 : List Entry) (_ho0_0 : 0 < v0_0) (_ho0_1 : 0 < v0_1) (_ho0_2 : v0_0 ≤ p2) (_ho0_3 : p2 + v0_1 ≤ n0) (_ho0_4 : (n0 : Int) ≤ 1152921504606846976) (_ho0_5 : List.length v0_2 = n0) (h0 : (v0_0 == v0_1) = true) : P_slices_rotateCmpFunc_b0 n0 p2 (E_slices_rotateCmpFunc_b0 n0 p2 v0_0 v0_1 v0_2) (v0_2, v0_0) := by
  exact ⟨(envF (Z_slices_rotateCmpFunc_b0_0 n0 p2 v0_0 v0_1 v0_2)), (zoF (ZO_slices_rotateCmpFunc_b0_0 n0 p2 v0_0 v0_1 v0_2)), tells_outVI (V_slices_rotateCmpFunc_b0 n0 p2 v0_0 v0_1 v0_2) (x := ((.exit 0), S_slices_rotateCmpFunc_b0_0 n0 p2 v0_2 v0_0 (envF (Z_slices_rotateCmpFunc_b0_0 n0 p2 v0_0 v0_1 v0_2)) (zoF (ZO_slices_rotateCmpFunc_b0_0 n0 p2 v0_0 v0_1 v0_2)))) [hP 2 (dec (!(v0_0 == v0_1)) false (by rw [h0]; rfl))] [] (by kernel_rfl)⟩
theorem n_slices_rotateCmpFunc_b0_1 (n0 : Nat) (p2 : Int) (v0_0 : Int) (v0_1 : Int) (v0_2 : List Entry) (ho0_0 : 0 < v0_0) (ho0_1 : 0 < v0_1) (ho0_2 : v0_0 ≤ p2) (ho0_3 : p2 + v0_1 ≤ n0) (ho0_4 : (n0 : Int) ≤ 1152921504606846976) (ho0_5 : List.length v0_2 = n0) (h0 : (v0_0 == v0_1) = false) (h1 : (decide (v0_1 < v0_0)) = true) {r : Rs} (hr : Tells G (E_slices_rotateCmpFunc_b0 n0 p2 (v0_0 - v0_1) v0_1 (s_slices_swapRangeCmpFunc_f29 n0 v0_2 (p2 - v0_0) p2 v0_1)) r) : Tells G (E_slices_rotateCmpFunc_b0 n0 p2 v0_0 v0_1 v0_2) r := by
  have e0 := beq_eq_false_iff_ne.1 h0; have e1 := of_decide_eq_true h1
  exact tells_nextVI (V_slices_rotateCmpFunc_b0 n0 p2 v0_0 v0_1 v0_2) (y := (HE_slices_rotateCmpFunc_b0 n0 p2 (v0_0 - v0_1) v0_1 (s_slices_swapRangeCmpFunc_f29 n0 v0_2 (p2 - v0_0) p2 v0_1), HO_slices_rotateCmpFunc_b0 n0 p2 (v0_0 - v0_1) v0_1 (s_slices_swapRangeCmpFunc_f29 n0 v0_2 (p2 - v0_0) p2 v0_1))) [hP 2 (dec (!(v0_0 == v0_1)) true (by rw [h0]; rfl)), hB 2 h1, hP 3 (w_ok (p2 - v0_0) (by omega)), hQ (Entry.rowsView (s_slices_swapRangeCmpFunc_f29 n0 v0_2 (p2 - v0_0) p2 v0_1) 4 rfl), hP 6 (w_ok (v0_0 - v0_1) (by have f0 := (lens_slices_swapRangeCmpFunc_f29 n0 v0_2 (p2 - v0_0) p2 v0_1 ho0_5); omega))] [aV [(0, Entry.rows (s_slices_swapRangeCmpFunc_f29 n0 v0_2 (p2 - v0_0) p2 v0_1))] (t_slices_swapRangeCmpFunc_f29 n0 v0_2 (p2 - v0_0) p2 v0_1 ho0_5 (by omega))] (by kernel_rfl) hr
theorem n_slices_rotateCmpFunc_b0_2 (n0 : Nat) (p2 : Int) (v0_0 : Int) (v0_1 : Int) (v0_2 : List Entry) (ho0_0 : 0 < v0_0) (ho0_1 : 0 < v0_1) (ho0_2 : v0_0 ≤ p2) (ho0_3 : p2 + v0_1 ≤ n0) (ho0_4 : (n0 : Int) ≤ 1152921504606846976) (ho0_5 : List.length v0_2 = n0) (h0 : (v0_0 == v0_1) = false) (h1 : (decide (v0_1 < v0_0)) = false) {r : Rs} (hr : Tells G (E_slices_rotateCmpFunc_b0 n0 p2 v0_0 (v0_1 - v0_0) (s_slices_swapRangeCmpFunc_f29 n0 v0_2 (p2 - v0_0) ((p2 + v0_1) - v0_0) v0_0)) r) : Tells G (E_slices_rotateCmpFunc_b0 n0 p2 v0_0 v0_1 v0_2) r := by
  have e0 := beq_eq_false_iff_ne.1 h0; have e1 := of_decide_eq_false h1
  exact tells_nextVI (V_slices_rotateCmpFunc_b0 n0 p2 v0_0 v0_1 v0_2) (y := (HE_slices_rotateCmpFunc_b0 n0 p2 v0_0 (v0_1 - v0_0) (s_slices_swapRangeCmpFunc_f29 n0 v0_2 (p2 - v0_0) ((p2 + v0_1) - v0_0) v0_0), HO_slices_rotateCmpFunc_b0 n0 p2 v0_0 (v0_1 - v0_0) (s_slices_swapRangeCmpFunc_f29 n0 v0_2 (p2 - v0_0) ((p2 + v0_1) - v0_0) v0_0))) [hP 2 (dec (!(v0_0 == v0_1)) true (by rw [h0]; rfl)), hB 2 h1, hP 3 (w_ok (p2 - v0_0) (by omega)), hP 2 (w_ok (p2 + v0_1) (by omega)), hP 1 (w_ok ((p2 + v0_1) - v0_0) (by omega)), hQ (Entry.rowsView (s_slices_swapRangeCmpFunc_f29 n0 v0_2 (p2 - v0_0) ((p2 + v0_1) - v0_0) v0_0) 4 rfl), hP 5 (w_ok (v0_1 - v0_0) (by have f0 := (lens_slices_swapRangeCmpFunc_f29 n0 v0_2 (p2 - v0_0) ((p2 + v0_1) - v0_0) v0_0 ho0_5); omega))] [aV [(0, Entry.rows (s_slices_swapRangeCmpFunc_f29 n0 v0_2 (p2 - v0_0) ((p2 + v0_1) - v0_0) v0_0))] (t_slices_swapRangeCmpFunc_f29 n0 v0_2 (p2 - v0_0) ((p2 + v0_1) - v0_0) v0_0 ho0_5 (by omega))] (by kernel_rfl) hr
theorem lt_slices_rotateCmpFunc_b0 (n0 : Nat) (p2 : Int) : ∀ (k0 : Nat) (v0_0 : Int) (v0_1 : Int) (v0_2 : List Entry), 0 < v0_0 → 0 < v0_1 → v0_0 ≤ p2 → p2 + v0_1 ≤ n0 → (n0 : Int) ≤ 1152921504606846976 → List.length v0_2 = n0 → Int.toNat (v0_0 + v0_1) < k0 → P_slices_rotateCmpFunc_b0 n0 p2 (E_slices_rotateCmpFunc_b0 n0 p2 v0_0 v0_1 v0_2) (l_slices_rotateCmpFunc_b0 n0 p2 k0 v0_0 v0_1 v0_2)
  | 0, v0_0, v0_1, v0_2, _, _, _, _, _, _, hm => absurd hm (Nat.not_lt_zero _)
  | k0 + 1, v0_0, v0_1, v0_2, ho0_0, ho0_1, ho0_2, ho0_3, ho0_4, ho0_5, hm => by
    rw [l_slices_rotateCmpFunc_b0]
    cases h0 : (v0_0 == v0_1) with
    | true =>
     exact x_slices_rotateCmpFunc_b0_0 n0 p2 v0_0 v0_1 v0_2 ho0_0 ho0_1 ho0_2 ho0_3 ho0_4 ho0_5 h0
    | false =>
     have e0 := beq_eq_false_iff_ne.1 h0
     cases h1 : (decide (v0_1 < v0_0)) with
     | true =>
      have e1 := of_decide_eq_true h1
      exact P_slices_rotateCmpFunc_b0_mono n0 p2 (fun r hr => n_slices_rotateCmpFunc_b0_1 n0 p2 v0_0 v0_1 v0_2 ho0_0 ho0_1 ho0_2 ho0_3 ho0_4 ho0_5 h0 h1 hr) _ (lt_slices_rotateCmpFunc_b0 n0 p2 k0 (v0_0 - v0_1) v0_1 (s_slices_swapRangeCmpFunc_f29 n0 v0_2 (p2 - v0_0) p2 v0_1) (by have f0 := (lens_slices_swapRangeCmpFunc_f29 n0 v0_2 (p2 - v0_0) p2 v0_1 ho0_5); omega) (by have f0 := (lens_slices_swapRangeCmpFunc_f29 n0 v0_2 (p2 - v0_0) p2 v0_1 ho0_5); omega) (by have f0 := (lens_slices_swapRangeCmpFunc_f29 n0 v0_2 (p2 - v0_0) p2 v0_1 ho0_5); omega) (by have f0 := (lens_slices_swapRangeCmpFunc_f29 n0 v0_2 (p2 - v0_0) p2 v0_1 ho0_5); omega) (by have f0 := (lens_slices_swapRangeCmpFunc_f29 n0 v0_2 (p2 - v0_0) p2 v0_1 ho0_5); omega) (lens_slices_swapRangeCmpFunc_f29 n0 v0_2 (p2 - v0_0) p2 v0_1 ho0_5) (by have f0 := (lens_slices_swapRangeCmpFunc_f29 n0 v0_2 (p2 - v0_0) p2 v0_1 ho0_5); omega))
     | false =>
      have e1 := of_decide_eq_false h1
      exact P_slices_rotateCmpFunc_b0_mono n0 p2 (fun r hr => n_slices_rotateCmpFunc_b0_2 n0 p2 v0_0 v0_1 v0_2 ho0_0 ho0_1 ho0_2 ho0_3 ho0_4 ho0_5 h0 h1 hr) _ (lt_slices_rotateCmpFunc_b0 n0 p2 k0 v0_0 (v0_1 - v0_0) (s_slices_swapRangeCmpFunc_f29 n0 v0_2 (p2 - v0_0) ((p2 + v0_1) - v0_0) v0_0) (by have f0 := (lens_slices_swapRangeCmpFunc_f29 n0 v0_2 (p2 - v0_0) ((p2 + v0_1) - v0_0) v0_0 ho0_5); omega) (by have f0 := (lens_slices_swapRangeCmpFunc_f29 n0 v0_2 (p2 - v0_0) ((p2 + v0_1) - v0_0) v0_0 ho0_5); omega) (by have f0 := (lens_slices_swapRangeCmpFunc_f29 n0 v0_2 (p2 - v0_0) ((p2 + v0_1) - v0_0) v0_0 ho0_5); omega) (by have f0 := (lens_slices_swapRangeCmpFunc_f29 n0 v0_2 (p2 - v0_0) ((p2 + v0_1) - v0_0) v0_0 ho0_5); omega) (by have f0 := (lens_slices_swapRangeCmpFunc_f29 n0 v0_2 (p2 - v0_0) ((p2 + v0_1) - v0_0) v0_0 ho0_5); omega) (lens_slices_swapRangeCmpFunc_f29 n0 v0_2 (p2 - v0_0) ((p2 + v0_1) - v0_0) v0_0 ho0_5) (by have f0 := (lens_slices_swapRangeCmpFunc_f29 n0 v0_2 (p2 - v0_0) ((p2 + v0_1) - v0_0) v0_0 ho0_5); omega))
theorem ll_slices_rotateCmpFunc_b0_0 (n0 : Nat) (p2 : Int) : ∀ (k0 : Nat) (v0_0 : Int) (v0_1 : Int) (v0_2 : List Entry), List.length v0_2 = n0 → List.length (l_slices_rotateCmpFunc_b0 n0 p2 k0 v0_0 v0_1 v0_2).1 = n0
  | 0, v0_0, v0_1, v0_2, ho0_5 => by rw [l_slices_rotateCmpFunc_b0]; exact ho0_5
  | k0 + 1, v0_0, v0_1, v0_2, ho0_5 => by
    rw [l_slices_rotateCmpFunc_b0]
    cases h0 : (v0_0 == v0_1) with
    | true =>
     exact ho0_5
    | false =>
     cases h1 : (decide (v0_1 < v0_0)) with
     | true =>
      exact ll_slices_rotateCmpFunc_b0_0 n0 p2 k0 (v0_0 - v0_1) v0_1 (s_slices_swapRangeCmpFunc_f29 n0 v0_2 (p2 - v0_0) p2 v0_1) (lens_slices_swapRangeCmpFunc_f29 n0 v0_2 (p2 - v0_0) p2 v0_1 ho0_5)
     | false =>
      exact ll_slices_rotateCmpFunc_b0_0 n0 p2 k0 v0_0 (v0_1 - v0_0) (s_slices_swapRangeCmpFunc_f29 n0 v0_2 (p2 - v0_0) ((p2 + v0_1) - v0_0) v0_0) (lens_slices_swapRangeCmpFunc_f29 n0 v0_2 (p2 - v0_0) ((p2 + v0_1) - v0_0) v0_0 ho0_5)
theorem pl_slices_rotateCmpFunc_b0 (n0 : Nat) (p2 : Int) : ∀ (k0 : Nat) (v0_0 : Int) (v0_1 : Int) (v0_2 : List Entry), 0 < v0_0 → 0 < v0_1 → v0_0 ≤ p2 → p2 + v0_1 ≤ n0 → (n0 : Int) ≤ 1152921504606846976 → List.length v0_2 = n0 → Int.toNat (v0_0 + v0_1) < k0 → 0 < (l_slices_rotateCmpFunc_b0 n0 p2 k0 v0_0 v0_1 v0_2).2 ∧ (l_slices_rotateCmpFunc_b0 n0 p2 k0 v0_0 v0_1 v0_2).2 ≤ p2 ∧ p2 + (l_slices_rotateCmpFunc_b0 n0 p2 k0 v0_0 v0_1 v0_2).2 ≤ n0
  | 0, v0_0, v0_1, v0_2, _, _, _, _, _, _, hm => absurd hm (Nat.not_lt_zero _)
  | k0 + 1, v0_0, v0_1, v0_2, ho0_0, ho0_1, ho0_2, ho0_3, ho0_4, ho0_5, hm => by
    rw [l_slices_rotateCmpFunc_b0]
    cases h0 : (v0_0 == v0_1) with
    | true =>
     have e0 := eq_of_beq h0
     exact (show 0 < v0_0 ∧ v0_0 ≤ p2 ∧ p2 + v0_0 ≤ n0 from ⟨(by omega), (by omega), (by omega)⟩)
    | false =>
     have e0 := beq_eq_false_iff_ne.1 h0
     cases h1 : (decide (v0_1 < v0_0)) with
     | true =>
      have e1 := of_decide_eq_true h1
      exact pl_slices_rotateCmpFunc_b0 n0 p2 k0 (v0_0 - v0_1) v0_1 (s_slices_swapRangeCmpFunc_f29 n0 v0_2 (p2 - v0_0) p2 v0_1) (by have f0 := (lens_slices_swapRangeCmpFunc_f29 n0 v0_2 (p2 - v0_0) p2 v0_1 ho0_5); omega) (by have f0 := (lens_slices_swapRangeCmpFunc_f29 n0 v0_2 (p2 - v0_0) p2 v0_1 ho0_5); omega) (by have f0 := (lens_slices_swapRangeCmpFunc_f29 n0 v0_2 (p2 - v0_0) p2 v0_1 ho0_5); omega) (by have f0 := (lens_slices_swapRangeCmpFunc_f29 n0 v0_2 (p2 - v0_0) p2 v0_1 ho0_5); omega) (by have f0 := (lens_slices_swapRangeCmpFunc_f29 n0 v0_2 (p2 - v0_0) p2 v0_1 ho0_5); omega) (lens_slices_swapRangeCmpFunc_f29 n0 v0_2 (p2 - v0_0) p2 v0_1 ho0_5) (by have f0 := (lens_slices_swapRangeCmpFunc_f29 n0 v0_2 (p2 - v0_0) p2 v0_1 ho0_5); omega)
     | false =>
      have e1 := of_decide_eq_false h1
      exact pl_slices_rotateCmpFunc_b0 n0 p2 k0 v0_0 (v0_1 - v0_0) (s_slices_swapRangeCmpFunc_f29 n0 v0_2 (p2 - v0_0) ((p2 + v0_1) - v0_0) v0_0) (by have f0 := (lens_slices_swapRangeCmpFunc_f29 n0 v0_2 (p2 - v0_0) ((p2 + v0_1) - v0_0) v0_0 ho0_5); omega) (by have f0 := (lens_slices_swapRangeCmpFunc_f29 n0 v0_2 (p2 - v0_0) ((p2 + v0_1) - v0_0) v0_0 ho0_5); omega) (by have f0 := (lens_slices_swapRangeCmpFunc_f29 n0 v0_2 (p2 - v0_0) ((p2 + v0_1) - v0_0) v0_0 ho0_5); omega) (by have f0 := (lens_slices_swapRangeCmpFunc_f29 n0 v0_2 (p2 - v0_0) ((p2 + v0_1) - v0_0) v0_0 ho0_5); omega) (by have f0 := (lens_slices_swapRangeCmpFunc_f29 n0 v0_2 (p2 - v0_0) ((p2 + v0_1) - v0_0) v0_0 ho0_5); omega) (lens_slices_swapRangeCmpFunc_f29 n0 v0_2 (p2 - v0_0) ((p2 + v0_1) - v0_0) v0_0 ho0_5) (by have f0 := (lens_slices_swapRangeCmpFunc_f29 n0 v0_2 (p2 - v0_0) ((p2 + v0_1) - v0_0) v0_0 ho0_5); omega)
/-- slices.rotateCmpFunc[orchestrator/ qos.entry] -/
def s_slices_rotateCmpFunc_f29 (n0 : Nat) (p0 : List Entry) (p1 : Int) (p2 : Int) (p3 : Int) : List Entry :=
  (s_slices_swapRangeCmpFunc_f29 n0 (l_slices_rotateCmpFunc_b0 n0 p2 ((Int.toNat ((p2 - p1) + (p3 - p2))) + 1) (p2 - p1) (p3 - p2) p0).1 (p2 - (l_slices_rotateCmpFunc_b0 n0 p2 ((Int.toNat ((p2 - p1) + (p3 - p2))) + 1) (p2 - p1) (p3 - p2) p0).2) p2 (l_slices_rotateCmpFunc_b0 n0 p2 ((Int.toNat ((p2 - p1) + (p3 - p2))) + 1) (p2 - p1) (p3 - p2) p0).2)
def c_slices_rotateCmpFunc_f29 (n0 : Nat) (p0 : List Entry) (p1 : Int) (p2 : Int) (p3 : Int) : En := .call 47 [.ms 0 4 0 n0, .int .i64 p1, .int .i64 p2, .int .i64 p3, .fn 29 [] []] [⟨4, 0, false, (Entry.rows p0).flatten⟩]
def a_slices_rotateCmpFunc_f29 (n0 : Nat) (p0 : List Entry) (p1 : Int) (p2 : Int) (p3 : Int) : Rs := .ret (.tup []) [⟨4, 0, false, (Entry.rows (s_slices_rotateCmpFunc_f29 n0 p0 p1 p2 p3)).flatten⟩]
theorem lens_slices_rotateCmpFunc_f29 (n0 : Nat) (p0 : List Entry) (p1 : Int) (p2 : Int) (p3 : Int) (hn : List.length p0 = n0) : List.length (s_slices_rotateCmpFunc_f29 n0 p0 p1 p2 p3) = n0 := by
  unfold s_slices_rotateCmpFunc_f29
  have hz0_0 : List.length (l_slices_rotateCmpFunc_b0 n0 p2 ((Int.toNat ((p2 - p1) + (p3 - p2))) + 1) (p2 - p1) (p3 - p2) p0).1 = n0 := ll_slices_rotateCmpFunc_b0_0 n0 p2 ((Int.toNat ((p2 - p1) + (p3 - p2))) + 1) (p2 - p1) (p3 - p2) p0 hn
  obtain ⟨R1, eR1⟩ : ∃ R, (l_slices_rotateCmpFunc_b0 n0 p2 ((Int.toNat ((p2 - p1) + (p3 - p2))) + 1) (p2 - p1) (p3 - p2) p0) = R := ⟨_, rfl⟩
  rw [eR1] at hz0_0 ⊢
  exact (lens_slices_swapRangeCmpFunc_f29 n0 R1.1 (p2 - R1.2) p2 R1.2 hz0_0)
theorem t_slices_rotateCmpFunc_f29 (n0 : Nat) (p0 : List Entry) (p1 : Int) (p2 : Int) (p3 : Int) (hn : List.length p0 = n0) (hq0 : 0 ≤ p1 ∧ p1 < p2 ∧ p2 < p3 ∧ p3 ≤ n0 ∧ (n0 : Int) ≤ 1152921504606846976) : Tells G (c_slices_rotateCmpFunc_f29 n0 p0 p1 p2 p3) (a_slices_rotateCmpFunc_f29 n0 p0 p1 p2 p3) := by
  unfold a_slices_rotateCmpFunc_f29 s_slices_rotateCmpFunc_f29
  have hl0 := lt_slices_rotateCmpFunc_b0 n0 p2 ((Int.toNat ((p2 - p1) + (p3 - p2))) + 1) (p2 - p1) (p3 - p2) p0 (by omega) (by omega) (by omega) (by omega) (by omega) hn (by omega)
  have hz0_0 : List.length (l_slices_rotateCmpFunc_b0 n0 p2 ((Int.toNat ((p2 - p1) + (p3 - p2))) + 1) (p2 - p1) (p3 - p2) p0).1 = n0 := ll_slices_rotateCmpFunc_b0_0 n0 p2 ((Int.toNat ((p2 - p1) + (p3 - p2))) + 1) (p2 - p1) (p3 - p2) p0 hn
  have hy0 : 0 < (l_slices_rotateCmpFunc_b0 n0 p2 ((Int.toNat ((p2 - p1) + (p3 - p2))) + 1) (p2 - p1) (p3 - p2) p0).2 ∧ (l_slices_rotateCmpFunc_b0 n0 p2 ((Int.toNat ((p2 - p1) + (p3 - p2))) + 1) (p2 - p1) (p3 - p2) p0).2 ≤ p2 ∧ p2 + (l_slices_rotateCmpFunc_b0 n0 p2 ((Int.toNat ((p2 - p1) + (p3 - p2))) + 1) (p2 - p1) (p3 - p2) p0).2 ≤ n0 := pl_slices_rotateCmpFunc_b0 n0 p2 ((Int.toNat ((p2 - p1) + (p3 - p2))) + 1) (p2 - p1) (p3 - p2) p0 (by omega) (by omega) (by omega) (by omega) (by omega) hn (by omega)
  obtain ⟨R1, eR1⟩ : ∃ R, (l_slices_rotateCmpFunc_b0 n0 p2 ((Int.toNat ((p2 - p1) + (p3 - p2))) + 1) (p2 - p1) (p3 - p2) p0) = R := ⟨_, rfl⟩
  rw [eR1] at hz0_0 hy0 hl0 ⊢
  obtain ⟨z0, zo0, hl0⟩ := hl0
  exact tells_VI (fn := Ir.slices_rotateCmpFunc) rfl (vk1 (Entry.rowsView p0 4 rfl)) [hP 2 (w_ok (p2 - p1) (by omega)), hP 3 (w_ok (p3 - p2) (by omega)), hS 0 false (Entry.rowsView R1.1 4 rfl), hP 4 (w_ok (p2 - R1.2) (by have g0 := hy0; omega)), hQ (Entry.rowsView (s_slices_swapRangeCmpFunc_f29 n0 R1.1 (p2 - R1.2) p2 R1.2) 4 rfl)] [aV [(0, Entry.rows R1.1)] hl0, aV [(0, Entry.rows (s_slices_swapRangeCmpFunc_f29 n0 R1.1 (p2 - R1.2) p2 R1.2))] (t_slices_swapRangeCmpFunc_f29 n0 R1.1 (p2 - R1.2) p2 R1.2 hz0_0 (by have g0 := hy0; omega))] (by kernel_rfl)

end Go.Proofs.Ytnicmdfafihmpaa
