/- Texts of the claim, merged by a program; what the statement does not reach is left out. -/
import Derived.Test.YtbagpdebihicnaaGreatBWorkcodecNetwork3

section
/- Structures and kinds of objects as values, in plain words (printed by a program). -/
namespace Go.Proofs.YtbagpdebihicnaaGreat
open Go.Pv
structure Requirement where
  key : ByteArray
  op : Int
  values : List ByteArray
def Requirement.cells (x : Requirement) : List PV :=
  [.str x.key, .int .i64 x.op, .sl (Qj x.values)]
def Requirement.rows (l : List Requirement) : List (List PV) := l.map Requirement.cells
theorem Requirement.Q5 (l : List Requirement) : (Requirement.rows l).length = l.length := by simp [Requirement.rows]
theorem Requirement.Q9 {l : List Requirement} {i : Nat} {x : Requirement} (h : l[i]? = some x) : (Requirement.rows l)[i]? = some (Requirement.cells x) := Go.Pv.Q9 h
theorem Requirement.Qv (l : List Requirement) (x : Requirement) : Requirement.rows (l ++ [x]) = Requirement.rows l ++ [Requirement.cells x] := by simp [Requirement.rows]
theorem Requirement.Q2n (l m : List Requirement) : Requirement.rows (l ++ m) = Requirement.rows l ++ Requirement.rows m := by simp [Requirement.rows]
theorem Requirement.Q2i (l : List Requirement) (k : Nat) (x : Requirement) : Requirement.rows (l.set k x) = (Requirement.rows l).set k (Requirement.cells x) := by simp [Requirement.rows, List.map_set]
theorem Requirement.Q21 (l : List Requirement) (n : Nat) : Requirement.rows (l.take n) = (Requirement.rows l).take n := by simp [Requirement.rows, List.map_take]
theorem Requirement.Q25 (l : List Requirement) (n : Nat) : Requirement.rows (l.drop n) = (Requirement.rows l).drop n := by simp [Requirement.rows, List.map_drop]
theorem Requirement.Qd (l : List Requirement) : ∀ r ∈ Requirement.rows l, r.length = 3 := Q2h (f := Requirement.cells) (fun _ => rfl) l
theorem Requirement.Q7 (l : List Requirement) (sz : Nat) (h : sz = 3) : ViewOK sz (Requirement.rows l).flatten (Requirement.rows l) := by subst h; exact ⟨rfl, Requirement.Qd l, Q20 (f := Requirement.cells) (fun _ => rfl) l⟩
structure ServicePort where
  name : ByteArray
  port : Int
  target : Int
def ServicePort.cells (x : ServicePort) : List PV :=
  [.str x.name, .int .i64 x.port, .int .i64 x.target]
def ServicePort.rows (l : List ServicePort) : List (List PV) := l.map ServicePort.cells
theorem ServicePort.Q5 (l : List ServicePort) : (ServicePort.rows l).length = l.length := by simp [ServicePort.rows]
theorem ServicePort.Q9 {l : List ServicePort} {i : Nat} {x : ServicePort} (h : l[i]? = some x) : (ServicePort.rows l)[i]? = some (ServicePort.cells x) := Go.Pv.Q9 h
theorem ServicePort.Qv (l : List ServicePort) (x : ServicePort) : ServicePort.rows (l ++ [x]) = ServicePort.rows l ++ [ServicePort.cells x] := by simp [ServicePort.rows]
theorem ServicePort.Q2n (l m : List ServicePort) : ServicePort.rows (l ++ m) = ServicePort.rows l ++ ServicePort.rows m := by simp [ServicePort.rows]
theorem ServicePort.Q2i (l : List ServicePort) (k : Nat) (x : ServicePort) : ServicePort.rows (l.set k x) = (ServicePort.rows l).set k (ServicePort.cells x) := by simp [ServicePort.rows, List.map_set]
theorem ServicePort.Q21 (l : List ServicePort) (n : Nat) : ServicePort.rows (l.take n) = (ServicePort.rows l).take n := by simp [ServicePort.rows, List.map_take]
theorem ServicePort.Q25 (l : List ServicePort) (n : Nat) : ServicePort.rows (l.drop n) = (ServicePort.rows l).drop n := by simp [ServicePort.rows, List.map_drop]
theorem ServicePort.Qd (l : List ServicePort) : ∀ r ∈ ServicePort.rows l, r.length = 3 := Q2h (f := ServicePort.cells) (fun _ => rfl) l
theorem ServicePort.Q7 (l : List ServicePort) (sz : Nat) (h : sz = 3) : ViewOK sz (ServicePort.rows l).flatten (ServicePort.rows l) := by subst h; exact ⟨rfl, ServicePort.Qd l, Q20 (f := ServicePort.cells) (fun _ => rfl) l⟩
structure Endpoint where
  pod : ByteArray
  node : ByteArray
  address : Int
  ready : Bool
  terminating : Bool
def Endpoint.cells (x : Endpoint) : List PV :=
  [.str x.pod, .str x.node, .int .i64 x.address, .bool x.ready, .bool x.terminating]
def Endpoint.rows (l : List Endpoint) : List (List PV) := l.map Endpoint.cells
theorem Endpoint.Q5 (l : List Endpoint) : (Endpoint.rows l).length = l.length := by simp [Endpoint.rows]
theorem Endpoint.Q9 {l : List Endpoint} {i : Nat} {x : Endpoint} (h : l[i]? = some x) : (Endpoint.rows l)[i]? = some (Endpoint.cells x) := Go.Pv.Q9 h
theorem Endpoint.Qv (l : List Endpoint) (x : Endpoint) : Endpoint.rows (l ++ [x]) = Endpoint.rows l ++ [Endpoint.cells x] := by simp [Endpoint.rows]
theorem Endpoint.Q2n (l m : List Endpoint) : Endpoint.rows (l ++ m) = Endpoint.rows l ++ Endpoint.rows m := by simp [Endpoint.rows]
theorem Endpoint.Q2i (l : List Endpoint) (k : Nat) (x : Endpoint) : Endpoint.rows (l.set k x) = (Endpoint.rows l).set k (Endpoint.cells x) := by simp [Endpoint.rows, List.map_set]
theorem Endpoint.Q21 (l : List Endpoint) (n : Nat) : Endpoint.rows (l.take n) = (Endpoint.rows l).take n := by simp [Endpoint.rows, List.map_take]
theorem Endpoint.Q25 (l : List Endpoint) (n : Nat) : Endpoint.rows (l.drop n) = (Endpoint.rows l).drop n := by simp [Endpoint.rows, List.map_drop]
theorem Endpoint.Qd (l : List Endpoint) : ∀ r ∈ Endpoint.rows l, r.length = 5 := Q2h (f := Endpoint.cells) (fun _ => rfl) l
theorem Endpoint.Q7 (l : List Endpoint) (sz : Nat) (h : sz = 5) : ViewOK sz (Endpoint.rows l).flatten (Endpoint.rows l) := by subst h; exact ⟨rfl, Endpoint.Qd l, Q20 (f := Endpoint.cells) (fun _ => rfl) l⟩
structure Peer where
  namespace_ : ByteArray
  selector : List Requirement
def Peer.cells (x : Peer) : List PV :=
  [.str x.namespace_, .sl (Requirement.rows x.selector)]
def Peer.rows (l : List Peer) : List (List PV) := l.map Peer.cells
theorem Peer.Q5 (l : List Peer) : (Peer.rows l).length = l.length := by simp [Peer.rows]
theorem Peer.Q9 {l : List Peer} {i : Nat} {x : Peer} (h : l[i]? = some x) : (Peer.rows l)[i]? = some (Peer.cells x) := Go.Pv.Q9 h
theorem Peer.Qv (l : List Peer) (x : Peer) : Peer.rows (l ++ [x]) = Peer.rows l ++ [Peer.cells x] := by simp [Peer.rows]
theorem Peer.Q2n (l m : List Peer) : Peer.rows (l ++ m) = Peer.rows l ++ Peer.rows m := by simp [Peer.rows]
theorem Peer.Q2i (l : List Peer) (k : Nat) (x : Peer) : Peer.rows (l.set k x) = (Peer.rows l).set k (Peer.cells x) := by simp [Peer.rows, List.map_set]
theorem Peer.Q21 (l : List Peer) (n : Nat) : Peer.rows (l.take n) = (Peer.rows l).take n := by simp [Peer.rows, List.map_take]
theorem Peer.Q25 (l : List Peer) (n : Nat) : Peer.rows (l.drop n) = (Peer.rows l).drop n := by simp [Peer.rows, List.map_drop]
theorem Peer.Qd (l : List Peer) : ∀ r ∈ Peer.rows l, r.length = 2 := Q2h (f := Peer.cells) (fun _ => rfl) l
theorem Peer.Q7 (l : List Peer) (sz : Nat) (h : sz = 2) : ViewOK sz (Peer.rows l).flatten (Peer.rows l) := by subst h; exact ⟨rfl, Peer.Qd l, Q20 (f := Peer.cells) (fun _ => rfl) l⟩
structure PolicyRule where
  egress : Bool
  peers : List Peer
  ports : List Int
def PolicyRule.cells (x : PolicyRule) : List PV :=
  [.bool x.egress, .sl (Peer.rows x.peers), .sl (Q1i x.ports)]
def PolicyRule.rows (l : List PolicyRule) : List (List PV) := l.map PolicyRule.cells
theorem PolicyRule.Q5 (l : List PolicyRule) : (PolicyRule.rows l).length = l.length := by simp [PolicyRule.rows]
theorem PolicyRule.Q9 {l : List PolicyRule} {i : Nat} {x : PolicyRule} (h : l[i]? = some x) : (PolicyRule.rows l)[i]? = some (PolicyRule.cells x) := Go.Pv.Q9 h
theorem PolicyRule.Qv (l : List PolicyRule) (x : PolicyRule) : PolicyRule.rows (l ++ [x]) = PolicyRule.rows l ++ [PolicyRule.cells x] := by simp [PolicyRule.rows]
theorem PolicyRule.Q2n (l m : List PolicyRule) : PolicyRule.rows (l ++ m) = PolicyRule.rows l ++ PolicyRule.rows m := by simp [PolicyRule.rows]
theorem PolicyRule.Q2i (l : List PolicyRule) (k : Nat) (x : PolicyRule) : PolicyRule.rows (l.set k x) = (PolicyRule.rows l).set k (PolicyRule.cells x) := by simp [PolicyRule.rows, List.map_set]
theorem PolicyRule.Q21 (l : List PolicyRule) (n : Nat) : PolicyRule.rows (l.take n) = (PolicyRule.rows l).take n := by simp [PolicyRule.rows, List.map_take]
theorem PolicyRule.Q25 (l : List PolicyRule) (n : Nat) : PolicyRule.rows (l.drop n) = (PolicyRule.rows l).drop n := by simp [PolicyRule.rows, List.map_drop]
theorem PolicyRule.Qd (l : List PolicyRule) : ∀ r ∈ PolicyRule.rows l, r.length = 3 := Q2h (f := PolicyRule.cells) (fun _ => rfl) l
theorem PolicyRule.Q7 (l : List PolicyRule) (sz : Nat) (h : sz = 3) : ViewOK sz (PolicyRule.rows l).flatten (PolicyRule.rows l) := by subst h; exact ⟨rfl, PolicyRule.Qd l, Q20 (f := PolicyRule.cells) (fun _ => rfl) l⟩
structure Label where
  key : ByteArray
  value : ByteArray
def Label.cells (x : Label) : List PV :=
  [.str x.key, .str x.value]
def Label.rows (l : List Label) : List (List PV) := l.map Label.cells
theorem Label.Q5 (l : List Label) : (Label.rows l).length = l.length := by simp [Label.rows]
theorem Label.Q9 {l : List Label} {i : Nat} {x : Label} (h : l[i]? = some x) : (Label.rows l)[i]? = some (Label.cells x) := Go.Pv.Q9 h
theorem Label.Qv (l : List Label) (x : Label) : Label.rows (l ++ [x]) = Label.rows l ++ [Label.cells x] := by simp [Label.rows]
theorem Label.Q2n (l m : List Label) : Label.rows (l ++ m) = Label.rows l ++ Label.rows m := by simp [Label.rows]
theorem Label.Q2i (l : List Label) (k : Nat) (x : Label) : Label.rows (l.set k x) = (Label.rows l).set k (Label.cells x) := by simp [Label.rows, List.map_set]
theorem Label.Q21 (l : List Label) (n : Nat) : Label.rows (l.take n) = (Label.rows l).take n := by simp [Label.rows, List.map_take]
theorem Label.Q25 (l : List Label) (n : Nat) : Label.rows (l.drop n) = (Label.rows l).drop n := by simp [Label.rows, List.map_drop]
theorem Label.Qd (l : List Label) : ∀ r ∈ Label.rows l, r.length = 2 := Q2h (f := Label.cells) (fun _ => rfl) l
theorem Label.Q7 (l : List Label) (sz : Nat) (h : sz = 2) : ViewOK sz (Label.rows l).flatten (Label.rows l) := by subst h; exact ⟨rfl, Label.Qd l, Q20 (f := Label.cells) (fun _ => rfl) l⟩
structure Owner where
  kind : ByteArray
  name : ByteArray
  uid : Int
  controller : Bool
  block : Bool
def Owner.cells (x : Owner) : List PV :=
  [.str x.kind, .str x.name, .int .i64 x.uid, .bool x.controller, .bool x.block]
def Owner.rows (l : List Owner) : List (List PV) := l.map Owner.cells
theorem Owner.Q5 (l : List Owner) : (Owner.rows l).length = l.length := by simp [Owner.rows]
theorem Owner.Q9 {l : List Owner} {i : Nat} {x : Owner} (h : l[i]? = some x) : (Owner.rows l)[i]? = some (Owner.cells x) := Go.Pv.Q9 h
theorem Owner.Qv (l : List Owner) (x : Owner) : Owner.rows (l ++ [x]) = Owner.rows l ++ [Owner.cells x] := by simp [Owner.rows]
theorem Owner.Q2n (l m : List Owner) : Owner.rows (l ++ m) = Owner.rows l ++ Owner.rows m := by simp [Owner.rows]
theorem Owner.Q2i (l : List Owner) (k : Nat) (x : Owner) : Owner.rows (l.set k x) = (Owner.rows l).set k (Owner.cells x) := by simp [Owner.rows, List.map_set]
theorem Owner.Q21 (l : List Owner) (n : Nat) : Owner.rows (l.take n) = (Owner.rows l).take n := by simp [Owner.rows, List.map_take]
theorem Owner.Q25 (l : List Owner) (n : Nat) : Owner.rows (l.drop n) = (Owner.rows l).drop n := by simp [Owner.rows, List.map_drop]
theorem Owner.Qd (l : List Owner) : ∀ r ∈ Owner.rows l, r.length = 5 := Q2h (f := Owner.cells) (fun _ => rfl) l
theorem Owner.Q7 (l : List Owner) (sz : Nat) (h : sz = 5) : ViewOK sz (Owner.rows l).flatten (Owner.rows l) := by subst h; exact ⟨rfl, Owner.Qd l, Q20 (f := Owner.cells) (fun _ => rfl) l⟩
structure Manager where
  name : ByteArray
  fields : List ByteArray
def Manager.cells (x : Manager) : List PV :=
  [.str x.name, .sl (Qj x.fields)]
def Manager.rows (l : List Manager) : List (List PV) := l.map Manager.cells
theorem Manager.Q5 (l : List Manager) : (Manager.rows l).length = l.length := by simp [Manager.rows]
theorem Manager.Q9 {l : List Manager} {i : Nat} {x : Manager} (h : l[i]? = some x) : (Manager.rows l)[i]? = some (Manager.cells x) := Go.Pv.Q9 h
theorem Manager.Qv (l : List Manager) (x : Manager) : Manager.rows (l ++ [x]) = Manager.rows l ++ [Manager.cells x] := by simp [Manager.rows]
theorem Manager.Q2n (l m : List Manager) : Manager.rows (l ++ m) = Manager.rows l ++ Manager.rows m := by simp [Manager.rows]
theorem Manager.Q2i (l : List Manager) (k : Nat) (x : Manager) : Manager.rows (l.set k x) = (Manager.rows l).set k (Manager.cells x) := by simp [Manager.rows, List.map_set]
theorem Manager.Q21 (l : List Manager) (n : Nat) : Manager.rows (l.take n) = (Manager.rows l).take n := by simp [Manager.rows, List.map_take]
theorem Manager.Q25 (l : List Manager) (n : Nat) : Manager.rows (l.drop n) = (Manager.rows l).drop n := by simp [Manager.rows, List.map_drop]
theorem Manager.Qd (l : List Manager) : ∀ r ∈ Manager.rows l, r.length = 2 := Q2h (f := Manager.cells) (fun _ => rfl) l
theorem Manager.Q7 (l : List Manager) (sz : Nat) (h : sz = 2) : ViewOK sz (Manager.rows l).flatten (Manager.rows l) := by subst h; exact ⟨rfl, Manager.Qd l, Q20 (f := Manager.cells) (fun _ => rfl) l⟩
structure Meta where
  kind : ByteArray
  namespace_ : ByteArray
  name : ByteArray
  uid : Int
  version : Int
  generation : Int
  created : Int
  deleting : Bool
  deleteAt : Int
  labels : List Label
  owners : List Owner
  finalizers : List ByteArray
  managers : List Manager
def Meta.cells (x : Meta) : List PV :=
  [.str x.kind, .str x.namespace_, .str x.name, .int .i64 x.uid, .int .i64 x.version, .int .i64 x.generation, .int .i64 x.created, .bool x.deleting, .int .i64 x.deleteAt, .sl (Label.rows x.labels), .sl (Owner.rows x.owners), .sl (Qj x.finalizers), .sl (Manager.rows x.managers)]
def Meta.rows (l : List Meta) : List (List PV) := l.map Meta.cells
theorem Meta.Q5 (l : List Meta) : (Meta.rows l).length = l.length := by simp [Meta.rows]
theorem Meta.Q9 {l : List Meta} {i : Nat} {x : Meta} (h : l[i]? = some x) : (Meta.rows l)[i]? = some (Meta.cells x) := Go.Pv.Q9 h
theorem Meta.Qv (l : List Meta) (x : Meta) : Meta.rows (l ++ [x]) = Meta.rows l ++ [Meta.cells x] := by simp [Meta.rows]
theorem Meta.Q2n (l m : List Meta) : Meta.rows (l ++ m) = Meta.rows l ++ Meta.rows m := by simp [Meta.rows]
theorem Meta.Q2i (l : List Meta) (k : Nat) (x : Meta) : Meta.rows (l.set k x) = (Meta.rows l).set k (Meta.cells x) := by simp [Meta.rows, List.map_set]
theorem Meta.Q21 (l : List Meta) (n : Nat) : Meta.rows (l.take n) = (Meta.rows l).take n := by simp [Meta.rows, List.map_take]
theorem Meta.Q25 (l : List Meta) (n : Nat) : Meta.rows (l.drop n) = (Meta.rows l).drop n := by simp [Meta.rows, List.map_drop]
theorem Meta.Qd (l : List Meta) : ∀ r ∈ Meta.rows l, r.length = 13 := Q2h (f := Meta.cells) (fun _ => rfl) l
theorem Meta.Q7 (l : List Meta) (sz : Nat) (h : sz = 13) : ViewOK sz (Meta.rows l).flatten (Meta.rows l) := by subst h; exact ⟨rfl, Meta.Qd l, Q20 (f := Meta.cells) (fun _ => rfl) l⟩
structure Object where
  meta_ : Meta
  spec : Val
  status : Val
def Object.cells (x : Object) : List PV :=
  [.str x.meta_.kind, .str x.meta_.namespace_, .str x.meta_.name, .int .i64 x.meta_.uid, .int .i64 x.meta_.version, .int .i64 x.meta_.generation, .int .i64 x.meta_.created, .bool x.meta_.deleting, .int .i64 x.meta_.deleteAt, .sl (Label.rows x.meta_.labels), .sl (Owner.rows x.meta_.owners), .sl (Qj x.meta_.finalizers), .sl (Manager.rows x.meta_.managers), .int .i64 x.spec.kind, .int .i64 x.spec.n, .str x.spec.s, .sl (Val.rows x.spec.list), .sl (Fld.rows x.spec.fields), .int .i64 x.status.kind, .int .i64 x.status.n, .str x.status.s, .sl (Val.rows x.status.list), .sl (Fld.rows x.status.fields)]
def Object.rows (l : List Object) : List (List PV) := l.map Object.cells
theorem Object.Q5 (l : List Object) : (Object.rows l).length = l.length := by simp [Object.rows]
theorem Object.Q9 {l : List Object} {i : Nat} {x : Object} (h : l[i]? = some x) : (Object.rows l)[i]? = some (Object.cells x) := Go.Pv.Q9 h
theorem Object.Qv (l : List Object) (x : Object) : Object.rows (l ++ [x]) = Object.rows l ++ [Object.cells x] := by simp [Object.rows]
theorem Object.Q2n (l m : List Object) : Object.rows (l ++ m) = Object.rows l ++ Object.rows m := by simp [Object.rows]
theorem Object.Q2i (l : List Object) (k : Nat) (x : Object) : Object.rows (l.set k x) = (Object.rows l).set k (Object.cells x) := by simp [Object.rows, List.map_set]
theorem Object.Q21 (l : List Object) (n : Nat) : Object.rows (l.take n) = (Object.rows l).take n := by simp [Object.rows, List.map_take]
theorem Object.Q25 (l : List Object) (n : Nat) : Object.rows (l.drop n) = (Object.rows l).drop n := by simp [Object.rows, List.map_drop]
theorem Object.Qd (l : List Object) : ∀ r ∈ Object.rows l, r.length = 23 := Q2h (f := Object.cells) (fun _ => rfl) l
theorem Object.Q7 (l : List Object) (sz : Nat) (h : sz = 23) : ViewOK sz (Object.rows l).flatten (Object.rows l) := by subst h; exact ⟨rfl, Object.Qd l, Q20 (f := Object.cells) (fun _ => rfl) l⟩
structure Service where
  meta_ : Meta
  selector : List Requirement
  ports : List ServicePort
  sticky : Bool
  address : Int
def Service.cells (x : Service) : List PV :=
  [.str x.meta_.kind, .str x.meta_.namespace_, .str x.meta_.name, .int .i64 x.meta_.uid, .int .i64 x.meta_.version, .int .i64 x.meta_.generation, .int .i64 x.meta_.created, .bool x.meta_.deleting, .int .i64 x.meta_.deleteAt, .sl (Label.rows x.meta_.labels), .sl (Owner.rows x.meta_.owners), .sl (Qj x.meta_.finalizers), .sl (Manager.rows x.meta_.managers), .sl (Requirement.rows x.selector), .sl (ServicePort.rows x.ports), .bool x.sticky, .int .i64 x.address]
def Service.rows (l : List Service) : List (List PV) := l.map Service.cells
theorem Service.Q5 (l : List Service) : (Service.rows l).length = l.length := by simp [Service.rows]
theorem Service.Q9 {l : List Service} {i : Nat} {x : Service} (h : l[i]? = some x) : (Service.rows l)[i]? = some (Service.cells x) := Go.Pv.Q9 h
theorem Service.Qv (l : List Service) (x : Service) : Service.rows (l ++ [x]) = Service.rows l ++ [Service.cells x] := by simp [Service.rows]
theorem Service.Q2n (l m : List Service) : Service.rows (l ++ m) = Service.rows l ++ Service.rows m := by simp [Service.rows]
theorem Service.Q2i (l : List Service) (k : Nat) (x : Service) : Service.rows (l.set k x) = (Service.rows l).set k (Service.cells x) := by simp [Service.rows, List.map_set]
theorem Service.Q21 (l : List Service) (n : Nat) : Service.rows (l.take n) = (Service.rows l).take n := by simp [Service.rows, List.map_take]
theorem Service.Q25 (l : List Service) (n : Nat) : Service.rows (l.drop n) = (Service.rows l).drop n := by simp [Service.rows, List.map_drop]
theorem Service.Qd (l : List Service) : ∀ r ∈ Service.rows l, r.length = 17 := Q2h (f := Service.cells) (fun _ => rfl) l
theorem Service.Q7 (l : List Service) (sz : Nat) (h : sz = 17) : ViewOK sz (Service.rows l).flatten (Service.rows l) := by subst h; exact ⟨rfl, Service.Qd l, Q20 (f := Service.cells) (fun _ => rfl) l⟩
structure EndpointSet where
  meta_ : Meta
  ports : List ServicePort
  items : List Endpoint
def EndpointSet.cells (x : EndpointSet) : List PV :=
  [.str x.meta_.kind, .str x.meta_.namespace_, .str x.meta_.name, .int .i64 x.meta_.uid, .int .i64 x.meta_.version, .int .i64 x.meta_.generation, .int .i64 x.meta_.created, .bool x.meta_.deleting, .int .i64 x.meta_.deleteAt, .sl (Label.rows x.meta_.labels), .sl (Owner.rows x.meta_.owners), .sl (Qj x.meta_.finalizers), .sl (Manager.rows x.meta_.managers), .sl (ServicePort.rows x.ports), .sl (Endpoint.rows x.items)]
def EndpointSet.rows (l : List EndpointSet) : List (List PV) := l.map EndpointSet.cells
theorem EndpointSet.Q5 (l : List EndpointSet) : (EndpointSet.rows l).length = l.length := by simp [EndpointSet.rows]
theorem EndpointSet.Q9 {l : List EndpointSet} {i : Nat} {x : EndpointSet} (h : l[i]? = some x) : (EndpointSet.rows l)[i]? = some (EndpointSet.cells x) := Go.Pv.Q9 h
theorem EndpointSet.Qv (l : List EndpointSet) (x : EndpointSet) : EndpointSet.rows (l ++ [x]) = EndpointSet.rows l ++ [EndpointSet.cells x] := by simp [EndpointSet.rows]
theorem EndpointSet.Q2n (l m : List EndpointSet) : EndpointSet.rows (l ++ m) = EndpointSet.rows l ++ EndpointSet.rows m := by simp [EndpointSet.rows]
theorem EndpointSet.Q2i (l : List EndpointSet) (k : Nat) (x : EndpointSet) : EndpointSet.rows (l.set k x) = (EndpointSet.rows l).set k (EndpointSet.cells x) := by simp [EndpointSet.rows, List.map_set]
theorem EndpointSet.Q21 (l : List EndpointSet) (n : Nat) : EndpointSet.rows (l.take n) = (EndpointSet.rows l).take n := by simp [EndpointSet.rows, List.map_take]
theorem EndpointSet.Q25 (l : List EndpointSet) (n : Nat) : EndpointSet.rows (l.drop n) = (EndpointSet.rows l).drop n := by simp [EndpointSet.rows, List.map_drop]
theorem EndpointSet.Qd (l : List EndpointSet) : ∀ r ∈ EndpointSet.rows l, r.length = 15 := Q2h (f := EndpointSet.cells) (fun _ => rfl) l
theorem EndpointSet.Q7 (l : List EndpointSet) (sz : Nat) (h : sz = 15) : ViewOK sz (EndpointSet.rows l).flatten (EndpointSet.rows l) := by subst h; exact ⟨rfl, EndpointSet.Qd l, Q20 (f := EndpointSet.cells) (fun _ => rfl) l⟩
structure NetworkPolicy where
  meta_ : Meta
  selector : List Requirement
  ingress : Bool
  egress : Bool
  rules : List PolicyRule
def NetworkPolicy.cells (x : NetworkPolicy) : List PV :=
  [.str x.meta_.kind, .str x.meta_.namespace_, .str x.meta_.name, .int .i64 x.meta_.uid, .int .i64 x.meta_.version, .int .i64 x.meta_.generation, .int .i64 x.meta_.created, .bool x.meta_.deleting, .int .i64 x.meta_.deleteAt, .sl (Label.rows x.meta_.labels), .sl (Owner.rows x.meta_.owners), .sl (Qj x.meta_.finalizers), .sl (Manager.rows x.meta_.managers), .sl (Requirement.rows x.selector), .bool x.ingress, .bool x.egress, .sl (PolicyRule.rows x.rules)]
def NetworkPolicy.rows (l : List NetworkPolicy) : List (List PV) := l.map NetworkPolicy.cells
theorem NetworkPolicy.Q5 (l : List NetworkPolicy) : (NetworkPolicy.rows l).length = l.length := by simp [NetworkPolicy.rows]
theorem NetworkPolicy.Q9 {l : List NetworkPolicy} {i : Nat} {x : NetworkPolicy} (h : l[i]? = some x) : (NetworkPolicy.rows l)[i]? = some (NetworkPolicy.cells x) := Go.Pv.Q9 h
theorem NetworkPolicy.Qv (l : List NetworkPolicy) (x : NetworkPolicy) : NetworkPolicy.rows (l ++ [x]) = NetworkPolicy.rows l ++ [NetworkPolicy.cells x] := by simp [NetworkPolicy.rows]
theorem NetworkPolicy.Q2n (l m : List NetworkPolicy) : NetworkPolicy.rows (l ++ m) = NetworkPolicy.rows l ++ NetworkPolicy.rows m := by simp [NetworkPolicy.rows]
theorem NetworkPolicy.Q2i (l : List NetworkPolicy) (k : Nat) (x : NetworkPolicy) : NetworkPolicy.rows (l.set k x) = (NetworkPolicy.rows l).set k (NetworkPolicy.cells x) := by simp [NetworkPolicy.rows, List.map_set]
theorem NetworkPolicy.Q21 (l : List NetworkPolicy) (n : Nat) : NetworkPolicy.rows (l.take n) = (NetworkPolicy.rows l).take n := by simp [NetworkPolicy.rows, List.map_take]
theorem NetworkPolicy.Q25 (l : List NetworkPolicy) (n : Nat) : NetworkPolicy.rows (l.drop n) = (NetworkPolicy.rows l).drop n := by simp [NetworkPolicy.rows, List.map_drop]
theorem NetworkPolicy.Qd (l : List NetworkPolicy) : ∀ r ∈ NetworkPolicy.rows l, r.length = 17 := Q2h (f := NetworkPolicy.cells) (fun _ => rfl) l
theorem NetworkPolicy.Q7 (l : List NetworkPolicy) (sz : Nat) (h : sz = 17) : ViewOK sz (NetworkPolicy.rows l).flatten (NetworkPolicy.rows l) := by subst h; exact ⟨rfl, NetworkPolicy.Qd l, Q20 (f := NetworkPolicy.cells) (fun _ => rfl) l⟩
def Qp : ByteArray := ⟨#[69, 110, 100, 112, 111, 105, 110, 116, 83, 101, 116]⟩
def Qc : ByteArray := ⟨#[78, 101, 116, 119, 111, 114, 107, 80, 111, 108, 105, 99, 121]⟩
def Qu : ByteArray := ⟨#[83, 101, 114, 118, 105, 99, 101]⟩
def Qe : ByteArray := ⟨#[97, 100, 100, 114, 101, 115, 115]⟩
def Ql : ByteArray := ⟨#[101, 103, 114, 101, 115, 115]⟩
def Qx : ByteArray := ⟨#[105, 110, 103, 114, 101, 115, 115]⟩
def Q1d : ByteArray := ⟨#[105, 116, 101, 109, 115]⟩
def Q1w : ByteArray := ⟨#[107, 101, 121]⟩
def Q1j : ByteArray := ⟨#[110, 97, 109, 101]⟩
def Qq : ByteArray := ⟨#[110, 97, 109, 101, 115, 112, 97, 99, 101]⟩
def Q1g : ByteArray := ⟨#[110, 111, 100, 101]⟩
def Q3g : ByteArray := ⟨#[111, 112]⟩
def Q17 : ByteArray := ⟨#[112, 101, 101, 114, 115]⟩
def Q1p : ByteArray := ⟨#[112, 111, 100]⟩
def Q1l : ByteArray := ⟨#[112, 111, 114, 116]⟩
def Qk : ByteArray := ⟨#[112, 111, 114, 116, 115]⟩
def Q18 : ByteArray := ⟨#[114, 101, 97, 100, 121]⟩
def Q13 : ByteArray := ⟨#[114, 117, 108, 101, 115]⟩
def Qg : ByteArray := ⟨#[115, 101, 108, 101, 99, 116, 111, 114]⟩
def Q14 : ByteArray := ⟨#[115, 116, 105, 99, 107, 121]⟩
def Q15 : ByteArray := ⟨#[116, 97, 114, 103, 101, 116]⟩
def Qm : ByteArray := ⟨#[116, 101, 114, 109, 105, 110, 97, 116, 105, 110, 103]⟩
def Qy : ByteArray := ⟨#[118, 97, 108, 117, 101, 115]⟩
def Requirement.enc (x : Requirement) : Val := vM [.mk Q1w (vS x.key), .mk Q3g (vN x.op), .mk Qy (vL (x.values.map vS))]
def Requirement.dec (v : Val) : Requirement × Bool := (Requirement.mk (dS v Q1w).1 (dN v Q3g).1 (dE xS v Qy).1, isM v && (dS v Q1w).2 && (dN v Q3g).2 && (dE xS v Qy).2)
def Requirement.sm (x : Requirement) : Prop := LSm (fun _ : ByteArray => True) x.values ∧ True
theorem Requirement.Q3f {x : Requirement} (h : Requirement.sm x) : Val.Sm sB (Requirement.enc x) := Qfu (Nat.le_of_ble_eq_true rfl) (List.forall_mem_cons.2 ⟨Val.Sm.leaf 3 _ _, List.forall_mem_cons.2 ⟨Val.Sm.leaf 2 _ _, List.forall_mem_cons.2 ⟨Q2e (fun _ h => Val.Sm.leaf _ _ _) h.1, fun _ h => by cases h⟩⟩⟩)
theorem Requirement.Q1g7 (x : Requirement) : prt (Requirement.enc x) Q1w = vS x.key := by kernel_rfl
theorem Requirement.p_op (x : Requirement) : prt (Requirement.enc x) Q3g = vN x.op := by kernel_rfl
theorem Requirement.Q15f (x : Requirement) : prt (Requirement.enc x) Qy = vL (x.values.map vS) := by kernel_rfl
theorem Requirement.Q4i (x : Requirement) : Requirement.dec (Requirement.enc x) = (x, true) := by
  have h0 : dS (Requirement.enc x) Q1w = (x.key, true) := by unfold dS; rw [Requirement.Q1g7]; rfl
  have h1 : dN (Requirement.enc x) Q3g = (x.op, true) := by unfold dN; rw [Requirement.p_op]; rfl
  have h2 : dE xS (Requirement.enc x) Qy = (x.values, true) := by unfold dE; rw [Requirement.Q15f]; exact Q7w (fun _ => rfl) _
  unfold Requirement.dec
  rw [h0, h1, h2]
  rfl
def ServicePort.enc (x : ServicePort) : Val := vM [.mk Q1j (vS x.name), .mk Q1l (vN x.port), .mk Q15 (vN x.target)]
def ServicePort.dec (v : Val) : ServicePort × Bool := (ServicePort.mk (dS v Q1j).1 (dN v Q1l).1 (dN v Q15).1, isM v && (dS v Q1j).2 && (dN v Q1l).2 && (dN v Q15).2)
def ServicePort.sm (_ : ServicePort) : Prop := True
theorem ServicePort.Q3f {x : ServicePort} (_ : ServicePort.sm x) : Val.Sm sB (ServicePort.enc x) := Qfu (Nat.le_of_ble_eq_true rfl) (List.forall_mem_cons.2 ⟨Val.Sm.leaf 3 _ _, List.forall_mem_cons.2 ⟨Val.Sm.leaf 2 _ _, List.forall_mem_cons.2 ⟨Val.Sm.leaf 2 _ _, fun _ h => by cases h⟩⟩⟩)
theorem ServicePort.Q1av (x : ServicePort) : prt (ServicePort.enc x) Q1j = vS x.name := by kernel_rfl
theorem ServicePort.Q1ax (x : ServicePort) : prt (ServicePort.enc x) Q1l = vN x.port := by kernel_rfl
theorem ServicePort.Q15e (x : ServicePort) : prt (ServicePort.enc x) Q15 = vN x.target := by kernel_rfl
theorem ServicePort.Q4i (x : ServicePort) : ServicePort.dec (ServicePort.enc x) = (x, true) := by
  have h0 : dS (ServicePort.enc x) Q1j = (x.name, true) := by unfold dS; rw [ServicePort.Q1av]; rfl
  have h1 : dN (ServicePort.enc x) Q1l = (x.port, true) := by unfold dN; rw [ServicePort.Q1ax]; rfl
  have h2 : dN (ServicePort.enc x) Q15 = (x.target, true) := by unfold dN; rw [ServicePort.Q15e]; rfl
  unfold ServicePort.dec
  rw [h0, h1, h2]
  rfl
def Endpoint.enc (x : Endpoint) : Val := vM [.mk Qe (vN x.address), .mk Q1g (vS x.node), .mk Q1p (vS x.pod), .mk Q18 (vB x.ready), .mk Qm (vB x.terminating)]
def Endpoint.dec (v : Val) : Endpoint × Bool := (Endpoint.mk (dS v Q1p).1 (dS v Q1g).1 (dN v Qe).1 (dB v Q18).1 (dB v Qm).1, isM v && (dN v Qe).2 && (dS v Q1g).2 && (dS v Q1p).2 && (dB v Q18).2 && (dB v Qm).2)
def Endpoint.sm (_ : Endpoint) : Prop := True
theorem Endpoint.Q3f {x : Endpoint} (_ : Endpoint.sm x) : Val.Sm sB (Endpoint.enc x) := Qfu (Nat.le_of_ble_eq_true rfl) (List.forall_mem_cons.2 ⟨Val.Sm.leaf 2 _ _, List.forall_mem_cons.2 ⟨Val.Sm.leaf 3 _ _, List.forall_mem_cons.2 ⟨Val.Sm.leaf 3 _ _, List.forall_mem_cons.2 ⟨Val.Sm.leaf 1 _ _, List.forall_mem_cons.2 ⟨Val.Sm.leaf 1 _ _, fun _ h => by cases h⟩⟩⟩⟩⟩)
theorem Endpoint.Q1g8 (x : Endpoint) : prt (Endpoint.enc x) Q1p = vS x.pod := by kernel_rfl
theorem Endpoint.Q1aw (x : Endpoint) : prt (Endpoint.enc x) Q1g = vS x.node := by kernel_rfl
theorem Endpoint.Qfi (x : Endpoint) : prt (Endpoint.enc x) Qe = vN x.address := by kernel_rfl
theorem Endpoint.Q17n (x : Endpoint) : prt (Endpoint.enc x) Q18 = vB x.ready := by kernel_rfl
theorem Endpoint.Qmv (x : Endpoint) : prt (Endpoint.enc x) Qm = vB x.terminating := by kernel_rfl
theorem Endpoint.Q4i (x : Endpoint) : Endpoint.dec (Endpoint.enc x) = (x, true) := by
  have h0 : dS (Endpoint.enc x) Q1p = (x.pod, true) := by unfold dS; rw [Endpoint.Q1g8]; rfl
  have h1 : dS (Endpoint.enc x) Q1g = (x.node, true) := by unfold dS; rw [Endpoint.Q1aw]; rfl
  have h2 : dN (Endpoint.enc x) Qe = (x.address, true) := by unfold dN; rw [Endpoint.Qfi]; rfl
  have h3 : dB (Endpoint.enc x) Q18 = (x.ready, true) := by unfold dB; rw [Endpoint.Q17n]; exact xB_b _
  have h4 : dB (Endpoint.enc x) Qm = (x.terminating, true) := by unfold dB; rw [Endpoint.Qmv]; exact xB_b _
  unfold Endpoint.dec
  rw [h0, h1, h2, h3, h4]
  rfl
def Peer.enc (x : Peer) : Val := vM [.mk Qq (vS x.namespace_), .mk Qg (vL (x.selector.map Requirement.enc))]
def Peer.dec (v : Val) : Peer × Bool := (Peer.mk (dS v Qq).1 (dE Requirement.dec v Qg).1, isM v && (dS v Qq).2 && (dE Requirement.dec v Qg).2)
def Peer.sm (x : Peer) : Prop := LSm Requirement.sm x.selector ∧ True
theorem Peer.Q3f {x : Peer} (h : Peer.sm x) : Val.Sm sB (Peer.enc x) := Qfu (Nat.le_of_ble_eq_true rfl) (List.forall_mem_cons.2 ⟨Val.Sm.leaf 3 _ _, List.forall_mem_cons.2 ⟨Q2e (fun _ h => Requirement.Q3f h) h.1, fun _ h => by cases h⟩⟩)
theorem Peer.Qrf (x : Peer) : prt (Peer.enc x) Qq = vS x.namespace_ := by kernel_rfl
theorem Peer.Q66 (x : Peer) : prt (Peer.enc x) Qg = vL (x.selector.map Requirement.enc) := by kernel_rfl
theorem Peer.Q4i (x : Peer) : Peer.dec (Peer.enc x) = (x, true) := by
  have h0 : dS (Peer.enc x) Qq = (x.namespace_, true) := by unfold dS; rw [Peer.Qrf]; rfl
  have h1 : dE Requirement.dec (Peer.enc x) Qg = (x.selector, true) := by unfold dE; rw [Peer.Q66]; exact Q7w Requirement.Q4i _
  unfold Peer.dec
  rw [h0, h1]
  rfl
def PolicyRule.enc (x : PolicyRule) : Val := vM [.mk Ql (vB x.egress), .mk Q17 (vL (x.peers.map Peer.enc)), .mk Qk (vL (x.ports.map vN))]
def PolicyRule.dec (v : Val) : PolicyRule × Bool := (PolicyRule.mk (dB v Ql).1 (dE Peer.dec v Q17).1 (dE xN v Qk).1, isM v && (dB v Ql).2 && (dE Peer.dec v Q17).2 && (dE xN v Qk).2)
def PolicyRule.sm (x : PolicyRule) : Prop := LSm Peer.sm x.peers ∧ LSm (fun _ : Int => True) x.ports ∧ True
theorem PolicyRule.Q3f {x : PolicyRule} (h : PolicyRule.sm x) : Val.Sm sB (PolicyRule.enc x) := Qfu (Nat.le_of_ble_eq_true rfl) (List.forall_mem_cons.2 ⟨Val.Sm.leaf 1 _ _, List.forall_mem_cons.2 ⟨Q2e (fun _ h => Peer.Q3f h) h.1, List.forall_mem_cons.2 ⟨Q2e (fun _ h => Val.Sm.leaf _ _ _) h.2.1, fun _ h => by cases h⟩⟩⟩)
theorem PolicyRule.Qmu (x : PolicyRule) : prt (PolicyRule.enc x) Ql = vB x.egress := by kernel_rfl
theorem PolicyRule.Q17m (x : PolicyRule) : prt (PolicyRule.enc x) Q17 = vL (x.peers.map Peer.enc) := by kernel_rfl
theorem PolicyRule.Qfj (x : PolicyRule) : prt (PolicyRule.enc x) Qk = vL (x.ports.map vN) := by kernel_rfl
theorem PolicyRule.Q4i (x : PolicyRule) : PolicyRule.dec (PolicyRule.enc x) = (x, true) := by
  have h0 : dB (PolicyRule.enc x) Ql = (x.egress, true) := by unfold dB; rw [PolicyRule.Qmu]; exact xB_b _
  have h1 : dE Peer.dec (PolicyRule.enc x) Q17 = (x.peers, true) := by unfold dE; rw [PolicyRule.Q17m]; exact Q7w Peer.Q4i _
  have h2 : dE xN (PolicyRule.enc x) Qk = (x.ports, true) := by unfold dE; rw [PolicyRule.Qfj]; exact Q7w (fun _ => rfl) _
  unfold PolicyRule.dec
  rw [h0, h1, h2]
  rfl
def Requirement.cnt (v : Val) : Nat := cM v + pK 3 v Q1w + pK 2 v Q3g + pE (cK 3) v Qy
theorem Requirement.cnt0 (v : Val) : (Requirement.cnt v == 0) = (Requirement.dec v).2 := by
  unfold Requirement.cnt Requirement.dec
  simp only [add0, cM0, pS0, pN0, pE0 kS, dN, dS, dE, Bool.and_assoc, Bool.and_left_comm, Bool.and_comm, Bool.and_self_left]
theorem Requirement.Q40 {v : Val} (h : Val.Sm 1000 v) : Requirement.cnt v ≤ 1007 := by
  have g0 := Qeu 5 v
  have g1 := Q7c 3 v Q1w
  have g2 := Q7c 2 v Q3g
  have g3 := Qg7 (c := (cK 3)) (K := 1) (fun x hx => Qeu _ _) h Qy
  unfold Requirement.cnt cM
  omega
def ServicePort.cnt (v : Val) : Nat := pK 3 v Q1j + pK 2 v Q1l + pK 2 v Q15
theorem ServicePort.cnt0 (v : Val) : (ServicePort.cnt v == 0) = (ServicePort.dec v).2 := by
  unfold ServicePort.cnt ServicePort.dec
  simp only [add0, pS0, pN0, dN, dS, Bool.and_assoc, Bool.and_left_comm, Bool.and_comm, Bool.and_self_left]
theorem ServicePort.Q40 {v : Val} (_ : Val.Sm 1000 v) : ServicePort.cnt v ≤ 6 := by
  have g0 := Q7c 3 v Q1j
  have g1 := Q7c 2 v Q1l
  have g2 := Q7c 2 v Q15
  unfold ServicePort.cnt
  omega
def Endpoint.cnt (v : Val) : Nat := pK 3 v Q1p + pK 3 v Q1g + pK 2 v Qe + pK 1 v Q18 + pK 1 v Qm
theorem Endpoint.cnt0 (v : Val) : (Endpoint.cnt v == 0) = (Endpoint.dec v).2 := by
  unfold Endpoint.cnt Endpoint.dec
  simp only [add0, pS0, pN0, pB0, dN, dS, dB, Bool.and_assoc, Bool.and_left_comm, Bool.and_comm, Bool.and_self_left]
theorem Endpoint.Q40 {v : Val} (_ : Val.Sm 1000 v) : Endpoint.cnt v ≤ 10 := by
  have g0 := Q7c 3 v Q1p
  have g1 := Q7c 3 v Q1g
  have g2 := Q7c 2 v Qe
  have g3 := Q7c 1 v Q18
  have g4 := Q7c 1 v Qm
  unfold Endpoint.cnt
  omega
def Peer.cnt (v : Val) : Nat := pK 3 v Qq + pE Requirement.cnt v Qg
theorem Peer.cnt0 (v : Val) : (Peer.cnt v == 0) = (Peer.dec v).2 := by
  unfold Peer.cnt Peer.dec
  simp only [add0, pS0, pE0 Requirement.cnt0, dS, dE, Bool.and_assoc, Bool.and_left_comm, Bool.and_comm, Bool.and_self_left]
theorem Peer.Q40 {v : Val} (h : Val.Sm 1000 v) : Peer.cnt v ≤ 1007004 := by
  have g0 := Q7c 3 v Qq
  have g1 := Qg7 (c := Requirement.cnt) (K := 1007) (fun x hx => Requirement.Q40 hx) h Qg
  unfold Peer.cnt
  omega
def PolicyRule.cnt (v : Val) : Nat := pK 1 v Ql + pE Peer.cnt v Q17 + pE (cK 2) v Qk
theorem PolicyRule.cnt0 (v : Val) : (PolicyRule.cnt v == 0) = (PolicyRule.dec v).2 := by
  unfold PolicyRule.cnt PolicyRule.dec
  simp only [add0, pB0, pE0 Peer.cnt0, pE0 kN, dB, dE, Bool.and_assoc, Bool.and_left_comm, Bool.and_comm, Bool.and_self_left]
theorem PolicyRule.Q40 {v : Val} (h : Val.Sm 1000 v) : PolicyRule.cnt v ≤ 1007005006 := by
  have g0 := Q7c 1 v Ql
  have g1 := Qg7 (c := Peer.cnt) (K := 1007004) (fun x hx => Peer.Q40 hx) h Q17
  have g2 := Qg7 (c := (cK 2)) (K := 1) (fun x hx => Qeu _ _) h Qk
  unfold PolicyRule.cnt
  omega
def Service.encS (x : Service) : Val := vM [.mk Qk (vL (x.ports.map ServicePort.enc)), .mk Qg (vL (x.selector.map Requirement.enc)), .mk Q14 (vB x.sticky)]
def Service.encT (x : Service) : Val := vM [.mk Qe (vN x.address)]
def Service.obj (x : Service) : Object := ⟨{ x.meta_ with kind := Qu }, Service.encS x, Service.encT x⟩
def Service.of (o : Object) : Service := Service.mk o.meta_ (dE Requirement.dec o.spec Qg).1 (dE ServicePort.dec o.spec Qk).1 (dB o.spec Q14).1 (dN o.status Qe).1
def Service.ok (o : Object) : Bool := sEq o.meta_.kind Qu && (isM o.spec && (isM o.status && ((dE ServicePort.dec o.spec Qk).2 && ((dE Requirement.dec o.spec Qg).2 && ((dB o.spec Q14).2 && (dN o.status Qe).2)))))
def Service.cnt (o : Object) : Nat := nb (sEq o.meta_.kind Qu) + cM o.spec + cM o.status + pE Requirement.cnt o.spec Qg + pE ServicePort.cnt o.spec Qk + pK 1 o.spec Q14 + pK 2 o.status Qe
theorem Service.cnt0 (o : Object) : (Service.cnt o == 0) = Service.ok o := by
  unfold Service.cnt Service.ok
  simp only [add0, nb0, cM0, pE0 Requirement.cnt0, pE0 ServicePort.cnt0, pB0, pN0, dN, dB, dE, Bool.and_assoc, Bool.and_left_comm, Bool.and_comm, Bool.and_self_left]
theorem Service.Q40 {o : Object} (h : Val.Sm 1000 o.spec ∧ Val.Sm 1000 o.status) : Service.cnt o ≤ 1013011 := by
  have g0 := Q15b (sEq o.meta_.kind Qu)
  have g1 := Qeu 5 o.spec
  have g2 := Qeu 5 o.status
  have g3 := Qg7 (c := Requirement.cnt) (K := 1007) (fun x hx => Requirement.Q40 hx) h.1 Qg
  have g4 := Qg7 (c := ServicePort.cnt) (K := 6) (fun x hx => ServicePort.Q40 hx) h.1 Qk
  have g5 := Q7c 1 o.spec Q14
  have g6 := Q7c 2 o.status Qe
  unfold Service.cnt cM
  omega
theorem Service.Q66 (x : Service) : prt (Service.encS x) Qg = vL (x.selector.map Requirement.enc) := by kernel_rfl
theorem Service.Qfj (x : Service) : prt (Service.encS x) Qk = vL (x.ports.map ServicePort.enc) := by kernel_rfl
theorem Service.Q15d (x : Service) : prt (Service.encS x) Q14 = vB x.sticky := by kernel_rfl
theorem Service.Qfi (x : Service) : prt (Service.encT x) Qe = vN x.address := by kernel_rfl
theorem Service.back (x : Service) : Service.of (Service.obj x) = Service.mk { x.meta_ with kind := Qu } x.selector x.ports x.sticky x.address ∧ Service.ok (Service.obj x) = true := by
  have h0 : dE Requirement.dec (Service.encS x) Qg = (x.selector, true) := by unfold dE; rw [Service.Q66]; exact Q7w Requirement.Q4i _
  have h1 : dE ServicePort.dec (Service.encS x) Qk = (x.ports, true) := by unfold dE; rw [Service.Qfj]; exact Q7w ServicePort.Q4i _
  have h2 : dB (Service.encS x) Q14 = (x.sticky, true) := by unfold dB; rw [Service.Q15d]; exact xB_b _
  have h3 : dN (Service.encT x) Qe = (x.address, true) := by unfold dN; rw [Service.Qfi]; rfl
  refine ⟨?_, ?_⟩
  · show Service.mk _ (dE Requirement.dec (Service.encS x) Qg).1 (dE ServicePort.dec (Service.encS x) Qk).1 (dB (Service.encS x) Q14).1 (dN (Service.encT x) Qe).1 = _
    rw [h0, h1, h2, h3]
    all_goals rfl
  · unfold Service.ok
    show (sEq Qu Qu && (true && (true && ((dE ServicePort.dec (Service.encS x) Qk).2 && ((dE Requirement.dec (Service.encS x) Qg).2 && ((dB (Service.encS x) Q14).2 && (dN (Service.encT x) Qe).2)))))) = true
    rw [h0, h1, h2, h3, Q2o.2 rfl]
    all_goals rfl
def Service.sm (x : Service) : Prop := LSm Requirement.sm x.selector ∧ LSm ServicePort.sm x.ports ∧ True
theorem Service.Qrc {x : Service} (h : Service.sm x) : Val.Sm sB (Service.encS x) ∧ Val.Sm sB (Service.encT x) := ⟨Qfu (Nat.le_of_ble_eq_true rfl) (List.forall_mem_cons.2 ⟨Q2e (fun _ h => ServicePort.Q3f h) h.2.1, List.forall_mem_cons.2 ⟨Q2e (fun _ h => Requirement.Q3f h) h.1, List.forall_mem_cons.2 ⟨Val.Sm.leaf 1 _ _, fun _ h => by cases h⟩⟩⟩), Qfu (Nat.le_of_ble_eq_true rfl) (List.forall_mem_cons.2 ⟨Val.Sm.leaf 2 _ _, fun _ h => by cases h⟩)⟩
def Service.R (o : Object) : Service × Int := bif Service.ok o then (Service.of o, 0) else ((Service.mk (Meta.mk eB eB eB 0 0 0 0 false 0 [] [] [] []) [] [] false 0), 6)
def Service.at (x : Service) : Service := Service.mk { x.meta_ with kind := Qu } x.selector x.ports x.sticky x.address
abbrev Service.z : Service := (Service.mk (Meta.mk eB eB eB 0 0 0 0 false 0 [] [] [] []) [] [] false 0)
theorem Service.R_at (x : Service) : Service.R (Service.obj x) = (Service.at x, 0) := by
  unfold Service.R
  rw [(Service.back x).2, (Service.back x).1]
  rfl
theorem Service.rc {o : Object} (h : Val.Sm 1000 o.spec ∧ Val.Sm 1000 o.status) : resC (Service.cnt o) (Service.of o) Service.z = Service.R o := by
  rw [Qsj (Nat.le_trans (Service.Q40 h) (Nat.le_of_ble_eq_true rfl)), Service.cnt0]
  rfl
def EndpointSet.encS (x : EndpointSet) : Val := vM [.mk Q1d (vL (x.items.map Endpoint.enc)), .mk Qk (vL (x.ports.map ServicePort.enc))]
def EndpointSet.encT (_ : EndpointSet) : Val := vM []
def EndpointSet.obj (x : EndpointSet) : Object := ⟨{ x.meta_ with kind := Qp }, EndpointSet.encS x, EndpointSet.encT x⟩
def EndpointSet.of (o : Object) : EndpointSet := EndpointSet.mk o.meta_ (dE ServicePort.dec o.spec Qk).1 (dE Endpoint.dec o.spec Q1d).1
def EndpointSet.ok (o : Object) : Bool := sEq o.meta_.kind Qp && (isM o.spec && (isM o.status && ((dE Endpoint.dec o.spec Q1d).2 && (dE ServicePort.dec o.spec Qk).2)))
def EndpointSet.cnt (o : Object) : Nat := nb (sEq o.meta_.kind Qp) + cM o.spec + cM o.status + pE ServicePort.cnt o.spec Qk + pE Endpoint.cnt o.spec Q1d
theorem EndpointSet.cnt0 (o : Object) : (EndpointSet.cnt o == 0) = EndpointSet.ok o := by
  unfold EndpointSet.cnt EndpointSet.ok
  simp only [add0, nb0, cM0, pE0 ServicePort.cnt0, pE0 Endpoint.cnt0, dE, Bool.and_assoc, Bool.and_left_comm, Bool.and_comm, Bool.and_self_left]
theorem EndpointSet.Q40 {o : Object} (h : Val.Sm 1000 o.spec ∧ Val.Sm 1000 o.status) : EndpointSet.cnt o ≤ 16007 := by
  have g0 := Q15b (sEq o.meta_.kind Qp)
  have g1 := Qeu 5 o.spec
  have g2 := Qeu 5 o.status
  have g3 := Qg7 (c := ServicePort.cnt) (K := 6) (fun x hx => ServicePort.Q40 hx) h.1 Qk
  have g4 := Qg7 (c := Endpoint.cnt) (K := 10) (fun x hx => Endpoint.Q40 hx) h.1 Q1d
  unfold EndpointSet.cnt cM
  omega
theorem EndpointSet.Qfj (x : EndpointSet) : prt (EndpointSet.encS x) Qk = vL (x.ports.map ServicePort.enc) := by kernel_rfl
theorem EndpointSet.Q17l (x : EndpointSet) : prt (EndpointSet.encS x) Q1d = vL (x.items.map Endpoint.enc) := by kernel_rfl
theorem EndpointSet.back (x : EndpointSet) : EndpointSet.of (EndpointSet.obj x) = EndpointSet.mk { x.meta_ with kind := Qp } x.ports x.items ∧ EndpointSet.ok (EndpointSet.obj x) = true := by
  have h0 : dE ServicePort.dec (EndpointSet.encS x) Qk = (x.ports, true) := by unfold dE; rw [EndpointSet.Qfj]; exact Q7w ServicePort.Q4i _
  have h1 : dE Endpoint.dec (EndpointSet.encS x) Q1d = (x.items, true) := by unfold dE; rw [EndpointSet.Q17l]; exact Q7w Endpoint.Q4i _
  refine ⟨?_, ?_⟩
  · show EndpointSet.mk _ (dE ServicePort.dec (EndpointSet.encS x) Qk).1 (dE Endpoint.dec (EndpointSet.encS x) Q1d).1 = _
    rw [h0, h1]
    all_goals rfl
  · unfold EndpointSet.ok
    show (sEq Qp Qp && (true && (true && ((dE Endpoint.dec (EndpointSet.encS x) Q1d).2 && (dE ServicePort.dec (EndpointSet.encS x) Qk).2)))) = true
    rw [h0, h1, Q2o.2 rfl]
    all_goals rfl
def EndpointSet.sm (x : EndpointSet) : Prop := LSm ServicePort.sm x.ports ∧ LSm Endpoint.sm x.items ∧ True
theorem EndpointSet.Qrc {x : EndpointSet} (h : EndpointSet.sm x) : Val.Sm sB (EndpointSet.encS x) ∧ Val.Sm sB (EndpointSet.encT x) := ⟨Qfu (Nat.le_of_ble_eq_true rfl) (List.forall_mem_cons.2 ⟨Q2e (fun _ h => Endpoint.Q3f h) h.2.1, List.forall_mem_cons.2 ⟨Q2e (fun _ h => ServicePort.Q3f h) h.1, fun _ h => by cases h⟩⟩), Qfu (Nat.le_of_ble_eq_true rfl) (fun _ h => by cases h)⟩
def EndpointSet.R (o : Object) : EndpointSet × Int := bif EndpointSet.ok o then (EndpointSet.of o, 0) else ((EndpointSet.mk (Meta.mk eB eB eB 0 0 0 0 false 0 [] [] [] []) [] []), 6)
def EndpointSet.at (x : EndpointSet) : EndpointSet := EndpointSet.mk { x.meta_ with kind := Qp } x.ports x.items
abbrev EndpointSet.z : EndpointSet := (EndpointSet.mk (Meta.mk eB eB eB 0 0 0 0 false 0 [] [] [] []) [] [])
theorem EndpointSet.R_at (x : EndpointSet) : EndpointSet.R (EndpointSet.obj x) = (EndpointSet.at x, 0) := by
  unfold EndpointSet.R
  rw [(EndpointSet.back x).2, (EndpointSet.back x).1]
  rfl
theorem EndpointSet.rc {o : Object} (h : Val.Sm 1000 o.spec ∧ Val.Sm 1000 o.status) : resC (EndpointSet.cnt o) (EndpointSet.of o) EndpointSet.z = EndpointSet.R o := by
  rw [Qsj (Nat.le_trans (EndpointSet.Q40 h) (Nat.le_of_ble_eq_true rfl)), EndpointSet.cnt0]
  rfl
def NetworkPolicy.encS (x : NetworkPolicy) : Val := vM [.mk Ql (vB x.egress), .mk Qx (vB x.ingress), .mk Q13 (vL (x.rules.map PolicyRule.enc)), .mk Qg (vL (x.selector.map Requirement.enc))]
def NetworkPolicy.encT (_ : NetworkPolicy) : Val := vM []
def NetworkPolicy.obj (x : NetworkPolicy) : Object := ⟨{ x.meta_ with kind := Qc }, NetworkPolicy.encS x, NetworkPolicy.encT x⟩
def NetworkPolicy.of (o : Object) : NetworkPolicy := NetworkPolicy.mk o.meta_ (dE Requirement.dec o.spec Qg).1 (dB o.spec Qx).1 (dB o.spec Ql).1 (dE PolicyRule.dec o.spec Q13).1
def NetworkPolicy.ok (o : Object) : Bool := sEq o.meta_.kind Qc && (isM o.spec && (isM o.status && ((dB o.spec Ql).2 && ((dB o.spec Qx).2 && ((dE PolicyRule.dec o.spec Q13).2 && (dE Requirement.dec o.spec Qg).2)))))
def NetworkPolicy.cnt (o : Object) : Nat := nb (sEq o.meta_.kind Qc) + cM o.spec + cM o.status + pE Requirement.cnt o.spec Qg + pK 1 o.spec Qx + pK 1 o.spec Ql + pE PolicyRule.cnt o.spec Q13
theorem NetworkPolicy.cnt0 (o : Object) : (NetworkPolicy.cnt o == 0) = NetworkPolicy.ok o := by
  unfold NetworkPolicy.cnt NetworkPolicy.ok
  simp only [add0, nb0, cM0, pE0 Requirement.cnt0, pB0, pE0 PolicyRule.cnt0, dB, dE, Bool.and_assoc, Bool.and_left_comm, Bool.and_comm, Bool.and_self_left]
theorem NetworkPolicy.Q40 {o : Object} (h : Val.Sm 1000 o.spec ∧ Val.Sm 1000 o.status) : NetworkPolicy.cnt o ≤ 1007006013011 := by
  have g0 := Q15b (sEq o.meta_.kind Qc)
  have g1 := Qeu 5 o.spec
  have g2 := Qeu 5 o.status
  have g3 := Qg7 (c := Requirement.cnt) (K := 1007) (fun x hx => Requirement.Q40 hx) h.1 Qg
  have g4 := Q7c 1 o.spec Qx
  have g5 := Q7c 1 o.spec Ql
  have g6 := Qg7 (c := PolicyRule.cnt) (K := 1007005006) (fun x hx => PolicyRule.Q40 hx) h.1 Q13
  unfold NetworkPolicy.cnt cM
  omega
theorem NetworkPolicy.Q66 (x : NetworkPolicy) : prt (NetworkPolicy.encS x) Qg = vL (x.selector.map Requirement.enc) := by kernel_rfl
theorem NetworkPolicy.Q12e (x : NetworkPolicy) : prt (NetworkPolicy.encS x) Qx = vB x.ingress := by kernel_rfl
theorem NetworkPolicy.Qmu (x : NetworkPolicy) : prt (NetworkPolicy.encS x) Ql = vB x.egress := by kernel_rfl
theorem NetworkPolicy.Q17o (x : NetworkPolicy) : prt (NetworkPolicy.encS x) Q13 = vL (x.rules.map PolicyRule.enc) := by kernel_rfl
theorem NetworkPolicy.back (x : NetworkPolicy) : NetworkPolicy.of (NetworkPolicy.obj x) = NetworkPolicy.mk { x.meta_ with kind := Qc } x.selector x.ingress x.egress x.rules ∧ NetworkPolicy.ok (NetworkPolicy.obj x) = true := by
  have h0 : dE Requirement.dec (NetworkPolicy.encS x) Qg = (x.selector, true) := by unfold dE; rw [NetworkPolicy.Q66]; exact Q7w Requirement.Q4i _
  have h1 : dB (NetworkPolicy.encS x) Qx = (x.ingress, true) := by unfold dB; rw [NetworkPolicy.Q12e]; exact xB_b _
  have h2 : dB (NetworkPolicy.encS x) Ql = (x.egress, true) := by unfold dB; rw [NetworkPolicy.Qmu]; exact xB_b _
  have h3 : dE PolicyRule.dec (NetworkPolicy.encS x) Q13 = (x.rules, true) := by unfold dE; rw [NetworkPolicy.Q17o]; exact Q7w PolicyRule.Q4i _
  refine ⟨?_, ?_⟩
  · show NetworkPolicy.mk _ (dE Requirement.dec (NetworkPolicy.encS x) Qg).1 (dB (NetworkPolicy.encS x) Qx).1 (dB (NetworkPolicy.encS x) Ql).1 (dE PolicyRule.dec (NetworkPolicy.encS x) Q13).1 = _
    rw [h0, h1, h2, h3]
    all_goals rfl
  · unfold NetworkPolicy.ok
    show (sEq Qc Qc && (true && (true && ((dB (NetworkPolicy.encS x) Ql).2 && ((dB (NetworkPolicy.encS x) Qx).2 && ((dE PolicyRule.dec (NetworkPolicy.encS x) Q13).2 && (dE Requirement.dec (NetworkPolicy.encS x) Qg).2)))))) = true
    rw [h0, h1, h2, h3, Q2o.2 rfl]
    all_goals rfl
def NetworkPolicy.sm (x : NetworkPolicy) : Prop := LSm Requirement.sm x.selector ∧ LSm PolicyRule.sm x.rules ∧ True
theorem NetworkPolicy.Qrc {x : NetworkPolicy} (h : NetworkPolicy.sm x) : Val.Sm sB (NetworkPolicy.encS x) ∧ Val.Sm sB (NetworkPolicy.encT x) := ⟨Qfu (Nat.le_of_ble_eq_true rfl) (List.forall_mem_cons.2 ⟨Val.Sm.leaf 1 _ _, List.forall_mem_cons.2 ⟨Val.Sm.leaf 1 _ _, List.forall_mem_cons.2 ⟨Q2e (fun _ h => PolicyRule.Q3f h) h.2.1, List.forall_mem_cons.2 ⟨Q2e (fun _ h => Requirement.Q3f h) h.1, fun _ h => by cases h⟩⟩⟩⟩), Qfu (Nat.le_of_ble_eq_true rfl) (fun _ h => by cases h)⟩
def NetworkPolicy.R (o : Object) : NetworkPolicy × Int := bif NetworkPolicy.ok o then (NetworkPolicy.of o, 0) else ((NetworkPolicy.mk (Meta.mk eB eB eB 0 0 0 0 false 0 [] [] [] []) [] false false []), 6)
def NetworkPolicy.at (x : NetworkPolicy) : NetworkPolicy := NetworkPolicy.mk { x.meta_ with kind := Qc } x.selector x.ingress x.egress x.rules
abbrev NetworkPolicy.z : NetworkPolicy := (NetworkPolicy.mk (Meta.mk eB eB eB 0 0 0 0 false 0 [] [] [] []) [] false false [])
theorem NetworkPolicy.R_at (x : NetworkPolicy) : NetworkPolicy.R (NetworkPolicy.obj x) = (NetworkPolicy.at x, 0) := by
  unfold NetworkPolicy.R
  rw [(NetworkPolicy.back x).2, (NetworkPolicy.back x).1]
  rfl
theorem NetworkPolicy.rc {o : Object} (h : Val.Sm 1000 o.spec ∧ Val.Sm 1000 o.status) : resC (NetworkPolicy.cnt o) (NetworkPolicy.of o) NetworkPolicy.z = NetworkPolicy.R o := by
  rw [Qsj (Nat.le_trans (NetworkPolicy.Q40 h) (Nat.le_of_ble_eq_true rfl)), NetworkPolicy.cnt0]
  rfl
def Object.sm (x : Object) : Prop := Val.Sm sB x.spec ∧ Val.Sm sB x.status
theorem Qsi {α : Type} {n m : Nat} {x y z : α} (h : n = m) (g : x = y) : resC n x z = resC m y z := by rw [h, g]
theorem Q8l {p q : List Fld} (hp : p.length ≤ 20) (h : mapOf p = q) : Q3h p = vM q := by rw [vmap hp, h]
theorem getL (x : Val) : (bif x.kind == 4 then x else vZ).list = (xL x).1 := by
  unfold xL
  cases (x.kind == 4) <;> rfl
theorem getN (x : Val) : (bif x.kind == 2 then x else vZ).n = (xN x).1 := by
  unfold xN
  cases (x.kind == 2) <;> rfl
theorem getS (x : Val) : (bif x.kind == 3 then x else vZ).s = (xS x).1 := by
  unfold xS
  cases (x.kind == 3) <;> rfl
theorem getB (x : Val) : (!((bif x.kind == 1 then x else vZ).n == 0)) = (xB x).1 := by
  unfold xB
  cases (x.kind == 1) <;> rfl
end Go.Proofs.YtbagpdebihicnaaGreat
end

section
/- Metadata that are copied (printed by a program). -/
namespace Go.Proofs.YtbagpdebihicnaaGreat
open Go.Pv
def Qv8 (p0 : Meta) : List Manager → Nat → Unit
 | [], _i0 =>
  ()
 | _x0 :: r0, i0 =>
  Qv8 p0 r0 (i0 + 1)
def Qn5 (p0 : Meta) (i0 : Nat) : List PV :=
  [.un, .bx 0 0, .bx 1 0] ++ nuns 19 ++ [.ms 2 2 0 (List.length p0.managers), .int .i64 ((List.length p0.managers) : Int), .int .i64 (i0 : Int)] ++ nuns 14
def Qcm (p0 : Meta) (_i0 : Nat) : List Ob :=
  [⟨13, 0, true, [.str p0.kind, .str p0.namespace_, .str p0.name, .int .i64 p0.uid, .int .i64 p0.version, .int .i64 p0.generation, .int .i64 p0.created, .bool p0.deleting, .int .i64 p0.deleteAt, .sl (Label.rows p0.labels), .sl (Owner.rows p0.owners), .sl (Qj p0.finalizers), .ms 2 2 0 (List.length p0.managers)]⟩, ⟨13, 0, true, [.str eB, .str eB, .str eB, .int .i64 0, .int .i64 0, .int .i64 0, .int .i64 0, .bool false, .int .i64 0, .ms 3 2 0 0, .ms 4 5 0 0, .ms 5 1 0 0, .ms 6 2 0 0]⟩, ⟨2, 0, true, (Manager.rows p0.managers).flatten⟩, ⟨2, 0, true, []⟩, ⟨5, 0, true, []⟩, ⟨1, 0, true, []⟩, ⟨2, 0, true, []⟩]
def Qb3 (p0 : Meta) (i0 : Nat) : En := .loop 0 Ir.Qdg Ir.Q15w (Qn5 p0 i0) (Qcm p0 i0)
def Qh7 (p0 : Meta) (z : Nat → PV) (_zo : Nat → List PV) : St :=
  ⟨[z 0, .bx 0 0, .bx 1 0] ++ zr z 3 36, [(0, ⟨13, 0, true, [.str p0.kind, .str p0.namespace_, .str p0.name, .int .i64 p0.uid, .int .i64 p0.version, .int .i64 p0.generation, .int .i64 p0.created, .bool p0.deleting, .int .i64 p0.deleteAt, .sl (Label.rows p0.labels), .sl (Owner.rows p0.owners), .sl (Qj p0.finalizers), .ms 2 2 0 (List.length p0.managers)]⟩), (1, ⟨13, 0, true, [.str eB, .str eB, .str eB, .int .i64 0, .int .i64 0, .int .i64 0, .int .i64 0, .bool false, .int .i64 0, .ms 3 2 0 0, .ms 4 5 0 0, .ms 5 1 0 0, .ms 6 2 0 0]⟩), (2, ⟨2, 0, true, (Manager.rows p0.managers).flatten⟩), (3, ⟨2, 0, true, []⟩), (4, ⟨5, 0, true, []⟩), (5, ⟨1, 0, true, []⟩), (6, ⟨2, 0, true, []⟩)], 71⟩
theorem Qty (p0 : Meta) (i0 : Nat) : VOK (Go.Pv.look (number 0 (Qcm p0 i0))) [(2, Manager.rows p0.managers)] := (VOK.cons (show Seen _ _ from Q2f (ob := ⟨2, 0, true, (Manager.rows p0.managers).flatten⟩) (Manager.Q7 p0.managers 2 rfl)) VOK.nil)
def Q7l (p0 : Meta) (e : En) (_q : Unit) : Prop := ∃ z zo, Q6 G e (.st (.exit 0) (Qh7 p0 z zo))
theorem Qle (p0 : Meta) {e e' : En} (h : ∀ r, Q6 G e r → Q6 G e' r) : ∀ q, Q7l p0 e q → Q7l p0 e' q
  | _, ⟨z, zo, hz⟩ => ⟨z, zo, h _ hz⟩
def Qbl (p0 : Meta) : Prop := (List.length p0.managers ≤ 4611686018427387904) ∧ (∀ x0 ∈ p0.managers, List.length x0.fields * 16 ≤ 140737488355328) ∧ True
def Qio (p0 : Meta) (i0 : Nat) : List PV :=
  nuns 22 ++ [.ms 2 2 0 (List.length p0.managers), .int .i64 ((List.length p0.managers) : Int), .int .i64 (i0 : Int), .bool false]
def Qee (_p0 : Meta) (_i0 : Nat) : List (Nat × List PV) :=
  []
theorem Qyi (p0 : Meta) (_H : Qbl p0) (i0 : Nat) (hc0 : (decide ((i0 : Int) < ((List.length p0.managers) : Int))) = false) : Q7l p0 (Qb3 p0 i0) () := by
 exact ⟨(envF (Qio p0 i0)), (zoF (Qee p0 i0)), Qh (Qty p0 i0) (x := ((.exit 0), Qh7 p0 (envF (Qio p0 i0)) (zoF (Qee p0 i0)))) [hB 0 hc0] [] (by kernel_rfl)⟩
theorem Qxj (p0 : Meta) (H : Qbl p0) (x0 : Manager) (i0 : Nat) (hx0 : p0.managers[i0]? = some x0) (hi0 : i0 < List.length p0.managers) (hc0 : (decide ((i0 : Int) < ((List.length p0.managers) : Int))) = true) {r : Rs} (hr : Q6 G (Qb3 p0 (i0 + 1)) r) : Q6 G (Qb3 p0 i0) r := by
 have hB0 := H.1
 exact Qb (Qty p0 i0) (y := (Qn5 p0 (i0 + 1), Qcm p0 (i0 + 1))) [hB 0 hc0, hP 1 (Q2x 2 2 (List.length p0.managers) (i0 : Int) i0 (by omega) (by omega) (by omega)), hP 0 (Q7r 2 2 0 true ((Manager.rows p0.managers).flatten) (Manager.rows p0.managers) 2 true i0 0 (i0 * 2) (Manager.cells x0) (.agg [.str x0.name, .sl (Qj x0.fields)]) rfl rfl (Manager.Q9 hx0) (Manager.Qd p0.managers) (by decide) rfl), hP 9 (Q2x 2 2 (List.length p0.managers) (i0 : Int) i0 (by omega) (by omega) (by omega)), hV 1 [(2, Manager.rows p0.managers)] (Q12o 2 2 true ((Manager.rows p0.managers).flatten) (Manager.rows p0.managers) (Manager.rows p0.managers) 1 i0 1 (i0 * 2 + 1) _ (.sl (Qj x0.fields)) rfl rfl (Manager.Q9 hx0) (Manager.Qd p0.managers) (by decide) rfl rfl (Qso (Manager.Q9 hx0))), hS 0 true (Manager.Q7 p0.managers 2 rfl), hP 0 (Q1b i0 (by omega))] [aN (Q5q (G := G) (f := 91) (sz := 1) (bytes := 16) rfl (Q1k x0.fields) (Q5b x0.fields 1 rfl) (H.2.1 x0 (Q1q hx0)))] (by kernel_rfl) hr
theorem Qqt (p0 : Meta) (H : Qbl p0) : ∀ (r0 : List Manager) (i0 : Nat), List.drop i0 p0.managers = r0 → Q7l p0 (Qb3 p0 i0) (Qv8 p0 r0 i0)
 | [], i0, hd => by
  have hc0 : (decide ((i0 : Int) < ((List.length p0.managers) : Int))) = false := by have := Q10 hd; simp; omega
  show Q7l p0 _ ()
  exact Qyi p0 H i0 hc0
 | x0 :: r0, i0, hd => by
  obtain ⟨hx0, hi0, hd'⟩ := Qz hd
  have hc0 : (decide ((i0 : Int) < ((List.length p0.managers) : Int))) = true := by simp; omega
  show Q7l p0 _ ()
  exact Qle p0 (fun r hr => Qxj p0 H x0 i0 hx0 hi0 hc0 hr) _ (Qqt p0 H r0 (i0 + 1) hd')
def Q1b5 (p0 : Meta) : Meta := p0
theorem Q1fc (p0 : Meta) : Q1b5 p0 = (p0) := by
  rfl
def Q1e0 (p0 : Meta) : En := .call 46 [.agg (Meta.cells p0)] []
def Q19g (p0 : Meta) : Rs := .ret (.agg (Meta.cells (Q1b5 p0))) []
def Qat (p0 : Meta) : Prop := (List.length p0.labels * 32 ≤ 140737488355328) ∧ (List.length p0.owners * 48 ≤ 140737488355328) ∧ (List.length p0.finalizers * 16 ≤ 140737488355328) ∧ (List.length p0.managers * 40 ≤ 140737488355328) ∧ (Qbl p0) ∧ True
theorem Q15n (p0 : Meta) (H : Qat p0) : Q6 G (Q1e0 p0) (Q19g p0) := by
 unfold Q19g
 rw [Q1fc]
 have hl0 := Qqt p0 (H.2.2.2.2.1) p0.managers 0 (by simp)
 obtain ⟨z0, zo0, hl0⟩ := hl0
 exact Q8 (fn := Ir.K1m) rfl VOK.nil [hQ (Manager.Q7 p0.managers 2 rfl), hS 0 true (Manager.Q7 p0.managers 2 rfl), hQ (Manager.Q5 p0.managers).symm] [aN (Q5q (G := G) (f := 89) (sz := 2) (bytes := 32) rfl (Label.Q5 p0.labels) (Label.Q7 p0.labels 2 rfl) H.1), aN (Q5q (G := G) (f := 90) (sz := 5) (bytes := 48) rfl (Owner.Q5 p0.owners) (Owner.Q7 p0.owners 5 rfl) H.2.1), aN (Q5q (G := G) (f := 91) (sz := 1) (bytes := 16) rfl (Q1k p0.finalizers) (Q5b p0.finalizers 1 rfl) H.2.2.1), aV [(0, Manager.rows p0.managers)] (Q6o (G := G) (f := 92) (sz := 2) (bytes := 40) rfl (Manager.Q5 p0.managers) (Manager.Q7 p0.managers 2 rfl) H.2.2.2.1), aV [(2, Manager.rows p0.managers)] hl0] (by kernel_rfl)
end Go.Proofs.YtbagpdebihicnaaGreat
end

section
/- What the program's encoders compute (printed by a program). -/
namespace Go.Proofs.YtbagpdebihicnaaGreat
open Go.Pv
def Qy5 (p0 : BA) (p1 : Meta) (p2 : Val) (p3 : Val) : Object :=
 (Object.mk (Meta.mk p0 p1.namespace_ p1.name p1.uid p1.version p1.generation p1.created p1.deleting p1.deleteAt p1.labels p1.owners p1.finalizers p1.managers) p2 p3)
def Q1ep (p0 : BA) (p1 : Meta) (p2 : Val) (p3 : Val) : En := .call 28 [.str p0, .agg (Meta.cells p1), .agg (Val.cells p2), .agg (Val.cells p3)] []
def Q1a5 (p0 : BA) (p1 : Meta) (p2 : Val) (p3 : Val) : Rs := .ret (.agg (Object.cells (Qy5 p0 p1 p2 p3))) []
def Q14a (_p0 : BA) (p1 : Meta) (_p2 : Val) (_p3 : Val) : Prop := (Qat p1) ∧ True
theorem Q17x (p0 : BA) (p1 : Meta) (p2 : Val) (p3 : Val) (H : Q14a p0 p1 p2 p3) : Q6 G (Q1ep p0 p1 p2 p3) (Q1a5 p0 p1 p2 p3) := by
 unfold Q1a5 Qy5
 exact Q8 (fn := Ir.K2k) rfl VOK.nil [] [aN (Q15n p1 H.1)] (by kernel_rfl)
theorem Q128 {k : ByteArray} {m : Meta} {a b p q : List Fld} (ha : a.length ≤ 20) (hb : b.length ≤ 20) (h1 : mapOf a = p) (h2 : mapOf b = q) : Qy5 k m (Q3h a) (Q3h b) = ⟨{ m with kind := k }, vM p, vM q⟩ := by
  rw [Q8l ha h1, Q8l hb h2]
  rfl
def Q7e (p0 : BA) : Val :=
 (Val.mk 3 0 p0 [] [])
def Q1dn (p0 : BA) : En := .call 87 [.str p0] []
def Q193 (p0 : BA) : Rs := .ret (.agg (Val.cells (Q7e p0))) []
theorem Q1b9 (p0 : BA) : Q6 G (Q1dn p0) (Q193 p0) := by
 unfold Q193 Q7e
 exact Q8 (fn := Ir.K16) rfl VOK.nil [] [] (by kernel_rfl)
def Q2b (p0 : BA) (p1 : Val) : Fld := .mk p0 p1
theorem Q1g2 (p0 : BA) (p1 : Val) : Q2b p0 p1 = ((Fld.mk p0 p1)) := by
  rfl
def Q1er (p0 : BA) (p1 : Val) : En := .call 31 [.str p0, .agg (Val.cells p1)] []
def Q1a7 (p0 : BA) (p1 : Val) : Rs := .ret (.agg (Fld.cells (Q2b p0 p1))) []
theorem Qfx (p0 : BA) (p1 : Val) : Q6 G (Q1er p0 p1) (Q1a7 p0 p1) := by
 unfold Q1a7
 rw [Q1g2]
 exact Q8 (fn := Ir.K2m) rfl VOK.nil [] [] (by kernel_rfl)
def Q5f (p0 : BA) (p1 : BA) : Fld := .mk p0 (vS p1)
theorem Q1g4 (p0 : BA) (p1 : BA) : Q5f p0 p1 = ((Q2b p0 (Q7e p1))) := by
  rfl
def Q1ew (p0 : BA) (p1 : BA) : En := .call 37 [.str p0, .str p1] []
def Q1ac (p0 : BA) (p1 : BA) : Rs := .ret (.agg (Fld.cells (Q5f p0 p1))) []
theorem Q12z (p0 : BA) (p1 : BA) : Q6 G (Q1ew p0 p1) (Q1ac p0 p1) := by
 unfold Q1ac
 rw [Q1g4]
 exact Q8 (fn := Ir.K2s) rfl VOK.nil [] [aN (Q1b9 p1), aN (Qfx p0 (Q7e p1))] (by kernel_rfl)
def Q7d (p0 : Int) : Val :=
 (Val.mk 2 p0 eB [] [])
def Q1dl (p0 : Int) : En := .call 43 [.int .i64 p0] []
def Q190 (p0 : Int) : Rs := .ret (.agg (Val.cells (Q7d p0))) []
theorem Q1b7 (p0 : Int) : Q6 G (Q1dl p0) (Q190 p0) := by
 unfold Q190 Q7d
 exact Q8 (fn := Ir.K13) rfl VOK.nil [] [] (by kernel_rfl)
def Q4n (p0 : BA) (p1 : Int) : Fld := .mk p0 (vN p1)
theorem Q1g0 (p0 : BA) (p1 : Int) : Q4n p0 p1 = ((Q2b p0 (Q7d p1))) := by
  rfl
def Q1eo (p0 : BA) (p1 : Int) : En := .call 34 [.str p0, .int .i64 p1] []
def Q1a4 (p0 : BA) (p1 : Int) : Rs := .ret (.agg (Fld.cells (Q4n p0 p1))) []
theorem Q12y (p0 : BA) (p1 : Int) : Q6 G (Q1eo p0 p1) (Q1a4 p0 p1) := by
 unfold Q1a4
 rw [Q1g0]
 exact Q8 (fn := Ir.K2j) rfl VOK.nil [] [aN (Q1b7 p1), aN (Qfx p0 (Q7d p1))] (by kernel_rfl)
def Q3n (p0 : List ByteArray) : List ByteArray → Nat → (List Val) → List Val
 | [], _i0, v0_1 =>
  v0_1
 | x0 :: r0, i0, v0_1 =>
  Q3n p0 r0 (i0 + 1) (v0_1 ++ [(Q7e x0)])
theorem Qw2 (p0 : List ByteArray) : ∀ (l : List ByteArray) (i : Nat) (a : List Val), Q3n p0 l i a = a ++ l.map (fun x0 => (Q7e x0))
  | [], _, _ => by simp [Q3n]
  | x :: r, i, a => by rw [Q3n, Qw2 p0 r]; simp
def Qnf (p0 : List ByteArray) (i0 : Nat) (v0_1 : List Val) : List PV :=
  [.un, .fn 87 [] [], .un, .un, .bx 0 0, .ms 1 5 0 (List.length v0_1), .un, .un, .sl (Qj p0), .int .i64 ((List.length p0) : Int), .int .i64 (i0 : Int)] ++ nuns 12
def Qcw (_p0 : List ByteArray) (_i0 : Nat) (v0_1 : List Val) : List Ob :=
  [⟨5, 0, true, [.int .i64 0, .int .i64 0, .str eB, .ms 2 5 0 0, .ms 3 6 0 0]⟩, ⟨5, 0, true, (Val.rows v0_1).flatten⟩, ⟨5, 0, true, []⟩, ⟨6, 0, true, []⟩]
def Qbd (p0 : List ByteArray) (i0 : Nat) (v0_1 : List Val) : En := .loop 0 Ir.Qdq Ir.Q166 (Qnf p0 i0 v0_1) (Qcw p0 i0 v0_1)
def Qhh (_p0 : List ByteArray) (q0 : List Val) (z : Nat → PV) (_zo : Nat → List PV) : St :=
  ⟨[z 0, z 1, z 2, z 3, .bx 0 0, .ms 1 5 0 (List.length q0)] ++ zr z 6 17, [(0, ⟨5, 0, true, [.int .i64 0, .int .i64 0, .str eB, .ms 2 5 0 0, .ms 3 6 0 0]⟩), (1, ⟨5, 0, true, (Val.rows q0).flatten⟩), (2, ⟨5, 0, true, []⟩), (3, ⟨6, 0, true, []⟩)], 68⟩
theorem Qu8 (p0 : List ByteArray) (i0 : Nat) (v0_1 : List Val) : VOK (Go.Pv.look (number 0 (Qcw p0 i0 v0_1))) [(1, Val.rows v0_1)] := (VOK.cons (show Seen _ _ from Q2f (ob := ⟨5, 0, true, (Val.rows v0_1).flatten⟩) (Val.Q7 v0_1 5 rfl)) VOK.nil)
def Qc4 (p0 : List ByteArray) (e : En) (q : List Val) : Prop := ∃ z zo, Q6 G e (.st (.exit 0) (Qhh p0 q z zo))
theorem Qlo (p0 : List ByteArray) {e e' : En} (h : ∀ r, Q6 G e r → Q6 G e' r) : ∀ q, Qc4 p0 e q → Qc4 p0 e' q
  | _, ⟨z, zo, hz⟩ => ⟨z, zo, h _ hz⟩
def Qbo (p0 : List ByteArray) : Prop := (List.length p0 ≤ 137438953472) ∧ True
def Qiy (p0 : List ByteArray) (i0 : Nat) (_v0_1 : List Val) : List PV :=
  [.un, .fn 87 [] []] ++ nuns 6 ++ [.sl (Qj p0), .int .i64 ((List.length p0) : Int), .int .i64 (i0 : Int), .bool false]
def Qeo (_p0 : List ByteArray) (_i0 : Nat) (_v0_1 : List Val) : List (Nat × List PV) :=
  []
theorem Qys (p0 : List ByteArray) (_H : Qbo p0) (i0 : Nat) (v0_1 : List Val) (_ho0_0 : List.length v0_1 ≤ i0) (hc0 : (decide ((i0 : Int) < ((List.length p0) : Int))) = false) : Qc4 p0 (Qbd p0 i0 v0_1) v0_1 := by
 exact ⟨(envF (Qiy p0 i0 v0_1)), (zoF (Qeo p0 i0 v0_1)), Qh (Qu8 p0 i0 v0_1) (x := ((.exit 0), Qhh p0 v0_1 (envF (Qiy p0 i0 v0_1)) (zoF (Qeo p0 i0 v0_1)))) [hB 0 hc0] [] (by kernel_rfl)⟩
theorem Qxt (p0 : List ByteArray) (H : Qbo p0) (x0 : BA) (i0 : Nat) (v0_1 : List Val) (hx0 : p0[i0]? = some x0) (hi0 : i0 < List.length p0) (ho0_0 : List.length v0_1 ≤ i0) (hc0 : (decide ((i0 : Int) < ((List.length p0) : Int))) = true) {r : Rs} (hr : Q6 G (Qbd p0 (i0 + 1) (v0_1 ++ [(Q7e x0)])) r) : Q6 G (Qbd p0 i0 v0_1) r := by
 have hB0 := H.1
 exact Qb (Qu8 p0 i0 v0_1) (y := (Qnf p0 (i0 + 1) (v0_1 ++ [(Q7e x0)]), Qcw p0 (i0 + 1) (v0_1 ++ [(Q7e x0)]))) [hB 0 hc0, hP 0 (Q1f 1 (Qj p0) i0 _ (Q7p hx0) rfl), hV 7 [(580, Val.rows (v0_1 ++ [(Q7e x0)]))] (Q2w 1 516 580 5 80 0 0 true (Val.rows v0_1) (Val.rows (v0_1 ++ [(Q7e x0)])) (Val.cells (Q7e x0)) (List.length v0_1) (List.length (v0_1 ++ [(Q7e x0)])) rfl (Val.Q5 v0_1).symm (Val.Q5 (v0_1 ++ [(Q7e x0)])).symm (Val.Qv v0_1 (Q7e x0)) (Val.Qd v0_1) rfl (by omega)), hS 0 true (Val.Q7 (v0_1 ++ [(Q7e x0)]) 5 rfl), hP 1 (Q1b i0 (by omega))] [aN (Q1b9 x0)] (by kernel_rfl) hr
theorem Qr3 (p0 : List ByteArray) (H : Qbo p0) : ∀ (r0 : List ByteArray) (i0 : Nat) (v0_1 : List Val), List.drop i0 p0 = r0 → List.length v0_1 ≤ i0 → Qc4 p0 (Qbd p0 i0 v0_1) (Q3n p0 r0 i0 v0_1)
 | [], i0, v0_1, hd, ho0_0 => by
  have hc0 : (decide ((i0 : Int) < ((List.length p0) : Int))) = false := by have := Q10 hd; simp; omega
  rw [Q3n]
  exact Qys p0 H i0 v0_1 ho0_0 hc0
 | x0 :: r0, i0, v0_1, hd, ho0_0 => by
  obtain ⟨hx0, hi0, hd'⟩ := Qz hd
  have hc0 : (decide ((i0 : Int) < ((List.length p0) : Int))) = true := by simp; omega
  rw [Q3n]
  exact Qlo p0 (fun r hr => Qxt p0 H x0 i0 v0_1 hx0 hi0 ho0_0 hc0 hr) _ (Qr3 p0 H r0 (i0 + 1) (v0_1 ++ [(Q7e x0)]) hd' (by first | omega | (simp; omega)))
def Q57 (p0 : List ByteArray) : Val := vL (p0.map vS)
theorem Qzy (p0 : List ByteArray) : Q57 p0 = ((Val.mk 4 0 eB (Q3n p0 p0 0 []) [])) := by
  rw [Qw2]
  rfl
def Qzm (p0 : List ByteArray) : En := .call 110 [.sl (Qj p0), .fn 87 [] []] []
def Qpu (p0 : List ByteArray) : Rs := .ret (.agg (Val.cells (Q57 p0))) []
def Qd3 (p0 : List ByteArray) : Prop := LSm (fun _ : ByteArray => True) p0
theorem Qqe (p0 : List ByteArray) (H : Qd3 p0) : (Qbo p0) ∧ True := by
  exact ⟨⟨Nat.le_trans H.1 (Nat.le_of_ble_eq_true rfl), trivial⟩, trivial⟩
theorem Q12t (p0 : List ByteArray) (H : Qd3 p0) : Q6 G (Qzm p0) (Qpu p0) := by
 unfold Qpu
 rw [Qzy]
 have hl0 := Qr3 p0 ((Qqe p0 H).1) p0 0 [] (by simp) (by simp)
 obtain ⟨z0, zo0, hl0⟩ := hl0
 exact Q8 (fn := Ir.K2e) rfl VOK.nil [hP 3 (Qn (Qj p0) (List.length p0) (Q1k p0)), hS 0 true (Val.Q7 (Q3n p0 p0 0 []) 5 rfl), hQ (Val.Q5 (Q3n p0 p0 0 [])).symm] [aV [(1, Val.rows (Q3n p0 p0 0 []))] hl0] (by kernel_rfl)
def Q8j (p0 : Requirement) : Val := Requirement.enc p0
theorem Q1fz (p0 : Requirement) : Q8j p0 = ((Q3h ([(Q5f Q1w p0.key), (Q4n Q3g p0.op), (Q2b Qy (Q57 p0.values))]))) := by
  exact Eq.symm (Q8l (by exact Nat.le_of_ble_eq_true rfl) (by kernel_rfl))
def Q1en (p0 : Requirement) : En := .call 109 [.agg (Requirement.cells p0)] []
def Q1a3 (p0 : Requirement) : Rs := .ret (.agg (Val.cells (Q8j p0))) []
def Q174 (p0 : Requirement) : Prop := Requirement.sm p0
theorem Qv0 (p0 : Requirement) (H : Q174 p0) : (Qd3 p0.values) ∧ (Q9p ([(Q5f Q1w p0.key), (Q4n Q3g p0.op), (Q2b Qy (Q57 p0.values))])) ∧ True := by
  exact ⟨(by first | exact True.intro | exact H | exact H.1), Qdb (by exact Nat.le_of_ble_eq_true rfl) (List.forall_mem_cons.2 ⟨Val.Sm.leaf _ _ _, List.forall_mem_cons.2 ⟨Val.Sm.leaf _ _ _, List.forall_mem_cons.2 ⟨Q2e (fun _ h => Val.Sm.leaf _ _ _) H.1, List.forall_mem_nil _⟩⟩⟩), trivial⟩
theorem Q1hv (p0 : Requirement) (H : Q174 p0) : Q6 G (Q1en p0) (Q1a3 p0) := by
 unfold Q1a3
 rw [Q1fz]
 exact Q8 (fn := Ir.K2b) rfl VOK.nil [] [aN (Q12z Q1w p0.key), aN (Q12y Q3g p0.op), aN (Q12t p0.values (Qv0 p0 H).1), aN (Qfx Qy (Q57 p0.values)), aN (Q6x (e' := .call 29 [.sl [(Fld.cells (Q5f Q1w p0.key)), (Fld.cells (Q4n Q3g p0.op)), (Fld.cells (Q2b Qy (Q57 p0.values)))]] []) (Qfw ([(Q5f Q1w p0.key), (Q4n Q3g p0.op), (Q2b Qy (Q57 p0.values))]) (Qv0 p0 H).2.1) (by simp only [Qg5, Fld.Q12, Fld.Q1c]))] (by kernel_rfl)
def Q3m (p0 : List Requirement) : List Requirement → Nat → (List Val) → List Val
 | [], _i0, v0_1 =>
  v0_1
 | x0 :: r0, i0, v0_1 =>
  Q3m p0 r0 (i0 + 1) (v0_1 ++ [(Q8j x0)])
theorem Qw1 (p0 : List Requirement) : ∀ (l : List Requirement) (i : Nat) (a : List Val), Q3m p0 l i a = a ++ l.map (fun x0 => (Q8j x0))
  | [], _, _ => by simp [Q3m]
  | x :: r, i, a => by rw [Q3m, Qw1 p0 r]; simp
def Qne (p0 : List Requirement) (i0 : Nat) (v0_1 : List Val) : List PV :=
  [.un, .fn 109 [] [], .un, .un, .bx 0 0, .ms 1 5 0 (List.length v0_1), .un, .un, .sl (Requirement.rows p0), .int .i64 ((List.length p0) : Int), .int .i64 (i0 : Int)] ++ nuns 12
def Qcv (_p0 : List Requirement) (_i0 : Nat) (v0_1 : List Val) : List Ob :=
  [⟨5, 0, true, [.int .i64 0, .int .i64 0, .str eB, .ms 2 5 0 0, .ms 3 6 0 0]⟩, ⟨5, 0, true, (Val.rows v0_1).flatten⟩, ⟨5, 0, true, []⟩, ⟨6, 0, true, []⟩]
def Qbc (p0 : List Requirement) (i0 : Nat) (v0_1 : List Val) : En := .loop 0 Ir.Qdp Ir.Q165 (Qne p0 i0 v0_1) (Qcv p0 i0 v0_1)
def Qhg (_p0 : List Requirement) (q0 : List Val) (z : Nat → PV) (_zo : Nat → List PV) : St :=
  ⟨[z 0, z 1, z 2, z 3, .bx 0 0, .ms 1 5 0 (List.length q0)] ++ zr z 6 17, [(0, ⟨5, 0, true, [.int .i64 0, .int .i64 0, .str eB, .ms 2 5 0 0, .ms 3 6 0 0]⟩), (1, ⟨5, 0, true, (Val.rows q0).flatten⟩), (2, ⟨5, 0, true, []⟩), (3, ⟨6, 0, true, []⟩)], 68⟩
theorem Qu7 (p0 : List Requirement) (i0 : Nat) (v0_1 : List Val) : VOK (Go.Pv.look (number 0 (Qcv p0 i0 v0_1))) [(1, Val.rows v0_1)] := (VOK.cons (show Seen _ _ from Q2f (ob := ⟨5, 0, true, (Val.rows v0_1).flatten⟩) (Val.Q7 v0_1 5 rfl)) VOK.nil)
def Qc3 (p0 : List Requirement) (e : En) (q : List Val) : Prop := ∃ z zo, Q6 G e (.st (.exit 0) (Qhg p0 q z zo))
theorem Qln (p0 : List Requirement) {e e' : En} (h : ∀ r, Q6 G e r → Q6 G e' r) : ∀ q, Qc3 p0 e q → Qc3 p0 e' q
  | _, ⟨z, zo, hz⟩ => ⟨z, zo, h _ hz⟩
def Qbn (p0 : List Requirement) : Prop := (List.length p0 ≤ 137438953472) ∧ (∀ x0 ∈ p0, Q174 x0) ∧ True
def Qix (p0 : List Requirement) (i0 : Nat) (_v0_1 : List Val) : List PV :=
  [.un, .fn 109 [] []] ++ nuns 6 ++ [.sl (Requirement.rows p0), .int .i64 ((List.length p0) : Int), .int .i64 (i0 : Int), .bool false]
def Qen (_p0 : List Requirement) (_i0 : Nat) (_v0_1 : List Val) : List (Nat × List PV) :=
  []
theorem Qyr (p0 : List Requirement) (_H : Qbn p0) (i0 : Nat) (v0_1 : List Val) (_ho0_0 : List.length v0_1 ≤ i0) (hc0 : (decide ((i0 : Int) < ((List.length p0) : Int))) = false) : Qc3 p0 (Qbc p0 i0 v0_1) v0_1 := by
 exact ⟨(envF (Qix p0 i0 v0_1)), (zoF (Qen p0 i0 v0_1)), Qh (Qu7 p0 i0 v0_1) (x := ((.exit 0), Qhg p0 v0_1 (envF (Qix p0 i0 v0_1)) (zoF (Qen p0 i0 v0_1)))) [hB 0 hc0] [] (by kernel_rfl)⟩
theorem Qxs (p0 : List Requirement) (H : Qbn p0) (x0 : Requirement) (i0 : Nat) (v0_1 : List Val) (hx0 : p0[i0]? = some x0) (hi0 : i0 < List.length p0) (ho0_0 : List.length v0_1 ≤ i0) (hc0 : (decide ((i0 : Int) < ((List.length p0) : Int))) = true) {r : Rs} (hr : Q6 G (Qbc p0 (i0 + 1) (v0_1 ++ [(Q8j x0)])) r) : Q6 G (Qbc p0 i0 v0_1) r := by
 have hB0 := H.1
 exact Qb (Qu7 p0 i0 v0_1) (y := (Qne p0 (i0 + 1) (v0_1 ++ [(Q8j x0)]), Qcv p0 (i0 + 1) (v0_1 ++ [(Q8j x0)]))) [hB 0 hc0, hP 0 (Q1f 3 (Requirement.rows p0) i0 _ (Requirement.Q9 hx0) rfl), hV 8 [(644, Val.rows (v0_1 ++ [(Q8j x0)]))] (Q2w 1 580 644 5 80 0 0 true (Val.rows v0_1) (Val.rows (v0_1 ++ [(Q8j x0)])) (Val.cells (Q8j x0)) (List.length v0_1) (List.length (v0_1 ++ [(Q8j x0)])) rfl (Val.Q5 v0_1).symm (Val.Q5 (v0_1 ++ [(Q8j x0)])).symm (Val.Qv v0_1 (Q8j x0)) (Val.Qd v0_1) rfl (by omega)), hS 0 true (Val.Q7 (v0_1 ++ [(Q8j x0)]) 5 rfl), hP 1 (Q1b i0 (by omega))] [aN (Q1hv x0 (H.2.1 x0 (Q1q hx0)))] (by kernel_rfl) hr
theorem Qr2 (p0 : List Requirement) (H : Qbn p0) : ∀ (r0 : List Requirement) (i0 : Nat) (v0_1 : List Val), List.drop i0 p0 = r0 → List.length v0_1 ≤ i0 → Qc3 p0 (Qbc p0 i0 v0_1) (Q3m p0 r0 i0 v0_1)
 | [], i0, v0_1, hd, ho0_0 => by
  have hc0 : (decide ((i0 : Int) < ((List.length p0) : Int))) = false := by have := Q10 hd; simp; omega
  rw [Q3m]
  exact Qyr p0 H i0 v0_1 ho0_0 hc0
 | x0 :: r0, i0, v0_1, hd, ho0_0 => by
  obtain ⟨hx0, hi0, hd'⟩ := Qz hd
  have hc0 : (decide ((i0 : Int) < ((List.length p0) : Int))) = true := by simp; omega
  rw [Q3m]
  exact Qln p0 (fun r hr => Qxs p0 H x0 i0 v0_1 hx0 hi0 ho0_0 hc0 hr) _ (Qr2 p0 H r0 (i0 + 1) (v0_1 ++ [(Q8j x0)]) hd' (by first | omega | (simp; omega)))
def Qad (p0 : List Requirement) : Val := vL (p0.map Requirement.enc)
theorem Qx2 (p0 : List Requirement) : Qad p0 = ((Val.mk 4 0 eB (Q3m p0 p0 0 []) [])) := by
  rw [Qw1]
  rfl
def Qwy (p0 : List Requirement) : En := .call 108 [.sl (Requirement.rows p0), .fn 109 [] []] []
def Qj3 (p0 : List Requirement) : Rs := .ret (.agg (Val.cells (Qad p0))) []
def Q9q (p0 : List Requirement) : Prop := LSm Requirement.sm p0
theorem Qml (p0 : List Requirement) (H : Q9q p0) : (Qbn p0) ∧ True := by
  exact ⟨⟨Nat.le_trans H.1 (Nat.le_of_ble_eq_true rfl), H.2, trivial⟩, trivial⟩
theorem Qy7 (p0 : List Requirement) (H : Q9q p0) : Q6 G (Qwy p0) (Qj3 p0) := by
 unfold Qj3
 rw [Qx2]
 have hl0 := Qr2 p0 ((Qml p0 H).1) p0 0 [] (by simp) (by simp)
 obtain ⟨z0, zo0, hl0⟩ := hl0
 exact Q8 (fn := Ir.K2d) rfl VOK.nil [hP 3 (Qn (Requirement.rows p0) (List.length p0) (Requirement.Q5 p0)), hS 0 true (Val.Q7 (Q3m p0 p0 0 []) 5 rfl), hQ (Val.Q5 (Q3m p0 p0 0 [])).symm] [aV [(1, Val.rows (Q3m p0 p0 0 []))] hl0] (by kernel_rfl)
def Q15m (p0 : List Requirement) : Val := vL (p0.map Requirement.enc)
theorem Q1fy (p0 : List Requirement) : Q15m p0 = ((Qad p0)) := by
  rfl
def Q1em (p0 : List Requirement) : En := .call 83 [.sl (Requirement.rows p0)] []
def Q1a2 (p0 : List Requirement) : Rs := .ret (.agg (Val.cells (Q15m p0))) []
def Q173 (p0 : List Requirement) : Prop := LSm Requirement.sm p0
theorem Q14z (p0 : List Requirement) (H : Q173 p0) : (Q9q p0) ∧ True := by
  repeat' with_reducible apply And.intro
  all_goals first | exact True.intro | exact H
theorem Q1hu (p0 : List Requirement) (H : Q173 p0) : Q6 G (Q1em p0) (Q1a2 p0) := by
 unfold Q1a2
 rw [Q1fy]
 exact Q8 (fn := Ir.K2a) rfl VOK.nil [] [aN (Qy7 p0 (Q14z p0 H).1)] (by kernel_rfl)
def Q6v (p0 : List Requirement) : Fld := .mk Qg (vL (p0.map Requirement.enc))
theorem Q1g3 (p0 : List Requirement) : Q6v p0 = ((Q2b Qg (Q15m p0))) := by
  rfl
def Q1ev (p0 : List Requirement) : En := .call 30 [.sl (Requirement.rows p0)] []
def Q1ab (p0 : List Requirement) : Rs := .ret (.agg (Fld.cells (Q6v p0))) []
def Qz0 (p0 : List Requirement) : Prop := LSm Requirement.sm p0
theorem Q150 (p0 : List Requirement) (H : Qz0 p0) : (Q173 p0) ∧ True := by
  repeat' with_reducible apply And.intro
  all_goals first | exact True.intro | exact H
theorem Q17z (p0 : List Requirement) (H : Qz0 p0) : Q6 G (Q1ev p0) (Q1ab p0) := by
 unfold Q1ab
 rw [Q1g3]
 exact Q8 (fn := Ir.K2r) rfl VOK.nil [] [aN (Q1hu p0 (Q150 p0 H).1), aN (Qfx Qg (Q15m p0))] (by kernel_rfl)
def Q8i (p0 : ServicePort) : Val := ServicePort.enc p0
theorem Q1fx (p0 : ServicePort) : Q8i p0 = ((Q3h ([(Q5f Q1j p0.name), (Q4n Q1l p0.port), (Q4n Q15 p0.target)]))) := by
  exact Eq.symm (Q8l (by exact Nat.le_of_ble_eq_true rfl) (by kernel_rfl))
def Q1el (p0 : ServicePort) : En := .call 85 [.agg (ServicePort.cells p0)] []
def Q1a1 (p0 : ServicePort) : Rs := .ret (.agg (Val.cells (Q8i p0))) []
def Q172 (p0 : ServicePort) : Prop := ServicePort.sm p0
theorem Q14y (p0 : ServicePort) (_H : Q172 p0) : (Q9p ([(Q5f Q1j p0.name), (Q4n Q1l p0.port), (Q4n Q15 p0.target)])) ∧ True := by
  exact ⟨Qdb (by exact Nat.le_of_ble_eq_true rfl) (List.forall_mem_cons.2 ⟨Val.Sm.leaf _ _ _, List.forall_mem_cons.2 ⟨Val.Sm.leaf _ _ _, List.forall_mem_cons.2 ⟨Val.Sm.leaf _ _ _, List.forall_mem_nil _⟩⟩⟩), trivial⟩
theorem Q1ht (p0 : ServicePort) (H : Q172 p0) : Q6 G (Q1el p0) (Q1a1 p0) := by
 unfold Q1a1
 rw [Q1fx]
 exact Q8 (fn := Ir.K28) rfl VOK.nil [] [aN (Q12z Q1j p0.name), aN (Q12y Q1l p0.port), aN (Q12y Q15 p0.target), aN (Q6x (e' := .call 29 [.sl [(Fld.cells (Q5f Q1j p0.name)), (Fld.cells (Q4n Q1l p0.port)), (Fld.cells (Q4n Q15 p0.target))]] []) (Qfw ([(Q5f Q1j p0.name), (Q4n Q1l p0.port), (Q4n Q15 p0.target)]) (Q14y p0 H).1) (by simp only [Qg5, Fld.Q12, Fld.Q1c]))] (by kernel_rfl)
def Q3r (p0 : List ServicePort) : List ServicePort → Nat → (List Val) → List Val
 | [], _i0, v0_1 =>
  v0_1
 | x0 :: r0, i0, v0_1 =>
  Q3r p0 r0 (i0 + 1) (v0_1 ++ [(Q8i x0)])
theorem Qw6 (p0 : List ServicePort) : ∀ (l : List ServicePort) (i : Nat) (a : List Val), Q3r p0 l i a = a ++ l.map (fun x0 => (Q8i x0))
  | [], _, _ => by simp [Q3r]
  | x :: r, i, a => by rw [Q3r, Qw6 p0 r]; simp
def Qnj (p0 : List ServicePort) (i0 : Nat) (v0_1 : List Val) : List PV :=
  [.un, .fn 85 [] [], .un, .un, .bx 0 0, .ms 1 5 0 (List.length v0_1), .un, .un, .sl (ServicePort.rows p0), .int .i64 ((List.length p0) : Int), .int .i64 (i0 : Int)] ++ nuns 12
def Qd0 (_p0 : List ServicePort) (_i0 : Nat) (v0_1 : List Val) : List Ob :=
  [⟨5, 0, true, [.int .i64 0, .int .i64 0, .str eB, .ms 2 5 0 0, .ms 3 6 0 0]⟩, ⟨5, 0, true, (Val.rows v0_1).flatten⟩, ⟨5, 0, true, []⟩, ⟨6, 0, true, []⟩]
def Qbh (p0 : List ServicePort) (i0 : Nat) (v0_1 : List Val) : En := .loop 0 Ir.Qdu Ir.Q16a (Qnj p0 i0 v0_1) (Qd0 p0 i0 v0_1)
def Qhl (_p0 : List ServicePort) (q0 : List Val) (z : Nat → PV) (_zo : Nat → List PV) : St :=
  ⟨[z 0, z 1, z 2, z 3, .bx 0 0, .ms 1 5 0 (List.length q0)] ++ zr z 6 17, [(0, ⟨5, 0, true, [.int .i64 0, .int .i64 0, .str eB, .ms 2 5 0 0, .ms 3 6 0 0]⟩), (1, ⟨5, 0, true, (Val.rows q0).flatten⟩), (2, ⟨5, 0, true, []⟩), (3, ⟨6, 0, true, []⟩)], 68⟩
theorem Qud (p0 : List ServicePort) (i0 : Nat) (v0_1 : List Val) : VOK (Go.Pv.look (number 0 (Qd0 p0 i0 v0_1))) [(1, Val.rows v0_1)] := (VOK.cons (show Seen _ _ from Q2f (ob := ⟨5, 0, true, (Val.rows v0_1).flatten⟩) (Val.Q7 v0_1 5 rfl)) VOK.nil)
def Qc8 (p0 : List ServicePort) (e : En) (q : List Val) : Prop := ∃ z zo, Q6 G e (.st (.exit 0) (Qhl p0 q z zo))
theorem Qls (p0 : List ServicePort) {e e' : En} (h : ∀ r, Q6 G e r → Q6 G e' r) : ∀ q, Qc8 p0 e q → Qc8 p0 e' q
  | _, ⟨z, zo, hz⟩ => ⟨z, zo, h _ hz⟩
def Qbs (p0 : List ServicePort) : Prop := (List.length p0 ≤ 137438953472) ∧ (∀ x0 ∈ p0, Q172 x0) ∧ True
def Qj2 (p0 : List ServicePort) (i0 : Nat) (_v0_1 : List Val) : List PV :=
  [.un, .fn 85 [] []] ++ nuns 6 ++ [.sl (ServicePort.rows p0), .int .i64 ((List.length p0) : Int), .int .i64 (i0 : Int), .bool false]
def Qes (_p0 : List ServicePort) (_i0 : Nat) (_v0_1 : List Val) : List (Nat × List PV) :=
  []
theorem Qyw (p0 : List ServicePort) (_H : Qbs p0) (i0 : Nat) (v0_1 : List Val) (_ho0_0 : List.length v0_1 ≤ i0) (hc0 : (decide ((i0 : Int) < ((List.length p0) : Int))) = false) : Qc8 p0 (Qbh p0 i0 v0_1) v0_1 := by
 exact ⟨(envF (Qj2 p0 i0 v0_1)), (zoF (Qes p0 i0 v0_1)), Qh (Qud p0 i0 v0_1) (x := ((.exit 0), Qhl p0 v0_1 (envF (Qj2 p0 i0 v0_1)) (zoF (Qes p0 i0 v0_1)))) [hB 0 hc0] [] (by kernel_rfl)⟩
theorem Qxx (p0 : List ServicePort) (H : Qbs p0) (x0 : ServicePort) (i0 : Nat) (v0_1 : List Val) (hx0 : p0[i0]? = some x0) (hi0 : i0 < List.length p0) (ho0_0 : List.length v0_1 ≤ i0) (hc0 : (decide ((i0 : Int) < ((List.length p0) : Int))) = true) {r : Rs} (hr : Q6 G (Qbh p0 (i0 + 1) (v0_1 ++ [(Q8i x0)])) r) : Q6 G (Qbh p0 i0 v0_1) r := by
 have hB0 := H.1
 exact Qb (Qud p0 i0 v0_1) (y := (Qnj p0 (i0 + 1) (v0_1 ++ [(Q8i x0)]), Qd0 p0 (i0 + 1) (v0_1 ++ [(Q8i x0)]))) [hB 0 hc0, hP 0 (Q1f 3 (ServicePort.rows p0) i0 _ (ServicePort.Q9 hx0) rfl), hV 8 [(644, Val.rows (v0_1 ++ [(Q8i x0)]))] (Q2w 1 580 644 5 80 0 0 true (Val.rows v0_1) (Val.rows (v0_1 ++ [(Q8i x0)])) (Val.cells (Q8i x0)) (List.length v0_1) (List.length (v0_1 ++ [(Q8i x0)])) rfl (Val.Q5 v0_1).symm (Val.Q5 (v0_1 ++ [(Q8i x0)])).symm (Val.Qv v0_1 (Q8i x0)) (Val.Qd v0_1) rfl (by omega)), hS 0 true (Val.Q7 (v0_1 ++ [(Q8i x0)]) 5 rfl), hP 1 (Q1b i0 (by omega))] [aN (Q1ht x0 (H.2.1 x0 (Q1q hx0)))] (by kernel_rfl) hr
theorem Qr7 (p0 : List ServicePort) (H : Qbs p0) : ∀ (r0 : List ServicePort) (i0 : Nat) (v0_1 : List Val), List.drop i0 p0 = r0 → List.length v0_1 ≤ i0 → Qc8 p0 (Qbh p0 i0 v0_1) (Q3r p0 r0 i0 v0_1)
 | [], i0, v0_1, hd, ho0_0 => by
  have hc0 : (decide ((i0 : Int) < ((List.length p0) : Int))) = false := by have := Q10 hd; simp; omega
  rw [Q3r]
  exact Qyw p0 H i0 v0_1 ho0_0 hc0
 | x0 :: r0, i0, v0_1, hd, ho0_0 => by
  obtain ⟨hx0, hi0, hd'⟩ := Qz hd
  have hc0 : (decide ((i0 : Int) < ((List.length p0) : Int))) = true := by simp; omega
  rw [Q3r]
  exact Qls p0 (fun r hr => Qxx p0 H x0 i0 v0_1 hx0 hi0 ho0_0 hc0 hr) _ (Qr7 p0 H r0 (i0 + 1) (v0_1 ++ [(Q8i x0)]) hd' (by first | omega | (simp; omega)))
def Qft (p0 : List ServicePort) : Val := vL (p0.map ServicePort.enc)
theorem Q102 (p0 : List ServicePort) : Qft p0 = ((Val.mk 4 0 eB (Q3r p0 p0 0 []) [])) := by
  rw [Qw6]
  rfl
def Qzq (p0 : List ServicePort) : En := .call 84 [.sl (ServicePort.rows p0), .fn 85 [] []] []
def Qpy (p0 : List ServicePort) : Rs := .ret (.agg (Val.cells (Qft p0))) []
def Qd7 (p0 : List ServicePort) : Prop := LSm ServicePort.sm p0
theorem Qqi (p0 : List ServicePort) (H : Qd7 p0) : (Qbs p0) ∧ True := by
  exact ⟨⟨Nat.le_trans H.1 (Nat.le_of_ble_eq_true rfl), H.2, trivial⟩, trivial⟩
theorem Q12x (p0 : List ServicePort) (H : Qd7 p0) : Q6 G (Qzq p0) (Qpy p0) := by
 unfold Qpy
 rw [Q102]
 have hl0 := Qr7 p0 ((Qqi p0 H).1) p0 0 [] (by simp) (by simp)
 obtain ⟨z0, zo0, hl0⟩ := hl0
 exact Q8 (fn := Ir.K2i) rfl VOK.nil [hP 3 (Qn (ServicePort.rows p0) (List.length p0) (ServicePort.Q5 p0)), hS 0 true (Val.Q7 (Q3r p0 p0 0 []) 5 rfl), hQ (Val.Q5 (Q3r p0 p0 0 [])).symm] [aV [(1, Val.rows (Q3r p0 p0 0 []))] hl0] (by kernel_rfl)
def Q7s (p0 : List ServicePort) : Val := vL (p0.map ServicePort.enc)
theorem Q1fw (p0 : List ServicePort) : Q7s p0 = ((Qft p0)) := by
  rfl
def Q1ek (p0 : List ServicePort) : En := .call 32 [.sl (ServicePort.rows p0)] []
def Q1a0 (p0 : List ServicePort) : Rs := .ret (.agg (Val.cells (Q7s p0))) []
def Q149 (p0 : List ServicePort) : Prop := LSm ServicePort.sm p0
theorem Q14x (p0 : List ServicePort) (H : Q149 p0) : (Qd7 p0) ∧ True := by
  repeat' with_reducible apply And.intro
  all_goals first | exact True.intro | exact H
theorem Q1bc (p0 : List ServicePort) (H : Q149 p0) : Q6 G (Q1ek p0) (Q1a0 p0) := by
 unfold Q1a0
 rw [Q1fw]
 exact Q8 (fn := Ir.K27) rfl VOK.nil [] [aN (Q12x p0 (Q14x p0 H).1)] (by kernel_rfl)
def Q15l (p0 : Bool) : Val := vB p0
theorem Q1ey (p0 : Bool) : Q15l p0 = (bif p0 then
    (Val.mk 1 1 eB [] [])
  else
    (Val.mk 1 0 eB [] [])) := by
  cases p0 <;> rfl
def Q1dj (p0 : Bool) : En := .call 86 [.bool p0] []
def Q18y (p0 : Bool) : Rs := .ret (.agg (Val.cells (Q15l p0))) []
theorem Q1h3 (p0 : Bool) : Q6 G (Q1dj p0) (Q18y p0) := by
 unfold Q18y
 rw [Q1ey]
 cases h0 : p0 with
 | true =>
  exact Q8 (fn := Ir.K11) rfl VOK.nil [] [] (by kernel_rfl)
 | false =>
  exact Q8 (fn := Ir.K11) rfl VOK.nil [] [] (by kernel_rfl)
def Q30 (p0 : BA) (p1 : Bool) : Fld := .mk p0 (vB p1)
theorem Q1g5 (p0 : BA) (p1 : Bool) : Q30 p0 p1 = ((Q2b p0 (Q15l p1))) := by
  rfl
def Q1ex (p0 : BA) (p1 : Bool) : En := .call 33 [.str p0, .bool p1] []
def Q1ad (p0 : BA) (p1 : Bool) : Rs := .ret (.agg (Fld.cells (Q30 p0 p1))) []
theorem Qy8 (p0 : BA) (p1 : Bool) : Q6 G (Q1ex p0 p1) (Q1ad p0 p1) := by
 unfold Q1ad
 rw [Q1g5]
 exact Q8 (fn := Ir.K2t) rfl VOK.nil [] [aN (Q1h3 p1), aN (Qfx p0 (Q15l p1))] (by kernel_rfl)
def Qy4 (p0 : Service) : Object := Service.obj p0
theorem Q1f5 (p0 : Service) : Qy4 p0 = ((Qy5 Qu p0.meta_ (Q3h ([(Q6v p0.selector), (Q2b Qk (Q7s p0.ports)), (Q30 Q14 p0.sticky)])) (Q3h ([(Q4n Qe p0.address)])))) := by
  exact Eq.symm (Q128 (by exact Nat.le_of_ble_eq_true rfl) (by exact Nat.le_of_ble_eq_true rfl) (by kernel_rfl) (by kernel_rfl))
def Q1dt (p0 : Service) : En := .call 10 [.agg (Service.cells p0)] []
def Q199 (p0 : Service) : Rs := .ret (.agg (Object.cells (Qy4 p0))) []
def Q144 (p0 : Service) : Prop := Qat p0.meta_ ∧ Service.sm p0
theorem Q97 (p0 : Service) (H : Q144 p0) : (Qz0 p0.selector) ∧ (Q149 p0.ports) ∧ (Q9p ([(Q6v p0.selector), (Q2b Qk (Q7s p0.ports)), (Q30 Q14 p0.sticky)])) ∧ (Q9p ([(Q4n Qe p0.address)])) ∧ (Q14a Qu p0.meta_ (Q3h ([(Q6v p0.selector), (Q2b Qk (Q7s p0.ports)), (Q30 Q14 p0.sticky)])) (Q3h ([(Q4n Qe p0.address)]))) ∧ True := by
  exact ⟨(by first | exact True.intro | exact H.1 | exact ⟨H.1, trivial⟩ | exact H.2 | exact H.2.1 | exact H.2.2.1), (by first | exact True.intro | exact H.1 | exact ⟨H.1, trivial⟩ | exact H.2 | exact H.2.1 | exact H.2.2.1), Qdb (by exact Nat.le_of_ble_eq_true rfl) (List.forall_mem_cons.2 ⟨Q2e (fun _ h => Requirement.Q3f h) H.2.1, List.forall_mem_cons.2 ⟨Q2e (fun _ h => ServicePort.Q3f h) H.2.2.1, List.forall_mem_cons.2 ⟨Val.Sm.leaf _ _ _, List.forall_mem_nil _⟩⟩⟩), Qdb (by exact Nat.le_of_ble_eq_true rfl) (List.forall_mem_cons.2 ⟨Val.Sm.leaf _ _ _, List.forall_mem_nil _⟩), (by first | exact True.intro | exact H.1 | exact ⟨H.1, trivial⟩ | exact H.2 | exact H.2.1 | exact H.2.2.1), trivial⟩
theorem Q1ha (p0 : Service) (H : Q144 p0) : Q6 G (Q1dt p0) (Q199 p0) := by
 unfold Q199
 rw [Q1f5]
 exact Q8 (fn := Ir.K1e) rfl VOK.nil [] [aN (Q17z p0.selector (Q97 p0 H).1), aN (Q1bc p0.ports (Q97 p0 H).2.1), aN (Qfx Qk (Q7s p0.ports)), aN (Qy8 Q14 p0.sticky), aN (Q6x (e' := .call 29 [.sl [(Fld.cells (Q6v p0.selector)), (Fld.cells (Q2b Qk (Q7s p0.ports))), (Fld.cells (Q30 Q14 p0.sticky))]] []) (Qfw ([(Q6v p0.selector), (Q2b Qk (Q7s p0.ports)), (Q30 Q14 p0.sticky)]) (Q97 p0 H).2.2.1) (by simp only [Qg5, Fld.Q12, Fld.Q1c])), aN (Q12y Qe p0.address), aN (Q6x (e' := .call 29 [.sl [(Fld.cells (Q4n Qe p0.address))]] []) (Qfw ([(Q4n Qe p0.address)]) (Q97 p0 H).2.2.2.1) (by simp only [Qg5, Fld.Q12, Fld.Q1c])), aN (Q17x Qu p0.meta_ (Q3h ([(Q6v p0.selector), (Q2b Qk (Q7s p0.ports)), (Q30 Q14 p0.sticky)])) (Q3h ([(Q4n Qe p0.address)])) (Q97 p0 H).2.2.2.2.1)] (by kernel_rfl)
def Q8f (p0 : Endpoint) : Val := Endpoint.enc p0
theorem Q1f1 (p0 : Endpoint) : Q8f p0 = ((Q3h ([(Q5f Q1p p0.pod), (Q5f Q1g p0.node), (Q4n Qe p0.address), (Q30 Q18 p0.ready), (Q30 Qm p0.terminating)]))) := by
  exact Eq.symm (Q8l (by exact Nat.le_of_ble_eq_true rfl) (by kernel_rfl))
def Q1dp (p0 : Endpoint) : En := .call 36 [.agg (Endpoint.cells p0)] []
def Q195 (p0 : Endpoint) : Rs := .ret (.agg (Val.cells (Q8f p0))) []
def Q16m (p0 : Endpoint) : Prop := Endpoint.sm p0
theorem Q14p (p0 : Endpoint) (_H : Q16m p0) : (Q9p ([(Q5f Q1p p0.pod), (Q5f Q1g p0.node), (Q4n Qe p0.address), (Q30 Q18 p0.ready), (Q30 Qm p0.terminating)])) ∧ True := by
  exact ⟨Qdb (by exact Nat.le_of_ble_eq_true rfl) (List.forall_mem_cons.2 ⟨Val.Sm.leaf _ _ _, List.forall_mem_cons.2 ⟨Val.Sm.leaf _ _ _, List.forall_mem_cons.2 ⟨Val.Sm.leaf _ _ _, List.forall_mem_cons.2 ⟨Val.Sm.leaf _ _ _, List.forall_mem_cons.2 ⟨Val.Sm.leaf _ _ _, List.forall_mem_nil _⟩⟩⟩⟩⟩), trivial⟩
theorem Q1h6 (p0 : Endpoint) (H : Q16m p0) : Q6 G (Q1dp p0) (Q195 p0) := by
 unfold Q195
 rw [Q1f1]
 exact Q8 (fn := Ir.K19) rfl VOK.nil [] [aN (Q12z Q1p p0.pod), aN (Q12z Q1g p0.node), aN (Q12y Qe p0.address), aN (Qy8 Q18 p0.ready), aN (Qy8 Qm p0.terminating), aN (Q6x (e' := .call 29 [.sl [(Fld.cells (Q5f Q1p p0.pod)), (Fld.cells (Q5f Q1g p0.node)), (Fld.cells (Q4n Qe p0.address)), (Fld.cells (Q30 Q18 p0.ready)), (Fld.cells (Q30 Qm p0.terminating))]] []) (Qfw ([(Q5f Q1p p0.pod), (Q5f Q1g p0.node), (Q4n Qe p0.address), (Q30 Q18 p0.ready), (Q30 Qm p0.terminating)]) (Q14p p0 H).1) (by simp only [Qg5, Fld.Q12, Fld.Q1c]))] (by kernel_rfl)
def Q3l (p0 : List Endpoint) : List Endpoint → Nat → (List Val) → List Val
 | [], _i0, v0_1 =>
  v0_1
 | x0 :: r0, i0, v0_1 =>
  Q3l p0 r0 (i0 + 1) (v0_1 ++ [(Q8f x0)])
theorem Qw0 (p0 : List Endpoint) : ∀ (l : List Endpoint) (i : Nat) (a : List Val), Q3l p0 l i a = a ++ l.map (fun x0 => (Q8f x0))
  | [], _, _ => by simp [Q3l]
  | x :: r, i, a => by rw [Q3l, Qw0 p0 r]; simp
def Qnd (p0 : List Endpoint) (i0 : Nat) (v0_1 : List Val) : List PV :=
  [.un, .fn 36 [] [], .un, .un, .bx 0 0, .ms 1 5 0 (List.length v0_1), .un, .un, .sl (Endpoint.rows p0), .int .i64 ((List.length p0) : Int), .int .i64 (i0 : Int)] ++ nuns 12
def Qcu (_p0 : List Endpoint) (_i0 : Nat) (v0_1 : List Val) : List Ob :=
  [⟨5, 0, true, [.int .i64 0, .int .i64 0, .str eB, .ms 2 5 0 0, .ms 3 6 0 0]⟩, ⟨5, 0, true, (Val.rows v0_1).flatten⟩, ⟨5, 0, true, []⟩, ⟨6, 0, true, []⟩]
def Qbb (p0 : List Endpoint) (i0 : Nat) (v0_1 : List Val) : En := .loop 0 Ir.Qdo Ir.Q164 (Qnd p0 i0 v0_1) (Qcu p0 i0 v0_1)
def Qhf (_p0 : List Endpoint) (q0 : List Val) (z : Nat → PV) (_zo : Nat → List PV) : St :=
  ⟨[z 0, z 1, z 2, z 3, .bx 0 0, .ms 1 5 0 (List.length q0)] ++ zr z 6 17, [(0, ⟨5, 0, true, [.int .i64 0, .int .i64 0, .str eB, .ms 2 5 0 0, .ms 3 6 0 0]⟩), (1, ⟨5, 0, true, (Val.rows q0).flatten⟩), (2, ⟨5, 0, true, []⟩), (3, ⟨6, 0, true, []⟩)], 68⟩
theorem Qu6 (p0 : List Endpoint) (i0 : Nat) (v0_1 : List Val) : VOK (Go.Pv.look (number 0 (Qcu p0 i0 v0_1))) [(1, Val.rows v0_1)] := (VOK.cons (show Seen _ _ from Q2f (ob := ⟨5, 0, true, (Val.rows v0_1).flatten⟩) (Val.Q7 v0_1 5 rfl)) VOK.nil)
def Qc2 (p0 : List Endpoint) (e : En) (q : List Val) : Prop := ∃ z zo, Q6 G e (.st (.exit 0) (Qhf p0 q z zo))
theorem Qlm (p0 : List Endpoint) {e e' : En} (h : ∀ r, Q6 G e r → Q6 G e' r) : ∀ q, Qc2 p0 e q → Qc2 p0 e' q
  | _, ⟨z, zo, hz⟩ => ⟨z, zo, h _ hz⟩
def Qbm (p0 : List Endpoint) : Prop := (List.length p0 ≤ 137438953472) ∧ (∀ x0 ∈ p0, Q16m x0) ∧ True
def Qiw (p0 : List Endpoint) (i0 : Nat) (_v0_1 : List Val) : List PV :=
  [.un, .fn 36 [] []] ++ nuns 6 ++ [.sl (Endpoint.rows p0), .int .i64 ((List.length p0) : Int), .int .i64 (i0 : Int), .bool false]
def Qem (_p0 : List Endpoint) (_i0 : Nat) (_v0_1 : List Val) : List (Nat × List PV) :=
  []
theorem Qyq (p0 : List Endpoint) (_H : Qbm p0) (i0 : Nat) (v0_1 : List Val) (_ho0_0 : List.length v0_1 ≤ i0) (hc0 : (decide ((i0 : Int) < ((List.length p0) : Int))) = false) : Qc2 p0 (Qbb p0 i0 v0_1) v0_1 := by
 exact ⟨(envF (Qiw p0 i0 v0_1)), (zoF (Qem p0 i0 v0_1)), Qh (Qu6 p0 i0 v0_1) (x := ((.exit 0), Qhf p0 v0_1 (envF (Qiw p0 i0 v0_1)) (zoF (Qem p0 i0 v0_1)))) [hB 0 hc0] [] (by kernel_rfl)⟩
theorem Qxr (p0 : List Endpoint) (H : Qbm p0) (x0 : Endpoint) (i0 : Nat) (v0_1 : List Val) (hx0 : p0[i0]? = some x0) (hi0 : i0 < List.length p0) (ho0_0 : List.length v0_1 ≤ i0) (hc0 : (decide ((i0 : Int) < ((List.length p0) : Int))) = true) {r : Rs} (hr : Q6 G (Qbb p0 (i0 + 1) (v0_1 ++ [(Q8f x0)])) r) : Q6 G (Qbb p0 i0 v0_1) r := by
 have hB0 := H.1
 exact Qb (Qu6 p0 i0 v0_1) (y := (Qnd p0 (i0 + 1) (v0_1 ++ [(Q8f x0)]), Qcu p0 (i0 + 1) (v0_1 ++ [(Q8f x0)]))) [hB 0 hc0, hP 0 (Q1f 5 (Endpoint.rows p0) i0 _ (Endpoint.Q9 hx0) rfl), hV 8 [(644, Val.rows (v0_1 ++ [(Q8f x0)]))] (Q2w 1 580 644 5 80 0 0 true (Val.rows v0_1) (Val.rows (v0_1 ++ [(Q8f x0)])) (Val.cells (Q8f x0)) (List.length v0_1) (List.length (v0_1 ++ [(Q8f x0)])) rfl (Val.Q5 v0_1).symm (Val.Q5 (v0_1 ++ [(Q8f x0)])).symm (Val.Qv v0_1 (Q8f x0)) (Val.Qd v0_1) rfl (by omega)), hS 0 true (Val.Q7 (v0_1 ++ [(Q8f x0)]) 5 rfl), hP 1 (Q1b i0 (by omega))] [aN (Q1h6 x0 (H.2.1 x0 (Q1q hx0)))] (by kernel_rfl) hr
theorem Qr1 (p0 : List Endpoint) (H : Qbm p0) : ∀ (r0 : List Endpoint) (i0 : Nat) (v0_1 : List Val), List.drop i0 p0 = r0 → List.length v0_1 ≤ i0 → Qc2 p0 (Qbb p0 i0 v0_1) (Q3l p0 r0 i0 v0_1)
 | [], i0, v0_1, hd, ho0_0 => by
  have hc0 : (decide ((i0 : Int) < ((List.length p0) : Int))) = false := by have := Q10 hd; simp; omega
  rw [Q3l]
  exact Qyq p0 H i0 v0_1 ho0_0 hc0
 | x0 :: r0, i0, v0_1, hd, ho0_0 => by
  obtain ⟨hx0, hi0, hd'⟩ := Qz hd
  have hc0 : (decide ((i0 : Int) < ((List.length p0) : Int))) = true := by simp; omega
  rw [Q3l]
  exact Qlm p0 (fun r hr => Qxr p0 H x0 i0 v0_1 hx0 hi0 ho0_0 hc0 hr) _ (Qr1 p0 H r0 (i0 + 1) (v0_1 ++ [(Q8f x0)]) hd' (by first | omega | (simp; omega)))
def Q3u (p0 : List Endpoint) : Val := vL (p0.map Endpoint.enc)
theorem Qzx (p0 : List Endpoint) : Q3u p0 = ((Val.mk 4 0 eB (Q3l p0 p0 0 []) [])) := by
  rw [Qw0]
  rfl
def Qzl (p0 : List Endpoint) : En := .call 35 [.sl (Endpoint.rows p0), .fn 36 [] []] []
def Qpt (p0 : List Endpoint) : Rs := .ret (.agg (Val.cells (Q3u p0))) []
def Qd2 (p0 : List Endpoint) : Prop := LSm Endpoint.sm p0
theorem Qqd (p0 : List Endpoint) (H : Qd2 p0) : (Qbm p0) ∧ True := by
  exact ⟨⟨Nat.le_trans H.1 (Nat.le_of_ble_eq_true rfl), H.2, trivial⟩, trivial⟩
theorem Q12s (p0 : List Endpoint) (H : Qd2 p0) : Q6 G (Qzl p0) (Qpt p0) := by
 unfold Qpt
 rw [Qzx]
 have hl0 := Qr1 p0 ((Qqd p0 H).1) p0 0 [] (by simp) (by simp)
 obtain ⟨z0, zo0, hl0⟩ := hl0
 exact Q8 (fn := Ir.K2c) rfl VOK.nil [hP 3 (Qn (Endpoint.rows p0) (List.length p0) (Endpoint.Q5 p0)), hS 0 true (Val.Q7 (Q3l p0 p0 0 []) 5 rfl), hQ (Val.Q5 (Q3l p0 p0 0 [])).symm] [aV [(1, Val.rows (Q3l p0 p0 0 []))] hl0] (by kernel_rfl)
def Qy2 (p0 : EndpointSet) : Object := EndpointSet.obj p0
theorem Q1f0 (p0 : EndpointSet) : Qy2 p0 = ((Qy5 Qp p0.meta_ (Q3h ([(Q2b Qk (Q7s p0.ports)), (Q2b Q1d (Q3u p0.items))])) (Q3h []))) := by
  exact Eq.symm (Q128 (by exact Nat.le_of_ble_eq_true rfl) (by exact Nat.le_of_ble_eq_true rfl) (by kernel_rfl) (by kernel_rfl))
def Q1do (p0 : EndpointSet) : En := .call 11 [.agg (EndpointSet.cells p0)] []
def Q194 (p0 : EndpointSet) : Rs := .ret (.agg (Object.cells (Qy2 p0))) []
def Q142 (p0 : EndpointSet) : Prop := Qat p0.meta_ ∧ EndpointSet.sm p0
theorem Q95 (p0 : EndpointSet) (H : Q142 p0) : (Qd2 p0.items) ∧ (Q149 p0.ports) ∧ (Q9p ([(Q2b Qk (Q7s p0.ports)), (Q2b Q1d (Q3u p0.items))])) ∧ (Q9p []) ∧ (Q14a Qp p0.meta_ (Q3h ([(Q2b Qk (Q7s p0.ports)), (Q2b Q1d (Q3u p0.items))])) (Q3h [])) ∧ True := by
  exact ⟨(by first | exact True.intro | exact H.1 | exact ⟨H.1, trivial⟩ | exact H.2 | exact H.2.1 | exact H.2.2.1), (by first | exact True.intro | exact H.1 | exact ⟨H.1, trivial⟩ | exact H.2 | exact H.2.1 | exact H.2.2.1), Qdb (by exact Nat.le_of_ble_eq_true rfl) (List.forall_mem_cons.2 ⟨Q2e (fun _ h => ServicePort.Q3f h) H.2.1, List.forall_mem_cons.2 ⟨Q2e (fun _ h => Endpoint.Q3f h) H.2.2.1, List.forall_mem_nil _⟩⟩), Qdb (by exact Nat.le_of_ble_eq_true rfl) (List.forall_mem_nil _), (by first | exact True.intro | exact H.1 | exact ⟨H.1, trivial⟩ | exact H.2 | exact H.2.1 | exact H.2.2.1), trivial⟩
theorem Q1h5 (p0 : EndpointSet) (H : Q142 p0) : Q6 G (Q1do p0) (Q194 p0) := by
 unfold Q194
 rw [Q1f0]
 exact Q8 (fn := Ir.K18) rfl VOK.nil [] [aN (Q12s p0.items (Q95 p0 H).1), aN (Q1bc p0.ports (Q95 p0 H).2.1), aN (Qfx Qk (Q7s p0.ports)), aN (Qfx Q1d (Q3u p0.items)), aN (Q6x (e' := .call 29 [.sl [(Fld.cells (Q2b Qk (Q7s p0.ports))), (Fld.cells (Q2b Q1d (Q3u p0.items)))]] []) (Qfw ([(Q2b Qk (Q7s p0.ports)), (Q2b Q1d (Q3u p0.items))]) (Q95 p0 H).2.2.1) (by simp only [Qg5, Fld.Q12, Fld.Q1c])), aN (Qfw [] (Q95 p0 H).2.2.2.1), aN (Q17x Qp p0.meta_ (Q3h ([(Q2b Qk (Q7s p0.ports)), (Q2b Q1d (Q3u p0.items))])) (Q3h []) (Q95 p0 H).2.2.2.2.1)] (by kernel_rfl)
def Q8h (p0 : Peer) : Val := Peer.enc p0
theorem Q1f4 (p0 : Peer) : Q8h p0 = ((Q3h ([(Q5f Qq p0.namespace_), (Q6v p0.selector)]))) := by
  exact Eq.symm (Q8l (by exact Nat.le_of_ble_eq_true rfl) (by kernel_rfl))
def Q1ds (p0 : Peer) : En := .call 41 [.agg (Peer.cells p0)] []
def Q198 (p0 : Peer) : Rs := .ret (.agg (Val.cells (Q8h p0))) []
def Q16o (p0 : Peer) : Prop := Peer.sm p0
theorem Qur (p0 : Peer) (H : Q16o p0) : (Qz0 p0.selector) ∧ (Q9p ([(Q5f Qq p0.namespace_), (Q6v p0.selector)])) ∧ True := by
  exact ⟨(by first | exact True.intro | exact H | exact H.1), Qdb (by exact Nat.le_of_ble_eq_true rfl) (List.forall_mem_cons.2 ⟨Val.Sm.leaf _ _ _, List.forall_mem_cons.2 ⟨Q2e (fun _ h => Requirement.Q3f h) H.1, List.forall_mem_nil _⟩⟩), trivial⟩
theorem Q1h9 (p0 : Peer) (H : Q16o p0) : Q6 G (Q1ds p0) (Q198 p0) := by
 unfold Q198
 rw [Q1f4]
 exact Q8 (fn := Ir.K1c) rfl VOK.nil [] [aN (Q12z Qq p0.namespace_), aN (Q17z p0.selector (Qur p0 H).1), aN (Q6x (e' := .call 29 [.sl [(Fld.cells (Q5f Qq p0.namespace_)), (Fld.cells (Q6v p0.selector))]] []) (Qfw ([(Q5f Qq p0.namespace_), (Q6v p0.selector)]) (Qur p0 H).2.1) (by simp only [Qg5, Fld.Q12, Fld.Q1c]))] (by kernel_rfl)
def Q3p (p0 : List Peer) : List Peer → Nat → (List Val) → List Val
 | [], _i0, v0_1 =>
  v0_1
 | x0 :: r0, i0, v0_1 =>
  Q3p p0 r0 (i0 + 1) (v0_1 ++ [(Q8h x0)])
theorem Qw4 (p0 : List Peer) : ∀ (l : List Peer) (i : Nat) (a : List Val), Q3p p0 l i a = a ++ l.map (fun x0 => (Q8h x0))
  | [], _, _ => by simp [Q3p]
  | x :: r, i, a => by rw [Q3p, Qw4 p0 r]; simp
def Qnh (p0 : List Peer) (i0 : Nat) (v0_1 : List Val) : List PV :=
  [.un, .fn 41 [] [], .un, .un, .bx 0 0, .ms 1 5 0 (List.length v0_1), .un, .un, .sl (Peer.rows p0), .int .i64 ((List.length p0) : Int), .int .i64 (i0 : Int)] ++ nuns 12
def Qcy (_p0 : List Peer) (_i0 : Nat) (v0_1 : List Val) : List Ob :=
  [⟨5, 0, true, [.int .i64 0, .int .i64 0, .str eB, .ms 2 5 0 0, .ms 3 6 0 0]⟩, ⟨5, 0, true, (Val.rows v0_1).flatten⟩, ⟨5, 0, true, []⟩, ⟨6, 0, true, []⟩]
def Qbf (p0 : List Peer) (i0 : Nat) (v0_1 : List Val) : En := .loop 0 Ir.Qds Ir.Q168 (Qnh p0 i0 v0_1) (Qcy p0 i0 v0_1)
def Qhj (_p0 : List Peer) (q0 : List Val) (z : Nat → PV) (_zo : Nat → List PV) : St :=
  ⟨[z 0, z 1, z 2, z 3, .bx 0 0, .ms 1 5 0 (List.length q0)] ++ zr z 6 17, [(0, ⟨5, 0, true, [.int .i64 0, .int .i64 0, .str eB, .ms 2 5 0 0, .ms 3 6 0 0]⟩), (1, ⟨5, 0, true, (Val.rows q0).flatten⟩), (2, ⟨5, 0, true, []⟩), (3, ⟨6, 0, true, []⟩)], 68⟩
theorem Qub (p0 : List Peer) (i0 : Nat) (v0_1 : List Val) : VOK (Go.Pv.look (number 0 (Qcy p0 i0 v0_1))) [(1, Val.rows v0_1)] := (VOK.cons (show Seen _ _ from Q2f (ob := ⟨5, 0, true, (Val.rows v0_1).flatten⟩) (Val.Q7 v0_1 5 rfl)) VOK.nil)
def Qc6 (p0 : List Peer) (e : En) (q : List Val) : Prop := ∃ z zo, Q6 G e (.st (.exit 0) (Qhj p0 q z zo))
theorem Qlq (p0 : List Peer) {e e' : En} (h : ∀ r, Q6 G e r → Q6 G e' r) : ∀ q, Qc6 p0 e q → Qc6 p0 e' q
  | _, ⟨z, zo, hz⟩ => ⟨z, zo, h _ hz⟩
def Qbq (p0 : List Peer) : Prop := (List.length p0 ≤ 137438953472) ∧ (∀ x0 ∈ p0, Q16o x0) ∧ True
def Qj0 (p0 : List Peer) (i0 : Nat) (_v0_1 : List Val) : List PV :=
  [.un, .fn 41 [] []] ++ nuns 6 ++ [.sl (Peer.rows p0), .int .i64 ((List.length p0) : Int), .int .i64 (i0 : Int), .bool false]
def Qeq (_p0 : List Peer) (_i0 : Nat) (_v0_1 : List Val) : List (Nat × List PV) :=
  []
theorem Qyu (p0 : List Peer) (_H : Qbq p0) (i0 : Nat) (v0_1 : List Val) (_ho0_0 : List.length v0_1 ≤ i0) (hc0 : (decide ((i0 : Int) < ((List.length p0) : Int))) = false) : Qc6 p0 (Qbf p0 i0 v0_1) v0_1 := by
 exact ⟨(envF (Qj0 p0 i0 v0_1)), (zoF (Qeq p0 i0 v0_1)), Qh (Qub p0 i0 v0_1) (x := ((.exit 0), Qhj p0 v0_1 (envF (Qj0 p0 i0 v0_1)) (zoF (Qeq p0 i0 v0_1)))) [hB 0 hc0] [] (by kernel_rfl)⟩
theorem Qxv (p0 : List Peer) (H : Qbq p0) (x0 : Peer) (i0 : Nat) (v0_1 : List Val) (hx0 : p0[i0]? = some x0) (hi0 : i0 < List.length p0) (ho0_0 : List.length v0_1 ≤ i0) (hc0 : (decide ((i0 : Int) < ((List.length p0) : Int))) = true) {r : Rs} (hr : Q6 G (Qbf p0 (i0 + 1) (v0_1 ++ [(Q8h x0)])) r) : Q6 G (Qbf p0 i0 v0_1) r := by
 have hB0 := H.1
 exact Qb (Qub p0 i0 v0_1) (y := (Qnh p0 (i0 + 1) (v0_1 ++ [(Q8h x0)]), Qcy p0 (i0 + 1) (v0_1 ++ [(Q8h x0)]))) [hB 0 hc0, hP 0 (Q1f 2 (Peer.rows p0) i0 _ (Peer.Q9 hx0) rfl), hV 8 [(644, Val.rows (v0_1 ++ [(Q8h x0)]))] (Q2w 1 580 644 5 80 0 0 true (Val.rows v0_1) (Val.rows (v0_1 ++ [(Q8h x0)])) (Val.cells (Q8h x0)) (List.length v0_1) (List.length (v0_1 ++ [(Q8h x0)])) rfl (Val.Q5 v0_1).symm (Val.Q5 (v0_1 ++ [(Q8h x0)])).symm (Val.Qv v0_1 (Q8h x0)) (Val.Qd v0_1) rfl (by omega)), hS 0 true (Val.Q7 (v0_1 ++ [(Q8h x0)]) 5 rfl), hP 1 (Q1b i0 (by omega))] [aN (Q1h9 x0 (H.2.1 x0 (Q1q hx0)))] (by kernel_rfl) hr
theorem Qr5 (p0 : List Peer) (H : Qbq p0) : ∀ (r0 : List Peer) (i0 : Nat) (v0_1 : List Val), List.drop i0 p0 = r0 → List.length v0_1 ≤ i0 → Qc6 p0 (Qbf p0 i0 v0_1) (Q3p p0 r0 i0 v0_1)
 | [], i0, v0_1, hd, ho0_0 => by
  have hc0 : (decide ((i0 : Int) < ((List.length p0) : Int))) = false := by have := Q10 hd; simp; omega
  rw [Q3p]
  exact Qyu p0 H i0 v0_1 ho0_0 hc0
 | x0 :: r0, i0, v0_1, hd, ho0_0 => by
  obtain ⟨hx0, hi0, hd'⟩ := Qz hd
  have hc0 : (decide ((i0 : Int) < ((List.length p0) : Int))) = true := by simp; omega
  rw [Q3p]
  exact Qlq p0 (fun r hr => Qxv p0 H x0 i0 v0_1 hx0 hi0 ho0_0 hc0 hr) _ (Qr5 p0 H r0 (i0 + 1) (v0_1 ++ [(Q8h x0)]) hd' (by first | omega | (simp; omega)))
def Q58 (p0 : List Peer) : Val := vL (p0.map Peer.enc)
theorem Q100 (p0 : List Peer) : Q58 p0 = ((Val.mk 4 0 eB (Q3p p0 p0 0 []) [])) := by
  rw [Qw4]
  rfl
def Qzo (p0 : List Peer) : En := .call 40 [.sl (Peer.rows p0), .fn 41 [] []] []
def Qpw (p0 : List Peer) : Rs := .ret (.agg (Val.cells (Q58 p0))) []
def Qd5 (p0 : List Peer) : Prop := LSm Peer.sm p0
theorem Qqg (p0 : List Peer) (H : Qd5 p0) : (Qbq p0) ∧ True := by
  exact ⟨⟨Nat.le_trans H.1 (Nat.le_of_ble_eq_true rfl), H.2, trivial⟩, trivial⟩
theorem Q12v (p0 : List Peer) (H : Qd5 p0) : Q6 G (Qzo p0) (Qpw p0) := by
 unfold Qpw
 rw [Q100]
 have hl0 := Qr5 p0 ((Qqg p0 H).1) p0 0 [] (by simp) (by simp)
 obtain ⟨z0, zo0, hl0⟩ := hl0
 exact Q8 (fn := Ir.K2g) rfl VOK.nil [hP 3 (Qn (Peer.rows p0) (List.length p0) (Peer.Q5 p0)), hS 0 true (Val.Q7 (Q3p p0 p0 0 []) 5 rfl), hQ (Val.Q5 (Q3p p0 p0 0 [])).symm] [aV [(1, Val.rows (Q3p p0 p0 0 []))] hl0] (by kernel_rfl)
def Q3q (p0 : List Int) : List Int → Nat → (List Val) → List Val
 | [], _i0, v0_1 =>
  v0_1
 | x0 :: r0, i0, v0_1 =>
  Q3q p0 r0 (i0 + 1) (v0_1 ++ [(Q7d x0)])
theorem Qw5 (p0 : List Int) : ∀ (l : List Int) (i : Nat) (a : List Val), Q3q p0 l i a = a ++ l.map (fun x0 => (Q7d x0))
  | [], _, _ => by simp [Q3q]
  | x :: r, i, a => by rw [Q3q, Qw5 p0 r]; simp
def Qni (p0 : List Int) (i0 : Nat) (v0_1 : List Val) : List PV :=
  [.un, .fn 43 [] [], .un, .un, .bx 0 0, .ms 1 5 0 (List.length v0_1), .un, .un, .sl (Q1i p0), .int .i64 ((List.length p0) : Int), .int .i64 (i0 : Int)] ++ nuns 12
def Qcz (_p0 : List Int) (_i0 : Nat) (v0_1 : List Val) : List Ob :=
  [⟨5, 0, true, [.int .i64 0, .int .i64 0, .str eB, .ms 2 5 0 0, .ms 3 6 0 0]⟩, ⟨5, 0, true, (Val.rows v0_1).flatten⟩, ⟨5, 0, true, []⟩, ⟨6, 0, true, []⟩]
def Qbg (p0 : List Int) (i0 : Nat) (v0_1 : List Val) : En := .loop 0 Ir.Qdt Ir.Q169 (Qni p0 i0 v0_1) (Qcz p0 i0 v0_1)
def Qhk (_p0 : List Int) (q0 : List Val) (z : Nat → PV) (_zo : Nat → List PV) : St :=
  ⟨[z 0, z 1, z 2, z 3, .bx 0 0, .ms 1 5 0 (List.length q0)] ++ zr z 6 17, [(0, ⟨5, 0, true, [.int .i64 0, .int .i64 0, .str eB, .ms 2 5 0 0, .ms 3 6 0 0]⟩), (1, ⟨5, 0, true, (Val.rows q0).flatten⟩), (2, ⟨5, 0, true, []⟩), (3, ⟨6, 0, true, []⟩)], 68⟩
theorem Quc (p0 : List Int) (i0 : Nat) (v0_1 : List Val) : VOK (Go.Pv.look (number 0 (Qcz p0 i0 v0_1))) [(1, Val.rows v0_1)] := (VOK.cons (show Seen _ _ from Q2f (ob := ⟨5, 0, true, (Val.rows v0_1).flatten⟩) (Val.Q7 v0_1 5 rfl)) VOK.nil)
def Qc7 (p0 : List Int) (e : En) (q : List Val) : Prop := ∃ z zo, Q6 G e (.st (.exit 0) (Qhk p0 q z zo))
theorem Qlr (p0 : List Int) {e e' : En} (h : ∀ r, Q6 G e r → Q6 G e' r) : ∀ q, Qc7 p0 e q → Qc7 p0 e' q
  | _, ⟨z, zo, hz⟩ => ⟨z, zo, h _ hz⟩
def Qbr (p0 : List Int) : Prop := (List.length p0 ≤ 137438953472) ∧ True
def Qj1 (p0 : List Int) (i0 : Nat) (_v0_1 : List Val) : List PV :=
  [.un, .fn 43 [] []] ++ nuns 6 ++ [.sl (Q1i p0), .int .i64 ((List.length p0) : Int), .int .i64 (i0 : Int), .bool false]
def Qer (_p0 : List Int) (_i0 : Nat) (_v0_1 : List Val) : List (Nat × List PV) :=
  []
theorem Qyv (p0 : List Int) (_H : Qbr p0) (i0 : Nat) (v0_1 : List Val) (_ho0_0 : List.length v0_1 ≤ i0) (hc0 : (decide ((i0 : Int) < ((List.length p0) : Int))) = false) : Qc7 p0 (Qbg p0 i0 v0_1) v0_1 := by
 exact ⟨(envF (Qj1 p0 i0 v0_1)), (zoF (Qer p0 i0 v0_1)), Qh (Quc p0 i0 v0_1) (x := ((.exit 0), Qhk p0 v0_1 (envF (Qj1 p0 i0 v0_1)) (zoF (Qer p0 i0 v0_1)))) [hB 0 hc0] [] (by kernel_rfl)⟩
theorem Qxw (p0 : List Int) (H : Qbr p0) (x0 : Int) (i0 : Nat) (v0_1 : List Val) (hx0 : p0[i0]? = some x0) (hi0 : i0 < List.length p0) (ho0_0 : List.length v0_1 ≤ i0) (hc0 : (decide ((i0 : Int) < ((List.length p0) : Int))) = true) {r : Rs} (hr : Q6 G (Qbg p0 (i0 + 1) (v0_1 ++ [(Q7d x0)])) r) : Q6 G (Qbg p0 i0 v0_1) r := by
 have hB0 := H.1
 exact Qb (Quc p0 i0 v0_1) (y := (Qni p0 (i0 + 1) (v0_1 ++ [(Q7d x0)]), Qcz p0 (i0 + 1) (v0_1 ++ [(Q7d x0)]))) [hB 0 hc0, hP 0 (Q1f 1 (Q1i p0) i0 _ (Qjc hx0) rfl), hV 7 [(580, Val.rows (v0_1 ++ [(Q7d x0)]))] (Q2w 1 516 580 5 80 0 0 true (Val.rows v0_1) (Val.rows (v0_1 ++ [(Q7d x0)])) (Val.cells (Q7d x0)) (List.length v0_1) (List.length (v0_1 ++ [(Q7d x0)])) rfl (Val.Q5 v0_1).symm (Val.Q5 (v0_1 ++ [(Q7d x0)])).symm (Val.Qv v0_1 (Q7d x0)) (Val.Qd v0_1) rfl (by omega)), hS 0 true (Val.Q7 (v0_1 ++ [(Q7d x0)]) 5 rfl), hP 1 (Q1b i0 (by omega))] [aN (Q1b7 x0)] (by kernel_rfl) hr
theorem Qr6 (p0 : List Int) (H : Qbr p0) : ∀ (r0 : List Int) (i0 : Nat) (v0_1 : List Val), List.drop i0 p0 = r0 → List.length v0_1 ≤ i0 → Qc7 p0 (Qbg p0 i0 v0_1) (Q3q p0 r0 i0 v0_1)
 | [], i0, v0_1, hd, ho0_0 => by
  have hc0 : (decide ((i0 : Int) < ((List.length p0) : Int))) = false := by have := Q10 hd; simp; omega
  rw [Q3q]
  exact Qyv p0 H i0 v0_1 ho0_0 hc0
 | x0 :: r0, i0, v0_1, hd, ho0_0 => by
  obtain ⟨hx0, hi0, hd'⟩ := Qz hd
  have hc0 : (decide ((i0 : Int) < ((List.length p0) : Int))) = true := by simp; omega
  rw [Q3q]
  exact Qlr p0 (fun r hr => Qxw p0 H x0 i0 v0_1 hx0 hi0 ho0_0 hc0 hr) _ (Qr6 p0 H r0 (i0 + 1) (v0_1 ++ [(Q7d x0)]) hd' (by first | omega | (simp; omega)))
def Q59 (p0 : List Int) : Val := vL (p0.map vN)
theorem Q101 (p0 : List Int) : Q59 p0 = ((Val.mk 4 0 eB (Q3q p0 p0 0 []) [])) := by
  rw [Qw5]
  rfl
def Qzp (p0 : List Int) : En := .call 42 [.sl (Q1i p0), .fn 43 [] []] []
def Qpx (p0 : List Int) : Rs := .ret (.agg (Val.cells (Q59 p0))) []
def Qd6 (p0 : List Int) : Prop := LSm (fun _ : Int => True) p0
theorem Qqh (p0 : List Int) (H : Qd6 p0) : (Qbr p0) ∧ True := by
  exact ⟨⟨Nat.le_trans H.1 (Nat.le_of_ble_eq_true rfl), trivial⟩, trivial⟩
theorem Q12w (p0 : List Int) (H : Qd6 p0) : Q6 G (Qzp p0) (Qpx p0) := by
 unfold Qpx
 rw [Q101]
 have hl0 := Qr6 p0 ((Qqh p0 H).1) p0 0 [] (by simp) (by simp)
 obtain ⟨z0, zo0, hl0⟩ := hl0
 exact Q8 (fn := Ir.K2h) rfl VOK.nil [hP 3 (Qn (Q1i p0) (List.length p0) (Q4r p0)), hS 0 true (Val.Q7 (Q3q p0 p0 0 []) 5 rfl), hQ (Val.Q5 (Q3q p0 p0 0 [])).symm] [aV [(1, Val.rows (Q3q p0 p0 0 []))] hl0] (by kernel_rfl)
def Q8g (p0 : PolicyRule) : Val := PolicyRule.enc p0
theorem Q1f3 (p0 : PolicyRule) : Q8g p0 = ((Q3h ([(Q30 Ql p0.egress), (Q2b Q17 (Q58 p0.peers)), (Q2b Qk (Q59 p0.ports))]))) := by
  exact Eq.symm (Q8l (by exact Nat.le_of_ble_eq_true rfl) (by kernel_rfl))
def Q1dr (p0 : PolicyRule) : En := .call 39 [.agg (PolicyRule.cells p0)] []
def Q197 (p0 : PolicyRule) : Rs := .ret (.agg (Val.cells (Q8g p0))) []
def Q16n (p0 : PolicyRule) : Prop := PolicyRule.sm p0
theorem Qmg (p0 : PolicyRule) (H : Q16n p0) : (Qd5 p0.peers) ∧ (Qd6 p0.ports) ∧ (Q9p ([(Q30 Ql p0.egress), (Q2b Q17 (Q58 p0.peers)), (Q2b Qk (Q59 p0.ports))])) ∧ True := by
  exact ⟨(by first | exact True.intro | exact H | exact H.1 | exact H.2.1), (by first | exact True.intro | exact H | exact H.1 | exact H.2.1), Qdb (by exact Nat.le_of_ble_eq_true rfl) (List.forall_mem_cons.2 ⟨Val.Sm.leaf _ _ _, List.forall_mem_cons.2 ⟨Q2e (fun _ h => Peer.Q3f h) H.1, List.forall_mem_cons.2 ⟨Q2e (fun _ h => Val.Sm.leaf _ _ _) H.2.1, List.forall_mem_nil _⟩⟩⟩), trivial⟩
theorem Q1h8 (p0 : PolicyRule) (H : Q16n p0) : Q6 G (Q1dr p0) (Q197 p0) := by
 unfold Q197
 rw [Q1f3]
 exact Q8 (fn := Ir.K1b) rfl VOK.nil [] [aN (Q12v p0.peers (Qmg p0 H).1), aN (Qy8 Ql p0.egress), aN (Qfx Q17 (Q58 p0.peers)), aN (Q12w p0.ports (Qmg p0 H).2.1), aN (Qfx Qk (Q59 p0.ports)), aN (Q6x (e' := .call 29 [.sl [(Fld.cells (Q30 Ql p0.egress)), (Fld.cells (Q2b Q17 (Q58 p0.peers))), (Fld.cells (Q2b Qk (Q59 p0.ports)))]] []) (Qfw ([(Q30 Ql p0.egress), (Q2b Q17 (Q58 p0.peers)), (Q2b Qk (Q59 p0.ports))]) (Qmg p0 H).2.2.1) (by simp only [Qg5, Fld.Q12, Fld.Q1c]))] (by kernel_rfl)
def Q3o (p0 : List PolicyRule) : List PolicyRule → Nat → (List Val) → List Val
 | [], _i0, v0_1 =>
  v0_1
 | x0 :: r0, i0, v0_1 =>
  Q3o p0 r0 (i0 + 1) (v0_1 ++ [(Q8g x0)])
theorem Qw3 (p0 : List PolicyRule) : ∀ (l : List PolicyRule) (i : Nat) (a : List Val), Q3o p0 l i a = a ++ l.map (fun x0 => (Q8g x0))
  | [], _, _ => by simp [Q3o]
  | x :: r, i, a => by rw [Q3o, Qw3 p0 r]; simp
def Qng (p0 : List PolicyRule) (i0 : Nat) (v0_1 : List Val) : List PV :=
  [.un, .fn 39 [] [], .un, .un, .bx 0 0, .ms 1 5 0 (List.length v0_1), .un, .un, .sl (PolicyRule.rows p0), .int .i64 ((List.length p0) : Int), .int .i64 (i0 : Int)] ++ nuns 12
def Qcx (_p0 : List PolicyRule) (_i0 : Nat) (v0_1 : List Val) : List Ob :=
  [⟨5, 0, true, [.int .i64 0, .int .i64 0, .str eB, .ms 2 5 0 0, .ms 3 6 0 0]⟩, ⟨5, 0, true, (Val.rows v0_1).flatten⟩, ⟨5, 0, true, []⟩, ⟨6, 0, true, []⟩]
def Qbe (p0 : List PolicyRule) (i0 : Nat) (v0_1 : List Val) : En := .loop 0 Ir.Qdr Ir.Q167 (Qng p0 i0 v0_1) (Qcx p0 i0 v0_1)
def Qhi (_p0 : List PolicyRule) (q0 : List Val) (z : Nat → PV) (_zo : Nat → List PV) : St :=
  ⟨[z 0, z 1, z 2, z 3, .bx 0 0, .ms 1 5 0 (List.length q0)] ++ zr z 6 17, [(0, ⟨5, 0, true, [.int .i64 0, .int .i64 0, .str eB, .ms 2 5 0 0, .ms 3 6 0 0]⟩), (1, ⟨5, 0, true, (Val.rows q0).flatten⟩), (2, ⟨5, 0, true, []⟩), (3, ⟨6, 0, true, []⟩)], 68⟩
theorem Qu9 (p0 : List PolicyRule) (i0 : Nat) (v0_1 : List Val) : VOK (Go.Pv.look (number 0 (Qcx p0 i0 v0_1))) [(1, Val.rows v0_1)] := (VOK.cons (show Seen _ _ from Q2f (ob := ⟨5, 0, true, (Val.rows v0_1).flatten⟩) (Val.Q7 v0_1 5 rfl)) VOK.nil)
def Qc5 (p0 : List PolicyRule) (e : En) (q : List Val) : Prop := ∃ z zo, Q6 G e (.st (.exit 0) (Qhi p0 q z zo))
theorem Qlp (p0 : List PolicyRule) {e e' : En} (h : ∀ r, Q6 G e r → Q6 G e' r) : ∀ q, Qc5 p0 e q → Qc5 p0 e' q
  | _, ⟨z, zo, hz⟩ => ⟨z, zo, h _ hz⟩
def Qbp (p0 : List PolicyRule) : Prop := (List.length p0 ≤ 137438953472) ∧ (∀ x0 ∈ p0, Q16n x0) ∧ True
def Qiz (p0 : List PolicyRule) (i0 : Nat) (_v0_1 : List Val) : List PV :=
  [.un, .fn 39 [] []] ++ nuns 6 ++ [.sl (PolicyRule.rows p0), .int .i64 ((List.length p0) : Int), .int .i64 (i0 : Int), .bool false]
def Qep (_p0 : List PolicyRule) (_i0 : Nat) (_v0_1 : List Val) : List (Nat × List PV) :=
  []
theorem Qyt (p0 : List PolicyRule) (_H : Qbp p0) (i0 : Nat) (v0_1 : List Val) (_ho0_0 : List.length v0_1 ≤ i0) (hc0 : (decide ((i0 : Int) < ((List.length p0) : Int))) = false) : Qc5 p0 (Qbe p0 i0 v0_1) v0_1 := by
 exact ⟨(envF (Qiz p0 i0 v0_1)), (zoF (Qep p0 i0 v0_1)), Qh (Qu9 p0 i0 v0_1) (x := ((.exit 0), Qhi p0 v0_1 (envF (Qiz p0 i0 v0_1)) (zoF (Qep p0 i0 v0_1)))) [hB 0 hc0] [] (by kernel_rfl)⟩
theorem Qxu (p0 : List PolicyRule) (H : Qbp p0) (x0 : PolicyRule) (i0 : Nat) (v0_1 : List Val) (hx0 : p0[i0]? = some x0) (hi0 : i0 < List.length p0) (ho0_0 : List.length v0_1 ≤ i0) (hc0 : (decide ((i0 : Int) < ((List.length p0) : Int))) = true) {r : Rs} (hr : Q6 G (Qbe p0 (i0 + 1) (v0_1 ++ [(Q8g x0)])) r) : Q6 G (Qbe p0 i0 v0_1) r := by
 have hB0 := H.1
 exact Qb (Qu9 p0 i0 v0_1) (y := (Qng p0 (i0 + 1) (v0_1 ++ [(Q8g x0)]), Qcx p0 (i0 + 1) (v0_1 ++ [(Q8g x0)]))) [hB 0 hc0, hP 0 (Q1f 3 (PolicyRule.rows p0) i0 _ (PolicyRule.Q9 hx0) rfl), hV 8 [(644, Val.rows (v0_1 ++ [(Q8g x0)]))] (Q2w 1 580 644 5 80 0 0 true (Val.rows v0_1) (Val.rows (v0_1 ++ [(Q8g x0)])) (Val.cells (Q8g x0)) (List.length v0_1) (List.length (v0_1 ++ [(Q8g x0)])) rfl (Val.Q5 v0_1).symm (Val.Q5 (v0_1 ++ [(Q8g x0)])).symm (Val.Qv v0_1 (Q8g x0)) (Val.Qd v0_1) rfl (by omega)), hS 0 true (Val.Q7 (v0_1 ++ [(Q8g x0)]) 5 rfl), hP 1 (Q1b i0 (by omega))] [aN (Q1h8 x0 (H.2.1 x0 (Q1q hx0)))] (by kernel_rfl) hr
theorem Qr4 (p0 : List PolicyRule) (H : Qbp p0) : ∀ (r0 : List PolicyRule) (i0 : Nat) (v0_1 : List Val), List.drop i0 p0 = r0 → List.length v0_1 ≤ i0 → Qc5 p0 (Qbe p0 i0 v0_1) (Q3o p0 r0 i0 v0_1)
 | [], i0, v0_1, hd, ho0_0 => by
  have hc0 : (decide ((i0 : Int) < ((List.length p0) : Int))) = false := by have := Q10 hd; simp; omega
  rw [Q3o]
  exact Qyt p0 H i0 v0_1 ho0_0 hc0
 | x0 :: r0, i0, v0_1, hd, ho0_0 => by
  obtain ⟨hx0, hi0, hd'⟩ := Qz hd
  have hc0 : (decide ((i0 : Int) < ((List.length p0) : Int))) = true := by simp; omega
  rw [Q3o]
  exact Qlp p0 (fun r hr => Qxu p0 H x0 i0 v0_1 hx0 hi0 ho0_0 hc0 hr) _ (Qr4 p0 H r0 (i0 + 1) (v0_1 ++ [(Q8g x0)]) hd' (by first | omega | (simp; omega)))
def Q3v (p0 : List PolicyRule) : Val := vL (p0.map PolicyRule.enc)
theorem Qzz (p0 : List PolicyRule) : Q3v p0 = ((Val.mk 4 0 eB (Q3o p0 p0 0 []) [])) := by
  rw [Qw3]
  rfl
def Qzn (p0 : List PolicyRule) : En := .call 38 [.sl (PolicyRule.rows p0), .fn 39 [] []] []
def Qpv (p0 : List PolicyRule) : Rs := .ret (.agg (Val.cells (Q3v p0))) []
def Qd4 (p0 : List PolicyRule) : Prop := LSm PolicyRule.sm p0
theorem Qqf (p0 : List PolicyRule) (H : Qd4 p0) : (Qbp p0) ∧ True := by
  exact ⟨⟨Nat.le_trans H.1 (Nat.le_of_ble_eq_true rfl), H.2, trivial⟩, trivial⟩
theorem Q12u (p0 : List PolicyRule) (H : Qd4 p0) : Q6 G (Qzn p0) (Qpv p0) := by
 unfold Qpv
 rw [Qzz]
 have hl0 := Qr4 p0 ((Qqf p0 H).1) p0 0 [] (by simp) (by simp)
 obtain ⟨z0, zo0, hl0⟩ := hl0
 exact Q8 (fn := Ir.K2f) rfl VOK.nil [hP 3 (Qn (PolicyRule.rows p0) (List.length p0) (PolicyRule.Q5 p0)), hS 0 true (Val.Q7 (Q3o p0 p0 0 []) 5 rfl), hQ (Val.Q5 (Q3o p0 p0 0 [])).symm] [aV [(1, Val.rows (Q3o p0 p0 0 []))] hl0] (by kernel_rfl)
def Qy3 (p0 : NetworkPolicy) : Object := NetworkPolicy.obj p0
theorem Q1f2 (p0 : NetworkPolicy) : Qy3 p0 = ((Qy5 Qc p0.meta_ (Q3h ([(Q6v p0.selector), (Q30 Qx p0.ingress), (Q30 Ql p0.egress), (Q2b Q13 (Q3v p0.rules))])) (Q3h []))) := by
  exact Eq.symm (Q128 (by exact Nat.le_of_ble_eq_true rfl) (by exact Nat.le_of_ble_eq_true rfl) (by kernel_rfl) (by kernel_rfl))
def Q1dq (p0 : NetworkPolicy) : En := .call 12 [.agg (NetworkPolicy.cells p0)] []
def Q196 (p0 : NetworkPolicy) : Rs := .ret (.agg (Object.cells (Qy3 p0))) []
def Q143 (p0 : NetworkPolicy) : Prop := Qat p0.meta_ ∧ NetworkPolicy.sm p0
theorem Q96 (p0 : NetworkPolicy) (H : Q143 p0) : (Qd4 p0.rules) ∧ (Qz0 p0.selector) ∧ (Q9p ([(Q6v p0.selector), (Q30 Qx p0.ingress), (Q30 Ql p0.egress), (Q2b Q13 (Q3v p0.rules))])) ∧ (Q9p []) ∧ (Q14a Qc p0.meta_ (Q3h ([(Q6v p0.selector), (Q30 Qx p0.ingress), (Q30 Ql p0.egress), (Q2b Q13 (Q3v p0.rules))])) (Q3h [])) ∧ True := by
  exact ⟨(by first | exact True.intro | exact H.1 | exact ⟨H.1, trivial⟩ | exact H.2 | exact H.2.1 | exact H.2.2.1), (by first | exact True.intro | exact H.1 | exact ⟨H.1, trivial⟩ | exact H.2 | exact H.2.1 | exact H.2.2.1), Qdb (by exact Nat.le_of_ble_eq_true rfl) (List.forall_mem_cons.2 ⟨Q2e (fun _ h => Requirement.Q3f h) H.2.1, List.forall_mem_cons.2 ⟨Val.Sm.leaf _ _ _, List.forall_mem_cons.2 ⟨Val.Sm.leaf _ _ _, List.forall_mem_cons.2 ⟨Q2e (fun _ h => PolicyRule.Q3f h) H.2.2.1, List.forall_mem_nil _⟩⟩⟩⟩), Qdb (by exact Nat.le_of_ble_eq_true rfl) (List.forall_mem_nil _), (by first | exact True.intro | exact H.1 | exact ⟨H.1, trivial⟩ | exact H.2 | exact H.2.1 | exact H.2.2.1), trivial⟩
theorem Q1h7 (p0 : NetworkPolicy) (H : Q143 p0) : Q6 G (Q1dq p0) (Q196 p0) := by
 unfold Q196
 rw [Q1f2]
 exact Q8 (fn := Ir.K1a) rfl VOK.nil [] [aN (Q12u p0.rules (Q96 p0 H).1), aN (Q17z p0.selector (Q96 p0 H).2.1), aN (Qy8 Qx p0.ingress), aN (Qy8 Ql p0.egress), aN (Qfx Q13 (Q3v p0.rules)), aN (Q6x (e' := .call 29 [.sl [(Fld.cells (Q6v p0.selector)), (Fld.cells (Q30 Qx p0.ingress)), (Fld.cells (Q30 Ql p0.egress)), (Fld.cells (Q2b Q13 (Q3v p0.rules)))]] []) (Qfw ([(Q6v p0.selector), (Q30 Qx p0.ingress), (Q30 Ql p0.egress), (Q2b Q13 (Q3v p0.rules))]) (Q96 p0 H).2.2.1) (by simp only [Qg5, Fld.Q12, Fld.Q1c])), aN (Qfw [] (Q96 p0 H).2.2.2.1), aN (Q17x Qc p0.meta_ (Q3h ([(Q6v p0.selector), (Q30 Qx p0.ingress), (Q30 Ql p0.egress), (Q2b Q13 (Q3v p0.rules))])) (Q3h []) (Q96 p0 H).2.2.2.2.1)] (by kernel_rfl)
end Go.Proofs.YtbagpdebihicnaaGreat
end

