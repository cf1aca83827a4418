/- Texts of the claim, merged by a program; what the statement does not reach is left out. -/
import Derived.Test.YtiflaadeikaghaaGreatBPodcodecWrong5
import Derived.Lib.Strings
import Derived.Lib.Slices
import Derived.Lib.Walk
import Derived.Lib.Bytealg
import Derived.Test.YtiflaadeikaghaaGreatRows

section
/- Metadata that are copied (printed by a program). -/
namespace Go.Proofs.YtiflaadeikaghaaGreat
open Go.Pv
structure Owner where
  kind : ByteArray
  name : ByteArray
  uid : Int
  controller : Bool
  block : Bool
def Owner.cells (x : Owner) : List PV :=
  [.str x.kind, .str x.name, .int .i64 x.uid, .bool x.controller, .bool x.block]
def Owner.rows (l : List Owner) : List (List PV) := l.map Owner.cells
theorem Owner.Q5 (l : List Owner) : (Owner.rows l).length = l.length := by simp [Owner.rows]
theorem Owner.Qb {l : List Owner} {i : Nat} {x : Owner} (h : l[i]? = some x) : (Owner.rows l)[i]? = some (Owner.cells x) := Go.Pv.Qb h
theorem Owner.Q12 (l : List Owner) (x : Owner) : Owner.rows (l ++ [x]) = Owner.rows l ++ [Owner.cells x] := by simp [Owner.rows]
theorem Owner.Q2r (l m : List Owner) : Owner.rows (l ++ m) = Owner.rows l ++ Owner.rows m := by simp [Owner.rows]
theorem Owner.Q2l (l : List Owner) (k : Nat) (x : Owner) : Owner.rows (l.set k x) = (Owner.rows l).set k (Owner.cells x) := by simp [Owner.rows, List.map_set]
theorem Owner.Qf (l : List Owner) : ∀ r ∈ Owner.rows l, r.length = 5 := Q2z (f := Owner.cells) (fun _ => rfl) l
theorem Owner.Q9 (l : List Owner) (sz : Nat) (h : sz = 5) : ViewOK sz (Owner.rows l).flatten (Owner.rows l) := by subst h; exact ⟨rfl, Owner.Qf l, Q2k (f := Owner.cells) (fun _ => rfl) l⟩
structure Manager where
  name : ByteArray
  fields : List ByteArray
def Manager.cells (x : Manager) : List PV :=
  [.str x.name, .sl (Qc x.fields)]
def Manager.rows (l : List Manager) : List (List PV) := l.map Manager.cells
theorem Manager.Q5 (l : List Manager) : (Manager.rows l).length = l.length := by simp [Manager.rows]
theorem Manager.Qb {l : List Manager} {i : Nat} {x : Manager} (h : l[i]? = some x) : (Manager.rows l)[i]? = some (Manager.cells x) := Go.Pv.Qb h
theorem Manager.Q12 (l : List Manager) (x : Manager) : Manager.rows (l ++ [x]) = Manager.rows l ++ [Manager.cells x] := by simp [Manager.rows]
theorem Manager.Q2r (l m : List Manager) : Manager.rows (l ++ m) = Manager.rows l ++ Manager.rows m := by simp [Manager.rows]
theorem Manager.Q2l (l : List Manager) (k : Nat) (x : Manager) : Manager.rows (l.set k x) = (Manager.rows l).set k (Manager.cells x) := by simp [Manager.rows, List.map_set]
theorem Manager.Qf (l : List Manager) : ∀ r ∈ Manager.rows l, r.length = 2 := Q2z (f := Manager.cells) (fun _ => rfl) l
theorem Manager.Q9 (l : List Manager) (sz : Nat) (h : sz = 2) : ViewOK sz (Manager.rows l).flatten (Manager.rows l) := by subst h; exact ⟨rfl, Manager.Qf l, Q2k (f := Manager.cells) (fun _ => rfl) l⟩
structure Meta where
  kind : ByteArray
  namespace_ : ByteArray
  name : ByteArray
  uid : Int
  version : Int
  generation : Int
  created : Int
  deleting : Bool
  deleteAt : Int
  labels : List Label
  owners : List Owner
  finalizers : List ByteArray
  managers : List Manager
def Meta.cells (x : Meta) : List PV :=
  [.str x.kind, .str x.namespace_, .str x.name, .int .i64 x.uid, .int .i64 x.version, .int .i64 x.generation, .int .i64 x.created, .bool x.deleting, .int .i64 x.deleteAt, .sl (Label.rows x.labels), .sl (Owner.rows x.owners), .sl (Qc x.finalizers), .sl (Manager.rows x.managers)]
def Meta.rows (l : List Meta) : List (List PV) := l.map Meta.cells
theorem Meta.Q5 (l : List Meta) : (Meta.rows l).length = l.length := by simp [Meta.rows]
theorem Meta.Qb {l : List Meta} {i : Nat} {x : Meta} (h : l[i]? = some x) : (Meta.rows l)[i]? = some (Meta.cells x) := Go.Pv.Qb h
theorem Meta.Q12 (l : List Meta) (x : Meta) : Meta.rows (l ++ [x]) = Meta.rows l ++ [Meta.cells x] := by simp [Meta.rows]
theorem Meta.Q2r (l m : List Meta) : Meta.rows (l ++ m) = Meta.rows l ++ Meta.rows m := by simp [Meta.rows]
theorem Meta.Q2l (l : List Meta) (k : Nat) (x : Meta) : Meta.rows (l.set k x) = (Meta.rows l).set k (Meta.cells x) := by simp [Meta.rows, List.map_set]
theorem Meta.Qf (l : List Meta) : ∀ r ∈ Meta.rows l, r.length = 13 := Q2z (f := Meta.cells) (fun _ => rfl) l
theorem Meta.Q9 (l : List Meta) (sz : Nat) (h : sz = 13) : ViewOK sz (Meta.rows l).flatten (Meta.rows l) := by subst h; exact ⟨rfl, Meta.Qf l, Q2k (f := Meta.cells) (fun _ => rfl) l⟩
structure Pod where
  meta_ : Meta
  spec : PodSpec
  status : PodStatus
def Pod.cells (x : Pod) : List PV :=
  [.str x.meta_.kind, .str x.meta_.namespace_, .str x.meta_.name, .int .i64 x.meta_.uid, .int .i64 x.meta_.version, .int .i64 x.meta_.generation, .int .i64 x.meta_.created, .bool x.meta_.deleting, .int .i64 x.meta_.deleteAt, .sl (Label.rows x.meta_.labels), .sl (Owner.rows x.meta_.owners), .sl (Qc x.meta_.finalizers), .sl (Manager.rows x.meta_.managers), .str x.spec.node, .int .i64 x.spec.priority, .int .i64 x.spec.restart, .int .i64 x.spec.grace, .sl (Container.rows x.spec.containers), .sl (Requirement.rows x.spec.nodeSelector), .sl (NodeTerm.rows x.spec.nodeTerms), .sl (PodTerm.rows x.spec.podTerms), .sl (SpreadRule.rows x.spec.spread), .sl (Toleration.rows x.spec.tolerations), .int .i64 x.status.phase, .bool x.status.ready, .int .i64 x.status.readySince, .int .i64 x.status.started, .int .i64 x.status.finished, .sl (ContainerStatus.rows x.status.containers), .int .i64 x.status.address, .str x.status.nominated, .str x.status.reason]
def Pod.rows (l : List Pod) : List (List PV) := l.map Pod.cells
theorem Pod.Q5 (l : List Pod) : (Pod.rows l).length = l.length := by simp [Pod.rows]
theorem Pod.Qb {l : List Pod} {i : Nat} {x : Pod} (h : l[i]? = some x) : (Pod.rows l)[i]? = some (Pod.cells x) := Go.Pv.Qb h
theorem Pod.Q12 (l : List Pod) (x : Pod) : Pod.rows (l ++ [x]) = Pod.rows l ++ [Pod.cells x] := by simp [Pod.rows]
theorem Pod.Q2r (l m : List Pod) : Pod.rows (l ++ m) = Pod.rows l ++ Pod.rows m := by simp [Pod.rows]
theorem Pod.Q2l (l : List Pod) (k : Nat) (x : Pod) : Pod.rows (l.set k x) = (Pod.rows l).set k (Pod.cells x) := by simp [Pod.rows, List.map_set]
theorem Pod.Qf (l : List Pod) : ∀ r ∈ Pod.rows l, r.length = 32 := Q2z (f := Pod.cells) (fun _ => rfl) l
theorem Pod.Q9 (l : List Pod) (sz : Nat) (h : sz = 32) : ViewOK sz (Pod.rows l).flatten (Pod.rows l) := by subst h; exact ⟨rfl, Pod.Qf l, Q2k (f := Pod.cells) (fun _ => rfl) l⟩
structure Node where
  meta_ : Meta
  capacity : Resources
  maxPods : Int
  cordoned : Bool
  taints : List Taint
  ready : Bool
  beat : Int
  lowMem : Bool
  lowDisk : Bool
  images : List Image
def Node.cells (x : Node) : List PV :=
  [.str x.meta_.kind, .str x.meta_.namespace_, .str x.meta_.name, .int .i64 x.meta_.uid, .int .i64 x.meta_.version, .int .i64 x.meta_.generation, .int .i64 x.meta_.created, .bool x.meta_.deleting, .int .i64 x.meta_.deleteAt, .sl (Label.rows x.meta_.labels), .sl (Owner.rows x.meta_.owners), .sl (Qc x.meta_.finalizers), .sl (Manager.rows x.meta_.managers), .int .i64 x.capacity.cPU, .int .i64 x.capacity.memory, .int .i64 x.capacity.disk, .int .i64 x.maxPods, .bool x.cordoned, .sl (Taint.rows x.taints), .bool x.ready, .int .i64 x.beat, .bool x.lowMem, .bool x.lowDisk, .sl (Image.rows x.images)]
def Node.rows (l : List Node) : List (List PV) := l.map Node.cells
theorem Node.Q5 (l : List Node) : (Node.rows l).length = l.length := by simp [Node.rows]
theorem Node.Qb {l : List Node} {i : Nat} {x : Node} (h : l[i]? = some x) : (Node.rows l)[i]? = some (Node.cells x) := Go.Pv.Qb h
theorem Node.Q12 (l : List Node) (x : Node) : Node.rows (l ++ [x]) = Node.rows l ++ [Node.cells x] := by simp [Node.rows]
theorem Node.Q2r (l m : List Node) : Node.rows (l ++ m) = Node.rows l ++ Node.rows m := by simp [Node.rows]
theorem Node.Q2l (l : List Node) (k : Nat) (x : Node) : Node.rows (l.set k x) = (Node.rows l).set k (Node.cells x) := by simp [Node.rows, List.map_set]
theorem Node.Qf (l : List Node) : ∀ r ∈ Node.rows l, r.length = 24 := Q2z (f := Node.cells) (fun _ => rfl) l
theorem Node.Q9 (l : List Node) (sz : Nat) (h : sz = 24) : ViewOK sz (Node.rows l).flatten (Node.rows l) := by subst h; exact ⟨rfl, Node.Qf l, Q2k (f := Node.cells) (fun _ => rfl) l⟩
structure Object where
  meta_ : Meta
  spec : Val
  status : Val
def Object.cells (x : Object) : List PV :=
  [.str x.meta_.kind, .str x.meta_.namespace_, .str x.meta_.name, .int .i64 x.meta_.uid, .int .i64 x.meta_.version, .int .i64 x.meta_.generation, .int .i64 x.meta_.created, .bool x.meta_.deleting, .int .i64 x.meta_.deleteAt, .sl (Label.rows x.meta_.labels), .sl (Owner.rows x.meta_.owners), .sl (Qc x.meta_.finalizers), .sl (Manager.rows x.meta_.managers), .int .i64 x.spec.kind, .int .i64 x.spec.n, .str x.spec.s, .sl (Val.rows x.spec.list), .sl (Fld.rows x.spec.fields), .int .i64 x.status.kind, .int .i64 x.status.n, .str x.status.s, .sl (Val.rows x.status.list), .sl (Fld.rows x.status.fields)]
def Object.rows (l : List Object) : List (List PV) := l.map Object.cells
theorem Object.Q5 (l : List Object) : (Object.rows l).length = l.length := by simp [Object.rows]
theorem Object.Qb {l : List Object} {i : Nat} {x : Object} (h : l[i]? = some x) : (Object.rows l)[i]? = some (Object.cells x) := Go.Pv.Qb h
theorem Object.Q12 (l : List Object) (x : Object) : Object.rows (l ++ [x]) = Object.rows l ++ [Object.cells x] := by simp [Object.rows]
theorem Object.Q2r (l m : List Object) : Object.rows (l ++ m) = Object.rows l ++ Object.rows m := by simp [Object.rows]
theorem Object.Q2l (l : List Object) (k : Nat) (x : Object) : Object.rows (l.set k x) = (Object.rows l).set k (Object.cells x) := by simp [Object.rows, List.map_set]
theorem Object.Qf (l : List Object) : ∀ r ∈ Object.rows l, r.length = 23 := Q2z (f := Object.cells) (fun _ => rfl) l
theorem Object.Q9 (l : List Object) (sz : Nat) (h : sz = 23) : ViewOK sz (Object.rows l).flatten (Object.rows l) := by subst h; exact ⟨rfl, Object.Qf l, Q2k (f := Object.cells) (fun _ => rfl) l⟩
def Q1aa (p0 : Meta) : List Manager → Nat → Unit
 | [], _i0 =>
  ()
 | _x0 :: r0, i0 =>
  Q1aa p0 r0 (i0 + 1)
def Q12p (p0 : Meta) (i0 : Nat) : List PV :=
  [.un, .bx 0 0, .bx 1 0] ++ nuns 19 ++ [.int .i64 ((List.length p0.managers) : Int), .int .i64 (i0 : Int)] ++ nuns 16
def Qt5 (p0 : Meta) (_i0 : Nat) : List Ob :=
  [⟨13, 0, true, [.str p0.kind, .str p0.namespace_, .str p0.name, .int .i64 p0.uid, .int .i64 p0.version, .int .i64 p0.generation, .int .i64 p0.created, .bool p0.deleting, .int .i64 p0.deleteAt, .sl (Label.rows p0.labels), .sl (Owner.rows p0.owners), .sl (Qc p0.finalizers), .ms 2 2 0 (List.length p0.managers)]⟩, ⟨13, 0, true, [.str eB, .str eB, .str eB, .int .i64 0, .int .i64 0, .int .i64 0, .int .i64 0, .bool false, .int .i64 0, .ms 3 2 0 0, .ms 4 5 0 0, .ms 5 1 0 0, .ms 6 2 0 0]⟩, ⟨2, 0, true, (Manager.rows p0.managers).flatten⟩, ⟨2, 0, true, []⟩, ⟨5, 0, true, []⟩, ⟨1, 0, true, []⟩, ⟨2, 0, true, []⟩]
def Qtp (p0 : Meta) (i0 : Nat) : En := .loop 0 Ir.Qnx Ir.Q1ki (Q12p p0 i0) (Qt5 p0 i0)
def Qv6 (p0 : Meta) (z : Nat → PV) (_zo : Nat → List PV) : St :=
  ⟨[z 0, .bx 0 0, .bx 1 0] ++ zr z 3 37, [(0, ⟨13, 0, true, [.str p0.kind, .str p0.namespace_, .str p0.name, .int .i64 p0.uid, .int .i64 p0.version, .int .i64 p0.generation, .int .i64 p0.created, .bool p0.deleting, .int .i64 p0.deleteAt, .sl (Label.rows p0.labels), .sl (Owner.rows p0.owners), .sl (Qc p0.finalizers), .ms 2 2 0 (List.length p0.managers)]⟩), (1, ⟨13, 0, true, [.str eB, .str eB, .str eB, .int .i64 0, .int .i64 0, .int .i64 0, .int .i64 0, .bool false, .int .i64 0, .ms 3 2 0 0, .ms 4 5 0 0, .ms 5 1 0 0, .ms 6 2 0 0]⟩), (2, ⟨2, 0, true, (Manager.rows p0.managers).flatten⟩), (3, ⟨2, 0, true, []⟩), (4, ⟨5, 0, true, []⟩), (5, ⟨1, 0, true, []⟩), (6, ⟨2, 0, true, []⟩)], 71⟩
theorem Q1a2 (p0 : Meta) (i0 : Nat) : VOK (Go.Pv.look (number 0 (Qt5 p0 i0))) [(2, Manager.rows p0.managers)] := (VOK.cons (show Seen _ _ from Q3h (ob := ⟨2, 0, true, (Manager.rows p0.managers).flatten⟩) (Manager.Q9 p0.managers 2 rfl)) VOK.nil)
def Qcp (p0 : Meta) (e : En) (_q : Unit) : Prop := ∃ z zo, Q6 G e (.st (.exit 0) (Qv6 p0 z zo))
theorem Quw (p0 : Meta) {e e' : En} (h : ∀ r, Q6 G e r → Q6 G e' r) : ∀ q, Qcp p0 e q → Qcp p0 e' q
  | _, ⟨z, zo, hz⟩ => ⟨z, zo, h _ hz⟩
def Qrt (p0 : Meta) : Prop := (List.length p0.managers ≤ 4611686018427387904) ∧ (∀ x0 ∈ p0.managers, List.length x0.fields * 16 ≤ 140737488355328) ∧ True
def Qva (p0 : Meta) (i0 : Nat) : List PV :=
  nuns 22 ++ [.int .i64 ((List.length p0.managers) : Int), .int .i64 (i0 : Int), .bool false]
def Qoj (_p0 : Meta) (_i0 : Nat) : List (Nat × List PV) :=
  []
theorem Q1a1 (p0 : Meta) (_H : Qrt p0) (i0 : Nat) (hc0 : (decide ((i0 : Int) < ((List.length p0.managers) : Int))) = false) : Qcp p0 (Qtp p0 i0) () := by
 exact ⟨(envF (Qva p0 i0)), (zoF (Qoj p0 i0)), Qe (Q1a2 p0 i0) (x := ((.exit 0), Qv6 p0 (envF (Qva p0 i0)) (zoF (Qoj p0 i0)))) [hB 0 hc0] [] (by kernel_rfl)⟩
theorem Q18y (p0 : Meta) (H : Qrt p0) (x0 : Manager) (i0 : Nat) (hx0 : p0.managers[i0]? = some x0) (hi0 : i0 < List.length p0.managers) (hc0 : (decide ((i0 : Int) < ((List.length p0.managers) : Int))) = true) {r : Rs} (hr : Q6 G (Qtp p0 (i0 + 1)) r) : Q6 G (Qtp p0 i0) r := by
 have hB0 := H.1
 exact Ql (Q1a2 p0 i0) (y := (Q12p p0 (i0 + 1), Qt5 p0 (i0 + 1))) [hB 0 hc0, hP 8 (Q3n 2 2 (List.length p0.managers) (i0 : Int) i0 (by omega) (by omega) (by omega)), hP 1 (Qcc 2 2 0 true ((Manager.rows p0.managers).flatten) (Manager.rows p0.managers) 1 false i0 1 (i0 * 2 + 1) (Manager.cells x0) (.sl (Qc x0.fields)) rfl rfl (Manager.Qb hx0) (Manager.Qf p0.managers) (by decide) rfl), hP 1 (Q3n 2 2 (List.length p0.managers) (i0 : Int) i0 (by omega) (by omega) (by omega)), hV 1 [(2, Manager.rows p0.managers)] (Qmo 2 2 true ((Manager.rows p0.managers).flatten) (Manager.rows p0.managers) (Manager.rows p0.managers) 1 i0 1 (i0 * 2 + 1) _ (.sl (Qc x0.fields)) rfl rfl (Manager.Qb hx0) (Manager.Qf p0.managers) (by decide) rfl rfl (Qz8 (Manager.Qb hx0))), hS 0 true (Manager.Q9 p0.managers 2 rfl), hP 0 (Q27 i0 (by omega))] [aN (Q6k (G := G) (f := 82) (sz := 1) (bytes := 16) rfl (Q17 x0.fields) (Q6h x0.fields 1 rfl) (H.2.1 x0 (Q2c hx0)))] (by kernel_rfl) hr
theorem Q104 (p0 : Meta) (H : Qrt p0) : ∀ (r0 : List Manager) (i0 : Nat), List.drop i0 p0.managers = r0 → Qcp p0 (Qtp p0 i0) (Q1aa p0 r0 i0)
 | [], i0, hd => by
  have hc0 : (decide ((i0 : Int) < ((List.length p0.managers) : Int))) = false := by have := Q1f hd; simp; omega
  show Qcp p0 _ ()
  exact Q1a1 p0 H i0 hc0
 | x0 :: r0, i0, hd => by
  obtain ⟨hx0, hi0, hd'⟩ := Q11 hd
  have hc0 : (decide ((i0 : Int) < ((List.length p0.managers) : Int))) = true := by simp; omega
  show Qcp p0 _ ()
  exact Quw p0 (fun r hr => Q18y p0 H x0 i0 hx0 hi0 hc0 hr) _ (Q104 p0 H r0 (i0 + 1) hd')
def s_Kf (p0 : Meta) : Meta := p0
theorem e_Kf (p0 : Meta) : s_Kf p0 = (p0) := by
  rfl
def c_Kf (p0 : Meta) : En := .call 31 [.agg (Meta.cells p0)] []
def a_Kf (p0 : Meta) : Rs := .ret (.agg (Meta.cells (s_Kf p0))) []
def H_Kf (p0 : Meta) : Prop := (List.length p0.labels * 32 ≤ 140737488355328) ∧ (List.length p0.owners * 48 ≤ 140737488355328) ∧ (List.length p0.finalizers * 16 ≤ 140737488355328) ∧ (List.length p0.managers * 40 ≤ 140737488355328) ∧ (Qrt p0) ∧ True
theorem t_Kf (p0 : Meta) (H : H_Kf p0) : Q6 G (c_Kf p0) (a_Kf p0) := by
 unfold a_Kf
 rw [e_Kf]
 have hl0 := Q104 p0 (H.2.2.2.2.1) p0.managers 0 (by simp)
 obtain ⟨z0, zo0, hl0⟩ := hl0
 exact Q7 (fn := Ir.Kf) rfl VOK.nil [hQ (Manager.Q9 p0.managers 2 rfl), hS 0 true (Manager.Q9 p0.managers 2 rfl), hQ (Manager.Q5 p0.managers).symm] [aN (Q6k (G := G) (f := 80) (sz := 2) (bytes := 32) rfl (Label.Q5 p0.labels) (Label.Q9 p0.labels 2 rfl) H.1), aN (Q6k (G := G) (f := 81) (sz := 5) (bytes := 48) rfl (Owner.Q5 p0.owners) (Owner.Q9 p0.owners 5 rfl) H.2.1), aN (Q6k (G := G) (f := 82) (sz := 1) (bytes := 16) rfl (Q17 p0.finalizers) (Q6h p0.finalizers 1 rfl) H.2.2.1), aV [(0, Manager.rows p0.managers)] (Q81 (G := G) (f := 83) (sz := 2) (bytes := 40) rfl (Manager.Q5 p0.managers) (Manager.Q9 p0.managers 2 rfl) H.2.2.2.1), aV [(2, Manager.rows p0.managers)] hl0] (by kernel_rfl)
end Go.Proofs.YtiflaadeikaghaaGreat
end

section
/- Pods, nodes and templates to and from objects (printed by a program). -/
namespace Go.Proofs.YtiflaadeikaghaaGreat
open Go.Pv
def zPod : Pod := (Pod.mk (Meta.mk eB eB eB 0 0 0 0 false 0 [] [] [] []) (PodSpec.mk eB 0 0 0 [] [] [] [] [] []) (PodStatus.mk 0 false 0 0 0 [] 0 eB eB))
def Pod.obj (x : Pod) : Object := ⟨{ x.meta_ with kind := Q29 }, PodSpec.enc x.spec, PodStatus.enc x.status⟩
def Node.encS (x : Node) : Val := vM [.mk Qyx (Resources.enc x.capacity), .mk Qyz (vB x.cordoned), .mk Q14r (vN x.maxPods), .mk Q1ao (vL (x.taints.map Taint.enc))]
def Node.encT (x : Node) : Val := vM [.mk Q1fd (vN x.beat), .mk Q1al (vL (x.images.map Image.enc)), .mk Q175 (vB x.lowDisk), .mk Q19k (vB x.lowMem), .mk Qn (vB x.ready)]
def Node.obj (x : Node) : Object := ⟨{ x.meta_ with kind := Q1g2 }, Node.encS x, Node.encT x⟩
def podQ (o : Object) : Bool := (PodSpec.dec o.spec).2 && (PodStatus.dec o.status).2
def Qjj (o : Object) : Pod := ⟨o.meta_, (PodSpec.dec o.spec).1, (PodStatus.dec o.status).1⟩
def podR (o : Object) : Pod × Int := bif !(sEq o.meta_.kind Q29) || !(podQ o) then (zPod, 6) else (Qjj o, 0)
def Pod.sm (x : Pod) : Prop := PodSpec.sm x.spec ∧ PodStatus.sm x.status
def Node.sm (x : Node) : Prop := LSm Taint.sm x.taints ∧ LSm Image.sm x.images
def Object.sm (x : Object) : Prop := Val.Sm sB x.spec ∧ Val.Sm sB x.status
theorem Node.Q1g1 {x : Node} (h : Node.sm x) : Val.Sm sB (Node.encS x) := Q92 (Nat.le_of_ble_eq_true rfl) (List.forall_mem_cons.2 ⟨Resources.Q24 trivial, List.forall_mem_cons.2 ⟨Val.Sm.leaf 1 _ _, List.forall_mem_cons.2 ⟨Val.Sm.leaf 2 _ _, List.forall_mem_cons.2 ⟨Q2x (fun _ h => Taint.Q24 h) h.1, fun _ h => by cases h⟩⟩⟩⟩)
theorem Node.Q1gm {x : Node} (h : Node.sm x) : Val.Sm sB (Node.encT x) := Q92 (Nat.le_of_ble_eq_true rfl) (List.forall_mem_cons.2 ⟨Val.Sm.leaf 2 _ _, List.forall_mem_cons.2 ⟨Q2x (fun _ h => Image.Q24 h) h.2, List.forall_mem_cons.2 ⟨Val.Sm.leaf 1 _ _, List.forall_mem_cons.2 ⟨Val.Sm.leaf 1 _ _, List.forall_mem_cons.2 ⟨Val.Sm.leaf 1 _ _, fun _ h => by cases h⟩⟩⟩⟩⟩)
theorem Pod.Q10d {x : Pod} (h : Pod.sm x) : Object.sm (Pod.obj x) := ⟨PodSpec.Q24 h.1, PodStatus.Q24 h.2⟩
theorem Node.Q10d {x : Node} (h : Node.sm x) : Object.sm (Node.obj x) := ⟨Node.Q1g1 h, Node.Q1gm h⟩
def s_Ka (p0 : Pod) : Object := Pod.obj p0
theorem e_Ka (p0 : Pod) : s_Ka p0 = ((Object.mk (Meta.mk Q29 p0.meta_.namespace_ p0.meta_.name p0.meta_.uid p0.meta_.version p0.meta_.generation p0.meta_.created p0.meta_.deleting p0.meta_.deleteAt p0.meta_.labels p0.meta_.owners p0.meta_.finalizers p0.meta_.managers) (Q1fl p0.spec) (Q1fy p0.status))) := by
  rfl
def c_Ka (p0 : Pod) : En := .call 21 [.agg (Pod.cells p0)] []
def a_Ka (p0 : Pod) : Rs := .ret (.agg (Object.cells (s_Ka p0))) []
def H_Ka (p0 : Pod) : Prop := H_Kf p0.meta_ ∧ Pod.sm p0
theorem Qye (p0 : Pod) (H : H_Ka p0) : (H_Kf p0.meta_) ∧ (Q1ff p0.spec) ∧ (Q1f7 p0.status) ∧ True := by
  repeat' with_reducible apply And.intro
  all_goals first | exact True.intro | exact H.1 | exact H.2.1 | exact H.2.2
theorem t_Ka (p0 : Pod) (H : H_Ka p0) : Q6 G (c_Ka p0) (a_Ka p0) := by
 unfold a_Ka
 rw [e_Ka]
 exact Q7 (fn := Ir.Ka) rfl VOK.nil [] [aN (t_Kf p0.meta_ (Qye p0 H).1), aN (Q1nr p0.spec (Qye p0 H).2.1), aN (Q1m5 p0.status (Qye p0 H).2.2.1)] (by kernel_rfl)
def Q7q (p0 : Pod) : Object := Pod.obj p0
theorem Q1n3 (p0 : Pod) : Q7q p0 = ((Object.mk (Meta.mk Q29 p0.meta_.namespace_ p0.meta_.name p0.meta_.uid p0.meta_.version p0.meta_.generation p0.meta_.created p0.meta_.deleting p0.meta_.deleteAt p0.meta_.labels p0.meta_.owners p0.meta_.finalizers p0.meta_.managers) (Q1fi p0.spec) (Q1f0 p0.status))) := by
  rfl
def Q1og (p0 : Pod) : En := .call 25 [.agg (Pod.cells p0)] []
def Q1jd (p0 : Pod) : Rs := .ret (.agg (Object.cells (Q7q p0))) []
def Q1ab (p0 : Pod) : Prop := Pod.sm p0
theorem Q12j (p0 : Pod) (H : Q1ab p0) : (Q1ft p0.spec) ∧ (Q1ey p0.status) ∧ True := by
  repeat' with_reducible apply And.intro
  all_goals first | exact True.intro | exact H.1 | exact H.2
theorem Q18x (p0 : Pod) (H : Q1ab p0) : Q6 G (Q1og p0) (Q1jd p0) := by
 unfold Q1jd
 rw [Q1n3]
 exact Q7 (fn := Ir.K2b) rfl VOK.nil [] [aN (Q1ns p0.spec (Q12j p0 H).1), aN (Q1nu p0.status (Q12j p0 H).2.1)] (by kernel_rfl)
def s_Kd (p0 : Object) : Pod × Int := podR p0
theorem e_Kd (p0 : Object) : s_Kd p0 = (bif (s_Ku p0.status (s_Ks p0.spec (Decoder.mk (!(sEq p0.meta_.kind Q29)))).2).2.failed then
    ((Pod.mk (Meta.mk eB eB eB 0 0 0 0 false 0 [] [] [] []) (PodSpec.mk eB 0 0 0 [] [] [] [] [] []) (PodStatus.mk 0 false 0 0 0 [] 0 eB eB)), 6)
  else
    ((Pod.mk p0.meta_ (s_Ks p0.spec (Decoder.mk (!(sEq p0.meta_.kind Q29)))).1 (s_Ku p0.status (s_Ks p0.spec (Decoder.mk (!(sEq p0.meta_.kind Q29)))).2).1), 0)) := by
  unfold s_Kd podR podQ
  simp only [s_Ks, s_Ku, ft]
  cases (sEq p0.meta_.kind Q29) <;> cases (PodSpec.dec p0.spec).2 <;> cases (PodStatus.dec p0.status).2 <;> rfl
def c_Kd (p0 : Object) : En := .call 11 [.agg (Object.cells p0)] []
def a_Kd (p0 : Object) : Rs := .ret (.tup [.agg (Pod.cells (s_Kd p0).1), .int .i64 (s_Kd p0).2]) []
def H_Kd (p0 : Object) : Prop := H_Kf p0.meta_ ∧ Object.sm p0
theorem Qd2 (p0 : Object) (H : H_Kd p0) : (H_Kf p0.meta_) ∧ (H_Ks p0.spec) ∧ (H_Ku p0.status) ∧ True := by
  repeat' with_reducible apply And.intro
  all_goals first | exact True.intro | exact H.1 | exact H.2.1 | exact H.2.2
theorem t_Kd (p0 : Object) (H : H_Kd p0) : Q6 G (c_Kd p0) (a_Kd p0) := by
 unfold a_Kd
 rw [e_Kd]
 cases h0 : (s_Ku p0.status (s_Ks p0.spec (Decoder.mk (!(sEq p0.meta_.kind Q29)))).2).2.failed with
 | true =>
  exact Q7 (fn := Ir.Kd) rfl VOK.nil [hP 27 (decR (s_Ku p0.status (s_Ks p0.spec (Decoder.mk (!(sEq p0.meta_.kind Q29)))).2).2.failed true [512] h0)] [aN (t_Kf p0.meta_ (Qd2 p0 H).1), aN (t_Ks p0.spec (Decoder.mk (!(sEq p0.meta_.kind Q29))) (Qd2 p0 H).2.1), aN (t_Ku p0.status (s_Ks p0.spec (Decoder.mk (!(sEq p0.meta_.kind Q29)))).2 (Qd2 p0 H).2.2.1)] (by kernel_rfl)
 | false =>
  exact Q7 (fn := Ir.Kd) rfl VOK.nil [hP 27 (decR (s_Ku p0.status (s_Ks p0.spec (Decoder.mk (!(sEq p0.meta_.kind Q29)))).2).2.failed false [512] h0)] [aN (t_Kf p0.meta_ (Qd2 p0 H).1), aN (t_Ks p0.spec (Decoder.mk (!(sEq p0.meta_.kind Q29))) (Qd2 p0 H).2.1), aN (t_Ku p0.status (s_Ks p0.spec (Decoder.mk (!(sEq p0.meta_.kind Q29)))).2 (Qd2 p0 H).2.2.1)] (by kernel_rfl)
end Go.Proofs.YtiflaadeikaghaaGreat
end

section
/- Equality of metadata and objects; what is small (printed by a program). -/
namespace Go.Proofs.YtiflaadeikaghaaGreat
open Go.Pv
inductive Q10x where
  | k0
  | k1
def Q61 (p0 : List Label) (p1 : List Label) : List Label → Nat → Q10x
 | [], _i0 =>
  (.k0)
 | x0 :: r0, i0 =>
  bif ((sEq x0.key (List.getD p1 i0 (Label.mk eB eB)).key) && ((sEq x0.value (List.getD p1 i0 (Label.mk eB eB)).value) && true)) then
   Q61 p0 p1 r0 (i0 + 1)
  else
   (.k1)
def Quf (p0 : List Label) (p1 : List Label) (i0 : Nat) : List PV :=
  [.sl (Label.rows p0), .sl (Label.rows p1), .un, .un, .un, .int .i64 (i0 : Int)] ++ nuns 20
def Qug (_p0 : List Label) (_p1 : List Label) (_i0 : Nat) : List Ob :=
  []
def Qc3 (p0 : List Label) (p1 : List Label) (i0 : Nat) : En := .loop 0 Ir.Qlp Ir.Q1di (Quf p0 p1 i0) (Qug p0 p1 i0)
def Qp1 (_p0 : List Label) (_p1 : List Label) (z : Nat → PV) (_zo : Nat → List PV) : St :=
  ⟨zr z 0 26, [], 256⟩
def Qoz (_p0 : List Label) (_p1 : List Label) (z : Nat → PV) (_zo : Nat → List PV) : St :=
  ⟨[z 0, z 1, z 2, z 3, .bool false] ++ zr z 5 21, [], 896⟩
def Qax (p0 : List Label) (p1 : List Label) (e : En) : Q10x → Prop
  | .k0 => ∃ z zo, Q6 G e (.st (.exit 0) (Qp1 p0 p1 z zo))
  | .k1 => ∃ z zo, Q6 G e (.st .ret (Qoz p0 p1 z zo))
theorem Qsp (p0 : List Label) (p1 : List Label) {e e' : En} (h : ∀ r, Q6 G e r → Q6 G e' r) : ∀ q, Qax p0 p1 e q → Qax p0 p1 e' q
  | .k0, ⟨z, zo, hz⟩ => ⟨z, zo, h _ hz⟩
  | .k1, ⟨z, zo, hz⟩ => ⟨z, zo, h _ hz⟩
def Qb8 (p0 : List Label) (p1 : List Label) : Prop := (List.length p0 ≤ 4611686018427387904) ∧ (∀ (i0 : Nat) (x0 : Label), p0[i0]? = some x0 → i0 < List.length p1) ∧ True
def Qnc (p0 : List Label) (p1 : List Label) (i0 : Nat) : List PV :=
  [.sl (Label.rows p0), .sl (Label.rows p1), .un, .un, .un, .int .i64 (i0 : Int)] ++ nuns 5 ++ [.int .i64 (i0 : Int), .sl (Label.rows p0), .int .i64 ((List.length p0) : Int), .bool false]
def Qme (_p0 : List Label) (_p1 : List Label) (_i0 : Nat) : List (Nat × List PV) :=
  []
theorem Q178 (p0 : List Label) (p1 : List Label) (_H : Qb8 p0 p1) (i0 : Nat) (hc0 : (decide ((i0 : Int) < ((List.length p0) : Int))) = false) : Qax p0 p1 (Qc3 p0 p1 i0) (.k0) := by
 exact ⟨(envF (Qnc p0 p1 i0)), (zoF (Qme p0 p1 i0)), Qe VOK.nil (x := ((.exit 0), Qp1 p0 p1 (envF (Qnc p0 p1 i0)) (zoF (Qme p0 p1 i0)))) [hP 2 (Qd (Label.rows p0) (List.length p0) (Label.Q5 p0)), hB 0 hc0] [] (by kernel_rfl)⟩
theorem Q14o (p0 : List Label) (p1 : List Label) (H : Qb8 p0 p1) (x0 : Label) (i0 : Nat) (hx0 : p0[i0]? = some x0) (hi0 : i0 < List.length p0) (hc0 : (decide ((i0 : Int) < ((List.length p0) : Int))) = true) (h0 : ((sEq x0.key (List.getD p1 i0 (Label.mk eB eB)).key) && ((sEq x0.value (List.getD p1 i0 (Label.mk eB eB)).value) && true)) = true) {r : Rs} (hr : Q6 G (Qc3 p0 p1 (i0 + 1)) r) : Q6 G (Qc3 p0 p1 i0) r := by
 have hB0 := H.1
 exact Ql VOK.nil (y := (Quf p0 p1 (i0 + 1), Qug p0 p1 (i0 + 1))) [hP 2 (Qd (Label.rows p0) (List.length p0) (Label.Q5 p0)), hB 0 hc0, hP 2 (Q1u 2 (Label.rows p0) i0 _ (Label.Qb hx0) rfl), hP 3 (Q1u 2 (Label.rows p1) i0 _ (Label.Qb (Q23 p1 i0 (Label.mk eB eB) ((H.2.1 i0 x0 hx0)))) rfl), hP 1 (dec (!((sEq x0.key (List.getD p1 i0 (Label.mk eB eB)).key) && ((sEq x0.value (List.getD p1 i0 (Label.mk eB eB)).value) && true))) false (by rw [h0]; rfl)), hP 1 (Q27 i0 (by omega))] [] (by kernel_rfl) hr
def Qp3 (p0 : List Label) (p1 : List Label) (i0 : Nat) (x0 : Label) : List PV :=
  [.sl (Label.rows p0), .sl (Label.rows p1), .un, .un, .un, .int .i64 (i0 : Int)] ++ nuns 5 ++ [.int .i64 (i0 : Int), .sl (Label.rows p0), .int .i64 ((List.length p0) : Int), .bool true, .un, .un, .sl (Label.rows p0), .int .i64 (i0 : Int), .rf [.str x0.key, .str x0.value], .agg [.str x0.key, .str x0.value], .sl (Label.rows p1), .int .i64 (i0 : Int), .rf [.str (List.getD p1 i0 (Label.mk eB eB)).key, .str (List.getD p1 i0 (Label.mk eB eB)).value], .agg [.str (List.getD p1 i0 (Label.mk eB eB)).key, .str (List.getD p1 i0 (Label.mk eB eB)).value], .bool true]
def Qjc (_p0 : List Label) (_p1 : List Label) (_i0 : Nat) (_x0 : Label) : List (Nat × List PV) :=
  []
theorem Q15g (p0 : List Label) (p1 : List Label) (H : Qb8 p0 p1) (x0 : Label) (i0 : Nat) (hx0 : p0[i0]? = some x0) (_hi0 : i0 < List.length p0) (hc0 : (decide ((i0 : Int) < ((List.length p0) : Int))) = true) (h0 : ((sEq x0.key (List.getD p1 i0 (Label.mk eB eB)).key) && ((sEq x0.value (List.getD p1 i0 (Label.mk eB eB)).value) && true)) = false) : Qax p0 p1 (Qc3 p0 p1 i0) (.k1) := by
 exact ⟨(envF (Qp3 p0 p1 i0 x0)), (zoF (Qjc p0 p1 i0 x0)), Qe VOK.nil (x := (.ret, Qoz p0 p1 (envF (Qp3 p0 p1 i0 x0)) (zoF (Qjc p0 p1 i0 x0)))) [hP 2 (Qd (Label.rows p0) (List.length p0) (Label.Q5 p0)), hB 0 hc0, hP 2 (Q1u 2 (Label.rows p0) i0 _ (Label.Qb hx0) rfl), hP 3 (Q1u 2 (Label.rows p1) i0 _ (Label.Qb (Q23 p1 i0 (Label.mk eB eB) ((H.2.1 i0 x0 hx0)))) rfl), hP 1 (dec (!((sEq x0.key (List.getD p1 i0 (Label.mk eB eB)).key) && ((sEq x0.value (List.getD p1 i0 (Label.mk eB eB)).value) && true))) true (by rw [h0]; rfl))] [] (by kernel_rfl)⟩
theorem Qwz (p0 : List Label) (p1 : List Label) (H : Qb8 p0 p1) : ∀ (r0 : List Label) (i0 : Nat), List.drop i0 p0 = r0 → Qax p0 p1 (Qc3 p0 p1 i0) (Q61 p0 p1 r0 i0)
 | [], i0, hd => by
  have hc0 : (decide ((i0 : Int) < ((List.length p0) : Int))) = false := by have := Q1f hd; simp; omega
  rw [Q61]
  exact Q178 p0 p1 H i0 hc0
 | x0 :: r0, i0, hd => by
  obtain ⟨hx0, hi0, hd'⟩ := Q11 hd
  have hc0 : (decide ((i0 : Int) < ((List.length p0) : Int))) = true := by simp; omega
  rw [Q61]
  cases h0 : ((sEq x0.key (List.getD p1 i0 (Label.mk eB eB)).key) && ((sEq x0.value (List.getD p1 i0 (Label.mk eB eB)).value) && true)) with
  | true =>
   exact Qsp p0 p1 (fun r hr => Q14o p0 p1 H x0 i0 hx0 hi0 hc0 h0 hr) _ (Qwz p0 p1 H r0 (i0 + 1) hd')
  | false =>
   exact Q15g p0 p1 H x0 i0 hx0 hi0 hc0 h0
def Qd8 (p0 : List Label) (p1 : List Label) : Bool :=
 bif (((List.length p0) : Int) == ((List.length p1) : Int)) then
  (match (Q61 p0 p1 p0 0) with
  | .k0 => true
  | .k1 => false)
 else
  false
def Q1l0 (p0 : List Label) (p1 : List Label) : En := .call 122 [.sl (Label.rows p0), .sl (Label.rows p1)] []
def Q1i9 (p0 : List Label) (p1 : List Label) : Rs := .ret (.bool (Qd8 p0 p1)) []
def Q1j2 (p0 : List Label) (p1 : List Label) : Prop := ((((List.length p0) : Int) == ((List.length p1) : Int)) = true → Qb8 p0 p1) ∧ True
theorem Qza (p0 : List Label) (p1 : List Label) (H : Q1j2 p0 p1) : Q6 G (Q1l0 p0 p1) (Q1i9 p0 p1) := by
 unfold Q1i9 Qd8
 cases h0 : (((List.length p0) : Int) == ((List.length p1) : Int)) with
 | true =>
  have hl1 := Qwz p0 p1 (H.1 h0) p0 0 (by simp)
  cases hr1 : (Q61 p0 p1 p0 0) with
  | k0 =>
   rw [hr1] at hl1
   obtain ⟨z1, zo1, hl1⟩ := hl1
   exact Q7 (fn := Ir.K24) rfl VOK.nil [hP 2 (Qd (Label.rows p0) (List.length p0) (Label.Q5 p0)), hP 1 (Qd (Label.rows p1) (List.length p1) (Label.Q5 p1)), hP 0 (dec (!(((List.length p0) : Int) == ((List.length p1) : Int))) false (by rw [h0]; rfl))] [aN hl1] (by kernel_rfl)
  | k1 =>
   rw [hr1] at hl1
   obtain ⟨z1, zo1, hl1⟩ := hl1
   exact Q7 (fn := Ir.K24) rfl VOK.nil [hP 2 (Qd (Label.rows p0) (List.length p0) (Label.Q5 p0)), hP 1 (Qd (Label.rows p1) (List.length p1) (Label.Q5 p1)), hP 0 (dec (!(((List.length p0) : Int) == ((List.length p1) : Int))) false (by rw [h0]; rfl))] [aN hl1] (by kernel_rfl)
 | false =>
  exact Q7 (fn := Ir.K24) rfl VOK.nil [hP 2 (Qd (Label.rows p0) (List.length p0) (Label.Q5 p0)), hP 1 (Qd (Label.rows p1) (List.length p1) (Label.Q5 p1)), hP 0 (dec (!(((List.length p0) : Int) == ((List.length p1) : Int))) true (by rw [h0]; rfl))] [] (by kernel_rfl)
inductive Q11j where
  | k0
  | k1
def Q5w (p0 : List ByteArray) (p1 : List ByteArray) : List ByteArray → Nat → Q11j
 | [], _i0 =>
  (.k0)
 | x0 :: r0, i0 =>
  bif (sEq x0 (List.getD p1 i0 eB)) then
   Q5w p0 p1 r0 (i0 + 1)
  else
   (.k1)
def Qwn (p0 : List ByteArray) (p1 : List ByteArray) (i0 : Nat) : List PV :=
  [.sl (Qc p0), .sl (Qc p1), .un, .un, .un, .int .i64 (i0 : Int)] ++ nuns 20
def Quj (_p0 : List ByteArray) (_p1 : List ByteArray) (_i0 : Nat) : List Ob :=
  []
def Qbz (p0 : List ByteArray) (p1 : List ByteArray) (i0 : Nat) : En := .loop 0 Ir.Qmh Ir.Q1dc (Qwn p0 p1 i0) (Quj p0 p1 i0)
def Qpp (_p0 : List ByteArray) (_p1 : List ByteArray) (z : Nat → PV) (_zo : Nat → List PV) : St :=
  ⟨zr z 0 26, [], 256⟩
def Qmy (_p0 : List ByteArray) (_p1 : List ByteArray) (z : Nat → PV) (_zo : Nat → List PV) : St :=
  ⟨[z 0, z 1, z 2, z 3, .bool false] ++ zr z 5 21, [], 896⟩
def Qbl (p0 : List ByteArray) (p1 : List ByteArray) (e : En) : Q11j → Prop
  | .k0 => ∃ z zo, Q6 G e (.st (.exit 0) (Qpp p0 p1 z zo))
  | .k1 => ∃ z zo, Q6 G e (.st .ret (Qmy p0 p1 z zo))
theorem Qsu (p0 : List ByteArray) (p1 : List ByteArray) {e e' : En} (h : ∀ r, Q6 G e r → Q6 G e' r) : ∀ q, Qbl p0 p1 e q → Qbl p0 p1 e' q
  | .k0, ⟨z, zo, hz⟩ => ⟨z, zo, h _ hz⟩
  | .k1, ⟨z, zo, hz⟩ => ⟨z, zo, h _ hz⟩
def Qbq (p0 : List ByteArray) (p1 : List ByteArray) : Prop := (List.length p0 ≤ 4611686018427387904) ∧ (∀ (i0 : Nat) (x0 : BA), p0[i0]? = some x0 → i0 < List.length p1) ∧ True
def Qof (p0 : List ByteArray) (p1 : List ByteArray) (i0 : Nat) : List PV :=
  [.sl (Qc p0), .sl (Qc p1), .un, .un, .un, .int .i64 (i0 : Int)] ++ nuns 5 ++ [.int .i64 (i0 : Int), .sl (Qc p0), .int .i64 ((List.length p0) : Int), .bool false]
def Qm2 (_p0 : List ByteArray) (_p1 : List ByteArray) (_i0 : Nat) : List (Nat × List PV) :=
  []
theorem Q15u (p0 : List ByteArray) (p1 : List ByteArray) (_H : Qbq p0 p1) (i0 : Nat) (hc0 : (decide ((i0 : Int) < ((List.length p0) : Int))) = false) : Qbl p0 p1 (Qbz p0 p1 i0) (.k0) := by
 exact ⟨(envF (Qof p0 p1 i0)), (zoF (Qm2 p0 p1 i0)), Qe VOK.nil (x := ((.exit 0), Qpp p0 p1 (envF (Qof p0 p1 i0)) (zoF (Qm2 p0 p1 i0)))) [hP 2 (Qd (Qc p0) (List.length p0) (Q17 p0)), hB 0 hc0] [] (by kernel_rfl)⟩
theorem Q158 (p0 : List ByteArray) (p1 : List ByteArray) (H : Qbq p0 p1) (x0 : BA) (i0 : Nat) (hx0 : p0[i0]? = some x0) (hi0 : i0 < List.length p0) (hc0 : (decide ((i0 : Int) < ((List.length p0) : Int))) = true) (h0 : (sEq x0 (List.getD p1 i0 eB)) = true) {r : Rs} (hr : Q6 G (Qbz p0 p1 (i0 + 1)) r) : Q6 G (Qbz p0 p1 i0) r := by
 have hB0 := H.1
 exact Ql VOK.nil (y := (Qwn p0 p1 (i0 + 1), Quj p0 p1 (i0 + 1))) [hP 2 (Qd (Qc p0) (List.length p0) (Q17 p0)), hB 0 hc0, hP 2 (Q1u 1 (Qc p0) i0 _ (Q3k hx0) rfl), hP 3 (Q1u 1 (Qc p1) i0 _ (Q3k (Q23 p1 i0 eB ((H.2.1 i0 x0 hx0)))) rfl), hP 1 (dec (!(sEq x0 (List.getD p1 i0 eB))) false (by rw [h0]; rfl)), hP 1 (Q27 i0 (by omega))] [] (by kernel_rfl) hr
def Qor (p0 : List ByteArray) (p1 : List ByteArray) (i0 : Nat) (x0 : BA) : List PV :=
  [.sl (Qc p0), .sl (Qc p1), .un, .un, .un, .int .i64 (i0 : Int)] ++ nuns 5 ++ [.int .i64 (i0 : Int), .sl (Qc p0), .int .i64 ((List.length p0) : Int), .bool true, .un, .un, .sl (Qc p0), .int .i64 (i0 : Int), .rf [.str x0], .str x0, .sl (Qc p1), .int .i64 (i0 : Int), .rf [.str (List.getD p1 i0 eB)], .str (List.getD p1 i0 eB), .bool true]
def Qkz (_p0 : List ByteArray) (_p1 : List ByteArray) (_i0 : Nat) (_x0 : BA) : List (Nat × List PV) :=
  []
theorem Q161 (p0 : List ByteArray) (p1 : List ByteArray) (H : Qbq p0 p1) (x0 : BA) (i0 : Nat) (hx0 : p0[i0]? = some x0) (_hi0 : i0 < List.length p0) (hc0 : (decide ((i0 : Int) < ((List.length p0) : Int))) = true) (h0 : (sEq x0 (List.getD p1 i0 eB)) = false) : Qbl p0 p1 (Qbz p0 p1 i0) (.k1) := by
 exact ⟨(envF (Qor p0 p1 i0 x0)), (zoF (Qkz p0 p1 i0 x0)), Qe VOK.nil (x := (.ret, Qmy p0 p1 (envF (Qor p0 p1 i0 x0)) (zoF (Qkz p0 p1 i0 x0)))) [hP 2 (Qd (Qc p0) (List.length p0) (Q17 p0)), hB 0 hc0, hP 2 (Q1u 1 (Qc p0) i0 _ (Q3k hx0) rfl), hP 3 (Q1u 1 (Qc p1) i0 _ (Q3k (Q23 p1 i0 eB ((H.2.1 i0 x0 hx0)))) rfl), hP 1 (dec (!(sEq x0 (List.getD p1 i0 eB))) true (by rw [h0]; rfl))] [] (by kernel_rfl)⟩
theorem Qve (p0 : List ByteArray) (p1 : List ByteArray) (H : Qbq p0 p1) : ∀ (r0 : List ByteArray) (i0 : Nat), List.drop i0 p0 = r0 → Qbl p0 p1 (Qbz p0 p1 i0) (Q5w p0 p1 r0 i0)
 | [], i0, hd => by
  have hc0 : (decide ((i0 : Int) < ((List.length p0) : Int))) = false := by have := Q1f hd; simp; omega
  rw [Q5w]
  exact Q15u p0 p1 H i0 hc0
 | x0 :: r0, i0, hd => by
  obtain ⟨hx0, hi0, hd'⟩ := Q11 hd
  have hc0 : (decide ((i0 : Int) < ((List.length p0) : Int))) = true := by simp; omega
  rw [Q5w]
  cases h0 : (sEq x0 (List.getD p1 i0 eB)) with
  | true =>
   exact Qsu p0 p1 (fun r hr => Q158 p0 p1 H x0 i0 hx0 hi0 hc0 h0 hr) _ (Qve p0 p1 H r0 (i0 + 1) hd')
  | false =>
   exact Q161 p0 p1 H x0 i0 hx0 hi0 hc0 h0
def Qa1 (p0 : List ByteArray) (p1 : List ByteArray) : Bool :=
 bif (((List.length p0) : Int) == ((List.length p1) : Int)) then
  (match (Q5w p0 p1 p0 0) with
  | .k0 => true
  | .k1 => false)
 else
  false
def Q1n0 (p0 : List ByteArray) (p1 : List ByteArray) : En := .call 123 [.sl (Qc p0), .sl (Qc p1)] []
def Q1ho (p0 : List ByteArray) (p1 : List ByteArray) : Rs := .ret (.bool (Qa1 p0 p1)) []
def Q1eh (p0 : List ByteArray) (p1 : List ByteArray) : Prop := ((((List.length p0) : Int) == ((List.length p1) : Int)) = true → Qbq p0 p1) ∧ True
theorem Qu0 (p0 : List ByteArray) (p1 : List ByteArray) (H : Q1eh p0 p1) : Q6 G (Q1n0 p0 p1) (Q1ho p0 p1) := by
 unfold Q1ho Qa1
 cases h0 : (((List.length p0) : Int) == ((List.length p1) : Int)) with
 | true =>
  have hl1 := Qve p0 p1 (H.1 h0) p0 0 (by simp)
  cases hr1 : (Q5w p0 p1 p0 0) with
  | k0 =>
   rw [hr1] at hl1
   obtain ⟨z1, zo1, hl1⟩ := hl1
   exact Q7 (fn := Ir.K25) rfl VOK.nil [hP 2 (Qd (Qc p0) (List.length p0) (Q17 p0)), hP 1 (Qd (Qc p1) (List.length p1) (Q17 p1)), hP 0 (dec (!(((List.length p0) : Int) == ((List.length p1) : Int))) false (by rw [h0]; rfl))] [aN hl1] (by kernel_rfl)
  | k1 =>
   rw [hr1] at hl1
   obtain ⟨z1, zo1, hl1⟩ := hl1
   exact Q7 (fn := Ir.K25) rfl VOK.nil [hP 2 (Qd (Qc p0) (List.length p0) (Q17 p0)), hP 1 (Qd (Qc p1) (List.length p1) (Q17 p1)), hP 0 (dec (!(((List.length p0) : Int) == ((List.length p1) : Int))) false (by rw [h0]; rfl))] [aN hl1] (by kernel_rfl)
 | false =>
  exact Q7 (fn := Ir.K25) rfl VOK.nil [hP 2 (Qd (Qc p0) (List.length p0) (Q17 p0)), hP 1 (Qd (Qc p1) (List.length p1) (Q17 p1)), hP 0 (dec (!(((List.length p0) : Int) == ((List.length p1) : Int))) true (by rw [h0]; rfl))] [] (by kernel_rfl)
inductive Q12g where
  | k0
  | k1
def Q5v (p0 : Meta) (p1 : Meta) : List Owner → Nat → Q12g
 | [], _i0 =>
  (.k0)
 | x0 :: r0, i0 =>
  bif ((sEq x0.kind (List.getD p1.owners i0 (Owner.mk eB eB 0 false false)).kind) && ((sEq x0.name (List.getD p1.owners i0 (Owner.mk eB eB 0 false false)).name) && ((x0.uid == (List.getD p1.owners i0 (Owner.mk eB eB 0 false false)).uid) && ((x0.controller == (List.getD p1.owners i0 (Owner.mk eB eB 0 false false)).controller) && ((x0.block == (List.getD p1.owners i0 (Owner.mk eB eB 0 false false)).block) && true))))) then
   Q5v p0 p1 r0 (i0 + 1)
  else
   (.k1)
def Qx3 (_p0 : Meta) (_p1 : Meta) (i0 : Nat) : List PV :=
  [.un, .un, .bx 0 0, .bx 1 0, .un, .int .i64 (i0 : Int)] ++ nuns 148
def Quh (p0 : Meta) (p1 : Meta) (_i0 : Nat) : List Ob :=
  [⟨13, 0, true, [.str p0.kind, .str p0.namespace_, .str p0.name, .int .i64 p0.uid, .int .i64 p0.version, .int .i64 p0.generation, .int .i64 p0.created, .bool p0.deleting, .int .i64 p0.deleteAt, .sl (Label.rows p0.labels), .sl (Owner.rows p0.owners), .sl (Qc p0.finalizers), .sl (Manager.rows p0.managers)]⟩, ⟨13, 0, true, [.str p1.kind, .str p1.namespace_, .str p1.name, .int .i64 p1.uid, .int .i64 p1.version, .int .i64 p1.generation, .int .i64 p1.created, .bool p1.deleting, .int .i64 p1.deleteAt, .sl (Label.rows p1.labels), .sl (Owner.rows p1.owners), .sl (Qc p1.finalizers), .sl (Manager.rows p1.managers)]⟩]
def Q6u (p0 : Meta) (p1 : Meta) (i0 : Nat) : En := .loop 0 Ir.Qiq Ir.Q1cx (Qx3 p0 p1 i0) (Quh p0 p1 i0)
def Q9i (p0 : Meta) (p1 : Meta) (z : Nat → PV) (_zo : Nat → List PV) : St :=
  ⟨[z 0, z 1, .bx 0 0, .bx 1 0] ++ zr z 4 150, [(0, ⟨13, 0, true, [.str p0.kind, .str p0.namespace_, .str p0.name, .int .i64 p0.uid, .int .i64 p0.version, .int .i64 p0.generation, .int .i64 p0.created, .bool p0.deleting, .int .i64 p0.deleteAt, .sl (Label.rows p0.labels), .sl (Owner.rows p0.owners), .sl (Qc p0.finalizers), .sl (Manager.rows p0.managers)]⟩), (1, ⟨13, 0, true, [.str p1.kind, .str p1.namespace_, .str p1.name, .int .i64 p1.uid, .int .i64 p1.version, .int .i64 p1.generation, .int .i64 p1.created, .bool p1.deleting, .int .i64 p1.deleteAt, .sl (Label.rows p1.labels), .sl (Owner.rows p1.owners), .sl (Qc p1.finalizers), .sl (Manager.rows p1.managers)]⟩)], 322⟩
def Qd3 (_p0 : Meta) (_p1 : Meta) (z : Nat → PV) (zo : Nat → List PV) : St :=
  ⟨[z 0, z 1, z 2, z 3, .bool false] ++ zr z 5 149, [(0, ⟨13, 0, true, zo 0⟩), (1, ⟨13, 0, true, zo 1⟩)], 1090⟩
def Qc1 (p0 : Meta) (p1 : Meta) (e : En) : Q12g → Prop
  | .k0 => ∃ z zo, Q6 G e (.st (.exit 0) (Q9i p0 p1 z zo))
  | .k1 => ∃ z zo, Q6 G e (.st .ret (Qd3 p0 p1 z zo))
theorem Qsm (p0 : Meta) (p1 : Meta) {e e' : En} (h : ∀ r, Q6 G e r → Q6 G e' r) : ∀ q, Qc1 p0 p1 e q → Qc1 p0 p1 e' q
  | .k0, ⟨z, zo, hz⟩ => ⟨z, zo, h _ hz⟩
  | .k1, ⟨z, zo, hz⟩ => ⟨z, zo, h _ hz⟩
def Qbj (p0 : Meta) (p1 : Meta) : Prop := (List.length p0.owners ≤ 4611686018427387904) ∧ (∀ (i0 : Nat) (x0 : Owner), p0.owners[i0]? = some x0 → i0 < List.length p1.owners) ∧ True
def Qpf (p0 : Meta) (_p1 : Meta) (i0 : Nat) : List PV :=
  nuns 5 ++ [.int .i64 (i0 : Int)] ++ nuns 94 ++ [.int .i64 (i0 : Int), .bx 0 10, .sl (Owner.rows p0.owners), .int .i64 ((List.length p0.owners) : Int), .bool false]
def Qgz (_p0 : Meta) (_p1 : Meta) (_i0 : Nat) : List (Nat × List PV) :=
  []
theorem Q15y (p0 : Meta) (p1 : Meta) (_H : Qbj p0 p1) (i0 : Nat) (hc0 : (decide ((i0 : Int) < ((List.length p0.owners) : Int))) = false) : Qc1 p0 p1 (Q6u p0 p1 i0) (.k0) := by
 exact ⟨(envF (Qpf p0 p1 i0)), (zoF (Qgz p0 p1 i0)), Qe VOK.nil (x := ((.exit 0), Q9i p0 p1 (envF (Qpf p0 p1 i0)) (zoF (Qgz p0 p1 i0)))) [hP 3 (Qd (Owner.rows p0.owners) (List.length p0.owners) (Owner.Q5 p0.owners)), hB 0 hc0] [] (by kernel_rfl)⟩
theorem Q17b (p0 : Meta) (p1 : Meta) (H : Qbj p0 p1) (x0 : Owner) (i0 : Nat) (hx0 : p0.owners[i0]? = some x0) (hi0 : i0 < List.length p0.owners) (hc0 : (decide ((i0 : Int) < ((List.length p0.owners) : Int))) = true) (h0 : ((sEq x0.kind (List.getD p1.owners i0 (Owner.mk eB eB 0 false false)).kind) && ((sEq x0.name (List.getD p1.owners i0 (Owner.mk eB eB 0 false false)).name) && ((x0.uid == (List.getD p1.owners i0 (Owner.mk eB eB 0 false false)).uid) && ((x0.controller == (List.getD p1.owners i0 (Owner.mk eB eB 0 false false)).controller) && ((x0.block == (List.getD p1.owners i0 (Owner.mk eB eB 0 false false)).block) && true))))) = true) {r : Rs} (hr : Q6 G (Q6u p0 p1 (i0 + 1)) r) : Q6 G (Q6u p0 p1 i0) r := by
 have hB0 := H.1
 exact Ql VOK.nil (y := (Qx3 p0 p1 (i0 + 1), Quh p0 p1 (i0 + 1))) [hP 3 (Qd (Owner.rows p0.owners) (List.length p0.owners) (Owner.Q5 p0.owners)), hB 0 hc0, hP 3 (Q1u 5 (Owner.rows p0.owners) i0 _ (Owner.Qb hx0) rfl), hP 4 (Q1u 5 (Owner.rows p1.owners) i0 _ (Owner.Qb (Q23 p1.owners i0 (Owner.mk eB eB 0 false false) ((H.2.1 i0 x0 hx0)))) rfl), hP 1 (dec (!((sEq x0.kind (List.getD p1.owners i0 (Owner.mk eB eB 0 false false)).kind) && ((sEq x0.name (List.getD p1.owners i0 (Owner.mk eB eB 0 false false)).name) && ((x0.uid == (List.getD p1.owners i0 (Owner.mk eB eB 0 false false)).uid) && ((x0.controller == (List.getD p1.owners i0 (Owner.mk eB eB 0 false false)).controller) && ((x0.block == (List.getD p1.owners i0 (Owner.mk eB eB 0 false false)).block) && true)))))) false (by rw [h0]; rfl)), hP 1 (Q27 i0 (by omega))] [] (by kernel_rfl) hr
def Qmv (p0 : Meta) (p1 : Meta) (i0 : Nat) (x0 : Owner) : List PV :=
  [.un, .un, .bx 0 0, .bx 1 0, .un, .int .i64 (i0 : Int)] ++ nuns 94 ++ [.int .i64 (i0 : Int), .bx 0 10, .sl (Owner.rows p0.owners), .int .i64 ((List.length p0.owners) : Int), .bool true, .un, .un, .bx 0 10, .sl (Owner.rows p0.owners), .int .i64 (i0 : Int), .rf [.str x0.kind, .str x0.name, .int .i64 x0.uid, .bool x0.controller, .bool x0.block], .agg [.str x0.kind, .str x0.name, .int .i64 x0.uid, .bool x0.controller, .bool x0.block], .bx 1 10, .sl (Owner.rows p1.owners), .int .i64 (i0 : Int), .rf [.str (List.getD p1.owners i0 (Owner.mk eB eB 0 false false)).kind, .str (List.getD p1.owners i0 (Owner.mk eB eB 0 false false)).name, .int .i64 (List.getD p1.owners i0 (Owner.mk eB eB 0 false false)).uid, .bool (List.getD p1.owners i0 (Owner.mk eB eB 0 false false)).controller, .bool (List.getD p1.owners i0 (Owner.mk eB eB 0 false false)).block], .agg [.str (List.getD p1.owners i0 (Owner.mk eB eB 0 false false)).kind, .str (List.getD p1.owners i0 (Owner.mk eB eB 0 false false)).name, .int .i64 (List.getD p1.owners i0 (Owner.mk eB eB 0 false false)).uid, .bool (List.getD p1.owners i0 (Owner.mk eB eB 0 false false)).controller, .bool (List.getD p1.owners i0 (Owner.mk eB eB 0 false false)).block], .bool true]
def Qgy (p0 : Meta) (p1 : Meta) (_i0 : Nat) (_x0 : Owner) : List (Nat × List PV) :=
  [(0, [.str p0.kind, .str p0.namespace_, .str p0.name, .int .i64 p0.uid, .int .i64 p0.version, .int .i64 p0.generation, .int .i64 p0.created, .bool p0.deleting, .int .i64 p0.deleteAt, .sl (Label.rows p0.labels), .sl (Owner.rows p0.owners), .sl (Qc p0.finalizers), .sl (Manager.rows p0.managers)]), (1, [.str p1.kind, .str p1.namespace_, .str p1.name, .int .i64 p1.uid, .int .i64 p1.version, .int .i64 p1.generation, .int .i64 p1.created, .bool p1.deleting, .int .i64 p1.deleteAt, .sl (Label.rows p1.labels), .sl (Owner.rows p1.owners), .sl (Qc p1.finalizers), .sl (Manager.rows p1.managers)])]
theorem Q152 (p0 : Meta) (p1 : Meta) (H : Qbj p0 p1) (x0 : Owner) (i0 : Nat) (hx0 : p0.owners[i0]? = some x0) (_hi0 : i0 < List.length p0.owners) (hc0 : (decide ((i0 : Int) < ((List.length p0.owners) : Int))) = true) (h0 : ((sEq x0.kind (List.getD p1.owners i0 (Owner.mk eB eB 0 false false)).kind) && ((sEq x0.name (List.getD p1.owners i0 (Owner.mk eB eB 0 false false)).name) && ((x0.uid == (List.getD p1.owners i0 (Owner.mk eB eB 0 false false)).uid) && ((x0.controller == (List.getD p1.owners i0 (Owner.mk eB eB 0 false false)).controller) && ((x0.block == (List.getD p1.owners i0 (Owner.mk eB eB 0 false false)).block) && true))))) = false) : Qc1 p0 p1 (Q6u p0 p1 i0) (.k1) := by
 exact ⟨(envF (Qmv p0 p1 i0 x0)), (zoF (Qgy p0 p1 i0 x0)), Qe VOK.nil (x := (.ret, Qd3 p0 p1 (envF (Qmv p0 p1 i0 x0)) (zoF (Qgy p0 p1 i0 x0)))) [hP 3 (Qd (Owner.rows p0.owners) (List.length p0.owners) (Owner.Q5 p0.owners)), hB 0 hc0, hP 3 (Q1u 5 (Owner.rows p0.owners) i0 _ (Owner.Qb hx0) rfl), hP 4 (Q1u 5 (Owner.rows p1.owners) i0 _ (Owner.Qb (Q23 p1.owners i0 (Owner.mk eB eB 0 false false) ((H.2.1 i0 x0 hx0)))) rfl), hP 1 (dec (!((sEq x0.kind (List.getD p1.owners i0 (Owner.mk eB eB 0 false false)).kind) && ((sEq x0.name (List.getD p1.owners i0 (Owner.mk eB eB 0 false false)).name) && ((x0.uid == (List.getD p1.owners i0 (Owner.mk eB eB 0 false false)).uid) && ((x0.controller == (List.getD p1.owners i0 (Owner.mk eB eB 0 false false)).controller) && ((x0.block == (List.getD p1.owners i0 (Owner.mk eB eB 0 false false)).block) && true)))))) true (by rw [h0]; rfl))] [] (by kernel_rfl)⟩
theorem Qy4 (p0 : Meta) (p1 : Meta) (H : Qbj p0 p1) : ∀ (r0 : List Owner) (i0 : Nat), List.drop i0 p0.owners = r0 → Qc1 p0 p1 (Q6u p0 p1 i0) (Q5v p0 p1 r0 i0)
 | [], i0, hd => by
  have hc0 : (decide ((i0 : Int) < ((List.length p0.owners) : Int))) = false := by have := Q1f hd; simp; omega
  rw [Q5v]
  exact Q15y p0 p1 H i0 hc0
 | x0 :: r0, i0, hd => by
  obtain ⟨hx0, hi0, hd'⟩ := Q11 hd
  have hc0 : (decide ((i0 : Int) < ((List.length p0.owners) : Int))) = true := by simp; omega
  rw [Q5v]
  cases h0 : ((sEq x0.kind (List.getD p1.owners i0 (Owner.mk eB eB 0 false false)).kind) && ((sEq x0.name (List.getD p1.owners i0 (Owner.mk eB eB 0 false false)).name) && ((x0.uid == (List.getD p1.owners i0 (Owner.mk eB eB 0 false false)).uid) && ((x0.controller == (List.getD p1.owners i0 (Owner.mk eB eB 0 false false)).controller) && ((x0.block == (List.getD p1.owners i0 (Owner.mk eB eB 0 false false)).block) && true))))) with
  | true =>
   exact Qsm p0 p1 (fun r hr => Q17b p0 p1 H x0 i0 hx0 hi0 hc0 h0 hr) _ (Qy4 p0 p1 H r0 (i0 + 1) hd')
  | false =>
   exact Q152 p0 p1 H x0 i0 hx0 hi0 hc0 h0
inductive Q12m where
  | k0
  | k1
def Q60 (p0 : Meta) (p1 : Meta) : List Manager → Nat → Q12m
 | [], _i1 =>
  (.k0)
 | x1 :: r1, i1 =>
  bif (sEq x1.name (List.getD p1.managers i1 (Manager.mk eB [])).name) then
   bif (Qa1 x1.fields (List.getD p1.managers i1 (Manager.mk eB [])).fields) then
    Q60 p0 p1 r1 (i1 + 1)
   else
    (.k1)
  else
   (.k1)
def Qxx (_p0 : Meta) (_p1 : Meta) (i1 : Nat) : List PV :=
  [.un, .un, .bx 0 0, .bx 1 0, .un, .un, .int .i64 (i1 : Int)] ++ nuns 147
def Qxg (p0 : Meta) (p1 : Meta) (_i1 : Nat) : List Ob :=
  [⟨13, 0, true, [.str p0.kind, .str p0.namespace_, .str p0.name, .int .i64 p0.uid, .int .i64 p0.version, .int .i64 p0.generation, .int .i64 p0.created, .bool p0.deleting, .int .i64 p0.deleteAt, .sl (Label.rows p0.labels), .sl (Owner.rows p0.owners), .sl (Qc p0.finalizers), .sl (Manager.rows p0.managers)]⟩, ⟨13, 0, true, [.str p1.kind, .str p1.namespace_, .str p1.name, .int .i64 p1.uid, .int .i64 p1.version, .int .i64 p1.generation, .int .i64 p1.created, .bool p1.deleting, .int .i64 p1.deleteAt, .sl (Label.rows p1.labels), .sl (Owner.rows p1.owners), .sl (Qc p1.finalizers), .sl (Manager.rows p1.managers)]⟩]
def Q6q (p0 : Meta) (p1 : Meta) (i1 : Nat) : En := .loop 0 Ir.Qj5 Ir.Q1dr (Qxx p0 p1 i1) (Qxg p0 p1 i1)
def Qda (p0 : Meta) (p1 : Meta) (z : Nat → PV) (_zo : Nat → List PV) : St :=
  ⟨zr z 0 154, [(0, ⟨13, 0, true, [.str p0.kind, .str p0.namespace_, .str p0.name, .int .i64 p0.uid, .int .i64 p0.version, .int .i64 p0.generation, .int .i64 p0.created, .bool p0.deleting, .int .i64 p0.deleteAt, .sl (Label.rows p0.labels), .sl (Owner.rows p0.owners), .sl (Qc p0.finalizers), .sl (Manager.rows p0.managers)]⟩), (1, ⟨13, 0, true, [.str p1.kind, .str p1.namespace_, .str p1.name, .int .i64 p1.uid, .int .i64 p1.version, .int .i64 p1.generation, .int .i64 p1.created, .bool p1.deleting, .int .i64 p1.deleteAt, .sl (Label.rows p1.labels), .sl (Owner.rows p1.owners), .sl (Qc p1.finalizers), .sl (Manager.rows p1.managers)]⟩)], 322⟩
def Q9b (_p0 : Meta) (_p1 : Meta) (z : Nat → PV) (zo : Nat → List PV) : St :=
  ⟨[z 0, z 1, z 2, z 3, .bool false] ++ zr z 5 149, [(0, ⟨13, 0, true, zo 0⟩), (1, ⟨13, 0, true, zo 1⟩)], 2242⟩
def Q9f (p0 : Meta) (p1 : Meta) (e : En) : Q12m → Prop
  | .k0 => ∃ z zo, Q6 G e (.st (.exit 2) (Qda p0 p1 z zo))
  | .k1 => ∃ z zo, Q6 G e (.st .ret (Q9b p0 p1 z zo))
theorem Qsz (p0 : Meta) (p1 : Meta) {e e' : En} (h : ∀ r, Q6 G e r → Q6 G e' r) : ∀ q, Q9f p0 p1 e q → Q9f p0 p1 e' q
  | .k0, ⟨z, zo, hz⟩ => ⟨z, zo, h _ hz⟩
  | .k1, ⟨z, zo, hz⟩ => ⟨z, zo, h _ hz⟩
def Q9p (p0 : Meta) (p1 : Meta) : Prop := (List.length p0.managers ≤ 4611686018427387904) ∧ (∀ (i1 : Nat) (x1 : Manager), p0.managers[i1]? = some x1 → i1 < List.length p1.managers) ∧ (∀ (i1 : Nat) (x1 : Manager), p0.managers[i1]? = some x1 → Q1eh x1.fields (List.getD p1.managers i1 (Manager.mk eB [])).fields) ∧ True
def Qpc (p0 : Meta) (_p1 : Meta) (i1 : Nat) : List PV :=
  [.un, .un, .bx 0 0, .bx 1 0, .un, .un, .int .i64 (i1 : Int)] ++ nuns 111 ++ [.int .i64 (i1 : Int), .bx 0 12, .sl (Manager.rows p0.managers), .int .i64 ((List.length p0.managers) : Int), .bool false]
def Qkt (_p0 : Meta) (_p1 : Meta) (_i1 : Nat) : List (Nat × List PV) :=
  []
theorem Q14u (p0 : Meta) (p1 : Meta) (_H : Q9p p0 p1) (i1 : Nat) (hc1 : (decide ((i1 : Int) < ((List.length p0.managers) : Int))) = false) : Q9f p0 p1 (Q6q p0 p1 i1) (.k0) := by
 exact ⟨(envF (Qpc p0 p1 i1)), (zoF (Qkt p0 p1 i1)), Qe VOK.nil (x := ((.exit 2), Qda p0 p1 (envF (Qpc p0 p1 i1)) (zoF (Qkt p0 p1 i1)))) [hP 3 (Qd (Manager.rows p0.managers) (List.length p0.managers) (Manager.Q5 p0.managers)), hB 0 hc1] [] (by kernel_rfl)⟩
theorem Q179 (p0 : Meta) (p1 : Meta) (H : Q9p p0 p1) (x1 : Manager) (i1 : Nat) (hx1 : p0.managers[i1]? = some x1) (hi1 : i1 < List.length p0.managers) (hc1 : (decide ((i1 : Int) < ((List.length p0.managers) : Int))) = true) (h0 : (sEq x1.name (List.getD p1.managers i1 (Manager.mk eB [])).name) = true) (h1 : (Qa1 x1.fields (List.getD p1.managers i1 (Manager.mk eB [])).fields) = true) {r : Rs} (hr : Q6 G (Q6q p0 p1 (i1 + 1)) r) : Q6 G (Q6q p0 p1 i1) r := by
 have hB0 := H.1
 exact Ql VOK.nil (y := (Qxx p0 p1 (i1 + 1), Qxg p0 p1 (i1 + 1))) [hP 3 (Qd (Manager.rows p0.managers) (List.length p0.managers) (Manager.Q5 p0.managers)), hB 0 hc1, hP 3 (Q1u 2 (Manager.rows p0.managers) i1 _ (Manager.Qb hx1) rfl), hP 5 (Q1u 2 (Manager.rows p1.managers) i1 _ (Manager.Qb (Q23 p1.managers i1 (Manager.mk eB []) ((H.2.1 i1 x1 hx1)))) rfl), hP 2 (dec (!(sEq x1.name (List.getD p1.managers i1 (Manager.mk eB [])).name)) false (by rw [h0]; rfl)), hP 4 (Q1u 2 (Manager.rows p0.managers) i1 _ (Manager.Qb hx1) rfl), hP 5 (Q1u 2 (Manager.rows p1.managers) i1 _ (Manager.Qb (Q23 p1.managers i1 (Manager.mk eB []) ((H.2.1 i1 x1 hx1)))) rfl), hP 6 (Q27 i1 (by omega))] [aB (Qu0 x1.fields (List.getD p1.managers i1 (Manager.mk eB [])).fields (H.2.2.1 i1 x1 hx1)) h1] (by kernel_rfl) hr
def Qpl (p0 : Meta) (p1 : Meta) (i1 : Nat) (x1 : Manager) : List PV :=
  [.un, .un, .bx 0 0, .bx 1 0, .un, .un, .int .i64 (i1 : Int)] ++ nuns 111 ++ [.int .i64 (i1 : Int), .bx 0 12, .sl (Manager.rows p0.managers), .int .i64 ((List.length p0.managers) : Int), .bool true, .un, .un, .bx 0 12, .sl (Manager.rows p0.managers), .int .i64 (i1 : Int), .rf [.str x1.name, .sl (Qc x1.fields)], .rf [.str x1.name, .sl (Qc x1.fields)], .str x1.name, .bx 1 12, .sl (Manager.rows p1.managers), .int .i64 (i1 : Int), .rf [.str (List.getD p1.managers i1 (Manager.mk eB [])).name, .sl (Qc (List.getD p1.managers i1 (Manager.mk eB [])).fields)], .rf [.str (List.getD p1.managers i1 (Manager.mk eB [])).name, .sl (Qc (List.getD p1.managers i1 (Manager.mk eB [])).fields)], .str (List.getD p1.managers i1 (Manager.mk eB [])).name, .bool false, .bool false, .bx 0 12, .sl (Manager.rows p0.managers), .int .i64 (i1 : Int), .rf [.str x1.name, .sl (Qc x1.fields)], .rf [.sl (Qc x1.fields)], .sl (Qc x1.fields), .bx 1 12, .sl (Manager.rows p1.managers), .int .i64 (i1 : Int), .rf [.str (List.getD p1.managers i1 (Manager.mk eB [])).name, .sl (Qc (List.getD p1.managers i1 (Manager.mk eB [])).fields)], .rf [.sl (Qc (List.getD p1.managers i1 (Manager.mk eB [])).fields)], .sl (Qc (List.getD p1.managers i1 (Manager.mk eB [])).fields), .bool false, .bool true, .bool true]
def Qmg (p0 : Meta) (p1 : Meta) (_i1 : Nat) (_x1 : Manager) : List (Nat × List PV) :=
  [(0, [.str p0.kind, .str p0.namespace_, .str p0.name, .int .i64 p0.uid, .int .i64 p0.version, .int .i64 p0.generation, .int .i64 p0.created, .bool p0.deleting, .int .i64 p0.deleteAt, .sl (Label.rows p0.labels), .sl (Owner.rows p0.owners), .sl (Qc p0.finalizers), .sl (Manager.rows p0.managers)]), (1, [.str p1.kind, .str p1.namespace_, .str p1.name, .int .i64 p1.uid, .int .i64 p1.version, .int .i64 p1.generation, .int .i64 p1.created, .bool p1.deleting, .int .i64 p1.deleteAt, .sl (Label.rows p1.labels), .sl (Owner.rows p1.owners), .sl (Qc p1.finalizers), .sl (Manager.rows p1.managers)])]
theorem Q15r (p0 : Meta) (p1 : Meta) (H : Q9p p0 p1) (x1 : Manager) (i1 : Nat) (hx1 : p0.managers[i1]? = some x1) (_hi1 : i1 < List.length p0.managers) (hc1 : (decide ((i1 : Int) < ((List.length p0.managers) : Int))) = true) (h0 : (sEq x1.name (List.getD p1.managers i1 (Manager.mk eB [])).name) = true) (h1 : (Qa1 x1.fields (List.getD p1.managers i1 (Manager.mk eB [])).fields) = false) : Q9f p0 p1 (Q6q p0 p1 i1) (.k1) := by
 exact ⟨(envF (Qpl p0 p1 i1 x1)), (zoF (Qmg p0 p1 i1 x1)), Qe VOK.nil (x := (.ret, Q9b p0 p1 (envF (Qpl p0 p1 i1 x1)) (zoF (Qmg p0 p1 i1 x1)))) [hP 3 (Qd (Manager.rows p0.managers) (List.length p0.managers) (Manager.Q5 p0.managers)), hB 0 hc1, hP 3 (Q1u 2 (Manager.rows p0.managers) i1 _ (Manager.Qb hx1) rfl), hP 5 (Q1u 2 (Manager.rows p1.managers) i1 _ (Manager.Qb (Q23 p1.managers i1 (Manager.mk eB []) ((H.2.1 i1 x1 hx1)))) rfl), hP 2 (dec (!(sEq x1.name (List.getD p1.managers i1 (Manager.mk eB [])).name)) false (by rw [h0]; rfl)), hP 4 (Q1u 2 (Manager.rows p0.managers) i1 _ (Manager.Qb hx1) rfl), hP 5 (Q1u 2 (Manager.rows p1.managers) i1 _ (Manager.Qb (Q23 p1.managers i1 (Manager.mk eB []) ((H.2.1 i1 x1 hx1)))) rfl)] [aB (Qu0 x1.fields (List.getD p1.managers i1 (Manager.mk eB [])).fields (H.2.2.1 i1 x1 hx1)) h1] (by kernel_rfl)⟩
def Qnb (p0 : Meta) (p1 : Meta) (i1 : Nat) (x1 : Manager) : List PV :=
  [.un, .un, .bx 0 0, .bx 1 0, .un, .un, .int .i64 (i1 : Int)] ++ nuns 111 ++ [.int .i64 (i1 : Int), .bx 0 12, .sl (Manager.rows p0.managers), .int .i64 ((List.length p0.managers) : Int), .bool true, .un, .un, .bx 0 12, .sl (Manager.rows p0.managers), .int .i64 (i1 : Int), .rf [.str x1.name, .sl (Qc x1.fields)], .rf [.str x1.name, .sl (Qc x1.fields)], .str x1.name, .bx 1 12, .sl (Manager.rows p1.managers), .int .i64 (i1 : Int), .rf [.str (List.getD p1.managers i1 (Manager.mk eB [])).name, .sl (Qc (List.getD p1.managers i1 (Manager.mk eB [])).fields)], .rf [.str (List.getD p1.managers i1 (Manager.mk eB [])).name, .sl (Qc (List.getD p1.managers i1 (Manager.mk eB [])).fields)], .str (List.getD p1.managers i1 (Manager.mk eB [])).name, .bool true, .bool true, .tup [], .tup [], .tup [], .tup [], .tup [], .tup [], .tup [], .tup [], .tup [], .tup [], .tup [], .tup [], .tup [], .tup [], .bool true]
def Qhi (p0 : Meta) (p1 : Meta) (_i1 : Nat) (_x1 : Manager) : List (Nat × List PV) :=
  [(0, [.str p0.kind, .str p0.namespace_, .str p0.name, .int .i64 p0.uid, .int .i64 p0.version, .int .i64 p0.generation, .int .i64 p0.created, .bool p0.deleting, .int .i64 p0.deleteAt, .sl (Label.rows p0.labels), .sl (Owner.rows p0.owners), .sl (Qc p0.finalizers), .sl (Manager.rows p0.managers)]), (1, [.str p1.kind, .str p1.namespace_, .str p1.name, .int .i64 p1.uid, .int .i64 p1.version, .int .i64 p1.generation, .int .i64 p1.created, .bool p1.deleting, .int .i64 p1.deleteAt, .sl (Label.rows p1.labels), .sl (Owner.rows p1.owners), .sl (Qc p1.finalizers), .sl (Manager.rows p1.managers)])]
theorem Q17a (p0 : Meta) (p1 : Meta) (H : Q9p p0 p1) (x1 : Manager) (i1 : Nat) (hx1 : p0.managers[i1]? = some x1) (_hi1 : i1 < List.length p0.managers) (hc1 : (decide ((i1 : Int) < ((List.length p0.managers) : Int))) = true) (h0 : (sEq x1.name (List.getD p1.managers i1 (Manager.mk eB [])).name) = false) : Q9f p0 p1 (Q6q p0 p1 i1) (.k1) := by
 exact ⟨(envF (Qnb p0 p1 i1 x1)), (zoF (Qhi p0 p1 i1 x1)), Qe VOK.nil (x := (.ret, Q9b p0 p1 (envF (Qnb p0 p1 i1 x1)) (zoF (Qhi p0 p1 i1 x1)))) [hP 3 (Qd (Manager.rows p0.managers) (List.length p0.managers) (Manager.Q5 p0.managers)), hB 0 hc1, hP 3 (Q1u 2 (Manager.rows p0.managers) i1 _ (Manager.Qb hx1) rfl), hP 5 (Q1u 2 (Manager.rows p1.managers) i1 _ (Manager.Qb (Q23 p1.managers i1 (Manager.mk eB []) ((H.2.1 i1 x1 hx1)))) rfl), hP 2 (dec (!(sEq x1.name (List.getD p1.managers i1 (Manager.mk eB [])).name)) true (by rw [h0]; rfl))] [] (by kernel_rfl)⟩
theorem Qut (p0 : Meta) (p1 : Meta) (H : Q9p p0 p1) : ∀ (r1 : List Manager) (i1 : Nat), List.drop i1 p0.managers = r1 → Q9f p0 p1 (Q6q p0 p1 i1) (Q60 p0 p1 r1 i1)
 | [], i1, hd => by
  have hc1 : (decide ((i1 : Int) < ((List.length p0.managers) : Int))) = false := by have := Q1f hd; simp; omega
  rw [Q60]
  exact Q14u p0 p1 H i1 hc1
 | x1 :: r1, i1, hd => by
  obtain ⟨hx1, hi1, hd'⟩ := Q11 hd
  have hc1 : (decide ((i1 : Int) < ((List.length p0.managers) : Int))) = true := by simp; omega
  rw [Q60]
  cases h0 : (sEq x1.name (List.getD p1.managers i1 (Manager.mk eB [])).name) with
  | true =>
   cases h1 : (Qa1 x1.fields (List.getD p1.managers i1 (Manager.mk eB [])).fields) with
   | true =>
    exact Qsz p0 p1 (fun r hr => Q179 p0 p1 H x1 i1 hx1 hi1 hc1 h0 h1 hr) _ (Qut p0 p1 H r1 (i1 + 1) hd')
   | false =>
    exact Q15r p0 p1 H x1 i1 hx1 hi1 hc1 h0 h1
  | false =>
   exact Q17a p0 p1 H x1 i1 hx1 hi1 hc1 h0
def Q17k (p0 : Meta) (p1 : Meta) : Bool :=
 bif (sEq p0.kind p1.kind) then
  bif (sEq p0.namespace_ p1.namespace_) then
   bif (sEq p0.name p1.name) then
    bif (p0.uid == p1.uid) then
     bif (p0.version == p1.version) then
      bif (p0.generation == p1.generation) then
       bif (p0.created == p1.created) then
        bif (p0.deleting == p1.deleting) then
         bif (p0.deleteAt == p1.deleteAt) then
          bif (Qd8 p0.labels p1.labels) then
           bif (Qa1 p0.finalizers p1.finalizers) then
            bif (((List.length p0.owners) : Int) == ((List.length p1.owners) : Int)) then
             bif (((List.length p0.managers) : Int) == ((List.length p1.managers) : Int)) then
              (match (Q5v p0 p1 p0.owners 0) with
              | .k0 => (match (Q60 p0 p1 p0.managers 0) with
               | .k0 => true
               | .k1 => false)
              | .k1 => false)
             else
              false
            else
             false
           else
            false
          else
           false
         else
          false
        else
         false
       else
        false
      else
       false
     else
      false
    else
     false
   else
    false
  else
   false
 else
  false
def Q8p (p0 : Meta) (p1 : Meta) : En := .call 58 [.agg (Meta.cells p0), .agg (Meta.cells p1)] []
def Q1im (p0 : Meta) (p1 : Meta) : Rs := .ret (.bool (Q17k p0 p1)) []
def Q73 (p0 : Meta) (p1 : Meta) : Prop := (Q1j2 p0.labels p1.labels) ∧ (Q1eh p0.finalizers p1.finalizers) ∧ ((((List.length p0.owners) : Int) == ((List.length p1.owners) : Int)) = true → (((List.length p0.managers) : Int) == ((List.length p1.managers) : Int)) = true → Qbj p0 p1) ∧ ((((List.length p0.owners) : Int) == ((List.length p1.owners) : Int)) = true → (((List.length p0.managers) : Int) == ((List.length p1.managers) : Int)) = true → Q9p p0 p1) ∧ True
theorem Q1gk (p0 : Meta) (p1 : Meta) (H : Q73 p0 p1) (h0 : (sEq p0.kind p1.kind) = true) (h1 : (sEq p0.namespace_ p1.namespace_) = true) (h2 : (sEq p0.name p1.name) = true) (h3 : (p0.uid == p1.uid) = true) (h4 : (p0.version == p1.version) = true) (h5 : (p0.generation == p1.generation) = true) (h6 : (p0.created == p1.created) = true) (h7 : (p0.deleting == p1.deleting) = true) (h8 : (p0.deleteAt == p1.deleteAt) = true) (h9 : (Qd8 p0.labels p1.labels) = true) (h10 : (Qa1 p0.finalizers p1.finalizers) = true) (h11 : (((List.length p0.owners) : Int) == ((List.length p1.owners) : Int)) = true) (h12 : (((List.length p0.managers) : Int) == ((List.length p1.managers) : Int)) = true) (z13 : Nat → PV) (zo13 : Nat → List PV) (hl13 : Q6 G (Q6u p0 p1 0) (.st (.exit 0) (Q9i p0 p1 z13 zo13))) (z14 : Nat → PV) (zo14 : Nat → List PV) (hl14 : Q6 G (Q6q p0 p1 0) (.st (.exit 2) (Qda p0 p1 z14 zo14))) : Q6 G (Q8p p0 p1) (.ret (.bool (true)) []) := by
 exact Q7 (fn := Ir.K2j) rfl VOK.nil [hP 7 (dec (!(sEq p0.kind p1.kind)) false (by rw [h0]; rfl)), hP 5 (dec (!(sEq p0.namespace_ p1.namespace_)) false (by rw [h1]; rfl)), hP 6 (dec (!(sEq p0.name p1.name)) false (by rw [h2]; rfl)), hP 6 (dec (!(p0.uid == p1.uid)) false (by rw [h3]; rfl)), hP 6 (dec (!(p0.version == p1.version)) false (by rw [h4]; rfl)), hP 6 (dec (!(p0.generation == p1.generation)) false (by rw [h5]; rfl)), hP 6 (dec (!(p0.created == p1.created)) false (by rw [h6]; rfl)), hP 6 (dec (!(p0.deleting == p1.deleting)) false (by rw [h7]; rfl)), hP 6 (dec (!(p0.deleteAt == p1.deleteAt)) false (by rw [h8]; rfl)), hP 18 (Qd (Owner.rows p0.owners) (List.length p0.owners) (Owner.Q5 p0.owners)), hP 2 (Qd (Owner.rows p1.owners) (List.length p1.owners) (Owner.Q5 p1.owners)), hP 0 (dec (!(((List.length p0.owners) : Int) == ((List.length p1.owners) : Int))) false (by rw [h11]; rfl)), hP 4 (Qd (Manager.rows p0.managers) (List.length p0.managers) (Manager.Q5 p0.managers)), hP 2 (Qd (Manager.rows p1.managers) (List.length p1.managers) (Manager.Q5 p1.managers)), hP 0 (dec (!(((List.length p0.managers) : Int) == ((List.length p1.managers) : Int))) false (by rw [h12]; rfl))] [aB (Qza p0.labels p1.labels H.1) h9, aB (Qu0 p0.finalizers p1.finalizers H.2.1) h10, aN hl13, aN hl14] (by kernel_rfl)
theorem Q1gs (p0 : Meta) (p1 : Meta) (H : Q73 p0 p1) (h0 : (sEq p0.kind p1.kind) = true) (h1 : (sEq p0.namespace_ p1.namespace_) = true) (h2 : (sEq p0.name p1.name) = true) (h3 : (p0.uid == p1.uid) = true) (h4 : (p0.version == p1.version) = true) (h5 : (p0.generation == p1.generation) = true) (h6 : (p0.created == p1.created) = true) (h7 : (p0.deleting == p1.deleting) = true) (h8 : (p0.deleteAt == p1.deleteAt) = true) (h9 : (Qd8 p0.labels p1.labels) = true) (h10 : (Qa1 p0.finalizers p1.finalizers) = true) (h11 : (((List.length p0.owners) : Int) == ((List.length p1.owners) : Int)) = true) (h12 : (((List.length p0.managers) : Int) == ((List.length p1.managers) : Int)) = true) (z13 : Nat → PV) (zo13 : Nat → List PV) (hl13 : Q6 G (Q6u p0 p1 0) (.st (.exit 0) (Q9i p0 p1 z13 zo13))) (z14 : Nat → PV) (zo14 : Nat → List PV) (hl14 : Q6 G (Q6q p0 p1 0) (.st .ret (Q9b p0 p1 z14 zo14))) : Q6 G (Q8p p0 p1) (.ret (.bool (false)) []) := by
 exact Q7 (fn := Ir.K2j) rfl VOK.nil [hP 7 (dec (!(sEq p0.kind p1.kind)) false (by rw [h0]; rfl)), hP 5 (dec (!(sEq p0.namespace_ p1.namespace_)) false (by rw [h1]; rfl)), hP 6 (dec (!(sEq p0.name p1.name)) false (by rw [h2]; rfl)), hP 6 (dec (!(p0.uid == p1.uid)) false (by rw [h3]; rfl)), hP 6 (dec (!(p0.version == p1.version)) false (by rw [h4]; rfl)), hP 6 (dec (!(p0.generation == p1.generation)) false (by rw [h5]; rfl)), hP 6 (dec (!(p0.created == p1.created)) false (by rw [h6]; rfl)), hP 6 (dec (!(p0.deleting == p1.deleting)) false (by rw [h7]; rfl)), hP 6 (dec (!(p0.deleteAt == p1.deleteAt)) false (by rw [h8]; rfl)), hP 18 (Qd (Owner.rows p0.owners) (List.length p0.owners) (Owner.Q5 p0.owners)), hP 2 (Qd (Owner.rows p1.owners) (List.length p1.owners) (Owner.Q5 p1.owners)), hP 0 (dec (!(((List.length p0.owners) : Int) == ((List.length p1.owners) : Int))) false (by rw [h11]; rfl)), hP 4 (Qd (Manager.rows p0.managers) (List.length p0.managers) (Manager.Q5 p0.managers)), hP 2 (Qd (Manager.rows p1.managers) (List.length p1.managers) (Manager.Q5 p1.managers)), hP 0 (dec (!(((List.length p0.managers) : Int) == ((List.length p1.managers) : Int))) false (by rw [h12]; rfl))] [aB (Qza p0.labels p1.labels H.1) h9, aB (Qu0 p0.finalizers p1.finalizers H.2.1) h10, aN hl13, aN hl14] (by kernel_rfl)
theorem Q1g6 (p0 : Meta) (p1 : Meta) (H : Q73 p0 p1) (h0 : (sEq p0.kind p1.kind) = true) (h1 : (sEq p0.namespace_ p1.namespace_) = true) (h2 : (sEq p0.name p1.name) = true) (h3 : (p0.uid == p1.uid) = true) (h4 : (p0.version == p1.version) = true) (h5 : (p0.generation == p1.generation) = true) (h6 : (p0.created == p1.created) = true) (h7 : (p0.deleting == p1.deleting) = true) (h8 : (p0.deleteAt == p1.deleteAt) = true) (h9 : (Qd8 p0.labels p1.labels) = true) (h10 : (Qa1 p0.finalizers p1.finalizers) = true) (h11 : (((List.length p0.owners) : Int) == ((List.length p1.owners) : Int)) = true) (h12 : (((List.length p0.managers) : Int) == ((List.length p1.managers) : Int)) = true) (z13 : Nat → PV) (zo13 : Nat → List PV) (hl13 : Q6 G (Q6u p0 p1 0) (.st .ret (Qd3 p0 p1 z13 zo13))) : Q6 G (Q8p p0 p1) (.ret (.bool (false)) []) := by
 exact Q7 (fn := Ir.K2j) rfl VOK.nil [hP 7 (dec (!(sEq p0.kind p1.kind)) false (by rw [h0]; rfl)), hP 5 (dec (!(sEq p0.namespace_ p1.namespace_)) false (by rw [h1]; rfl)), hP 6 (dec (!(sEq p0.name p1.name)) false (by rw [h2]; rfl)), hP 6 (dec (!(p0.uid == p1.uid)) false (by rw [h3]; rfl)), hP 6 (dec (!(p0.version == p1.version)) false (by rw [h4]; rfl)), hP 6 (dec (!(p0.generation == p1.generation)) false (by rw [h5]; rfl)), hP 6 (dec (!(p0.created == p1.created)) false (by rw [h6]; rfl)), hP 6 (dec (!(p0.deleting == p1.deleting)) false (by rw [h7]; rfl)), hP 6 (dec (!(p0.deleteAt == p1.deleteAt)) false (by rw [h8]; rfl)), hP 18 (Qd (Owner.rows p0.owners) (List.length p0.owners) (Owner.Q5 p0.owners)), hP 2 (Qd (Owner.rows p1.owners) (List.length p1.owners) (Owner.Q5 p1.owners)), hP 0 (dec (!(((List.length p0.owners) : Int) == ((List.length p1.owners) : Int))) false (by rw [h11]; rfl)), hP 4 (Qd (Manager.rows p0.managers) (List.length p0.managers) (Manager.Q5 p0.managers)), hP 2 (Qd (Manager.rows p1.managers) (List.length p1.managers) (Manager.Q5 p1.managers)), hP 0 (dec (!(((List.length p0.managers) : Int) == ((List.length p1.managers) : Int))) false (by rw [h12]; rfl))] [aB (Qza p0.labels p1.labels H.1) h9, aB (Qu0 p0.finalizers p1.finalizers H.2.1) h10, aN hl13] (by kernel_rfl)
theorem Q1f5 (p0 : Meta) (p1 : Meta) (H : Q73 p0 p1) (h0 : (sEq p0.kind p1.kind) = true) (h1 : (sEq p0.namespace_ p1.namespace_) = true) (h2 : (sEq p0.name p1.name) = true) (h3 : (p0.uid == p1.uid) = true) (h4 : (p0.version == p1.version) = true) (h5 : (p0.generation == p1.generation) = true) (h6 : (p0.created == p1.created) = true) (h7 : (p0.deleting == p1.deleting) = true) (h8 : (p0.deleteAt == p1.deleteAt) = true) (h9 : (Qd8 p0.labels p1.labels) = true) (h10 : (Qa1 p0.finalizers p1.finalizers) = true) (h11 : (((List.length p0.owners) : Int) == ((List.length p1.owners) : Int)) = true) (h12 : (((List.length p0.managers) : Int) == ((List.length p1.managers) : Int)) = false) : Q6 G (Q8p p0 p1) (.ret (.bool (false)) []) := by
 exact Q7 (fn := Ir.K2j) rfl VOK.nil [hP 7 (dec (!(sEq p0.kind p1.kind)) false (by rw [h0]; rfl)), hP 5 (dec (!(sEq p0.namespace_ p1.namespace_)) false (by rw [h1]; rfl)), hP 6 (dec (!(sEq p0.name p1.name)) false (by rw [h2]; rfl)), hP 6 (dec (!(p0.uid == p1.uid)) false (by rw [h3]; rfl)), hP 6 (dec (!(p0.version == p1.version)) false (by rw [h4]; rfl)), hP 6 (dec (!(p0.generation == p1.generation)) false (by rw [h5]; rfl)), hP 6 (dec (!(p0.created == p1.created)) false (by rw [h6]; rfl)), hP 6 (dec (!(p0.deleting == p1.deleting)) false (by rw [h7]; rfl)), hP 6 (dec (!(p0.deleteAt == p1.deleteAt)) false (by rw [h8]; rfl)), hP 18 (Qd (Owner.rows p0.owners) (List.length p0.owners) (Owner.Q5 p0.owners)), hP 2 (Qd (Owner.rows p1.owners) (List.length p1.owners) (Owner.Q5 p1.owners)), hP 0 (dec (!(((List.length p0.owners) : Int) == ((List.length p1.owners) : Int))) false (by rw [h11]; rfl)), hP 4 (Qd (Manager.rows p0.managers) (List.length p0.managers) (Manager.Q5 p0.managers)), hP 2 (Qd (Manager.rows p1.managers) (List.length p1.managers) (Manager.Q5 p1.managers)), hP 0 (dec (!(((List.length p0.managers) : Int) == ((List.length p1.managers) : Int))) true (by rw [h12]; rfl))] [aB (Qza p0.labels p1.labels H.1) h9, aB (Qu0 p0.finalizers p1.finalizers H.2.1) h10] (by kernel_rfl)
theorem Q1gh (p0 : Meta) (p1 : Meta) (H : Q73 p0 p1) (h0 : (sEq p0.kind p1.kind) = true) (h1 : (sEq p0.namespace_ p1.namespace_) = true) (h2 : (sEq p0.name p1.name) = true) (h3 : (p0.uid == p1.uid) = true) (h4 : (p0.version == p1.version) = true) (h5 : (p0.generation == p1.generation) = true) (h6 : (p0.created == p1.created) = true) (h7 : (p0.deleting == p1.deleting) = true) (h8 : (p0.deleteAt == p1.deleteAt) = true) (h9 : (Qd8 p0.labels p1.labels) = true) (h10 : (Qa1 p0.finalizers p1.finalizers) = true) (h11 : (((List.length p0.owners) : Int) == ((List.length p1.owners) : Int)) = false) : Q6 G (Q8p p0 p1) (.ret (.bool (false)) []) := by
 exact Q7 (fn := Ir.K2j) rfl VOK.nil [hP 7 (dec (!(sEq p0.kind p1.kind)) false (by rw [h0]; rfl)), hP 5 (dec (!(sEq p0.namespace_ p1.namespace_)) false (by rw [h1]; rfl)), hP 6 (dec (!(sEq p0.name p1.name)) false (by rw [h2]; rfl)), hP 6 (dec (!(p0.uid == p1.uid)) false (by rw [h3]; rfl)), hP 6 (dec (!(p0.version == p1.version)) false (by rw [h4]; rfl)), hP 6 (dec (!(p0.generation == p1.generation)) false (by rw [h5]; rfl)), hP 6 (dec (!(p0.created == p1.created)) false (by rw [h6]; rfl)), hP 6 (dec (!(p0.deleting == p1.deleting)) false (by rw [h7]; rfl)), hP 6 (dec (!(p0.deleteAt == p1.deleteAt)) false (by rw [h8]; rfl)), hP 18 (Qd (Owner.rows p0.owners) (List.length p0.owners) (Owner.Q5 p0.owners)), hP 2 (Qd (Owner.rows p1.owners) (List.length p1.owners) (Owner.Q5 p1.owners)), hP 0 (dec (!(((List.length p0.owners) : Int) == ((List.length p1.owners) : Int))) true (by rw [h11]; rfl))] [aB (Qza p0.labels p1.labels H.1) h9, aB (Qu0 p0.finalizers p1.finalizers H.2.1) h10] (by kernel_rfl)
theorem Q1en (p0 : Meta) (p1 : Meta) (H : Q73 p0 p1) (h0 : (sEq p0.kind p1.kind) = true) (h1 : (sEq p0.namespace_ p1.namespace_) = true) (h2 : (sEq p0.name p1.name) = true) (h3 : (p0.uid == p1.uid) = true) (h4 : (p0.version == p1.version) = true) (h5 : (p0.generation == p1.generation) = true) (h6 : (p0.created == p1.created) = true) (h7 : (p0.deleting == p1.deleting) = true) (h8 : (p0.deleteAt == p1.deleteAt) = true) (h9 : (Qd8 p0.labels p1.labels) = true) (h10 : (Qa1 p0.finalizers p1.finalizers) = false) : Q6 G (Q8p p0 p1) (.ret (.bool (false)) []) := by
 exact Q7 (fn := Ir.K2j) rfl VOK.nil [hP 7 (dec (!(sEq p0.kind p1.kind)) false (by rw [h0]; rfl)), hP 5 (dec (!(sEq p0.namespace_ p1.namespace_)) false (by rw [h1]; rfl)), hP 6 (dec (!(sEq p0.name p1.name)) false (by rw [h2]; rfl)), hP 6 (dec (!(p0.uid == p1.uid)) false (by rw [h3]; rfl)), hP 6 (dec (!(p0.version == p1.version)) false (by rw [h4]; rfl)), hP 6 (dec (!(p0.generation == p1.generation)) false (by rw [h5]; rfl)), hP 6 (dec (!(p0.created == p1.created)) false (by rw [h6]; rfl)), hP 6 (dec (!(p0.deleting == p1.deleting)) false (by rw [h7]; rfl)), hP 6 (dec (!(p0.deleteAt == p1.deleteAt)) false (by rw [h8]; rfl))] [aB (Qza p0.labels p1.labels H.1) h9, aB (Qu0 p0.finalizers p1.finalizers H.2.1) h10] (by kernel_rfl)
theorem Q1fs (p0 : Meta) (p1 : Meta) (H : Q73 p0 p1) (h0 : (sEq p0.kind p1.kind) = true) (h1 : (sEq p0.namespace_ p1.namespace_) = true) (h2 : (sEq p0.name p1.name) = true) (h3 : (p0.uid == p1.uid) = true) (h4 : (p0.version == p1.version) = true) (h5 : (p0.generation == p1.generation) = true) (h6 : (p0.created == p1.created) = true) (h7 : (p0.deleting == p1.deleting) = true) (h8 : (p0.deleteAt == p1.deleteAt) = true) (h9 : (Qd8 p0.labels p1.labels) = false) : Q6 G (Q8p p0 p1) (.ret (.bool (false)) []) := by
 exact Q7 (fn := Ir.K2j) rfl VOK.nil [hP 7 (dec (!(sEq p0.kind p1.kind)) false (by rw [h0]; rfl)), hP 5 (dec (!(sEq p0.namespace_ p1.namespace_)) false (by rw [h1]; rfl)), hP 6 (dec (!(sEq p0.name p1.name)) false (by rw [h2]; rfl)), hP 6 (dec (!(p0.uid == p1.uid)) false (by rw [h3]; rfl)), hP 6 (dec (!(p0.version == p1.version)) false (by rw [h4]; rfl)), hP 6 (dec (!(p0.generation == p1.generation)) false (by rw [h5]; rfl)), hP 6 (dec (!(p0.created == p1.created)) false (by rw [h6]; rfl)), hP 6 (dec (!(p0.deleting == p1.deleting)) false (by rw [h7]; rfl)), hP 6 (dec (!(p0.deleteAt == p1.deleteAt)) false (by rw [h8]; rfl))] [aB (Qza p0.labels p1.labels H.1) h9] (by kernel_rfl)
theorem Q1ef (p0 : Meta) (p1 : Meta) (_H : Q73 p0 p1) (h0 : (sEq p0.kind p1.kind) = true) (h1 : (sEq p0.namespace_ p1.namespace_) = true) (h2 : (sEq p0.name p1.name) = true) (h3 : (p0.uid == p1.uid) = true) (h4 : (p0.version == p1.version) = true) (h5 : (p0.generation == p1.generation) = true) (h6 : (p0.created == p1.created) = true) (h7 : (p0.deleting == p1.deleting) = true) (h8 : (p0.deleteAt == p1.deleteAt) = false) : Q6 G (Q8p p0 p1) (.ret (.bool (false)) []) := by
 exact Q7 (fn := Ir.K2j) rfl VOK.nil [hP 7 (dec (!(sEq p0.kind p1.kind)) false (by rw [h0]; rfl)), hP 5 (dec (!(sEq p0.namespace_ p1.namespace_)) false (by rw [h1]; rfl)), hP 6 (dec (!(sEq p0.name p1.name)) false (by rw [h2]; rfl)), hP 6 (dec (!(p0.uid == p1.uid)) false (by rw [h3]; rfl)), hP 6 (dec (!(p0.version == p1.version)) false (by rw [h4]; rfl)), hP 6 (dec (!(p0.generation == p1.generation)) false (by rw [h5]; rfl)), hP 6 (dec (!(p0.created == p1.created)) false (by rw [h6]; rfl)), hP 6 (dec (!(p0.deleting == p1.deleting)) false (by rw [h7]; rfl)), hP 6 (dec (!(p0.deleteAt == p1.deleteAt)) true (by rw [h8]; rfl))] [] (by kernel_rfl)
theorem Q1fa (p0 : Meta) (p1 : Meta) (_H : Q73 p0 p1) (h0 : (sEq p0.kind p1.kind) = true) (h1 : (sEq p0.namespace_ p1.namespace_) = true) (h2 : (sEq p0.name p1.name) = true) (h3 : (p0.uid == p1.uid) = true) (h4 : (p0.version == p1.version) = true) (h5 : (p0.generation == p1.generation) = true) (h6 : (p0.created == p1.created) = true) (h7 : (p0.deleting == p1.deleting) = false) : Q6 G (Q8p p0 p1) (.ret (.bool (false)) []) := by
 exact Q7 (fn := Ir.K2j) rfl VOK.nil [hP 7 (dec (!(sEq p0.kind p1.kind)) false (by rw [h0]; rfl)), hP 5 (dec (!(sEq p0.namespace_ p1.namespace_)) false (by rw [h1]; rfl)), hP 6 (dec (!(sEq p0.name p1.name)) false (by rw [h2]; rfl)), hP 6 (dec (!(p0.uid == p1.uid)) false (by rw [h3]; rfl)), hP 6 (dec (!(p0.version == p1.version)) false (by rw [h4]; rfl)), hP 6 (dec (!(p0.generation == p1.generation)) false (by rw [h5]; rfl)), hP 6 (dec (!(p0.created == p1.created)) false (by rw [h6]; rfl)), hP 6 (dec (!(p0.deleting == p1.deleting)) true (by rw [h7]; rfl))] [] (by kernel_rfl)
theorem Q1f6 (p0 : Meta) (p1 : Meta) (_H : Q73 p0 p1) (h0 : (sEq p0.kind p1.kind) = true) (h1 : (sEq p0.namespace_ p1.namespace_) = true) (h2 : (sEq p0.name p1.name) = true) (h3 : (p0.uid == p1.uid) = true) (h4 : (p0.version == p1.version) = true) (h5 : (p0.generation == p1.generation) = true) (h6 : (p0.created == p1.created) = false) : Q6 G (Q8p p0 p1) (.ret (.bool (false)) []) := by
 exact Q7 (fn := Ir.K2j) rfl VOK.nil [hP 7 (dec (!(sEq p0.kind p1.kind)) false (by rw [h0]; rfl)), hP 5 (dec (!(sEq p0.namespace_ p1.namespace_)) false (by rw [h1]; rfl)), hP 6 (dec (!(sEq p0.name p1.name)) false (by rw [h2]; rfl)), hP 6 (dec (!(p0.uid == p1.uid)) false (by rw [h3]; rfl)), hP 6 (dec (!(p0.version == p1.version)) false (by rw [h4]; rfl)), hP 6 (dec (!(p0.generation == p1.generation)) false (by rw [h5]; rfl)), hP 6 (dec (!(p0.created == p1.created)) true (by rw [h6]; rfl))] [] (by kernel_rfl)
theorem Q1bg (p0 : Meta) (p1 : Meta) (_H : Q73 p0 p1) (h0 : (sEq p0.kind p1.kind) = true) (h1 : (sEq p0.namespace_ p1.namespace_) = true) (h2 : (sEq p0.name p1.name) = true) (h3 : (p0.uid == p1.uid) = true) (h4 : (p0.version == p1.version) = true) (h5 : (p0.generation == p1.generation) = false) : Q6 G (Q8p p0 p1) (.ret (.bool (false)) []) := by
 exact Q7 (fn := Ir.K2j) rfl VOK.nil [hP 7 (dec (!(sEq p0.kind p1.kind)) false (by rw [h0]; rfl)), hP 5 (dec (!(sEq p0.namespace_ p1.namespace_)) false (by rw [h1]; rfl)), hP 6 (dec (!(sEq p0.name p1.name)) false (by rw [h2]; rfl)), hP 6 (dec (!(p0.uid == p1.uid)) false (by rw [h3]; rfl)), hP 6 (dec (!(p0.version == p1.version)) false (by rw [h4]; rfl)), hP 6 (dec (!(p0.generation == p1.generation)) true (by rw [h5]; rfl))] [] (by kernel_rfl)
theorem Q1bd (p0 : Meta) (p1 : Meta) (_H : Q73 p0 p1) (h0 : (sEq p0.kind p1.kind) = true) (h1 : (sEq p0.namespace_ p1.namespace_) = true) (h2 : (sEq p0.name p1.name) = true) (h3 : (p0.uid == p1.uid) = true) (h4 : (p0.version == p1.version) = false) : Q6 G (Q8p p0 p1) (.ret (.bool (false)) []) := by
 exact Q7 (fn := Ir.K2j) rfl VOK.nil [hP 7 (dec (!(sEq p0.kind p1.kind)) false (by rw [h0]; rfl)), hP 5 (dec (!(sEq p0.namespace_ p1.namespace_)) false (by rw [h1]; rfl)), hP 6 (dec (!(sEq p0.name p1.name)) false (by rw [h2]; rfl)), hP 6 (dec (!(p0.uid == p1.uid)) false (by rw [h3]; rfl)), hP 6 (dec (!(p0.version == p1.version)) true (by rw [h4]; rfl))] [] (by kernel_rfl)
theorem Q1au (p0 : Meta) (p1 : Meta) (_H : Q73 p0 p1) (h0 : (sEq p0.kind p1.kind) = true) (h1 : (sEq p0.namespace_ p1.namespace_) = true) (h2 : (sEq p0.name p1.name) = true) (h3 : (p0.uid == p1.uid) = false) : Q6 G (Q8p p0 p1) (.ret (.bool (false)) []) := by
 exact Q7 (fn := Ir.K2j) rfl VOK.nil [hP 7 (dec (!(sEq p0.kind p1.kind)) false (by rw [h0]; rfl)), hP 5 (dec (!(sEq p0.namespace_ p1.namespace_)) false (by rw [h1]; rfl)), hP 6 (dec (!(sEq p0.name p1.name)) false (by rw [h2]; rfl)), hP 6 (dec (!(p0.uid == p1.uid)) true (by rw [h3]; rfl))] [] (by kernel_rfl)
theorem Q1b3 (p0 : Meta) (p1 : Meta) (_H : Q73 p0 p1) (h0 : (sEq p0.kind p1.kind) = true) (h1 : (sEq p0.namespace_ p1.namespace_) = true) (h2 : (sEq p0.name p1.name) = false) : Q6 G (Q8p p0 p1) (.ret (.bool (false)) []) := by
 exact Q7 (fn := Ir.K2j) rfl VOK.nil [hP 7 (dec (!(sEq p0.kind p1.kind)) false (by rw [h0]; rfl)), hP 5 (dec (!(sEq p0.namespace_ p1.namespace_)) false (by rw [h1]; rfl)), hP 6 (dec (!(sEq p0.name p1.name)) true (by rw [h2]; rfl))] [] (by kernel_rfl)
theorem Q1ct (p0 : Meta) (p1 : Meta) (_H : Q73 p0 p1) (h0 : (sEq p0.kind p1.kind) = true) (h1 : (sEq p0.namespace_ p1.namespace_) = false) : Q6 G (Q8p p0 p1) (.ret (.bool (false)) []) := by
 exact Q7 (fn := Ir.K2j) rfl VOK.nil [hP 7 (dec (!(sEq p0.kind p1.kind)) false (by rw [h0]; rfl)), hP 5 (dec (!(sEq p0.namespace_ p1.namespace_)) true (by rw [h1]; rfl))] [] (by kernel_rfl)
theorem Q1cj (p0 : Meta) (p1 : Meta) (_H : Q73 p0 p1) (h0 : (sEq p0.kind p1.kind) = false) : Q6 G (Q8p p0 p1) (.ret (.bool (false)) []) := by
 exact Q7 (fn := Ir.K2j) rfl VOK.nil [hP 7 (dec (!(sEq p0.kind p1.kind)) true (by rw [h0]; rfl))] [] (by kernel_rfl)
theorem Q1fk (p0 : Meta) (p1 : Meta) (H : Q73 p0 p1) : Q6 G (Q8p p0 p1) (Q1im p0 p1) := by
 unfold Q1im Q17k
 cases h0 : (sEq p0.kind p1.kind) with
 | true =>
  cases h1 : (sEq p0.namespace_ p1.namespace_) with
  | true =>
   cases h2 : (sEq p0.name p1.name) with
   | true =>
    cases h3 : (p0.uid == p1.uid) with
    | true =>
     cases h4 : (p0.version == p1.version) with
     | true =>
      cases h5 : (p0.generation == p1.generation) with
      | true =>
       cases h6 : (p0.created == p1.created) with
       | true =>
        cases h7 : (p0.deleting == p1.deleting) with
        | true =>
         cases h8 : (p0.deleteAt == p1.deleteAt) with
         | true =>
          cases h9 : (Qd8 p0.labels p1.labels) with
          | true =>
           cases h10 : (Qa1 p0.finalizers p1.finalizers) with
           | true =>
            cases h11 : (((List.length p0.owners) : Int) == ((List.length p1.owners) : Int)) with
            | true =>
             cases h12 : (((List.length p0.managers) : Int) == ((List.length p1.managers) : Int)) with
             | true =>
              have hl13 := Qy4 p0 p1 (H.2.2.1 h11 h12) p0.owners 0 (by simp)
              cases hr13 : (Q5v p0 p1 p0.owners 0) with
              | k0 =>
               rw [hr13] at hl13
               obtain ⟨z13, zo13, hl13⟩ := hl13
               try dsimp only
               have hl14 := Qut p0 p1 (H.2.2.2.1 h11 h12) p0.managers 0 (by simp)
               cases hr14 : (Q60 p0 p1 p0.managers 0) with
               | k0 =>
                rw [hr14] at hl14
                obtain ⟨z14, zo14, hl14⟩ := hl14
                exact Q1gk p0 p1 H h0 h1 h2 h3 h4 h5 h6 h7 h8 h9 h10 h11 h12 z13 zo13 hl13 z14 zo14 hl14
               | k1 =>
                rw [hr14] at hl14
                obtain ⟨z14, zo14, hl14⟩ := hl14
                exact Q1gs p0 p1 H h0 h1 h2 h3 h4 h5 h6 h7 h8 h9 h10 h11 h12 z13 zo13 hl13 z14 zo14 hl14
              | k1 =>
               rw [hr13] at hl13
               obtain ⟨z13, zo13, hl13⟩ := hl13
               exact Q1g6 p0 p1 H h0 h1 h2 h3 h4 h5 h6 h7 h8 h9 h10 h11 h12 z13 zo13 hl13
             | false =>
              exact Q1f5 p0 p1 H h0 h1 h2 h3 h4 h5 h6 h7 h8 h9 h10 h11 h12
            | false =>
             exact Q1gh p0 p1 H h0 h1 h2 h3 h4 h5 h6 h7 h8 h9 h10 h11
           | false =>
            exact Q1en p0 p1 H h0 h1 h2 h3 h4 h5 h6 h7 h8 h9 h10
          | false =>
           exact Q1fs p0 p1 H h0 h1 h2 h3 h4 h5 h6 h7 h8 h9
         | false =>
          exact Q1ef p0 p1 H h0 h1 h2 h3 h4 h5 h6 h7 h8
        | false =>
         exact Q1fa p0 p1 H h0 h1 h2 h3 h4 h5 h6 h7
       | false =>
        exact Q1f6 p0 p1 H h0 h1 h2 h3 h4 h5 h6
      | false =>
       exact Q1bg p0 p1 H h0 h1 h2 h3 h4 h5
     | false =>
      exact Q1bd p0 p1 H h0 h1 h2 h3 h4
    | false =>
     exact Q1au p0 p1 H h0 h1 h2 h3
   | false =>
    exact Q1b3 p0 p1 H h0 h1 h2
  | false =>
   exact Q1ct p0 p1 H h0 h1
 | false =>
  exact Q1cj p0 p1 H h0
def Q18m (p0 : Object) (p1 : Object) : Bool :=
 bif (Q17k p0.meta_ p1.meta_) then
  bif (Q7e p0.spec p1.spec) then
   (Q7e p0.status p1.status)
  else
   false
 else
  false
def Q1lb (p0 : Object) (p1 : Object) : En := .call 24 [.agg (Object.cells p0), .agg (Object.cells p1)] []
def Q1gy (p0 : Object) (p1 : Object) : Rs := .ret (.bool (Q18m p0 p1)) []
def Q1bj (p0 : Object) (p1 : Object) : Prop := (Q73 p0.meta_ p1.meta_) ∧ (Q8c p0.spec) ∧ (Q8c p0.status) ∧ True
theorem Q1mj (p0 : Object) (p1 : Object) (H : Q1bj p0 p1) : Q6 G (Q1lb p0 p1) (Q1gy p0 p1) := by
 unfold Q1gy Q18m
 cases h0 : (Q17k p0.meta_ p1.meta_) with
 | true =>
  cases h1 : (Q7e p0.spec p1.spec) with
  | true =>
   exact Q7 (fn := Ir.K2l) rfl VOK.nil [] [aB (Q1fk p0.meta_ p1.meta_ H.1) h0, aB (Q1gv p0.spec p1.spec H.2.1) h1, aN (Q1gv p0.status p1.status H.2.2.1)] (by kernel_rfl)
  | false =>
   exact Q7 (fn := Ir.K2l) rfl VOK.nil [] [aB (Q1fk p0.meta_ p1.meta_ H.1) h0, aB (Q1gv p0.spec p1.spec H.2.1) h1] (by kernel_rfl)
 | false =>
  exact Q7 (fn := Ir.K2l) rfl VOK.nil [] [aB (Q1fk p0.meta_ p1.meta_ H.1) h0] (by kernel_rfl)
inductive Q17t where
  | k0
  | k1
def Qdc (p0 : Meta) : List Label → Nat → Q17t
 | [], _i0 =>
  (.k0)
 | x0 :: r0, i0 =>
  bif (decide (400 < (w64 ((ByteArray.size x0.key : Int) + (ByteArray.size x0.value : Int))))) then
   (.k1)
  else
   Qdc p0 r0 (i0 + 1)
def Qzv (p0 : Meta) (i0 : Nat) : List PV :=
  [.un, .bx 0 0] ++ nuns 48 ++ [.sl (Label.rows p0.labels), .int .i64 ((List.length p0.labels) : Int), .int .i64 (i0 : Int)] ++ nuns 68
def Qzo (p0 : Meta) (_i0 : Nat) : List Ob :=
  [⟨13, 0, true, [.str p0.kind, .str p0.namespace_, .str p0.name, .int .i64 p0.uid, .int .i64 p0.version, .int .i64 p0.generation, .int .i64 p0.created, .bool p0.deleting, .int .i64 p0.deleteAt, .sl (Label.rows p0.labels), .sl (Owner.rows p0.owners), .sl (Qc p0.finalizers), .sl (Manager.rows p0.managers)]⟩]
def Q6c (p0 : Meta) (i0 : Nat) : En := .loop 0 Ir.Qox Ir.Q1ha (Qzv p0 i0) (Qzo p0 i0)
def Q6f (p0 : Meta) (z : Nat → PV) (_zo : Nat → List PV) : St :=
  ⟨[z 0, .bx 0 0] ++ zr z 2 119, [(0, ⟨13, 0, true, [.str p0.kind, .str p0.namespace_, .str p0.name, .int .i64 p0.uid, .int .i64 p0.version, .int .i64 p0.generation, .int .i64 p0.created, .bool p0.deleting, .int .i64 p0.deleteAt, .sl (Label.rows p0.labels), .sl (Owner.rows p0.owners), .sl (Qc p0.finalizers), .sl (Manager.rows p0.managers)]⟩)], 65⟩
def Qik (_p0 : Meta) (z : Nat → PV) (zo : Nat → List PV) : St :=
  ⟨[z 0, z 1, .bool false] ++ zr z 3 118, [(0, ⟨13, 0, true, zo 0⟩), (193, ⟨2, 0, true, zo 193⟩)], 897⟩
def Qh7 (p0 : Meta) (e : En) : Q17t → Prop
  | .k0 => ∃ z zo, Q6 G e (.st (.exit 0) (Q6f p0 z zo))
  | .k1 => ∃ z zo, Q6 G e (.st .ret (Qik p0 z zo))
theorem Qup (p0 : Meta) {e e' : En} (h : ∀ r, Q6 G e r → Q6 G e' r) : ∀ q, Qh7 p0 e q → Qh7 p0 e' q
  | .k0, ⟨z, zo, hz⟩ => ⟨z, zo, h _ hz⟩
  | .k1, ⟨z, zo, hz⟩ => ⟨z, zo, h _ hz⟩
def Qlr (p0 : Meta) : Prop := (List.length p0.labels ≤ 4611686018427387904) ∧ True
def Qxm (p0 : Meta) (i0 : Nat) : List PV :=
  nuns 50 ++ [.sl (Label.rows p0.labels), .int .i64 ((List.length p0.labels) : Int), .int .i64 (i0 : Int), .bool false]
def Qqb (_p0 : Meta) (_i0 : Nat) : List (Nat × List PV) :=
  []
theorem Q18n (p0 : Meta) (_H : Qlr p0) (i0 : Nat) (hc0 : (decide ((i0 : Int) < ((List.length p0.labels) : Int))) = false) : Qh7 p0 (Q6c p0 i0) (.k0) := by
 exact ⟨(envF (Qxm p0 i0)), (zoF (Qqb p0 i0)), Qe VOK.nil (x := ((.exit 0), Q6f p0 (envF (Qxm p0 i0)) (zoF (Qqb p0 i0)))) [hB 0 hc0] [] (by kernel_rfl)⟩
def Qw4 (p0 : Meta) (i0 : Nat) (x0 : Label) : List PV :=
  [.un, .bx 0 0, .un, .un, .bx 193 0] ++ nuns 45 ++ [.sl (Label.rows p0.labels), .int .i64 ((List.length p0.labels) : Int), .int .i64 (i0 : Int), .bool true, .rf [.str x0.key, .str x0.value], .agg [.str x0.key, .str x0.value], .bx 193 0, .str x0.key, .int .i64 (ByteArray.size x0.key : Int), .bx 193 1, .str x0.value, .int .i64 (ByteArray.size x0.value : Int), .int .i64 (w64 ((ByteArray.size x0.key : Int) + (ByteArray.size x0.value : Int))), .bool true]
def Qob (p0 : Meta) (_i0 : Nat) (x0 : Label) : List (Nat × List PV) :=
  [(0, [.str p0.kind, .str p0.namespace_, .str p0.name, .int .i64 p0.uid, .int .i64 p0.version, .int .i64 p0.generation, .int .i64 p0.created, .bool p0.deleting, .int .i64 p0.deleteAt, .sl (Label.rows p0.labels), .sl (Owner.rows p0.owners), .sl (Qc p0.finalizers), .sl (Manager.rows p0.managers)]), (193, [.str x0.key, .str x0.value])]
theorem Q17u (p0 : Meta) (_H : Qlr p0) (x0 : Label) (i0 : Nat) (hx0 : p0.labels[i0]? = some x0) (_hi0 : i0 < List.length p0.labels) (hc0 : (decide ((i0 : Int) < ((List.length p0.labels) : Int))) = true) (h0 : (decide (400 < (w64 ((ByteArray.size x0.key : Int) + (ByteArray.size x0.value : Int))))) = true) : Qh7 p0 (Q6c p0 i0) (.k1) := by
 exact ⟨(envF (Qw4 p0 i0 x0)), (zoF (Qob p0 i0 x0)), Qe VOK.nil (x := (.ret, Qik p0 (envF (Qw4 p0 i0 x0)) (zoF (Qob p0 i0 x0)))) [hB 0 hc0, hP 0 (Q1u 2 (Label.rows p0.labels) i0 _ (Label.Qb hx0) rfl), hB 10 h0] [] (by kernel_rfl)⟩
theorem Q17q (p0 : Meta) (H : Qlr p0) (x0 : Label) (i0 : Nat) (hx0 : p0.labels[i0]? = some x0) (hi0 : i0 < List.length p0.labels) (hc0 : (decide ((i0 : Int) < ((List.length p0.labels) : Int))) = true) (h0 : (decide (400 < (w64 ((ByteArray.size x0.key : Int) + (ByteArray.size x0.value : Int))))) = false) {r : Rs} (hr : Q6 G (Q6c p0 (i0 + 1)) r) : Q6 G (Q6c p0 i0) r := by
 have hB0 := H.1; have e0 := of_decide_eq_false h0
 exact Ql VOK.nil (y := (Qzv p0 (i0 + 1), Qzo p0 (i0 + 1))) [hB 0 hc0, hP 0 (Q1u 2 (Label.rows p0.labels) i0 _ (Label.Qb hx0) rfl), hB 10 h0, hP 0 (Q27 i0 (by omega))] [] (by kernel_rfl) hr
theorem Q126 (p0 : Meta) (H : Qlr p0) : ∀ (r0 : List Label) (i0 : Nat), List.drop i0 p0.labels = r0 → Qh7 p0 (Q6c p0 i0) (Qdc p0 r0 i0)
 | [], i0, hd => by
  have hc0 : (decide ((i0 : Int) < ((List.length p0.labels) : Int))) = false := by have := Q1f hd; simp; omega
  rw [Qdc]
  exact Q18n p0 H i0 hc0
 | x0 :: r0, i0, hd => by
  obtain ⟨hx0, hi0, hd'⟩ := Q11 hd
  have hc0 : (decide ((i0 : Int) < ((List.length p0.labels) : Int))) = true := by simp; omega
  rw [Qdc]
  cases h0 : (decide (400 < (w64 ((ByteArray.size x0.key : Int) + (ByteArray.size x0.value : Int))))) with
  | true =>
   exact Q17u p0 H x0 i0 hx0 hi0 hc0 h0
  | false =>
   exact Qup p0 (fun r hr => Q17q p0 H x0 i0 hx0 hi0 hc0 h0 hr) _ (Q126 p0 H r0 (i0 + 1) hd')
inductive Q17r where
  | k0
  | k1
def Qch (p0 : Meta) : List Owner → Nat → Q17r
 | [], _i1 =>
  (.k0)
 | x1 :: r1, i1 =>
  bif (decide (400 < (w64 ((ByteArray.size x1.kind : Int) + (ByteArray.size x1.name : Int))))) then
   (.k1)
  else
   Qch p0 r1 (i1 + 1)
def Q12l (p0 : Meta) (i1 : Nat) : List PV :=
  [.un, .bx 0 0] ++ nuns 64 ++ [.sl (Owner.rows p0.owners), .int .i64 ((List.length p0.owners) : Int), .int .i64 (i1 : Int)] ++ nuns 52
def Qzw (p0 : Meta) (_i1 : Nat) : List Ob :=
  [⟨13, 0, true, [.str p0.kind, .str p0.namespace_, .str p0.name, .int .i64 p0.uid, .int .i64 p0.version, .int .i64 p0.generation, .int .i64 p0.created, .bool p0.deleting, .int .i64 p0.deleteAt, .sl (Label.rows p0.labels), .sl (Owner.rows p0.owners), .sl (Qc p0.finalizers), .sl (Manager.rows p0.managers)]⟩]
def Q78 (p0 : Meta) (i1 : Nat) : En := .loop 0 Ir.Qr2 Ir.Q1iq (Q12l p0 i1) (Qzw p0 i1)
def Q7o (p0 : Meta) (z : Nat → PV) (_zo : Nat → List PV) : St :=
  ⟨[z 0, .bx 0 0] ++ zr z 2 119, [(0, ⟨13, 0, true, [.str p0.kind, .str p0.namespace_, .str p0.name, .int .i64 p0.uid, .int .i64 p0.version, .int .i64 p0.generation, .int .i64 p0.created, .bool p0.deleting, .int .i64 p0.deleteAt, .sl (Label.rows p0.labels), .sl (Owner.rows p0.owners), .sl (Qc p0.finalizers), .sl (Manager.rows p0.managers)]⟩)], 65⟩
def Qmj (_p0 : Meta) (z : Nat → PV) (zo : Nat → List PV) : St :=
  ⟨[z 0, z 1, .bool false] ++ zr z 3 118, [(0, ⟨13, 0, true, zo 0⟩), (193, ⟨5, 0, true, zo 193⟩)], 897⟩
def Qhk (p0 : Meta) (e : En) : Q17r → Prop
  | .k0 => ∃ z zo, Q6 G e (.st (.exit 2) (Q7o p0 z zo))
  | .k1 => ∃ z zo, Q6 G e (.st .ret (Qmj p0 z zo))
theorem Qxp (p0 : Meta) {e e' : En} (h : ∀ r, Q6 G e r → Q6 G e' r) : ∀ q, Qhk p0 e q → Qhk p0 e' q
  | .k0, ⟨z, zo, hz⟩ => ⟨z, zo, h _ hz⟩
  | .k1, ⟨z, zo, hz⟩ => ⟨z, zo, h _ hz⟩
def Qhc (p0 : Meta) : Prop := (List.length p0.owners ≤ 4611686018427387904) ∧ True
def Qvb (p0 : Meta) (i1 : Nat) : List PV :=
  nuns 66 ++ [.sl (Owner.rows p0.owners), .int .i64 ((List.length p0.owners) : Int), .int .i64 (i1 : Int), .bool false]
def Qpi (_p0 : Meta) (_i1 : Nat) : List (Nat × List PV) :=
  []
theorem Q1ak (p0 : Meta) (_H : Qhc p0) (i1 : Nat) (hc1 : (decide ((i1 : Int) < ((List.length p0.owners) : Int))) = false) : Qhk p0 (Q78 p0 i1) (.k0) := by
 exact ⟨(envF (Qvb p0 i1)), (zoF (Qpi p0 i1)), Qe VOK.nil (x := ((.exit 2), Q7o p0 (envF (Qvb p0 i1)) (zoF (Qpi p0 i1)))) [hB 0 hc1] [] (by kernel_rfl)⟩
def Qy3 (p0 : Meta) (i1 : Nat) (x1 : Owner) : List PV :=
  [.un, .bx 0 0, .un, .un, .un, .un, .bx 193 0] ++ nuns 59 ++ [.sl (Owner.rows p0.owners), .int .i64 ((List.length p0.owners) : Int), .int .i64 (i1 : Int), .bool true, .rf [.str x1.kind, .str x1.name, .int .i64 x1.uid, .bool x1.controller, .bool x1.block], .agg [.str x1.kind, .str x1.name, .int .i64 x1.uid, .bool x1.controller, .bool x1.block], .bx 193 0, .str x1.kind, .int .i64 (ByteArray.size x1.kind : Int), .bx 193 1, .str x1.name, .int .i64 (ByteArray.size x1.name : Int), .int .i64 (w64 ((ByteArray.size x1.kind : Int) + (ByteArray.size x1.name : Int))), .bool true]
def Qqa (p0 : Meta) (_i1 : Nat) (x1 : Owner) : List (Nat × List PV) :=
  [(0, [.str p0.kind, .str p0.namespace_, .str p0.name, .int .i64 p0.uid, .int .i64 p0.version, .int .i64 p0.generation, .int .i64 p0.created, .bool p0.deleting, .int .i64 p0.deleteAt, .sl (Label.rows p0.labels), .sl (Owner.rows p0.owners), .sl (Qc p0.finalizers), .sl (Manager.rows p0.managers)]), (193, [.str x1.kind, .str x1.name, .int .i64 x1.uid, .bool x1.controller, .bool x1.block])]
theorem Q1a4 (p0 : Meta) (_H : Qhc p0) (x1 : Owner) (i1 : Nat) (hx1 : p0.owners[i1]? = some x1) (_hi1 : i1 < List.length p0.owners) (hc1 : (decide ((i1 : Int) < ((List.length p0.owners) : Int))) = true) (h0 : (decide (400 < (w64 ((ByteArray.size x1.kind : Int) + (ByteArray.size x1.name : Int))))) = true) : Qhk p0 (Q78 p0 i1) (.k1) := by
 exact ⟨(envF (Qy3 p0 i1 x1)), (zoF (Qqa p0 i1 x1)), Qe VOK.nil (x := (.ret, Qmj p0 (envF (Qy3 p0 i1 x1)) (zoF (Qqa p0 i1 x1)))) [hB 0 hc1, hP 0 (Q1u 5 (Owner.rows p0.owners) i1 _ (Owner.Qb hx1) rfl), hB 10 h0] [] (by kernel_rfl)⟩
theorem Q18o (p0 : Meta) (H : Qhc p0) (x1 : Owner) (i1 : Nat) (hx1 : p0.owners[i1]? = some x1) (hi1 : i1 < List.length p0.owners) (hc1 : (decide ((i1 : Int) < ((List.length p0.owners) : Int))) = true) (h0 : (decide (400 < (w64 ((ByteArray.size x1.kind : Int) + (ByteArray.size x1.name : Int))))) = false) {r : Rs} (hr : Q6 G (Q78 p0 (i1 + 1)) r) : Q6 G (Q78 p0 i1) r := by
 have hB0 := H.1; have e0 := of_decide_eq_false h0
 exact Ql VOK.nil (y := (Q12l p0 (i1 + 1), Qzw p0 (i1 + 1))) [hB 0 hc1, hP 0 (Q1u 5 (Owner.rows p0.owners) i1 _ (Owner.Qb hx1) rfl), hB 10 h0, hP 0 (Q27 i1 (by omega))] [] (by kernel_rfl) hr
theorem Q112 (p0 : Meta) (H : Qhc p0) : ∀ (r1 : List Owner) (i1 : Nat), List.drop i1 p0.owners = r1 → Qhk p0 (Q78 p0 i1) (Qch p0 r1 i1)
 | [], i1, hd => by
  have hc1 : (decide ((i1 : Int) < ((List.length p0.owners) : Int))) = false := by have := Q1f hd; simp; omega
  rw [Qch]
  exact Q1ak p0 H i1 hc1
 | x1 :: r1, i1, hd => by
  obtain ⟨hx1, hi1, hd'⟩ := Q11 hd
  have hc1 : (decide ((i1 : Int) < ((List.length p0.owners) : Int))) = true := by simp; omega
  rw [Qch]
  cases h0 : (decide (400 < (w64 ((ByteArray.size x1.kind : Int) + (ByteArray.size x1.name : Int))))) with
  | true =>
   exact Q1a4 p0 H x1 i1 hx1 hi1 hc1 h0
  | false =>
   exact Qxp p0 (fun r hr => Q18o p0 H x1 i1 hx1 hi1 hc1 h0 hr) _ (Q112 p0 H r1 (i1 + 1) hd')
inductive Q185 where
  | k0
  | k1
def Qcq (p0 : Meta) : List ByteArray → Nat → Q185
 | [], _i2 =>
  (.k0)
 | x2 :: r2, i2 =>
  bif (decide (400 < (ByteArray.size x2 : Int))) then
   (.k1)
  else
   Qcq p0 r2 (i2 + 1)
def Q10t (p0 : Meta) (i2 : Nat) : List PV :=
  [.un, .bx 0 0] ++ nuns 80 ++ [.sl (Qc p0.finalizers), .int .i64 ((List.length p0.finalizers) : Int), .int .i64 (i2 : Int)] ++ nuns 36
def Q10r (p0 : Meta) (_i2 : Nat) : List Ob :=
  [⟨13, 0, true, [.str p0.kind, .str p0.namespace_, .str p0.name, .int .i64 p0.uid, .int .i64 p0.version, .int .i64 p0.generation, .int .i64 p0.created, .bool p0.deleting, .int .i64 p0.deleteAt, .sl (Label.rows p0.labels), .sl (Owner.rows p0.owners), .sl (Qc p0.finalizers), .sl (Manager.rows p0.managers)]⟩]
def Q82 (p0 : Meta) (i2 : Nat) : En := .loop 0 Ir.Qnr Ir.Q1k3 (Q10t p0 i2) (Q10r p0 i2)
def Q8g (p0 : Meta) (z : Nat → PV) (_zo : Nat → List PV) : St :=
  ⟨[z 0, .bx 0 0] ++ zr z 2 119, [(0, ⟨13, 0, true, [.str p0.kind, .str p0.namespace_, .str p0.name, .int .i64 p0.uid, .int .i64 p0.version, .int .i64 p0.generation, .int .i64 p0.created, .bool p0.deleting, .int .i64 p0.deleteAt, .sl (Label.rows p0.labels), .sl (Owner.rows p0.owners), .sl (Qc p0.finalizers), .sl (Manager.rows p0.managers)]⟩)], 65⟩
def Qjf (_p0 : Meta) (z : Nat → PV) (zo : Nat → List PV) : St :=
  ⟨[z 0, z 1, .bool false] ++ zr z 3 118, [(0, ⟨13, 0, true, zo 0⟩)], 513⟩
def Ql8 (p0 : Meta) (e : En) : Q185 → Prop
  | .k0 => ∃ z zo, Q6 G e (.st (.exit 4) (Q8g p0 z zo))
  | .k1 => ∃ z zo, Q6 G e (.st .ret (Qjf p0 z zo))
theorem Qv2 (p0 : Meta) {e e' : En} (h : ∀ r, Q6 G e r → Q6 G e' r) : ∀ q, Ql8 p0 e q → Ql8 p0 e' q
  | .k0, ⟨z, zo, hz⟩ => ⟨z, zo, h _ hz⟩
  | .k1, ⟨z, zo, hz⟩ => ⟨z, zo, h _ hz⟩
def Qlg (p0 : Meta) : Prop := (List.length p0.finalizers ≤ 4611686018427387904) ∧ True
def Quv (p0 : Meta) (i2 : Nat) : List PV :=
  nuns 82 ++ [.sl (Qc p0.finalizers), .int .i64 ((List.length p0.finalizers) : Int), .int .i64 (i2 : Int), .bool false]
def Qoe (_p0 : Meta) (_i2 : Nat) : List (Nat × List PV) :=
  []
theorem Q18e (p0 : Meta) (_H : Qlg p0) (i2 : Nat) (hc2 : (decide ((i2 : Int) < ((List.length p0.finalizers) : Int))) = false) : Ql8 p0 (Q82 p0 i2) (.k0) := by
 exact ⟨(envF (Quv p0 i2)), (zoF (Qoe p0 i2)), Qe VOK.nil (x := ((.exit 4), Q8g p0 (envF (Quv p0 i2)) (zoF (Qoe p0 i2)))) [hB 0 hc2] [] (by kernel_rfl)⟩
def Qxf (p0 : Meta) (i2 : Nat) (x2 : BA) : List PV :=
  [.un, .bx 0 0] ++ nuns 6 ++ [.str x2] ++ nuns 73 ++ [.sl (Qc p0.finalizers), .int .i64 ((List.length p0.finalizers) : Int), .int .i64 (i2 : Int), .bool true, .rf [.str x2], .str x2, .str x2, .int .i64 (ByteArray.size x2 : Int), .bool true]
def Qps (p0 : Meta) (_i2 : Nat) (_x2 : BA) : List (Nat × List PV) :=
  [(0, [.str p0.kind, .str p0.namespace_, .str p0.name, .int .i64 p0.uid, .int .i64 p0.version, .int .i64 p0.generation, .int .i64 p0.created, .bool p0.deleting, .int .i64 p0.deleteAt, .sl (Label.rows p0.labels), .sl (Owner.rows p0.owners), .sl (Qc p0.finalizers), .sl (Manager.rows p0.managers)])]
theorem Q196 (p0 : Meta) (_H : Qlg p0) (x2 : BA) (i2 : Nat) (hx2 : p0.finalizers[i2]? = some x2) (_hi2 : i2 < List.length p0.finalizers) (hc2 : (decide ((i2 : Int) < ((List.length p0.finalizers) : Int))) = true) (h0 : (decide (400 < (ByteArray.size x2 : Int))) = true) : Ql8 p0 (Q82 p0 i2) (.k1) := by
 exact ⟨(envF (Qxf p0 i2 x2)), (zoF (Qps p0 i2 x2)), Qe VOK.nil (x := (.ret, Qjf p0 (envF (Qxf p0 i2 x2)) (zoF (Qps p0 i2 x2)))) [hB 0 hc2, hP 0 (Q1u 1 (Qc p0.finalizers) i2 _ (Q3k hx2) rfl), hB 4 h0] [] (by kernel_rfl)⟩
theorem Q1ae (p0 : Meta) (H : Qlg p0) (x2 : BA) (i2 : Nat) (hx2 : p0.finalizers[i2]? = some x2) (hi2 : i2 < List.length p0.finalizers) (hc2 : (decide ((i2 : Int) < ((List.length p0.finalizers) : Int))) = true) (h0 : (decide (400 < (ByteArray.size x2 : Int))) = false) {r : Rs} (hr : Q6 G (Q82 p0 (i2 + 1)) r) : Q6 G (Q82 p0 i2) r := by
 have hB0 := H.1; have e0 := of_decide_eq_false h0
 exact Ql VOK.nil (y := (Q10t p0 (i2 + 1), Q10r p0 (i2 + 1))) [hB 0 hc2, hP 0 (Q1u 1 (Qc p0.finalizers) i2 _ (Q3k hx2) rfl), hB 4 h0, hP 0 (Q27 i2 (by omega))] [] (by kernel_rfl) hr
theorem Q117 (p0 : Meta) (H : Qlg p0) : ∀ (r2 : List ByteArray) (i2 : Nat), List.drop i2 p0.finalizers = r2 → Ql8 p0 (Q82 p0 i2) (Qcq p0 r2 i2)
 | [], i2, hd => by
  have hc2 : (decide ((i2 : Int) < ((List.length p0.finalizers) : Int))) = false := by have := Q1f hd; simp; omega
  rw [Qcq]
  exact Q18e p0 H i2 hc2
 | x2 :: r2, i2, hd => by
  obtain ⟨hx2, hi2, hd'⟩ := Q11 hd
  have hc2 : (decide ((i2 : Int) < ((List.length p0.finalizers) : Int))) = true := by simp; omega
  rw [Qcq]
  cases h0 : (decide (400 < (ByteArray.size x2 : Int))) with
  | true =>
   exact Q196 p0 H x2 i2 hx2 hi2 hc2 h0
  | false =>
   exact Qv2 p0 (fun r hr => Q1ae p0 H x2 i2 hx2 hi2 hc2 h0 hr) _ (Q117 p0 H r2 (i2 + 1) hd')
inductive Q19m where
  | k0
  | k1
def Qdb (p0 : Meta) (i3 : Nat) (x3 : Manager) : List ByteArray → Nat → Q19m
 | [], _i4 =>
  (.k0)
 | x4 :: r4, i4 =>
  bif (decide (2000 < (ByteArray.size x4 : Int))) then
   (.k1)
  else
   Qdb p0 i3 x3 r4 (i4 + 1)
def Qzs (p0 : Meta) (i3 : Nat) (x3 : Manager) (i4 : Nat) : List PV :=
  nuns 93 ++ [.sl (Manager.rows p0.managers), .int .i64 ((List.length p0.managers) : Int), .int .i64 (i3 : Int)] ++ nuns 14 ++ [.sl (Qc x3.fields), .int .i64 ((List.length x3.fields) : Int), .int .i64 (i4 : Int)] ++ nuns 8
def Q11z (_p0 : Meta) (_i3 : Nat) (_x3 : Manager) (_i4 : Nat) : List Ob :=
  []
def Qag (p0 : Meta) (i3 : Nat) (x3 : Manager) (i4 : Nat) : En := .loop 0 Ir.Qq1 Ir.Q1jv (Qzs p0 i3 x3 i4) (Q11z p0 i3 x3 i4)
def Qk4 (p0 : Meta) (i3 : Nat) (_x3 : Manager) (z : Nat → PV) (_zo : Nat → List PV) : St :=
  ⟨zr z 0 93 ++ [.sl (Manager.rows p0.managers), .int .i64 ((List.length p0.managers) : Int), .int .i64 (i3 : Int)] ++ zr z 96 25, [], 64⟩
def Qll (_p0 : Meta) (_i3 : Nat) (_x3 : Manager) (z : Nat → PV) (_zo : Nat → List PV) : St :=
  ⟨[z 0, z 1, .bool false] ++ zr z 3 118, [], 512⟩
def Qi6 (p0 : Meta) (i3 : Nat) (x3 : Manager) (e : En) : Q19m → Prop
  | .k0 => ∃ z zo, Q6 G e (.st (.exit 8) (Qk4 p0 i3 x3 z zo))
  | .k1 => ∃ z zo, Q6 G e (.st .ret (Qll p0 i3 x3 z zo))
theorem Qu3 (p0 : Meta) (i3 : Nat) (x3 : Manager) {e e' : En} (h : ∀ r, Q6 G e r → Q6 G e' r) : ∀ q, Qi6 p0 i3 x3 e q → Qi6 p0 i3 x3 e' q
  | .k0, ⟨z, zo, hz⟩ => ⟨z, zo, h _ hz⟩
  | .k1, ⟨z, zo, hz⟩ => ⟨z, zo, h _ hz⟩
def Qj3 (_p0 : Meta) (_i3 : Nat) (x3 : Manager) : Prop := (List.length x3.fields ≤ 4611686018427387904) ∧ True
def Qub (_p0 : Meta) (_i3 : Nat) (x3 : Manager) (i4 : Nat) : List PV :=
  nuns 110 ++ [.sl (Qc x3.fields), .int .i64 ((List.length x3.fields) : Int), .int .i64 (i4 : Int), .bool false]
def Qop (_p0 : Meta) (_i3 : Nat) (_x3 : Manager) (_i4 : Nat) : List (Nat × List PV) :=
  []
theorem Q19o (p0 : Meta) (i3 : Nat) (x3 : Manager) (_H : Qj3 p0 i3 x3) (i4 : Nat) (hc4 : (decide ((i4 : Int) < ((List.length x3.fields) : Int))) = false) : Qi6 p0 i3 x3 (Qag p0 i3 x3 i4) (.k0) := by
 exact ⟨(envF (Qub p0 i3 x3 i4)), (zoF (Qop p0 i3 x3 i4)), Qe VOK.nil (x := ((.exit 8), Qk4 p0 i3 x3 (envF (Qub p0 i3 x3 i4)) (zoF (Qop p0 i3 x3 i4)))) [hB 0 hc4] [] (by kernel_rfl)⟩
def Qv8 (p0 : Meta) (i3 : Nat) (x3 : Manager) (i4 : Nat) (x4 : BA) : List PV :=
  nuns 12 ++ [.str x4] ++ nuns 80 ++ [.sl (Manager.rows p0.managers), .int .i64 ((List.length p0.managers) : Int), .int .i64 (i3 : Int)] ++ nuns 14 ++ [.sl (Qc x3.fields), .int .i64 ((List.length x3.fields) : Int), .int .i64 (i4 : Int), .bool true, .rf [.str x4], .str x4, .str x4, .int .i64 (ByteArray.size x4 : Int), .bool true]
def Qqk (_p0 : Meta) (_i3 : Nat) (_x3 : Manager) (_i4 : Nat) (_x4 : BA) : List (Nat × List PV) :=
  []
theorem Q19p (p0 : Meta) (i3 : Nat) (x3 : Manager) (_H : Qj3 p0 i3 x3) (x4 : BA) (i4 : Nat) (hx4 : x3.fields[i4]? = some x4) (_hi4 : i4 < List.length x3.fields) (hc4 : (decide ((i4 : Int) < ((List.length x3.fields) : Int))) = true) (h0 : (decide (2000 < (ByteArray.size x4 : Int))) = true) : Qi6 p0 i3 x3 (Qag p0 i3 x3 i4) (.k1) := by
 exact ⟨(envF (Qv8 p0 i3 x3 i4 x4)), (zoF (Qqk p0 i3 x3 i4 x4)), Qe VOK.nil (x := (.ret, Qll p0 i3 x3 (envF (Qv8 p0 i3 x3 i4 x4)) (zoF (Qqk p0 i3 x3 i4 x4)))) [hB 0 hc4, hP 0 (Q1u 1 (Qc x3.fields) i4 _ (Q3k hx4) rfl), hB 4 h0] [] (by kernel_rfl)⟩
theorem Q19v (p0 : Meta) (i3 : Nat) (x3 : Manager) (H : Qj3 p0 i3 x3) (x4 : BA) (i4 : Nat) (hx4 : x3.fields[i4]? = some x4) (hi4 : i4 < List.length x3.fields) (hc4 : (decide ((i4 : Int) < ((List.length x3.fields) : Int))) = true) (h0 : (decide (2000 < (ByteArray.size x4 : Int))) = false) {r : Rs} (hr : Q6 G (Qag p0 i3 x3 (i4 + 1)) r) : Q6 G (Qag p0 i3 x3 i4) r := by
 have hB0 := H.1; have e0 := of_decide_eq_false h0
 exact Ql VOK.nil (y := (Qzs p0 i3 x3 (i4 + 1), Q11z p0 i3 x3 (i4 + 1))) [hB 0 hc4, hP 0 (Q1u 1 (Qc x3.fields) i4 _ (Q3k hx4) rfl), hB 4 h0, hP 0 (Q27 i4 (by omega))] [] (by kernel_rfl) hr
theorem Q11m (p0 : Meta) (i3 : Nat) (x3 : Manager) (H : Qj3 p0 i3 x3) : ∀ (r4 : List ByteArray) (i4 : Nat), List.drop i4 x3.fields = r4 → Qi6 p0 i3 x3 (Qag p0 i3 x3 i4) (Qdb p0 i3 x3 r4 i4)
 | [], i4, hd => by
  have hc4 : (decide ((i4 : Int) < ((List.length x3.fields) : Int))) = false := by have := Q1f hd; simp; omega
  rw [Qdb]
  exact Q19o p0 i3 x3 H i4 hc4
 | x4 :: r4, i4, hd => by
  obtain ⟨hx4, hi4, hd'⟩ := Q11 hd
  have hc4 : (decide ((i4 : Int) < ((List.length x3.fields) : Int))) = true := by simp; omega
  rw [Qdb]
  cases h0 : (decide (2000 < (ByteArray.size x4 : Int))) with
  | true =>
   exact Q19p p0 i3 x3 H x4 i4 hx4 hi4 hc4 h0
  | false =>
   exact Qu3 p0 i3 x3 (fun r hr => Q19v p0 i3 x3 H x4 i4 hx4 hi4 hc4 h0 hr) _ (Q11m p0 i3 x3 H r4 (i4 + 1) hd')
inductive Q18c where
  | k0
  | k1
  | k2
def Qci (p0 : Meta) : List Manager → Nat → Q18c
 | [], _i3 =>
  (.k0)
 | x3 :: r3, i3 =>
  bif (decide (400 < (ByteArray.size x3.name : Int))) then
   (.k1)
  else
   bif (decide (200 < ((List.length x3.fields) : Int))) then
    (.k1)
   else
    (match (Qdb p0 i3 x3 x3.fields 0) with
    | .k0 => Qci p0 r3 (i3 + 1)
    | .k1 => (.k2))
def Q11t (p0 : Meta) (i3 : Nat) : List PV :=
  nuns 93 ++ [.sl (Manager.rows p0.managers), .int .i64 ((List.length p0.managers) : Int), .int .i64 (i3 : Int)] ++ nuns 25
def Q12f (_p0 : Meta) (_i3 : Nat) : List Ob :=
  []
def Q6z (p0 : Meta) (i3 : Nat) : En := .loop 0 Ir.Qng Ir.Q1j1 (Q11t p0 i3) (Q12f p0 i3)
def Qh8 (_p0 : Meta) (z : Nat → PV) (_zo : Nat → List PV) : St :=
  ⟨zr z 0 121, [], 64⟩
def Qbo (_p0 : Meta) (z : Nat → PV) (zo : Nat → List PV) : St :=
  ⟨[z 0, z 1, .bool false] ++ zr z 3 118, [(192, ⟨2, 0, true, zo 192⟩)], 1024⟩
def Qjw (_p0 : Meta) (z : Nat → PV) (_zo : Nat → List PV) : St :=
  ⟨[z 0, z 1, .bool false] ++ zr z 3 118, [], 512⟩
def Qa8 (p0 : Meta) (e : En) : Q18c → Prop
  | .k0 => ∃ z zo, Q6 G e (.st (.exit 6) (Qh8 p0 z zo))
  | .k1 => ∃ z zo, Q6 G e (.st .ret (Qbo p0 z zo))
  | .k2 => ∃ z zo, Q6 G e (.st .ret (Qjw p0 z zo))
theorem Qv1 (p0 : Meta) {e e' : En} (h : ∀ r, Q6 G e r → Q6 G e' r) : ∀ q, Qa8 p0 e q → Qa8 p0 e' q
  | .k0, ⟨z, zo, hz⟩ => ⟨z, zo, h _ hz⟩
  | .k1, ⟨z, zo, hz⟩ => ⟨z, zo, h _ hz⟩
  | .k2, ⟨z, zo, hz⟩ => ⟨z, zo, h _ hz⟩
def Qa5 (p0 : Meta) : Prop := (List.length p0.managers ≤ 4611686018427387904) ∧ (∀ (i3 : Nat) (x3 : Manager), p0.managers[i3]? = some x3 → Qj3 p0 i3 x3) ∧ True
def Qvp (p0 : Meta) (i3 : Nat) : List PV :=
  nuns 93 ++ [.sl (Manager.rows p0.managers), .int .i64 ((List.length p0.managers) : Int), .int .i64 (i3 : Int), .bool false]
def Qo3 (_p0 : Meta) (_i3 : Nat) : List (Nat × List PV) :=
  []
theorem Q18q (p0 : Meta) (_H : Qa5 p0) (i3 : Nat) (hc3 : (decide ((i3 : Int) < ((List.length p0.managers) : Int))) = false) : Qa8 p0 (Q6z p0 i3) (.k0) := by
 exact ⟨(envF (Qvp p0 i3)), (zoF (Qo3 p0 i3)), Qe VOK.nil (x := ((.exit 6), Qh8 p0 (envF (Qvp p0 i3)) (zoF (Qo3 p0 i3)))) [hB 0 hc3] [] (by kernel_rfl)⟩
def Qw2 (p0 : Meta) (i3 : Nat) (x3 : Manager) : List PV :=
  nuns 10 ++ [.bx 192 0] ++ nuns 82 ++ [.sl (Manager.rows p0.managers), .int .i64 ((List.length p0.managers) : Int), .int .i64 (i3 : Int), .bool true, .rf [.str x3.name, .sl (Qc x3.fields)], .agg [.str x3.name, .sl (Qc x3.fields)], .bx 192 0, .str x3.name, .int .i64 (ByteArray.size x3.name : Int), .bool true, .bool true, .tup [], .tup [], .tup [], .tup [], .bool true]
def Qqe (_p0 : Meta) (_i3 : Nat) (x3 : Manager) : List (Nat × List PV) :=
  [(192, [.str x3.name, .sl (Qc x3.fields)])]
theorem Q19j (p0 : Meta) (_H : Qa5 p0) (x3 : Manager) (i3 : Nat) (hx3 : p0.managers[i3]? = some x3) (_hi3 : i3 < List.length p0.managers) (hc3 : (decide ((i3 : Int) < ((List.length p0.managers) : Int))) = true) (h0 : (decide (400 < (ByteArray.size x3.name : Int))) = true) : Qa8 p0 (Q6z p0 i3) (.k1) := by
 exact ⟨(envF (Qw2 p0 i3 x3)), (zoF (Qqe p0 i3 x3)), Qe VOK.nil (x := (.ret, Qbo p0 (envF (Qw2 p0 i3 x3)) (zoF (Qqe p0 i3 x3)))) [hB 0 hc3, hP 0 (Q1u 2 (Manager.rows p0.managers) i3 _ (Manager.Qb hx3) rfl), hB 6 h0] [] (by kernel_rfl)⟩
def Qud (p0 : Meta) (i3 : Nat) (x3 : Manager) : List PV :=
  nuns 10 ++ [.bx 192 0] ++ nuns 82 ++ [.sl (Manager.rows p0.managers), .int .i64 ((List.length p0.managers) : Int), .int .i64 (i3 : Int), .bool true, .rf [.str x3.name, .sl (Qc x3.fields)], .agg [.str x3.name, .sl (Qc x3.fields)], .bx 192 0, .str x3.name, .int .i64 (ByteArray.size x3.name : Int), .bool false, .bool false, .bx 192 1, .sl (Qc x3.fields), .int .i64 ((List.length x3.fields) : Int), .bool true, .bool true]
def Qp0 (_p0 : Meta) (_i3 : Nat) (x3 : Manager) : List (Nat × List PV) :=
  [(192, [.str x3.name, .sl (Qc x3.fields)])]
theorem Q180 (p0 : Meta) (_H : Qa5 p0) (x3 : Manager) (i3 : Nat) (hx3 : p0.managers[i3]? = some x3) (_hi3 : i3 < List.length p0.managers) (hc3 : (decide ((i3 : Int) < ((List.length p0.managers) : Int))) = true) (h0 : (decide (400 < (ByteArray.size x3.name : Int))) = false) (h1 : (decide (200 < ((List.length x3.fields) : Int))) = true) : Qa8 p0 (Q6z p0 i3) (.k1) := by
 exact ⟨(envF (Qud p0 i3 x3)), (zoF (Qp0 p0 i3 x3)), Qe VOK.nil (x := (.ret, Qbo p0 (envF (Qud p0 i3 x3)) (zoF (Qp0 p0 i3 x3)))) [hB 0 hc3, hP 0 (Q1u 2 (Manager.rows p0.managers) i3 _ (Manager.Qb hx3) rfl), hB 6 h0, hP 3 (Qd (Qc x3.fields) (List.length x3.fields) (Q17 x3.fields)), hB 0 h1] [] (by kernel_rfl)⟩
theorem Q1af (p0 : Meta) (H : Qa5 p0) (x3 : Manager) (i3 : Nat) (hx3 : p0.managers[i3]? = some x3) (hi3 : i3 < List.length p0.managers) (hc3 : (decide ((i3 : Int) < ((List.length p0.managers) : Int))) = true) (h0 : (decide (400 < (ByteArray.size x3.name : Int))) = false) (h1 : (decide (200 < ((List.length x3.fields) : Int))) = false) (z2 : Nat → PV) (zo2 : Nat → List PV) (hl2 : Q6 G (Qag p0 i3 x3 0) (.st (.exit 8) (Qk4 p0 i3 x3 z2 zo2))) {r : Rs} (hr : Q6 G (Q6z p0 (i3 + 1)) r) : Q6 G (Q6z p0 i3) r := by
 have hB0 := H.1; have e0 := of_decide_eq_false h0; have e1 := of_decide_eq_false h1
 exact Ql VOK.nil (y := (Q11t p0 (i3 + 1), Q12f p0 (i3 + 1))) [hB 0 hc3, hP 0 (Q1u 2 (Manager.rows p0.managers) i3 _ (Manager.Qb hx3) rfl), hB 6 h0, hP 3 (Qd (Qc x3.fields) (List.length x3.fields) (Q17 x3.fields)), hB 0 h1, hP 3 (Qd (Qc x3.fields) (List.length x3.fields) (Q17 x3.fields)), hP 1 (Q27 i3 (by omega))] [aN hl2] (by kernel_rfl) hr
def Qv0 (_p0 : Meta) (_i3 : Nat) (_x3 : Manager) (z2 : Nat → PV) (_zo2 : Nat → List PV) : List PV :=
  [(z2 0), (z2 1), .un, (z2 3), (z2 4), (z2 5), (z2 6), (z2 7), (z2 8), (z2 9), (z2 10), (z2 11), (z2 12), (z2 13), (z2 14), (z2 15), (z2 16), (z2 17), (z2 18), (z2 19), (z2 20), (z2 21), (z2 22), (z2 23), (z2 24), (z2 25), (z2 26), (z2 27), (z2 28), (z2 29), (z2 30), (z2 31), (z2 32), (z2 33), (z2 34), (z2 35), (z2 36), (z2 37), (z2 38), (z2 39), (z2 40), (z2 41), (z2 42), (z2 43), (z2 44), (z2 45), (z2 46), (z2 47), (z2 48), (z2 49), (z2 50), (z2 51), (z2 52), (z2 53), (z2 54), (z2 55), (z2 56), (z2 57), (z2 58), (z2 59), (z2 60), (z2 61), (z2 62), (z2 63), (z2 64), (z2 65), (z2 66), (z2 67), (z2 68), (z2 69), (z2 70), (z2 71), (z2 72), (z2 73), (z2 74), (z2 75), (z2 76), (z2 77), (z2 78), (z2 79), (z2 80), (z2 81), (z2 82), (z2 83), (z2 84), (z2 85), (z2 86), (z2 87), (z2 88), (z2 89), (z2 90), (z2 91), (z2 92), (z2 93), (z2 94), (z2 95), (z2 96), (z2 97), (z2 98), (z2 99), (z2 100), (z2 101), (z2 102), (z2 103), (z2 104), (z2 105), (z2 106), (z2 107), (z2 108), (z2 109), (z2 110), (z2 111), (z2 112), (z2 113), (z2 114), (z2 115), (z2 116), (z2 117), (z2 118), (z2 119), (z2 120)]
def Qmx (_p0 : Meta) (_i3 : Nat) (_x3 : Manager) (_z2 : Nat → PV) (_zo2 : Nat → List PV) : List (Nat × List PV) :=
  []
theorem Q18i (p0 : Meta) (_H : Qa5 p0) (x3 : Manager) (i3 : Nat) (hx3 : p0.managers[i3]? = some x3) (_hi3 : i3 < List.length p0.managers) (hc3 : (decide ((i3 : Int) < ((List.length p0.managers) : Int))) = true) (h0 : (decide (400 < (ByteArray.size x3.name : Int))) = false) (h1 : (decide (200 < ((List.length x3.fields) : Int))) = false) (z2 : Nat → PV) (zo2 : Nat → List PV) (hl2 : Q6 G (Qag p0 i3 x3 0) (.st .ret (Qll p0 i3 x3 z2 zo2))) : Qa8 p0 (Q6z p0 i3) (.k2) := by
 exact ⟨(envF (Qv0 p0 i3 x3 z2 zo2)), (zoF (Qmx p0 i3 x3 z2 zo2)), Qe VOK.nil (x := (.ret, Qjw p0 (envF (Qv0 p0 i3 x3 z2 zo2)) (zoF (Qmx p0 i3 x3 z2 zo2)))) [hB 0 hc3, hP 0 (Q1u 2 (Manager.rows p0.managers) i3 _ (Manager.Qb hx3) rfl), hB 6 h0, hP 3 (Qd (Qc x3.fields) (List.length x3.fields) (Q17 x3.fields)), hB 0 h1, hP 3 (Qd (Qc x3.fields) (List.length x3.fields) (Q17 x3.fields))] [aN hl2] (by kernel_rfl)⟩
theorem Q113 (p0 : Meta) (H : Qa5 p0) : ∀ (r3 : List Manager) (i3 : Nat), List.drop i3 p0.managers = r3 → Qa8 p0 (Q6z p0 i3) (Qci p0 r3 i3)
 | [], i3, hd => by
  have hc3 : (decide ((i3 : Int) < ((List.length p0.managers) : Int))) = false := by have := Q1f hd; simp; omega
  rw [Qci]
  exact Q18q p0 H i3 hc3
 | x3 :: r3, i3, hd => by
  obtain ⟨hx3, hi3, hd'⟩ := Q11 hd
  have hc3 : (decide ((i3 : Int) < ((List.length p0.managers) : Int))) = true := by simp; omega
  rw [Qci]
  cases h0 : (decide (400 < (ByteArray.size x3.name : Int))) with
  | true =>
   exact Q19j p0 H x3 i3 hx3 hi3 hc3 h0
  | false =>
   cases h1 : (decide (200 < ((List.length x3.fields) : Int))) with
   | true =>
    exact Q180 p0 H x3 i3 hx3 hi3 hc3 h0 h1
   | false =>
    have hl2 := Q11m p0 i3 x3 ((H.2.1 i3 x3 hx3)) x3.fields 0 (by simp)
    cases hr2 : (Qdb p0 i3 x3 x3.fields 0) with
    | k0 =>
     rw [hr2] at hl2
     obtain ⟨z2, zo2, hl2⟩ := hl2
     exact Qv1 p0 (fun r hr => Q1af p0 H x3 i3 hx3 hi3 hc3 h0 h1 z2 zo2 hl2 hr) _ (Q113 p0 H r3 (i3 + 1) hd')
    | k1 =>
     rw [hr2] at hl2
     obtain ⟨z2, zo2, hl2⟩ := hl2
     exact Q18i p0 H x3 i3 hx3 hi3 hc3 h0 h1 z2 zo2 hl2
def s_K5 (p0 : Meta) : Bool :=
 bif (decide (60 < ((List.length p0.labels) : Int))) then
  false
 else
  bif (decide (60 < ((List.length p0.owners) : Int))) then
   false
  else
   bif (decide (60 < ((List.length p0.finalizers) : Int))) then
    false
   else
    bif (decide (60 < ((List.length p0.managers) : Int))) then
     false
    else
     bif (decide (400 < (w64 ((w64 ((ByteArray.size p0.kind : Int) + (ByteArray.size p0.namespace_ : Int))) + (ByteArray.size p0.name : Int))))) then
      false
     else
      (match (Qdc p0 p0.labels 0) with
      | .k0 => (match (Qch p0 p0.owners 0) with
       | .k0 => (match (Qcq p0 p0.finalizers 0) with
        | .k0 => (match (Qci p0 p0.managers 0) with
         | .k0 => true
         | .k1 => false
         | .k2 => false)
        | .k1 => false)
       | .k1 => false)
      | .k1 => false)
def c_K5 (p0 : Meta) : En := .call 8 [.agg (Meta.cells p0)] []
def a_K5 (p0 : Meta) : Rs := .ret (.bool (s_K5 p0)) []
def H_K5 (p0 : Meta) : Prop := (Qlr p0) ∧ (Qhc p0) ∧ (Qlg p0) ∧ (Qa5 p0) ∧ True
theorem Q1h9 (p0 : Meta) (_H : H_K5 p0) (h0 : (decide (60 < ((List.length p0.labels) : Int))) = true) : Q6 G (c_K5 p0) (.ret (.bool (false)) []) := by
 exact Q7 (fn := Ir.K5) rfl VOK.nil [hP 4 (Qd (Label.rows p0.labels) (List.length p0.labels) (Label.Q5 p0.labels)), hB 0 h0] [] (by kernel_rfl)
theorem Q1iy (p0 : Meta) (_H : H_K5 p0) (h0 : (decide (60 < ((List.length p0.labels) : Int))) = false) (h1 : (decide (60 < ((List.length p0.owners) : Int))) = true) : Q6 G (c_K5 p0) (.ret (.bool (false)) []) := by
 exact Q7 (fn := Ir.K5) rfl VOK.nil [hP 4 (Qd (Label.rows p0.labels) (List.length p0.labels) (Label.Q5 p0.labels)), hB 0 h0, hP 3 (Qd (Owner.rows p0.owners) (List.length p0.owners) (Owner.Q5 p0.owners)), hB 0 h1] [] (by kernel_rfl)
theorem Q1j0 (p0 : Meta) (_H : H_K5 p0) (h0 : (decide (60 < ((List.length p0.labels) : Int))) = false) (h1 : (decide (60 < ((List.length p0.owners) : Int))) = false) (h2 : (decide (60 < ((List.length p0.finalizers) : Int))) = true) : Q6 G (c_K5 p0) (.ret (.bool (false)) []) := by
 exact Q7 (fn := Ir.K5) rfl VOK.nil [hP 4 (Qd (Label.rows p0.labels) (List.length p0.labels) (Label.Q5 p0.labels)), hB 0 h0, hP 3 (Qd (Owner.rows p0.owners) (List.length p0.owners) (Owner.Q5 p0.owners)), hB 0 h1, hP 4 (Qd (Qc p0.finalizers) (List.length p0.finalizers) (Q17 p0.finalizers)), hB 0 h2] [] (by kernel_rfl)
theorem Q1in (p0 : Meta) (_H : H_K5 p0) (h0 : (decide (60 < ((List.length p0.labels) : Int))) = false) (h1 : (decide (60 < ((List.length p0.owners) : Int))) = false) (h2 : (decide (60 < ((List.length p0.finalizers) : Int))) = false) (h3 : (decide (60 < ((List.length p0.managers) : Int))) = true) : Q6 G (c_K5 p0) (.ret (.bool (false)) []) := by
 exact Q7 (fn := Ir.K5) rfl VOK.nil [hP 4 (Qd (Label.rows p0.labels) (List.length p0.labels) (Label.Q5 p0.labels)), hB 0 h0, hP 3 (Qd (Owner.rows p0.owners) (List.length p0.owners) (Owner.Q5 p0.owners)), hB 0 h1, hP 4 (Qd (Qc p0.finalizers) (List.length p0.finalizers) (Q17 p0.finalizers)), hB 0 h2, hP 4 (Qd (Manager.rows p0.managers) (List.length p0.managers) (Manager.Q5 p0.managers)), hB 0 h3] [] (by kernel_rfl)
theorem Q1h7 (p0 : Meta) (_H : H_K5 p0) (h0 : (decide (60 < ((List.length p0.labels) : Int))) = false) (h1 : (decide (60 < ((List.length p0.owners) : Int))) = false) (h2 : (decide (60 < ((List.length p0.finalizers) : Int))) = false) (h3 : (decide (60 < ((List.length p0.managers) : Int))) = false) (h4 : (decide (400 < (w64 ((w64 ((ByteArray.size p0.kind : Int) + (ByteArray.size p0.namespace_ : Int))) + (ByteArray.size p0.name : Int))))) = true) : Q6 G (c_K5 p0) (.ret (.bool (false)) []) := by
 exact Q7 (fn := Ir.K5) rfl VOK.nil [hP 4 (Qd (Label.rows p0.labels) (List.length p0.labels) (Label.Q5 p0.labels)), hB 0 h0, hP 3 (Qd (Owner.rows p0.owners) (List.length p0.owners) (Owner.Q5 p0.owners)), hB 0 h1, hP 4 (Qd (Qc p0.finalizers) (List.length p0.finalizers) (Q17 p0.finalizers)), hB 0 h2, hP 4 (Qd (Manager.rows p0.managers) (List.length p0.managers) (Manager.Q5 p0.managers)), hB 0 h3, hB 13 h4] [] (by kernel_rfl)
theorem Q1hf (p0 : Meta) (_H : H_K5 p0) (h0 : (decide (60 < ((List.length p0.labels) : Int))) = false) (h1 : (decide (60 < ((List.length p0.owners) : Int))) = false) (h2 : (decide (60 < ((List.length p0.finalizers) : Int))) = false) (h3 : (decide (60 < ((List.length p0.managers) : Int))) = false) (h4 : (decide (400 < (w64 ((w64 ((ByteArray.size p0.kind : Int) + (ByteArray.size p0.namespace_ : Int))) + (ByteArray.size p0.name : Int))))) = false) (z5 : Nat → PV) (zo5 : Nat → List PV) (hl5 : Q6 G (Q6c p0 0) (.st (.exit 0) (Q6f p0 z5 zo5))) (z6 : Nat → PV) (zo6 : Nat → List PV) (hl6 : Q6 G (Q78 p0 0) (.st (.exit 2) (Q7o p0 z6 zo6))) (z7 : Nat → PV) (zo7 : Nat → List PV) (hl7 : Q6 G (Q82 p0 0) (.st (.exit 4) (Q8g p0 z7 zo7))) (z8 : Nat → PV) (zo8 : Nat → List PV) (hl8 : Q6 G (Q6z p0 0) (.st (.exit 6) (Qh8 p0 z8 zo8))) : Q6 G (c_K5 p0) (.ret (.bool (true)) []) := by
 exact Q7 (fn := Ir.K5) rfl VOK.nil [hP 4 (Qd (Label.rows p0.labels) (List.length p0.labels) (Label.Q5 p0.labels)), hB 0 h0, hP 3 (Qd (Owner.rows p0.owners) (List.length p0.owners) (Owner.Q5 p0.owners)), hB 0 h1, hP 4 (Qd (Qc p0.finalizers) (List.length p0.finalizers) (Q17 p0.finalizers)), hB 0 h2, hP 4 (Qd (Manager.rows p0.managers) (List.length p0.managers) (Manager.Q5 p0.managers)), hB 0 h3, hB 13 h4, hP 3 (Qd (Label.rows p0.labels) (List.length p0.labels) (Label.Q5 p0.labels)), hP 3 (Qd (Owner.rows p0.owners) (List.length p0.owners) (Owner.Q5 p0.owners)), hP 3 (Qd (Qc p0.finalizers) (List.length p0.finalizers) (Q17 p0.finalizers)), hP 3 (Qd (Manager.rows p0.managers) (List.length p0.managers) (Manager.Q5 p0.managers))] [aN hl5, aN hl6, aN hl7, aN hl8] (by kernel_rfl)
theorem Q1jb (p0 : Meta) (_H : H_K5 p0) (h0 : (decide (60 < ((List.length p0.labels) : Int))) = false) (h1 : (decide (60 < ((List.length p0.owners) : Int))) = false) (h2 : (decide (60 < ((List.length p0.finalizers) : Int))) = false) (h3 : (decide (60 < ((List.length p0.managers) : Int))) = false) (h4 : (decide (400 < (w64 ((w64 ((ByteArray.size p0.kind : Int) + (ByteArray.size p0.namespace_ : Int))) + (ByteArray.size p0.name : Int))))) = false) (z5 : Nat → PV) (zo5 : Nat → List PV) (hl5 : Q6 G (Q6c p0 0) (.st (.exit 0) (Q6f p0 z5 zo5))) (z6 : Nat → PV) (zo6 : Nat → List PV) (hl6 : Q6 G (Q78 p0 0) (.st (.exit 2) (Q7o p0 z6 zo6))) (z7 : Nat → PV) (zo7 : Nat → List PV) (hl7 : Q6 G (Q82 p0 0) (.st (.exit 4) (Q8g p0 z7 zo7))) (z8 : Nat → PV) (zo8 : Nat → List PV) (hl8 : Q6 G (Q6z p0 0) (.st .ret (Qbo p0 z8 zo8))) : Q6 G (c_K5 p0) (.ret (.bool (false)) []) := by
 exact Q7 (fn := Ir.K5) rfl VOK.nil [hP 4 (Qd (Label.rows p0.labels) (List.length p0.labels) (Label.Q5 p0.labels)), hB 0 h0, hP 3 (Qd (Owner.rows p0.owners) (List.length p0.owners) (Owner.Q5 p0.owners)), hB 0 h1, hP 4 (Qd (Qc p0.finalizers) (List.length p0.finalizers) (Q17 p0.finalizers)), hB 0 h2, hP 4 (Qd (Manager.rows p0.managers) (List.length p0.managers) (Manager.Q5 p0.managers)), hB 0 h3, hB 13 h4, hP 3 (Qd (Label.rows p0.labels) (List.length p0.labels) (Label.Q5 p0.labels)), hP 3 (Qd (Owner.rows p0.owners) (List.length p0.owners) (Owner.Q5 p0.owners)), hP 3 (Qd (Qc p0.finalizers) (List.length p0.finalizers) (Q17 p0.finalizers)), hP 3 (Qd (Manager.rows p0.managers) (List.length p0.managers) (Manager.Q5 p0.managers))] [aN hl5, aN hl6, aN hl7, aN hl8] (by kernel_rfl)
theorem Q1jo (p0 : Meta) (_H : H_K5 p0) (h0 : (decide (60 < ((List.length p0.labels) : Int))) = false) (h1 : (decide (60 < ((List.length p0.owners) : Int))) = false) (h2 : (decide (60 < ((List.length p0.finalizers) : Int))) = false) (h3 : (decide (60 < ((List.length p0.managers) : Int))) = false) (h4 : (decide (400 < (w64 ((w64 ((ByteArray.size p0.kind : Int) + (ByteArray.size p0.namespace_ : Int))) + (ByteArray.size p0.name : Int))))) = false) (z5 : Nat → PV) (zo5 : Nat → List PV) (hl5 : Q6 G (Q6c p0 0) (.st (.exit 0) (Q6f p0 z5 zo5))) (z6 : Nat → PV) (zo6 : Nat → List PV) (hl6 : Q6 G (Q78 p0 0) (.st (.exit 2) (Q7o p0 z6 zo6))) (z7 : Nat → PV) (zo7 : Nat → List PV) (hl7 : Q6 G (Q82 p0 0) (.st (.exit 4) (Q8g p0 z7 zo7))) (z8 : Nat → PV) (zo8 : Nat → List PV) (hl8 : Q6 G (Q6z p0 0) (.st .ret (Qjw p0 z8 zo8))) : Q6 G (c_K5 p0) (.ret (.bool (false)) []) := by
 exact Q7 (fn := Ir.K5) rfl VOK.nil [hP 4 (Qd (Label.rows p0.labels) (List.length p0.labels) (Label.Q5 p0.labels)), hB 0 h0, hP 3 (Qd (Owner.rows p0.owners) (List.length p0.owners) (Owner.Q5 p0.owners)), hB 0 h1, hP 4 (Qd (Qc p0.finalizers) (List.length p0.finalizers) (Q17 p0.finalizers)), hB 0 h2, hP 4 (Qd (Manager.rows p0.managers) (List.length p0.managers) (Manager.Q5 p0.managers)), hB 0 h3, hB 13 h4, hP 3 (Qd (Label.rows p0.labels) (List.length p0.labels) (Label.Q5 p0.labels)), hP 3 (Qd (Owner.rows p0.owners) (List.length p0.owners) (Owner.Q5 p0.owners)), hP 3 (Qd (Qc p0.finalizers) (List.length p0.finalizers) (Q17 p0.finalizers)), hP 3 (Qd (Manager.rows p0.managers) (List.length p0.managers) (Manager.Q5 p0.managers))] [aN hl5, aN hl6, aN hl7, aN hl8] (by kernel_rfl)
theorem Q1ix (p0 : Meta) (_H : H_K5 p0) (h0 : (decide (60 < ((List.length p0.labels) : Int))) = false) (h1 : (decide (60 < ((List.length p0.owners) : Int))) = false) (h2 : (decide (60 < ((List.length p0.finalizers) : Int))) = false) (h3 : (decide (60 < ((List.length p0.managers) : Int))) = false) (h4 : (decide (400 < (w64 ((w64 ((ByteArray.size p0.kind : Int) + (ByteArray.size p0.namespace_ : Int))) + (ByteArray.size p0.name : Int))))) = false) (z5 : Nat → PV) (zo5 : Nat → List PV) (hl5 : Q6 G (Q6c p0 0) (.st (.exit 0) (Q6f p0 z5 zo5))) (z6 : Nat → PV) (zo6 : Nat → List PV) (hl6 : Q6 G (Q78 p0 0) (.st (.exit 2) (Q7o p0 z6 zo6))) (z7 : Nat → PV) (zo7 : Nat → List PV) (hl7 : Q6 G (Q82 p0 0) (.st .ret (Qjf p0 z7 zo7))) : Q6 G (c_K5 p0) (.ret (.bool (false)) []) := by
 exact Q7 (fn := Ir.K5) rfl VOK.nil [hP 4 (Qd (Label.rows p0.labels) (List.length p0.labels) (Label.Q5 p0.labels)), hB 0 h0, hP 3 (Qd (Owner.rows p0.owners) (List.length p0.owners) (Owner.Q5 p0.owners)), hB 0 h1, hP 4 (Qd (Qc p0.finalizers) (List.length p0.finalizers) (Q17 p0.finalizers)), hB 0 h2, hP 4 (Qd (Manager.rows p0.managers) (List.length p0.managers) (Manager.Q5 p0.managers)), hB 0 h3, hB 13 h4, hP 3 (Qd (Label.rows p0.labels) (List.length p0.labels) (Label.Q5 p0.labels)), hP 3 (Qd (Owner.rows p0.owners) (List.length p0.owners) (Owner.Q5 p0.owners)), hP 3 (Qd (Qc p0.finalizers) (List.length p0.finalizers) (Q17 p0.finalizers))] [aN hl5, aN hl6, aN hl7] (by kernel_rfl)
theorem Q1h2 (p0 : Meta) (_H : H_K5 p0) (h0 : (decide (60 < ((List.length p0.labels) : Int))) = false) (h1 : (decide (60 < ((List.length p0.owners) : Int))) = false) (h2 : (decide (60 < ((List.length p0.finalizers) : Int))) = false) (h3 : (decide (60 < ((List.length p0.managers) : Int))) = false) (h4 : (decide (400 < (w64 ((w64 ((ByteArray.size p0.kind : Int) + (ByteArray.size p0.namespace_ : Int))) + (ByteArray.size p0.name : Int))))) = false) (z5 : Nat → PV) (zo5 : Nat → List PV) (hl5 : Q6 G (Q6c p0 0) (.st (.exit 0) (Q6f p0 z5 zo5))) (z6 : Nat → PV) (zo6 : Nat → List PV) (hl6 : Q6 G (Q78 p0 0) (.st .ret (Qmj p0 z6 zo6))) : Q6 G (c_K5 p0) (.ret (.bool (false)) []) := by
 exact Q7 (fn := Ir.K5) rfl VOK.nil [hP 4 (Qd (Label.rows p0.labels) (List.length p0.labels) (Label.Q5 p0.labels)), hB 0 h0, hP 3 (Qd (Owner.rows p0.owners) (List.length p0.owners) (Owner.Q5 p0.owners)), hB 0 h1, hP 4 (Qd (Qc p0.finalizers) (List.length p0.finalizers) (Q17 p0.finalizers)), hB 0 h2, hP 4 (Qd (Manager.rows p0.managers) (List.length p0.managers) (Manager.Q5 p0.managers)), hB 0 h3, hB 13 h4, hP 3 (Qd (Label.rows p0.labels) (List.length p0.labels) (Label.Q5 p0.labels)), hP 3 (Qd (Owner.rows p0.owners) (List.length p0.owners) (Owner.Q5 p0.owners))] [aN hl5, aN hl6] (by kernel_rfl)
theorem Q1gp (p0 : Meta) (_H : H_K5 p0) (h0 : (decide (60 < ((List.length p0.labels) : Int))) = false) (h1 : (decide (60 < ((List.length p0.owners) : Int))) = false) (h2 : (decide (60 < ((List.length p0.finalizers) : Int))) = false) (h3 : (decide (60 < ((List.length p0.managers) : Int))) = false) (h4 : (decide (400 < (w64 ((w64 ((ByteArray.size p0.kind : Int) + (ByteArray.size p0.namespace_ : Int))) + (ByteArray.size p0.name : Int))))) = false) (z5 : Nat → PV) (zo5 : Nat → List PV) (hl5 : Q6 G (Q6c p0 0) (.st .ret (Qik p0 z5 zo5))) : Q6 G (c_K5 p0) (.ret (.bool (false)) []) := by
 exact Q7 (fn := Ir.K5) rfl VOK.nil [hP 4 (Qd (Label.rows p0.labels) (List.length p0.labels) (Label.Q5 p0.labels)), hB 0 h0, hP 3 (Qd (Owner.rows p0.owners) (List.length p0.owners) (Owner.Q5 p0.owners)), hB 0 h1, hP 4 (Qd (Qc p0.finalizers) (List.length p0.finalizers) (Q17 p0.finalizers)), hB 0 h2, hP 4 (Qd (Manager.rows p0.managers) (List.length p0.managers) (Manager.Q5 p0.managers)), hB 0 h3, hB 13 h4, hP 3 (Qd (Label.rows p0.labels) (List.length p0.labels) (Label.Q5 p0.labels))] [aN hl5] (by kernel_rfl)
theorem t_K5 (p0 : Meta) (H : H_K5 p0) : Q6 G (c_K5 p0) (a_K5 p0) := by
 unfold a_K5 s_K5
 cases h0 : (decide (60 < ((List.length p0.labels) : Int))) with
 | true =>
  exact Q1h9 p0 H h0
 | false =>
  cases h1 : (decide (60 < ((List.length p0.owners) : Int))) with
  | true =>
   exact Q1iy p0 H h0 h1
  | false =>
   cases h2 : (decide (60 < ((List.length p0.finalizers) : Int))) with
   | true =>
    exact Q1j0 p0 H h0 h1 h2
   | false =>
    cases h3 : (decide (60 < ((List.length p0.managers) : Int))) with
    | true =>
     exact Q1in p0 H h0 h1 h2 h3
    | false =>
     cases h4 : (decide (400 < (w64 ((w64 ((ByteArray.size p0.kind : Int) + (ByteArray.size p0.namespace_ : Int))) + (ByteArray.size p0.name : Int))))) with
     | true =>
      exact Q1h7 p0 H h0 h1 h2 h3 h4
     | false =>
      have hl5 := Q126 p0 (H.1) p0.labels 0 (by simp)
      cases hr5 : (Qdc p0 p0.labels 0) with
      | k0 =>
       rw [hr5] at hl5
       obtain ⟨z5, zo5, hl5⟩ := hl5
       try dsimp only
       have hl6 := Q112 p0 (H.2.1) p0.owners 0 (by simp)
       cases hr6 : (Qch p0 p0.owners 0) with
       | k0 =>
        rw [hr6] at hl6
        obtain ⟨z6, zo6, hl6⟩ := hl6
        try dsimp only
        have hl7 := Q117 p0 (H.2.2.1) p0.finalizers 0 (by simp)
        cases hr7 : (Qcq p0 p0.finalizers 0) with
        | k0 =>
         rw [hr7] at hl7
         obtain ⟨z7, zo7, hl7⟩ := hl7
         try dsimp only
         have hl8 := Q113 p0 (H.2.2.2.1) p0.managers 0 (by simp)
         cases hr8 : (Qci p0 p0.managers 0) with
         | k0 =>
          rw [hr8] at hl8
          obtain ⟨z8, zo8, hl8⟩ := hl8
          exact Q1hf p0 H h0 h1 h2 h3 h4 z5 zo5 hl5 z6 zo6 hl6 z7 zo7 hl7 z8 zo8 hl8
         | k1 =>
          rw [hr8] at hl8
          obtain ⟨z8, zo8, hl8⟩ := hl8
          exact Q1jb p0 H h0 h1 h2 h3 h4 z5 zo5 hl5 z6 zo6 hl6 z7 zo7 hl7 z8 zo8 hl8
         | k2 =>
          rw [hr8] at hl8
          obtain ⟨z8, zo8, hl8⟩ := hl8
          exact Q1jo p0 H h0 h1 h2 h3 h4 z5 zo5 hl5 z6 zo6 hl6 z7 zo7 hl7 z8 zo8 hl8
        | k1 =>
         rw [hr7] at hl7
         obtain ⟨z7, zo7, hl7⟩ := hl7
         exact Q1ix p0 H h0 h1 h2 h3 h4 z5 zo5 hl5 z6 zo6 hl6 z7 zo7 hl7
       | k1 =>
        rw [hr6] at hl6
        obtain ⟨z6, zo6, hl6⟩ := hl6
        exact Q1h2 p0 H h0 h1 h2 h3 h4 z5 zo5 hl5 z6 zo6 hl6
      | k1 =>
       rw [hr5] at hl5
       obtain ⟨z5, zo5, hl5⟩ := hl5
       exact Q1gp p0 H h0 h1 h2 h3 h4 z5 zo5 hl5
end Go.Proofs.YtiflaadeikaghaaGreat
end

section
/- The chapter's examples (printed by a program). -/
namespace Go.Proofs.YtiflaadeikaghaaGreat
open Go.Pv
theorem t_K7 : Q6 G (.call 10 [] []) (.ret (.bool true) []) := ⟨400, by kernel_rfl⟩
end Go.Proofs.YtiflaadeikaghaaGreat
end

section
/- What the laws ask of their arguments (printed by a program). -/
namespace Go.Proofs.YtiflaadeikaghaaGreat
open Go.Pv
def s_K6 (p0 : Pod) : Bool :=
 bif (s_K5 p0.meta_) then
  bif (Q5a (Q7q p0).spec 20000) then
   (Q5a (Q7q p0).status 20000)
  else
   false
 else
  false
def c_K6 (p0 : Pod) : En := .call 20 [.agg (Pod.cells p0)] []
def a_K6 (p0 : Pod) : Rs := .ret (.bool (s_K6 p0)) []
def H_K6 (p0 : Pod) : Prop := (Q1ab p0) ∧ (H_K5 p0.meta_) ∧ ((s_K5 p0.meta_) = true → Qus (Q7q p0).spec 20000) ∧ ((s_K5 p0.meta_) = true → (Q5a (Q7q p0).spec 20000) = true → Qus (Q7q p0).status 20000) ∧ True
theorem t_K6 (p0 : Pod) (H : H_K6 p0) : Q6 G (c_K6 p0) (a_K6 p0) := by
 unfold a_K6 s_K6
 cases h0 : (s_K5 p0.meta_) with
 | true =>
  cases h1 : (Q5a (Q7q p0).spec 20000) with
  | true =>
   exact Q7 (fn := Ir.K6) rfl VOK.nil [] [aN (Q18x p0 (H.1)), aB (t_K5 p0.meta_ (H.2.1)) h0, aB (Q8l (Q7q p0).spec 20000 (H.2.2.1 h0)) h1, aN (Q8l (Q7q p0).status 20000 (H.2.2.2.1 h0 h1))] (by kernel_rfl)
  | false =>
   exact Q7 (fn := Ir.K6) rfl VOK.nil [] [aN (Q18x p0 (H.1)), aB (t_K5 p0.meta_ (H.2.1)) h0, aB (Q8l (Q7q p0).spec 20000 (H.2.2.1 h0)) h1] (by kernel_rfl)
 | false =>
  exact Q7 (fn := Ir.K6) rfl VOK.nil [] [aN (Q18x p0 (H.1)), aB (t_K5 p0.meta_ (H.2.1)) h0] (by kernel_rfl)
def Qro (p0 : Pod) (p1 : Pod) : Bool :=
 bif (sEq p0.meta_.kind p1.meta_.kind) then
  (Q18m (Q7q p0) (Q7q p1))
 else
  false
def Q1n1 (p0 : Pod) (p1 : Pod) : En := .call 17 [.agg (Pod.cells p0), .agg (Pod.cells p1)] []
def Q1kf (p0 : Pod) (p1 : Pod) : Rs := .ret (.bool (Qro p0 p1)) []
def Q14c (p0 : Pod) (p1 : Pod) : Prop := (Q1ab p0) ∧ (Q1ab p1) ∧ (Q1bj (Q7q p0) (Q7q p1)) ∧ True
theorem Q1ar (p0 : Pod) (p1 : Pod) (H : Q14c p0 p1) : Q6 G (Q1n1 p0 p1) (Q1kf p0 p1) := by
 unfold Q1kf Qro
 cases h0 : (sEq p0.meta_.kind p1.meta_.kind) with
 | true =>
  exact Q7 (fn := Ir.K2m) rfl VOK.nil [hB 9 h0] [aN (Q18x p0 H.1), aN (Q18x p1 H.2.1), aN (Q1mj (Q7q p0) (Q7q p1) H.2.2.1)] (by kernel_rfl)
 | false =>
  exact Q7 (fn := Ir.K2m) rfl VOK.nil [hB 9 h0] [] (by kernel_rfl)
def Q11l : Ty := .st [.str, .str]
def Qsa (x : Label) : Prop := okS x.key ∧ okS x.value
theorem Q165 {c : List PV} (h : Of Γ Q11l c) : ∃ x : Label, c = x.cells ∧ Qsa x := by
  have g0 := h.st1
  obtain ⟨a0, b0, rfl, h0, g1⟩ := g0.Q10
  obtain ⟨x0, rfl, k0⟩ := h0.str1
  obtain ⟨a1, b1, rfl, h1, g2⟩ := g1.Q10
  obtain ⟨x1, rfl, k1⟩ := h1.str1
  have e := g2.empty
  subst e
  exact ⟨⟨x0, x1⟩, rfl, ⟨k0, k1⟩⟩
def Qzt : Ty := .st [.str, .str, .int .i64, .bool, .bool]
def Qsd (x : Owner) : Prop := okS x.kind ∧ okS x.name ∧ Q3j x.uid ∧ (fun _ : Bool => True) x.controller ∧ (fun _ : Bool => True) x.block
theorem Q172 {c : List PV} (h : Of Γ Qzt c) : ∃ x : Owner, c = x.cells ∧ Qsd x := by
  have g0 := h.st1
  obtain ⟨a0, b0, rfl, h0, g1⟩ := g0.Q10
  obtain ⟨x0, rfl, k0⟩ := h0.str1
  obtain ⟨a1, b1, rfl, h1, g2⟩ := g1.Q10
  obtain ⟨x1, rfl, k1⟩ := h1.str1
  obtain ⟨a2, b2, rfl, h2, g3⟩ := g2.Q10
  obtain ⟨x2, rfl, k2⟩ := h2.i64
  obtain ⟨a3, b3, rfl, h3, g4⟩ := g3.Q10
  obtain ⟨x3, rfl, k3⟩ := h3.bool2
  obtain ⟨a4, b4, rfl, h4, g5⟩ := g4.Q10
  obtain ⟨x4, rfl, k4⟩ := h4.bool2
  have e := g5.empty
  subst e
  exact ⟨⟨x0, x1, x2, x3, x4⟩, rfl, ⟨k0, k1, k2, k3, k4⟩⟩
def Qqd : Ty := .st [.str, .sl 16 .str]
def Qdj (x : Manager) : Prop := okS x.name ∧ (okL 16 okS) x.fields
theorem Qwk {c : List PV} (h : Of Γ Qqd c) : ∃ x : Manager, c = x.cells ∧ Qdj x := by
  have g0 := h.st1
  obtain ⟨a0, b0, rfl, h0, g1⟩ := g0.Q10
  obtain ⟨x0, rfl, k0⟩ := h0.str1
  obtain ⟨a1, b1, rfl, h1, g2⟩ := g1.Q10
  obtain ⟨x1, rfl, k1⟩ := (h1.sl1 (f := (fun s : ByteArray => [.str s])) (ok := okS) fun r hr => hr.str1)
  have e := g2.empty
  subst e
  exact ⟨⟨x0, x1⟩, rfl, ⟨k0, k1⟩⟩
def Q184 : Ty := .st [.str, .str, .str, .int .i64, .int .i64, .int .i64, .int .i64, .bool, .int .i64, .sl 32 Q11l, .sl 48 Qzt, .sl 16 .str, .sl 40 Qqd]
def Qar (x : Meta) : Prop := okS x.kind ∧ okS x.namespace_ ∧ okS x.name ∧ Q3j x.uid ∧ Q3j x.version ∧ Q3j x.generation ∧ Q3j x.created ∧ (fun _ : Bool => True) x.deleting ∧ Q3j x.deleteAt ∧ (okL 32 Qsa) x.labels ∧ (okL 48 Qsd) x.owners ∧ (okL 16 okS) x.finalizers ∧ (okL 40 Qdj) x.managers
theorem Q1ah {c : List PV} (h : Of Γ Q184 c) : ∃ x : Meta, c = x.cells ∧ Qar x := by
  have g0 := h.st1
  obtain ⟨a0, b0, rfl, h0, g1⟩ := g0.Q10
  obtain ⟨x0, rfl, k0⟩ := h0.str1
  obtain ⟨a1, b1, rfl, h1, g2⟩ := g1.Q10
  obtain ⟨x1, rfl, k1⟩ := h1.str1
  obtain ⟨a2, b2, rfl, h2, g3⟩ := g2.Q10
  obtain ⟨x2, rfl, k2⟩ := h2.str1
  obtain ⟨a3, b3, rfl, h3, g4⟩ := g3.Q10
  obtain ⟨x3, rfl, k3⟩ := h3.i64
  obtain ⟨a4, b4, rfl, h4, g5⟩ := g4.Q10
  obtain ⟨x4, rfl, k4⟩ := h4.i64
  obtain ⟨a5, b5, rfl, h5, g6⟩ := g5.Q10
  obtain ⟨x5, rfl, k5⟩ := h5.i64
  obtain ⟨a6, b6, rfl, h6, g7⟩ := g6.Q10
  obtain ⟨x6, rfl, k6⟩ := h6.i64
  obtain ⟨a7, b7, rfl, h7, g8⟩ := g7.Q10
  obtain ⟨x7, rfl, k7⟩ := h7.bool2
  obtain ⟨a8, b8, rfl, h8, g9⟩ := g8.Q10
  obtain ⟨x8, rfl, k8⟩ := h8.i64
  obtain ⟨a9, b9, rfl, h9, g10⟩ := g9.Q10
  obtain ⟨x9, rfl, k9⟩ := (h9.sl1 (f := Label.cells) (ok := Qsa) fun r hr => (Q165 hr))
  obtain ⟨a10, b10, rfl, h10, g11⟩ := g10.Q10
  obtain ⟨x10, rfl, k10⟩ := (h10.sl1 (f := Owner.cells) (ok := Qsd) fun r hr => (Q172 hr))
  obtain ⟨a11, b11, rfl, h11, g12⟩ := g11.Q10
  obtain ⟨x11, rfl, k11⟩ := (h11.sl1 (f := (fun s : ByteArray => [.str s])) (ok := okS) fun r hr => hr.str1)
  obtain ⟨a12, b12, rfl, h12, g13⟩ := g12.Q10
  obtain ⟨x12, rfl, k12⟩ := (h12.sl1 (f := Manager.cells) (ok := Qdj) fun r hr => (Qwk hr))
  have e := g13.empty
  subst e
  exact ⟨⟨x0, x1, x2, x3, x4, x5, x6, x7, x8, x9, x10, x11, x12⟩, rfl, ⟨k0, k1, k2, k3, k4, k5, k6, k7, k8, k9, k10, k11, k12⟩⟩
def Q8n : Ty := .st [.int .i64, .int .i64, .int .i64]
def Q94 (x : Resources) : Prop := Q3j x.cPU ∧ Q3j x.memory ∧ Q3j x.disk
theorem Qa2 {c : List PV} (h : Of Γ Q8n c) : ∃ x : Resources, c = x.cells ∧ Q94 x := by
  have g0 := h.st1
  obtain ⟨a0, b0, rfl, h0, g1⟩ := g0.Q10
  obtain ⟨x0, rfl, k0⟩ := h0.i64
  obtain ⟨a1, b1, rfl, h1, g2⟩ := g1.Q10
  obtain ⟨x1, rfl, k1⟩ := h1.i64
  obtain ⟨a2, b2, rfl, h2, g3⟩ := g2.Q10
  obtain ⟨x2, rfl, k2⟩ := h2.i64
  have e := g3.empty
  subst e
  exact ⟨⟨x0, x1, x2⟩, rfl, ⟨k0, k1, k2⟩⟩
def Qeq : Ty := .st [.int .i64, .int .i64, .int .i64, .int .i64]
def Q87 (x : Probe) : Prop := Q3j x.delay ∧ Q3j x.period ∧ Q3j x.success ∧ Q3j x.failure
theorem Qd1 {c : List PV} (h : Of Γ Qeq c) : ∃ x : Probe, c = x.cells ∧ Q87 x := by
  have g0 := h.st1
  obtain ⟨a0, b0, rfl, h0, g1⟩ := g0.Q10
  obtain ⟨x0, rfl, k0⟩ := h0.i64
  obtain ⟨a1, b1, rfl, h1, g2⟩ := g1.Q10
  obtain ⟨x1, rfl, k1⟩ := h1.i64
  obtain ⟨a2, b2, rfl, h2, g3⟩ := g2.Q10
  obtain ⟨x2, rfl, k2⟩ := h2.i64
  obtain ⟨a3, b3, rfl, h3, g4⟩ := g3.Q10
  obtain ⟨x3, rfl, k3⟩ := h3.i64
  have e := g4.empty
  subst e
  exact ⟨⟨x0, x1, x2, x3⟩, rfl, ⟨k0, k1, k2, k3⟩⟩
def Qdr : Ty := .st [.str, .str, Q8n, Q8n, .sl 32 Qeq, .sl 32 Qeq, .sl 32 Qeq]
def Q8r (x : Container) : Prop := okS x.name ∧ okS x.image ∧ Q94 x.request ∧ Q94 x.limit ∧ (okL 32 Q87) x.live ∧ (okL 32 Q87) x.ready ∧ (okL 32 Q87) x.startup
theorem Qmm {c : List PV} (h : Of Γ Qdr c) : ∃ x : Container, c = x.cells ∧ Q8r x := by
  have g0 := h.st1
  obtain ⟨a0, b0, rfl, h0, g1⟩ := g0.Q10
  obtain ⟨x0, rfl, k0⟩ := h0.str1
  obtain ⟨a1, b1, rfl, h1, g2⟩ := g1.Q10
  obtain ⟨x1, rfl, k1⟩ := h1.str1
  obtain ⟨a2, b2, rfl, h2, g3⟩ := g2.Q10
  obtain ⟨x2, rfl, k2⟩ := (Qa2 h2)
  obtain ⟨a3, b3, rfl, h3, g4⟩ := g3.Q10
  obtain ⟨x3, rfl, k3⟩ := (Qa2 h3)
  obtain ⟨a4, b4, rfl, h4, g5⟩ := g4.Q10
  obtain ⟨x4, rfl, k4⟩ := (h4.sl1 (f := Probe.cells) (ok := Q87) fun r hr => (Qd1 hr))
  obtain ⟨a5, b5, rfl, h5, g6⟩ := g5.Q10
  obtain ⟨x5, rfl, k5⟩ := (h5.sl1 (f := Probe.cells) (ok := Q87) fun r hr => (Qd1 hr))
  obtain ⟨a6, b6, rfl, h6, g7⟩ := g6.Q10
  obtain ⟨x6, rfl, k6⟩ := (h6.sl1 (f := Probe.cells) (ok := Q87) fun r hr => (Qd1 hr))
  have e := g7.empty
  subst e
  exact ⟨⟨x0, x1, x2, x3, x4, x5, x6⟩, rfl, ⟨k0, k1, k2, k3, k4, k5, k6⟩⟩
def Q49 : Ty := .st [.str, .int .i64, .sl 16 .str]
def Q2s (x : Requirement) : Prop := okS x.key ∧ Q3j x.op ∧ (okL 16 okS) x.values
theorem Q4h {c : List PV} (h : Of Γ Q49 c) : ∃ x : Requirement, c = x.cells ∧ Q2s x := by
  have g0 := h.st1
  obtain ⟨a0, b0, rfl, h0, g1⟩ := g0.Q10
  obtain ⟨x0, rfl, k0⟩ := h0.str1
  obtain ⟨a1, b1, rfl, h1, g2⟩ := g1.Q10
  obtain ⟨x1, rfl, k1⟩ := h1.i64
  obtain ⟨a2, b2, rfl, h2, g3⟩ := g2.Q10
  obtain ⟨x2, rfl, k2⟩ := (h2.sl1 (f := (fun s : ByteArray => [.str s])) (ok := okS) fun r hr => hr.str1)
  have e := g3.empty
  subst e
  exact ⟨⟨x0, x1, x2⟩, rfl, ⟨k0, k1, k2⟩⟩
def Ql4 : Ty := .st [.bool, .sl 48 Q49, .int .i64]
def Qap (x : NodeTerm) : Prop := (fun _ : Bool => True) x.required ∧ (okL 48 Q2s) x.selector ∧ Q3j x.weight
theorem Qr8 {c : List PV} (h : Of Γ Ql4 c) : ∃ x : NodeTerm, c = x.cells ∧ Qap x := by
  have g0 := h.st1
  obtain ⟨a0, b0, rfl, h0, g1⟩ := g0.Q10
  obtain ⟨x0, rfl, k0⟩ := h0.bool2
  obtain ⟨a1, b1, rfl, h1, g2⟩ := g1.Q10
  obtain ⟨x1, rfl, k1⟩ := (h1.sl1 (f := Requirement.cells) (ok := Q2s) fun r hr => (Q4h hr))
  obtain ⟨a2, b2, rfl, h2, g3⟩ := g2.Q10
  obtain ⟨x2, rfl, k2⟩ := h2.i64
  have e := g3.empty
  subst e
  exact ⟨⟨x0, x1, x2⟩, rfl, ⟨k0, k1, k2⟩⟩
def Qoc : Ty := .st [.bool, .bool, .sl 48 Q49, .str, .int .i64]
def Qcl (x : PodTerm) : Prop := (fun _ : Bool => True) x.required ∧ (fun _ : Bool => True) x.anti ∧ (okL 48 Q2s) x.selector ∧ okS x.topology ∧ Q3j x.weight
theorem Qtt {c : List PV} (h : Of Γ Qoc c) : ∃ x : PodTerm, c = x.cells ∧ Qcl x := by
  have g0 := h.st1
  obtain ⟨a0, b0, rfl, h0, g1⟩ := g0.Q10
  obtain ⟨x0, rfl, k0⟩ := h0.bool2
  obtain ⟨a1, b1, rfl, h1, g2⟩ := g1.Q10
  obtain ⟨x1, rfl, k1⟩ := h1.bool2
  obtain ⟨a2, b2, rfl, h2, g3⟩ := g2.Q10
  obtain ⟨x2, rfl, k2⟩ := (h2.sl1 (f := Requirement.cells) (ok := Q2s) fun r hr => (Q4h hr))
  obtain ⟨a3, b3, rfl, h3, g4⟩ := g3.Q10
  obtain ⟨x3, rfl, k3⟩ := h3.str1
  obtain ⟨a4, b4, rfl, h4, g5⟩ := g4.Q10
  obtain ⟨x4, rfl, k4⟩ := h4.i64
  have e := g5.empty
  subst e
  exact ⟨⟨x0, x1, x2, x3, x4⟩, rfl, ⟨k0, k1, k2, k3, k4⟩⟩
def Qcg : Ty := .st [.int .i64, .str, .sl 48 Q49, .bool]
def Q86 (x : SpreadRule) : Prop := Q3j x.maxSkew ∧ okS x.topology ∧ (okL 48 Q2s) x.selector ∧ (fun _ : Bool => True) x.required
theorem Qmd {c : List PV} (h : Of Γ Qcg c) : ∃ x : SpreadRule, c = x.cells ∧ Q86 x := by
  have g0 := h.st1
  obtain ⟨a0, b0, rfl, h0, g1⟩ := g0.Q10
  obtain ⟨x0, rfl, k0⟩ := h0.i64
  obtain ⟨a1, b1, rfl, h1, g2⟩ := g1.Q10
  obtain ⟨x1, rfl, k1⟩ := h1.str1
  obtain ⟨a2, b2, rfl, h2, g3⟩ := g2.Q10
  obtain ⟨x2, rfl, k2⟩ := (h2.sl1 (f := Requirement.cells) (ok := Q2s) fun r hr => (Q4h hr))
  obtain ⟨a3, b3, rfl, h3, g4⟩ := g3.Q10
  obtain ⟨x3, rfl, k3⟩ := h3.bool2
  have e := g4.empty
  subst e
  exact ⟨⟨x0, x1, x2, x3⟩, rfl, ⟨k0, k1, k2, k3⟩⟩
def Qby : Ty := .st [.str, .str, .bool, .int .i64, .int .i64]
def Q7u (x : Toleration) : Prop := okS x.key ∧ okS x.value ∧ (fun _ : Bool => True) x.exists_ ∧ Q3j x.effect ∧ Q3j x.seconds
theorem Qhz {c : List PV} (h : Of Γ Qby c) : ∃ x : Toleration, c = x.cells ∧ Q7u x := by
  have g0 := h.st1
  obtain ⟨a0, b0, rfl, h0, g1⟩ := g0.Q10
  obtain ⟨x0, rfl, k0⟩ := h0.str1
  obtain ⟨a1, b1, rfl, h1, g2⟩ := g1.Q10
  obtain ⟨x1, rfl, k1⟩ := h1.str1
  obtain ⟨a2, b2, rfl, h2, g3⟩ := g2.Q10
  obtain ⟨x2, rfl, k2⟩ := h2.bool2
  obtain ⟨a3, b3, rfl, h3, g4⟩ := g3.Q10
  obtain ⟨x3, rfl, k3⟩ := h3.i64
  obtain ⟨a4, b4, rfl, h4, g5⟩ := g4.Q10
  obtain ⟨x4, rfl, k4⟩ := h4.i64
  have e := g5.empty
  subst e
  exact ⟨⟨x0, x1, x2, x3, x4⟩, rfl, ⟨k0, k1, k2, k3, k4⟩⟩
def Qp7 : Ty := .st [.str, .int .i64, .int .i64, .int .i64, .sl 152 Qdr, .sl 48 Q49, .sl 40 Ql4, .sl 56 Qoc, .sl 56 Qcg, .sl 56 Qby]
def Qqc (x : PodSpec) : Prop := okS x.node ∧ Q3j x.priority ∧ Q3j x.restart ∧ Q3j x.grace ∧ (okL 152 Q8r) x.containers ∧ (okL 48 Q2s) x.nodeSelector ∧ (okL 40 Qap) x.nodeTerms ∧ (okL 56 Qcl) x.podTerms ∧ (okL 56 Q86) x.spread ∧ (okL 56 Q7u) x.tolerations
theorem Qwu {c : List PV} (h : Of Γ Qp7 c) : ∃ x : PodSpec, c = x.cells ∧ Qqc x := by
  have g0 := h.st1
  obtain ⟨a0, b0, rfl, h0, g1⟩ := g0.Q10
  obtain ⟨x0, rfl, k0⟩ := h0.str1
  obtain ⟨a1, b1, rfl, h1, g2⟩ := g1.Q10
  obtain ⟨x1, rfl, k1⟩ := h1.i64
  obtain ⟨a2, b2, rfl, h2, g3⟩ := g2.Q10
  obtain ⟨x2, rfl, k2⟩ := h2.i64
  obtain ⟨a3, b3, rfl, h3, g4⟩ := g3.Q10
  obtain ⟨x3, rfl, k3⟩ := h3.i64
  obtain ⟨a4, b4, rfl, h4, g5⟩ := g4.Q10
  obtain ⟨x4, rfl, k4⟩ := (h4.sl1 (f := Container.cells) (ok := Q8r) fun r hr => (Qmm hr))
  obtain ⟨a5, b5, rfl, h5, g6⟩ := g5.Q10
  obtain ⟨x5, rfl, k5⟩ := (h5.sl1 (f := Requirement.cells) (ok := Q2s) fun r hr => (Q4h hr))
  obtain ⟨a6, b6, rfl, h6, g7⟩ := g6.Q10
  obtain ⟨x6, rfl, k6⟩ := (h6.sl1 (f := NodeTerm.cells) (ok := Qap) fun r hr => (Qr8 hr))
  obtain ⟨a7, b7, rfl, h7, g8⟩ := g7.Q10
  obtain ⟨x7, rfl, k7⟩ := (h7.sl1 (f := PodTerm.cells) (ok := Qcl) fun r hr => (Qtt hr))
  obtain ⟨a8, b8, rfl, h8, g9⟩ := g8.Q10
  obtain ⟨x8, rfl, k8⟩ := (h8.sl1 (f := SpreadRule.cells) (ok := Q86) fun r hr => (Qmd hr))
  obtain ⟨a9, b9, rfl, h9, g10⟩ := g9.Q10
  obtain ⟨x9, rfl, k9⟩ := (h9.sl1 (f := Toleration.cells) (ok := Q7u) fun r hr => (Qhz hr))
  have e := g10.empty
  subst e
  exact ⟨⟨x0, x1, x2, x3, x4, x5, x6, x7, x8, x9⟩, rfl, ⟨k0, k1, k2, k3, k4, k5, k6, k7, k8, k9⟩⟩
def Q6r : Ty := .st [.str, .int .i64, .int .i64, .int .i64, .int .i64, .bool, .bool]
def Q54 (x : ContainerStatus) : Prop := okS x.name ∧ Q3j x.state ∧ Q3j x.restarts ∧ Q3j x.exitCode ∧ Q3j x.since ∧ (fun _ : Bool => True) x.ready ∧ (fun _ : Bool => True) x.started
theorem Q9y {c : List PV} (h : Of Γ Q6r c) : ∃ x : ContainerStatus, c = x.cells ∧ Q54 x := by
  have g0 := h.st1
  obtain ⟨a0, b0, rfl, h0, g1⟩ := g0.Q10
  obtain ⟨x0, rfl, k0⟩ := h0.str1
  obtain ⟨a1, b1, rfl, h1, g2⟩ := g1.Q10
  obtain ⟨x1, rfl, k1⟩ := h1.i64
  obtain ⟨a2, b2, rfl, h2, g3⟩ := g2.Q10
  obtain ⟨x2, rfl, k2⟩ := h2.i64
  obtain ⟨a3, b3, rfl, h3, g4⟩ := g3.Q10
  obtain ⟨x3, rfl, k3⟩ := h3.i64
  obtain ⟨a4, b4, rfl, h4, g5⟩ := g4.Q10
  obtain ⟨x4, rfl, k4⟩ := h4.i64
  obtain ⟨a5, b5, rfl, h5, g6⟩ := g5.Q10
  obtain ⟨x5, rfl, k5⟩ := h5.bool2
  obtain ⟨a6, b6, rfl, h6, g7⟩ := g6.Q10
  obtain ⟨x6, rfl, k6⟩ := h6.bool2
  have e := g7.empty
  subst e
  exact ⟨⟨x0, x1, x2, x3, x4, x5, x6⟩, rfl, ⟨k0, k1, k2, k3, k4, k5, k6⟩⟩
def Qe0 : Ty := .st [.int .i64, .bool, .int .i64, .int .i64, .int .i64, .sl 56 Q6r, .int .i64, .str, .str]
def Qe1 (x : PodStatus) : Prop := Q3j x.phase ∧ (fun _ : Bool => True) x.ready ∧ Q3j x.readySince ∧ Q3j x.started ∧ Q3j x.finished ∧ (okL 56 Q54) x.containers ∧ Q3j x.address ∧ okS x.nominated ∧ okS x.reason
theorem Qmq {c : List PV} (h : Of Γ Qe0 c) : ∃ x : PodStatus, c = x.cells ∧ Qe1 x := by
  have g0 := h.st1
  obtain ⟨a0, b0, rfl, h0, g1⟩ := g0.Q10
  obtain ⟨x0, rfl, k0⟩ := h0.i64
  obtain ⟨a1, b1, rfl, h1, g2⟩ := g1.Q10
  obtain ⟨x1, rfl, k1⟩ := h1.bool2
  obtain ⟨a2, b2, rfl, h2, g3⟩ := g2.Q10
  obtain ⟨x2, rfl, k2⟩ := h2.i64
  obtain ⟨a3, b3, rfl, h3, g4⟩ := g3.Q10
  obtain ⟨x3, rfl, k3⟩ := h3.i64
  obtain ⟨a4, b4, rfl, h4, g5⟩ := g4.Q10
  obtain ⟨x4, rfl, k4⟩ := h4.i64
  obtain ⟨a5, b5, rfl, h5, g6⟩ := g5.Q10
  obtain ⟨x5, rfl, k5⟩ := (h5.sl1 (f := ContainerStatus.cells) (ok := Q54) fun r hr => (Q9y hr))
  obtain ⟨a6, b6, rfl, h6, g7⟩ := g6.Q10
  obtain ⟨x6, rfl, k6⟩ := h6.i64
  obtain ⟨a7, b7, rfl, h7, g8⟩ := g7.Q10
  obtain ⟨x7, rfl, k7⟩ := h7.str1
  obtain ⟨a8, b8, rfl, h8, g9⟩ := g8.Q10
  obtain ⟨x8, rfl, k8⟩ := h8.str1
  have e := g9.empty
  subst e
  exact ⟨⟨x0, x1, x2, x3, x4, x5, x6, x7, x8⟩, rfl, ⟨k0, k1, k2, k3, k4, k5, k6, k7, k8⟩⟩
def Q1dw : Ty := .st [Q184, Qp7, Qe0]
def Q1aj (x : Pod) : Prop := Qar x.meta_ ∧ Qqc x.spec ∧ Qe1 x.status
theorem Q1bu {c : List PV} (h : Of Γ Q1dw c) : ∃ x : Pod, c = x.cells ∧ Q1aj x := by
  have g0 := h.st1
  obtain ⟨a0, b0, rfl, h0, g1⟩ := g0.Q10
  obtain ⟨x0, rfl, k0⟩ := (Q1ah h0)
  obtain ⟨a1, b1, rfl, h1, g2⟩ := g1.Q10
  obtain ⟨x1, rfl, k1⟩ := (Qwu h1)
  obtain ⟨a2, b2, rfl, h2, g3⟩ := g2.Q10
  obtain ⟨x2, rfl, k2⟩ := (Qmq h2)
  have e := g3.empty
  subst e
  exact ⟨⟨x0, x1, x2⟩, rfl, ⟨k0, k1, k2⟩⟩
def Q8x (_N : Nat) (_x : Probe) : Prop := True
theorem Qab {N : Nat} {x : Probe} (_h : CapL N x.cells) : Q8x N x := trivial
theorem Probe.Q31 {N : Nat} (_ : N ≤ sB) {x : Probe} (_ : Q8x N x) : Probe.sm x := trivial
def Q5z (_N : Nat) (_x : Resources) : Prop := True
theorem Q8i {N : Nat} {x : Resources} (_h : CapL N x.cells) : Q5z N x := trivial
theorem Resources.Q31 {N : Nat} (_ : N ≤ sB) {x : Resources} (_ : Q5z N x) : Resources.sm x := trivial
def Q85 (N : Nat) (x : Container) : Prop := (fun s : ByteArray => s.size ≤ N) x.name ∧ (fun s : ByteArray => s.size ≤ N) x.image ∧ (Q5z N) x.request ∧ (Q5z N) x.limit ∧ (fun l : List Probe => l.length ≤ N ∧ ∀ x ∈ l, (Q8x N) x) x.live ∧ (fun l : List Probe => l.length ≤ N ∧ ∀ x ∈ l, (Q8x N) x) x.ready ∧ (fun l : List Probe => l.length ≤ N ∧ ∀ x ∈ l, (Q8x N) x) x.startup
theorem Qjm {N : Nat} {x : Container} (h : CapL N x.cells) : Q85 N x := ⟨(let g : CapL N [.str x.name] := fun p hp => h p (by simp only [List.mem_cons, List.not_mem_nil, or_false] at hp; rcases hp with rfl <;> simp [Container.cells]); (g _ List.mem_cons_self).strI), (let g : CapL N [.str x.image] := fun p hp => h p (by simp only [List.mem_cons, List.not_mem_nil, or_false] at hp; rcases hp with rfl <;> simp [Container.cells]); (g _ List.mem_cons_self).strI), (let g : CapL N [.int .i64 x.request.cPU, .int .i64 x.request.memory, .int .i64 x.request.disk] := fun p hp => h p (by simp only [List.mem_cons, List.not_mem_nil, or_false] at hp; rcases hp with rfl | rfl | rfl <;> simp [Container.cells]); (Q8i g)), (let g : CapL N [.int .i64 x.limit.cPU, .int .i64 x.limit.memory, .int .i64 x.limit.disk] := fun p hp => h p (by simp only [List.mem_cons, List.not_mem_nil, or_false] at hp; rcases hp with rfl | rfl | rfl <;> simp [Container.cells]); (Q8i g)), (let g : CapL N [.sl (Probe.rows x.live)] := fun p hp => h p (by simp only [List.mem_cons, List.not_mem_nil, or_false] at hp; rcases hp with rfl <;> simp [Container.cells]); (let r := Cap.Q77 (f := Probe.cells) (g _ List.mem_cons_self); ⟨r.1, fun x hx => (Qab (r.2 x hx))⟩)), (let g : CapL N [.sl (Probe.rows x.ready)] := fun p hp => h p (by simp only [List.mem_cons, List.not_mem_nil, or_false] at hp; rcases hp with rfl <;> simp [Container.cells]); (let r := Cap.Q77 (f := Probe.cells) (g _ List.mem_cons_self); ⟨r.1, fun x hx => (Qab (r.2 x hx))⟩)), (let g : CapL N [.sl (Probe.rows x.startup)] := fun p hp => h p (by simp only [List.mem_cons, List.not_mem_nil, or_false] at hp; rcases hp with rfl <;> simp [Container.cells]); (let r := Cap.Q77 (f := Probe.cells) (g _ List.mem_cons_self); ⟨r.1, fun x hx => (Qab (r.2 x hx))⟩))⟩
theorem Container.Q31 {N : Nat} (hN : N ≤ sB) {x : Container} (c : Q85 N x) : Container.sm x := ⟨Resources.Q31 hN c.2.2.1, Resources.Q31 hN c.2.2.2.1, ⟨Nat.le_trans c.2.2.2.2.1.1 hN, fun _ hx => Probe.Q31 hN (c.2.2.2.2.1.2 _ hx)⟩, ⟨Nat.le_trans c.2.2.2.2.2.1.1 hN, fun _ hx => Probe.Q31 hN (c.2.2.2.2.2.1.2 _ hx)⟩, ⟨Nat.le_trans c.2.2.2.2.2.2.1 hN, fun _ hx => Probe.Q31 hN (c.2.2.2.2.2.2.2 _ hx)⟩, trivial⟩
def Q3f (N : Nat) (x : Requirement) : Prop := (fun s : ByteArray => s.size ≤ N) x.key ∧ (fun l : List ByteArray => l.length ≤ N ∧ ∀ x ∈ l, (fun s : ByteArray => s.size ≤ N) x) x.values
theorem Q41 {N : Nat} {x : Requirement} (h : CapL N x.cells) : Q3f N x := ⟨(let g : CapL N [.str x.key] := fun p hp => h p (by simp only [List.mem_cons, List.not_mem_nil, or_false] at hp; rcases hp with rfl <;> simp [Requirement.cells]); (g _ List.mem_cons_self).strI), (let g : CapL N [.sl (Qc x.values)] := fun p hp => h p (by simp only [List.mem_cons, List.not_mem_nil, or_false] at hp; rcases hp with rfl <;> simp [Requirement.cells]); (let r := Cap.Q77 (f := (fun s : ByteArray => [.str s])) (g _ List.mem_cons_self); ⟨r.1, fun x hx => ((r.2 x hx) _ List.mem_cons_self).strI⟩))⟩
theorem Requirement.Q31 {N : Nat} (hN : N ≤ sB) {x : Requirement} (c : Q3f N x) : Requirement.sm x := ⟨⟨Nat.le_trans c.2.1 hN, fun _ _hx => trivial⟩, trivial⟩
def Q8w (N : Nat) (x : NodeTerm) : Prop := (fun l : List Requirement => l.length ≤ N ∧ ∀ x ∈ l, (Q3f N) x) x.selector
theorem Qmn {N : Nat} {x : NodeTerm} (h : CapL N x.cells) : Q8w N x := (let g : CapL N [.sl (Requirement.rows x.selector)] := fun p hp => h p (by simp only [List.mem_cons, List.not_mem_nil, or_false] at hp; rcases hp with rfl <;> simp [NodeTerm.cells]); (let r := Cap.Q77 (f := Requirement.cells) (g _ List.mem_cons_self); ⟨r.1, fun x hx => (Q41 (r.2 x hx))⟩))
theorem NodeTerm.Q31 {N : Nat} (hN : N ≤ sB) {x : NodeTerm} (c : Q8w N x) : NodeTerm.sm x := ⟨⟨Nat.le_trans c.1 hN, fun _ hx => Requirement.Q31 hN (c.2 _ hx)⟩, trivial⟩
def Qah (N : Nat) (x : PodTerm) : Prop := (fun l : List Requirement => l.length ≤ N ∧ ∀ x ∈ l, (Q3f N) x) x.selector ∧ (fun s : ByteArray => s.size ≤ N) x.topology
theorem Qrd {N : Nat} {x : PodTerm} (h : CapL N x.cells) : Qah N x := ⟨(let g : CapL N [.sl (Requirement.rows x.selector)] := fun p hp => h p (by simp only [List.mem_cons, List.not_mem_nil, or_false] at hp; rcases hp with rfl <;> simp [PodTerm.cells]); (let r := Cap.Q77 (f := Requirement.cells) (g _ List.mem_cons_self); ⟨r.1, fun x hx => (Q41 (r.2 x hx))⟩)), (let g : CapL N [.str x.topology] := fun p hp => h p (by simp only [List.mem_cons, List.not_mem_nil, or_false] at hp; rcases hp with rfl <;> simp [PodTerm.cells]); (g _ List.mem_cons_self).strI)⟩
theorem PodTerm.Q31 {N : Nat} (hN : N ≤ sB) {x : PodTerm} (c : Qah N x) : PodTerm.sm x := ⟨⟨Nat.le_trans c.1.1 hN, fun _ hx => Requirement.Q31 hN (c.1.2 _ hx)⟩, trivial⟩
def Q79 (N : Nat) (x : SpreadRule) : Prop := (fun s : ByteArray => s.size ≤ N) x.topology ∧ (fun l : List Requirement => l.length ≤ N ∧ ∀ x ∈ l, (Q3f N) x) x.selector
theorem Qe3 {N : Nat} {x : SpreadRule} (h : CapL N x.cells) : Q79 N x := ⟨(let g : CapL N [.str x.topology] := fun p hp => h p (by simp only [List.mem_cons, List.not_mem_nil, or_false] at hp; rcases hp with rfl <;> simp [SpreadRule.cells]); (g _ List.mem_cons_self).strI), (let g : CapL N [.sl (Requirement.rows x.selector)] := fun p hp => h p (by simp only [List.mem_cons, List.not_mem_nil, or_false] at hp; rcases hp with rfl <;> simp [SpreadRule.cells]); (let r := Cap.Q77 (f := Requirement.cells) (g _ List.mem_cons_self); ⟨r.1, fun x hx => (Q41 (r.2 x hx))⟩))⟩
theorem SpreadRule.Q31 {N : Nat} (hN : N ≤ sB) {x : SpreadRule} (c : Q79 N x) : SpreadRule.sm x := ⟨⟨Nat.le_trans c.2.1 hN, fun _ hx => Requirement.Q31 hN (c.2.2 _ hx)⟩, trivial⟩
def Q72 (N : Nat) (x : Toleration) : Prop := (fun s : ByteArray => s.size ≤ N) x.key ∧ (fun s : ByteArray => s.size ≤ N) x.value
theorem Qe9 {N : Nat} {x : Toleration} (h : CapL N x.cells) : Q72 N x := ⟨(let g : CapL N [.str x.key] := fun p hp => h p (by simp only [List.mem_cons, List.not_mem_nil, or_false] at hp; rcases hp with rfl <;> simp [Toleration.cells]); (g _ List.mem_cons_self).strI), (let g : CapL N [.str x.value] := fun p hp => h p (by simp only [List.mem_cons, List.not_mem_nil, or_false] at hp; rcases hp with rfl <;> simp [Toleration.cells]); (g _ List.mem_cons_self).strI)⟩
theorem Toleration.Q31 {N : Nat} (_ : N ≤ sB) {x : Toleration} (_ : Q72 N x) : Toleration.sm x := trivial
def Q89 (N : Nat) (x : PodSpec) : Prop := (fun s : ByteArray => s.size ≤ N) x.node ∧ (fun l : List Container => l.length ≤ N ∧ ∀ x ∈ l, (Q85 N) x) x.containers ∧ (fun l : List Requirement => l.length ≤ N ∧ ∀ x ∈ l, (Q3f N) x) x.nodeSelector ∧ (fun l : List NodeTerm => l.length ≤ N ∧ ∀ x ∈ l, (Q8w N) x) x.nodeTerms ∧ (fun l : List PodTerm => l.length ≤ N ∧ ∀ x ∈ l, (Qah N) x) x.podTerms ∧ (fun l : List SpreadRule => l.length ≤ N ∧ ∀ x ∈ l, (Q79 N) x) x.spread ∧ (fun l : List Toleration => l.length ≤ N ∧ ∀ x ∈ l, (Q72 N) x) x.tolerations
theorem Qtq {N : Nat} {x : PodSpec} (h : CapL N x.cells) : Q89 N x := ⟨(let g : CapL N [.str x.node] := fun p hp => h p (by simp only [List.mem_cons, List.not_mem_nil, or_false] at hp; rcases hp with rfl <;> simp [PodSpec.cells]); (g _ List.mem_cons_self).strI), (let g : CapL N [.sl (Container.rows x.containers)] := fun p hp => h p (by simp only [List.mem_cons, List.not_mem_nil, or_false] at hp; rcases hp with rfl <;> simp [PodSpec.cells]); (let r := Cap.Q77 (f := Container.cells) (g _ List.mem_cons_self); ⟨r.1, fun x hx => (Qjm (r.2 x hx))⟩)), (let g : CapL N [.sl (Requirement.rows x.nodeSelector)] := fun p hp => h p (by simp only [List.mem_cons, List.not_mem_nil, or_false] at hp; rcases hp with rfl <;> simp [PodSpec.cells]); (let r := Cap.Q77 (f := Requirement.cells) (g _ List.mem_cons_self); ⟨r.1, fun x hx => (Q41 (r.2 x hx))⟩)), (let g : CapL N [.sl (NodeTerm.rows x.nodeTerms)] := fun p hp => h p (by simp only [List.mem_cons, List.not_mem_nil, or_false] at hp; rcases hp with rfl <;> simp [PodSpec.cells]); (let r := Cap.Q77 (f := NodeTerm.cells) (g _ List.mem_cons_self); ⟨r.1, fun x hx => (Qmn (r.2 x hx))⟩)), (let g : CapL N [.sl (PodTerm.rows x.podTerms)] := fun p hp => h p (by simp only [List.mem_cons, List.not_mem_nil, or_false] at hp; rcases hp with rfl <;> simp [PodSpec.cells]); (let r := Cap.Q77 (f := PodTerm.cells) (g _ List.mem_cons_self); ⟨r.1, fun x hx => (Qrd (r.2 x hx))⟩)), (let g : CapL N [.sl (SpreadRule.rows x.spread)] := fun p hp => h p (by simp only [List.mem_cons, List.not_mem_nil, or_false] at hp; rcases hp with rfl <;> simp [PodSpec.cells]); (let r := Cap.Q77 (f := SpreadRule.cells) (g _ List.mem_cons_self); ⟨r.1, fun x hx => (Qe3 (r.2 x hx))⟩)), (let g : CapL N [.sl (Toleration.rows x.tolerations)] := fun p hp => h p (by simp only [List.mem_cons, List.not_mem_nil, or_false] at hp; rcases hp with rfl <;> simp [PodSpec.cells]); (let r := Cap.Q77 (f := Toleration.cells) (g _ List.mem_cons_self); ⟨r.1, fun x hx => (Qe9 (r.2 x hx))⟩))⟩
theorem PodSpec.Q31 {N : Nat} (hN : N ≤ sB) {x : PodSpec} (c : Q89 N x) : PodSpec.sm x := ⟨⟨Nat.le_trans c.2.1.1 hN, fun _ hx => Container.Q31 hN (c.2.1.2 _ hx)⟩, ⟨Nat.le_trans c.2.2.1.1 hN, fun _ hx => Requirement.Q31 hN (c.2.2.1.2 _ hx)⟩, ⟨Nat.le_trans c.2.2.2.1.1 hN, fun _ hx => NodeTerm.Q31 hN (c.2.2.2.1.2 _ hx)⟩, ⟨Nat.le_trans c.2.2.2.2.1.1 hN, fun _ hx => PodTerm.Q31 hN (c.2.2.2.2.1.2 _ hx)⟩, ⟨Nat.le_trans c.2.2.2.2.2.1.1 hN, fun _ hx => SpreadRule.Q31 hN (c.2.2.2.2.2.1.2 _ hx)⟩, ⟨Nat.le_trans c.2.2.2.2.2.2.1 hN, fun _ hx => Toleration.Q31 hN (c.2.2.2.2.2.2.2 _ hx)⟩, trivial⟩
def Q4x (N : Nat) (x : ContainerStatus) : Prop := (fun s : ByteArray => s.size ≤ N) x.name
theorem Q8t {N : Nat} {x : ContainerStatus} (h : CapL N x.cells) : Q4x N x := (let g : CapL N [.str x.name] := fun p hp => h p (by simp only [List.mem_cons, List.not_mem_nil, or_false] at hp; rcases hp with rfl <;> simp [ContainerStatus.cells]); (g _ List.mem_cons_self).strI)
theorem ContainerStatus.Q31 {N : Nat} (_ : N ≤ sB) {x : ContainerStatus} (_ : Q4x N x) : ContainerStatus.sm x := trivial
def Q88 (N : Nat) (x : PodStatus) : Prop := (fun l : List ContainerStatus => l.length ≤ N ∧ ∀ x ∈ l, (Q4x N) x) x.containers ∧ (fun s : ByteArray => s.size ≤ N) x.nominated ∧ (fun s : ByteArray => s.size ≤ N) x.reason
theorem Qh1 {N : Nat} {x : PodStatus} (h : CapL N x.cells) : Q88 N x := ⟨(let g : CapL N [.sl (ContainerStatus.rows x.containers)] := fun p hp => h p (by simp only [List.mem_cons, List.not_mem_nil, or_false] at hp; rcases hp with rfl <;> simp [PodStatus.cells]); (let r := Cap.Q77 (f := ContainerStatus.cells) (g _ List.mem_cons_self); ⟨r.1, fun x hx => (Q8t (r.2 x hx))⟩)), (let g : CapL N [.str x.nominated] := fun p hp => h p (by simp only [List.mem_cons, List.not_mem_nil, or_false] at hp; rcases hp with rfl <;> simp [PodStatus.cells]); (g _ List.mem_cons_self).strI), (let g : CapL N [.str x.reason] := fun p hp => h p (by simp only [List.mem_cons, List.not_mem_nil, or_false] at hp; rcases hp with rfl <;> simp [PodStatus.cells]); (g _ List.mem_cons_self).strI)⟩
theorem PodStatus.Q31 {N : Nat} (hN : N ≤ sB) {x : PodStatus} (c : Q88 N x) : PodStatus.sm x := ⟨⟨Nat.le_trans c.1.1 hN, fun _ hx => ContainerStatus.Q31 hN (c.1.2 _ hx)⟩, trivial⟩
def Q18p (N : Nat) (x : Taint) : Prop := (fun s : ByteArray => s.size ≤ N) x.key ∧ (fun s : ByteArray => s.size ≤ N) x.value
theorem Taint.Q31 {N : Nat} (_ : N ≤ sB) {x : Taint} (_ : Q18p N x) : Taint.sm x := trivial
def Q1am (N : Nat) (x : Image) : Prop := (fun s : ByteArray => s.size ≤ N) x.name
theorem Image.Q31 {N : Nat} (_ : N ≤ sB) {x : Image} (_ : Q1am N x) : Image.sm x := trivial
def Qbu (N : Nat) (x : Label) : Prop := (fun s : ByteArray => s.size ≤ N) x.key ∧ (fun s : ByteArray => s.size ≤ N) x.value
theorem Qz0 {N : Nat} {x : Label} (h : CapL N x.cells) : Qbu N x := ⟨(let g : CapL N [.str x.key] := fun p hp => h p (by simp only [List.mem_cons, List.not_mem_nil, or_false] at hp; rcases hp with rfl <;> simp [Label.cells]); (g _ List.mem_cons_self).strI), (let g : CapL N [.str x.value] := fun p hp => h p (by simp only [List.mem_cons, List.not_mem_nil, or_false] at hp; rcases hp with rfl <;> simp [Label.cells]); (g _ List.mem_cons_self).strI)⟩
theorem Label.Q31 {N : Nat} (_ : N ≤ sB) {x : Label} (_ : Qbu N x) : Label.sm x := trivial
def Qur (N : Nat) (x : Template) : Prop := (fun l : List Label => l.length ≤ N ∧ ∀ x ∈ l, (Qbu N) x) x.labels ∧ (Q89 N) x.spec
theorem Template.Q31 {N : Nat} (hN : N ≤ sB) {x : Template} (c : Qur N x) : Template.sm x := ⟨⟨Nat.le_trans c.1.1 hN, fun _ hx => Label.Q31 hN (c.1.2 _ hx)⟩, PodSpec.Q31 hN c.2, trivial⟩
def Qvv (N : Nat) (x : Owner) : Prop := (fun s : ByteArray => s.size ≤ N) x.kind ∧ (fun s : ByteArray => s.size ≤ N) x.name
theorem Qyt {N : Nat} {x : Owner} (h : CapL N x.cells) : Qvv N x := ⟨(let g : CapL N [.str x.kind] := fun p hp => h p (by simp only [List.mem_cons, List.not_mem_nil, or_false] at hp; rcases hp with rfl <;> simp [Owner.cells]); (g _ List.mem_cons_self).strI), (let g : CapL N [.str x.name] := fun p hp => h p (by simp only [List.mem_cons, List.not_mem_nil, or_false] at hp; rcases hp with rfl <;> simp [Owner.cells]); (g _ List.mem_cons_self).strI)⟩
def Qkl (N : Nat) (x : Manager) : Prop := (fun s : ByteArray => s.size ≤ N) x.name ∧ (fun l : List ByteArray => l.length ≤ N ∧ ∀ x ∈ l, (fun s : ByteArray => s.size ≤ N) x) x.fields
theorem Qst {N : Nat} {x : Manager} (h : CapL N x.cells) : Qkl N x := ⟨(let g : CapL N [.str x.name] := fun p hp => h p (by simp only [List.mem_cons, List.not_mem_nil, or_false] at hp; rcases hp with rfl <;> simp [Manager.cells]); (g _ List.mem_cons_self).strI), (let g : CapL N [.sl (Qc x.fields)] := fun p hp => h p (by simp only [List.mem_cons, List.not_mem_nil, or_false] at hp; rcases hp with rfl <;> simp [Manager.cells]); (let r := Cap.Q77 (f := (fun s : ByteArray => [.str s])) (g _ List.mem_cons_self); ⟨r.1, fun x hx => ((r.2 x hx) _ List.mem_cons_self).strI⟩))⟩
def Q10u (N : Nat) (x : Meta) : Prop := (fun s : ByteArray => s.size ≤ N) x.kind ∧ (fun s : ByteArray => s.size ≤ N) x.namespace_ ∧ (fun s : ByteArray => s.size ≤ N) x.name ∧ (fun l : List Label => l.length ≤ N ∧ ∀ x ∈ l, (Qbu N) x) x.labels ∧ (fun l : List Owner => l.length ≤ N ∧ ∀ x ∈ l, (Qvv N) x) x.owners ∧ (fun l : List ByteArray => l.length ≤ N ∧ ∀ x ∈ l, (fun s : ByteArray => s.size ≤ N) x) x.finalizers ∧ (fun l : List Manager => l.length ≤ N ∧ ∀ x ∈ l, (Qkl N) x) x.managers
theorem Q16a {N : Nat} {x : Meta} (h : CapL N x.cells) : Q10u N x := ⟨(let g : CapL N [.str x.kind] := fun p hp => h p (by simp only [List.mem_cons, List.not_mem_nil, or_false] at hp; rcases hp with rfl <;> simp [Meta.cells]); (g _ List.mem_cons_self).strI), (let g : CapL N [.str x.namespace_] := fun p hp => h p (by simp only [List.mem_cons, List.not_mem_nil, or_false] at hp; rcases hp with rfl <;> simp [Meta.cells]); (g _ List.mem_cons_self).strI), (let g : CapL N [.str x.name] := fun p hp => h p (by simp only [List.mem_cons, List.not_mem_nil, or_false] at hp; rcases hp with rfl <;> simp [Meta.cells]); (g _ List.mem_cons_self).strI), (let g : CapL N [.sl (Label.rows x.labels)] := fun p hp => h p (by simp only [List.mem_cons, List.not_mem_nil, or_false] at hp; rcases hp with rfl <;> simp [Meta.cells]); (let r := Cap.Q77 (f := Label.cells) (g _ List.mem_cons_self); ⟨r.1, fun x hx => (Qz0 (r.2 x hx))⟩)), (let g : CapL N [.sl (Owner.rows x.owners)] := fun p hp => h p (by simp only [List.mem_cons, List.not_mem_nil, or_false] at hp; rcases hp with rfl <;> simp [Meta.cells]); (let r := Cap.Q77 (f := Owner.cells) (g _ List.mem_cons_self); ⟨r.1, fun x hx => (Qyt (r.2 x hx))⟩)), (let g : CapL N [.sl (Qc x.finalizers)] := fun p hp => h p (by simp only [List.mem_cons, List.not_mem_nil, or_false] at hp; rcases hp with rfl <;> simp [Meta.cells]); (let r := Cap.Q77 (f := (fun s : ByteArray => [.str s])) (g _ List.mem_cons_self); ⟨r.1, fun x hx => ((r.2 x hx) _ List.mem_cons_self).strI⟩)), (let g : CapL N [.sl (Manager.rows x.managers)] := fun p hp => h p (by simp only [List.mem_cons, List.not_mem_nil, or_false] at hp; rcases hp with rfl <;> simp [Meta.cells]); (let r := Cap.Q77 (f := Manager.cells) (g _ List.mem_cons_self); ⟨r.1, fun x hx => (Qst (r.2 x hx))⟩))⟩
def Qsk (N : Nat) (x : Pod) : Prop := (Q10u N) x.meta_ ∧ (Q89 N) x.spec ∧ (Q88 N) x.status
theorem Q19i {N : Nat} {x : Pod} (h : CapL N x.cells) : Qsk N x := ⟨(let g : CapL N [.str x.meta_.kind, .str x.meta_.namespace_, .str x.meta_.name, .int .i64 x.meta_.uid, .int .i64 x.meta_.version, .int .i64 x.meta_.generation, .int .i64 x.meta_.created, .bool x.meta_.deleting, .int .i64 x.meta_.deleteAt, .sl (Label.rows x.meta_.labels), .sl (Owner.rows x.meta_.owners), .sl (Qc x.meta_.finalizers), .sl (Manager.rows x.meta_.managers)] := fun p hp => h p (by simp only [List.mem_cons, List.not_mem_nil, or_false] at hp; rcases hp with rfl | rfl | rfl | rfl | rfl | rfl | rfl | rfl | rfl | rfl | rfl | rfl | rfl <;> simp [Pod.cells]); (Q16a g)), (let g : CapL N [.str x.spec.node, .int .i64 x.spec.priority, .int .i64 x.spec.restart, .int .i64 x.spec.grace, .sl (Container.rows x.spec.containers), .sl (Requirement.rows x.spec.nodeSelector), .sl (NodeTerm.rows x.spec.nodeTerms), .sl (PodTerm.rows x.spec.podTerms), .sl (SpreadRule.rows x.spec.spread), .sl (Toleration.rows x.spec.tolerations)] := fun p hp => h p (by simp only [List.mem_cons, List.not_mem_nil, or_false] at hp; rcases hp with rfl | rfl | rfl | rfl | rfl | rfl | rfl | rfl | rfl | rfl <;> simp [Pod.cells]); (Qtq g)), (let g : CapL N [.int .i64 x.status.phase, .bool x.status.ready, .int .i64 x.status.readySince, .int .i64 x.status.started, .int .i64 x.status.finished, .sl (ContainerStatus.rows x.status.containers), .int .i64 x.status.address, .str x.status.nominated, .str x.status.reason] := fun p hp => h p (by simp only [List.mem_cons, List.not_mem_nil, or_false] at hp; rcases hp with rfl | rfl | rfl | rfl | rfl | rfl | rfl | rfl | rfl <;> simp [Pod.cells]); (Qh1 g))⟩
end Go.Proofs.YtiflaadeikaghaaGreat
end

section
/- What the law PodcodecWrong computes (printed by a program). -/
namespace Go.Proofs.YtiflaadeikaghaaGreat
open Go.Pv
def Q57 (p0 : Pod) (p3 : BA) : Object :=
  (Object.mk (Meta.mk p3 (s_Ka p0).meta_.namespace_ (s_Ka p0).meta_.name (s_Ka p0).meta_.uid (s_Ka p0).meta_.version (s_Ka p0).meta_.generation (s_Ka p0).meta_.created (s_Ka p0).meta_.deleting (s_Ka p0).meta_.deleteAt (s_Ka p0).meta_.labels (s_Ka p0).meta_.owners (s_Ka p0).meta_.finalizers (s_Ka p0).meta_.managers) (s_Ka p0).spec (s_Ka p0).status)
def Q2w (p0 : Pod) (p1 : Int) (p2 : Val) : Object :=
  (Object.mk (s_Ka p0).meta_ (Val.mk (s_Ka p0).spec.kind (s_Ka p0).spec.n (s_Ka p0).spec.s (s_Ka p0).spec.list (List.set ([] ++ (s_Ka p0).spec.fields) (Int.toNat (Int.tmod p1 10)) (Fld.mk (List.getD ([] ++ (s_Ka p0).spec.fields) (Int.toNat (Int.tmod p1 10)) zF).name p2))) (s_Ka p0).status)
def Qjn : Pod :=
  (Pod.mk (Meta.mk eB eB eB 0 0 0 0 false 0 [] [] [] []) (PodSpec.mk eB 0 0 0 [] [] [] [] [] []) (PodStatus.mk 0 false 0 0 0 [] 0 eB eB))
def s_K4 (p0 : Pod) (p1 : Int) (p2 : Val) (p3 : BA) : Bool :=
 bif (s_K6 p0) then
  bif (Q5a p2 2000) then
   bif (decide (100 < (ByteArray.size p3 : Int))) then
    true
   else
    bif (((List.length (s_Ka p0).spec.fields) : Int) == 10) then
     bif (p2.kind == 0) then
      bif (sEq p3 Q29) then
       true
      else
       bif ((s_Kd (Q57 p0 p3)).2 == 6) then
        true
       else
        false
     else
      bif (p2.kind == (List.getD (s_Ka p0).spec.fields (Int.toNat (Int.tmod p1 10)) zF).v.kind) then
       bif (sEq p3 Q29) then
        true
       else
        bif ((s_Kd (Q57 p0 p3)).2 == 6) then
         true
        else
         false
      else
       bif ((s_Kd (Q2w p0 p1 p2)).2 == 6) then
        bif (Qro (s_Kd (Q2w p0 p1 p2)).1 Qjn) then
         bif (sEq p3 Q29) then
          true
         else
          bif ((s_Kd (Q57 p0 p3)).2 == 6) then
           true
          else
           false
        else
         false
       else
        false
    else
     false
  else
   true
 else
  true
def c_K4 (p0 : Pod) (p1 : Int) (p2 : Val) (p3 : BA) : En := .call 5 [.agg (Pod.cells p0), .int .u8 p1, .agg (Val.cells p2), .str p3] []
def a_K4 (p0 : Pod) (p1 : Int) (p2 : Val) (p3 : BA) : Rs := .ret (.bool (s_K4 p0 p1 p2 p3)) []
def H_K4 (p0 : Pod) (p1 : Int) (p2 : Val) (p3 : BA) : Prop := (H_K6 p0) ∧ ((s_K6 p0) = true → Qus p2 2000) ∧ ((s_K6 p0) = true → (Q5a p2 2000) = true → (decide (100 < (ByteArray.size p3 : Int))) = false → H_Ka p0) ∧ ((s_K6 p0) = true → (Q5a p2 2000) = true → (decide (100 < (ByteArray.size p3 : Int))) = false → (((List.length (s_Ka p0).spec.fields) : Int) == 10) = true → 0 ≤ p1 ∧ p1 ≤ 9223372036854775807) ∧ ((s_K6 p0) = true → (Q5a p2 2000) = true → (decide (100 < (ByteArray.size p3 : Int))) = false → (((List.length (s_Ka p0).spec.fields) : Int) == 10) = true → (p2.kind == 0) = true → (sEq p3 Q29) = false → H_Kd (Q57 p0 p3)) ∧ ((s_K6 p0) = true → (Q5a p2 2000) = true → (decide (100 < (ByteArray.size p3 : Int))) = false → (((List.length (s_Ka p0).spec.fields) : Int) == 10) = true → (p2.kind == 0) = false → 0 ≤ (Int.tmod p1 10)) ∧ ((s_K6 p0) = true → (Q5a p2 2000) = true → (decide (100 < (ByteArray.size p3 : Int))) = false → (((List.length (s_Ka p0).spec.fields) : Int) == 10) = true → (p2.kind == 0) = false → Int.toNat (Int.tmod p1 10) < List.length (s_Ka p0).spec.fields) ∧ ((s_K6 p0) = true → (Q5a p2 2000) = true → (decide (100 < (ByteArray.size p3 : Int))) = false → (((List.length (s_Ka p0).spec.fields) : Int) == 10) = true → (p2.kind == 0) = false → (p2.kind == (List.getD (s_Ka p0).spec.fields (Int.toNat (Int.tmod p1 10)) zF).v.kind) = true → (sEq p3 Q29) = false → H_Kd (Q57 p0 p3)) ∧ ((s_K6 p0) = true → (Q5a p2 2000) = true → (decide (100 < (ByteArray.size p3 : Int))) = false → (((List.length (s_Ka p0).spec.fields) : Int) == 10) = true → (p2.kind == 0) = false → (p2.kind == (List.getD (s_Ka p0).spec.fields (Int.toNat (Int.tmod p1 10)) zF).v.kind) = false → (0 + List.length (s_Ka p0).spec.fields) * 96 ≤ 140737488355328) ∧ ((s_K6 p0) = true → (Q5a p2 2000) = true → (decide (100 < (ByteArray.size p3 : Int))) = false → (((List.length (s_Ka p0).spec.fields) : Int) == 10) = true → (p2.kind == 0) = false → (p2.kind == (List.getD (s_Ka p0).spec.fields (Int.toNat (Int.tmod p1 10)) zF).v.kind) = false → 0 ≤ (Int.tmod p1 10)) ∧ ((s_K6 p0) = true → (Q5a p2 2000) = true → (decide (100 < (ByteArray.size p3 : Int))) = false → (((List.length (s_Ka p0).spec.fields) : Int) == 10) = true → (p2.kind == 0) = false → (p2.kind == (List.getD (s_Ka p0).spec.fields (Int.toNat (Int.tmod p1 10)) zF).v.kind) = false → (Int.tmod p1 10) < (((List.length ([] ++ (s_Ka p0).spec.fields)) : Nat) : Int)) ∧ ((s_K6 p0) = true → (Q5a p2 2000) = true → (decide (100 < (ByteArray.size p3 : Int))) = false → (((List.length (s_Ka p0).spec.fields) : Int) == 10) = true → (p2.kind == 0) = false → (p2.kind == (List.getD (s_Ka p0).spec.fields (Int.toNat (Int.tmod p1 10)) zF).v.kind) = false → (Int.toNat (Int.tmod p1 10)) < List.length ([] ++ (s_Ka p0).spec.fields)) ∧ ((s_K6 p0) = true → (Q5a p2 2000) = true → (decide (100 < (ByteArray.size p3 : Int))) = false → (((List.length (s_Ka p0).spec.fields) : Int) == 10) = true → (p2.kind == 0) = false → (p2.kind == (List.getD (s_Ka p0).spec.fields (Int.toNat (Int.tmod p1 10)) zF).v.kind) = false → H_Kd (Q2w p0 p1 p2)) ∧ ((s_K6 p0) = true → (Q5a p2 2000) = true → (decide (100 < (ByteArray.size p3 : Int))) = false → (((List.length (s_Ka p0).spec.fields) : Int) == 10) = true → (p2.kind == 0) = false → (p2.kind == (List.getD (s_Ka p0).spec.fields (Int.toNat (Int.tmod p1 10)) zF).v.kind) = false → ((s_Kd (Q2w p0 p1 p2)).2 == 6) = true → Q14c (s_Kd (Q2w p0 p1 p2)).1 Qjn) ∧ ((s_K6 p0) = true → (Q5a p2 2000) = true → (decide (100 < (ByteArray.size p3 : Int))) = false → (((List.length (s_Ka p0).spec.fields) : Int) == 10) = true → (p2.kind == 0) = false → (p2.kind == (List.getD (s_Ka p0).spec.fields (Int.toNat (Int.tmod p1 10)) zF).v.kind) = false → ((s_Kd (Q2w p0 p1 p2)).2 == 6) = true → (Qro (s_Kd (Q2w p0 p1 p2)).1 Qjn) = true → (sEq p3 Q29) = false → H_Kd (Q57 p0 p3)) ∧ True
theorem Q1hc (p0 : Pod) (p1 : Int) (p2 : Val) (p3 : BA) (H : H_K4 p0 p1 p2 p3) (h0 : (s_K6 p0) = true) (h1 : (Q5a p2 2000) = true) (h2 : (decide (100 < (ByteArray.size p3 : Int))) = true) : Q6 G (c_K4 p0 p1 p2 p3) (.ret (.bool (true)) []) := by
 exact Q7 (fn := Ir.K4) rfl VOK.nil [hB 14 h2] [aB (t_K6 p0 (H.1)) h0, aB (Q8l p2 2000 (H.2.1 h0)) h1, aN t_K7] (by kernel_rfl)
theorem Q1hg (p0 : Pod) (p1 : Int) (p2 : Val) (p3 : BA) (H : H_K4 p0 p1 p2 p3) (h0 : (s_K6 p0) = true) (h1 : (Q5a p2 2000) = true) (h2 : (decide (100 < (ByteArray.size p3 : Int))) = false) (h3 : (((List.length (s_Ka p0).spec.fields) : Int) == 10) = true) (h4 : (p2.kind == 0) = true) : Q6 G (c_K4 p0 p1 p2 p3) (.ret (.bool (bif (sEq p3 Q29) then
   true
 else
   bif ((s_Kd (Q57 p0 p3)).2 == 6) then
    true
   else
    false)) []) := by
 cases h5 : (sEq p3 Q29) with
 | true =>
  exact Q7 (fn := Ir.K4) rfl VOK.nil [hB 14 h2, hP 8 (Qd (Fld.rows (s_Ka p0).spec.fields) (List.length (s_Ka p0).spec.fields) (Fld.Q5 (s_Ka p0).spec.fields)), hP 0 (dec (!(((List.length (s_Ka p0).spec.fields) : Int) == 10)) false (by rw [h3]; rfl)), hP 1 (Q8y p1 (H.2.2.2.1 h0 h1 h2 h3)), hP 4 (dec (!(p2.kind == 0)) false (by rw [h4]; rfl)), hP 14 (dec (!(sEq p3 Q29)) false (by rw [h5]; rfl))] [aB (t_K6 p0 (H.1)) h0, aB (Q8l p2 2000 (H.2.1 h0)) h1, aN (t_Ka p0 (H.2.2.1 h0 h1 h2)), aN t_K7] (by kernel_rfl)
 | false =>
  cases h6 : ((s_Kd (Q57 p0 p3)).2 == 6) with
  | true =>
   exact Q7 (fn := Ir.K4) rfl VOK.nil [hB 14 h2, hP 8 (Qd (Fld.rows (s_Ka p0).spec.fields) (List.length (s_Ka p0).spec.fields) (Fld.Q5 (s_Ka p0).spec.fields)), hP 0 (dec (!(((List.length (s_Ka p0).spec.fields) : Int) == 10)) false (by rw [h3]; rfl)), hP 1 (Q8y p1 (H.2.2.2.1 h0 h1 h2 h3)), hP 4 (dec (!(p2.kind == 0)) false (by rw [h4]; rfl)), hP 14 (dec (!(sEq p3 Q29)) true (by rw [h5]; rfl)), hP 13 (dec (!((s_Kd (Q57 p0 p3)).2 == 6)) false (by rw [h6]; rfl))] [aB (t_K6 p0 (H.1)) h0, aB (Q8l p2 2000 (H.2.1 h0)) h1, aN (t_Ka p0 (H.2.2.1 h0 h1 h2)), aN (t_Kd (Q57 p0 p3) (H.2.2.2.2.1 h0 h1 h2 h3 h4 h5)), aN t_K7] (by kernel_rfl)
  | false =>
   exact Q7 (fn := Ir.K4) rfl VOK.nil [hB 14 h2, hP 8 (Qd (Fld.rows (s_Ka p0).spec.fields) (List.length (s_Ka p0).spec.fields) (Fld.Q5 (s_Ka p0).spec.fields)), hP 0 (dec (!(((List.length (s_Ka p0).spec.fields) : Int) == 10)) false (by rw [h3]; rfl)), hP 1 (Q8y p1 (H.2.2.2.1 h0 h1 h2 h3)), hP 4 (dec (!(p2.kind == 0)) false (by rw [h4]; rfl)), hP 14 (dec (!(sEq p3 Q29)) true (by rw [h5]; rfl)), hP 13 (dec (!((s_Kd (Q57 p0 p3)).2 == 6)) true (by rw [h6]; rfl))] [aB (t_K6 p0 (H.1)) h0, aB (Q8l p2 2000 (H.2.1 h0)) h1, aN (t_Ka p0 (H.2.2.1 h0 h1 h2)), aN (t_Kd (Q57 p0 p3) (H.2.2.2.2.1 h0 h1 h2 h3 h4 h5))] (by kernel_rfl)
theorem Q1jr (p0 : Pod) (p1 : Int) (p2 : Val) (p3 : BA) (H : H_K4 p0 p1 p2 p3) (h0 : (s_K6 p0) = true) (h1 : (Q5a p2 2000) = true) (h2 : (decide (100 < (ByteArray.size p3 : Int))) = false) (h3 : (((List.length (s_Ka p0).spec.fields) : Int) == 10) = true) (h4 : (p2.kind == 0) = false) (h5 : (p2.kind == (List.getD (s_Ka p0).spec.fields (Int.toNat (Int.tmod p1 10)) zF).v.kind) = true) : Q6 G (c_K4 p0 p1 p2 p3) (.ret (.bool (bif (sEq p3 Q29) then
   true
 else
   bif ((s_Kd (Q57 p0 p3)).2 == 6) then
    true
   else
    false)) []) := by
 cases h6 : (sEq p3 Q29) with
 | true =>
  exact Q7 (fn := Ir.K4) rfl VOK.nil [hB 14 h2, hP 8 (Qd (Fld.rows (s_Ka p0).spec.fields) (List.length (s_Ka p0).spec.fields) (Fld.Q5 (s_Ka p0).spec.fields)), hP 0 (dec (!(((List.length (s_Ka p0).spec.fields) : Int) == 10)) false (by rw [h3]; rfl)), hP 1 (Q8y p1 (H.2.2.2.1 h0 h1 h2 h3)), hP 4 (dec (!(p2.kind == 0)) true (by rw [h4]; rfl)), hP 7 (Qdt 6 (Fld.rows (s_Ka p0).spec.fields) (Int.tmod p1 10) _ (H.2.2.2.2.2.1 h0 h1 h2 h3 h4) (Fld.Qb (Q23 (s_Ka p0).spec.fields (Int.toNat (Int.tmod p1 10)) zF (H.2.2.2.2.2.2.1 h0 h1 h2 h3 h4))) rfl), hP 3 (dec (!(p2.kind == (List.getD (s_Ka p0).spec.fields (Int.toNat (Int.tmod p1 10)) zF).v.kind)) false (by rw [h5]; rfl)), hP 2 (dec (!(sEq p3 Q29)) false (by rw [h6]; rfl))] [aB (t_K6 p0 (H.1)) h0, aB (Q8l p2 2000 (H.2.1 h0)) h1, aN (t_Ka p0 (H.2.2.1 h0 h1 h2)), aN t_K7] (by kernel_rfl)
 | false =>
  cases h7 : ((s_Kd (Q57 p0 p3)).2 == 6) with
  | true =>
   exact Q7 (fn := Ir.K4) rfl VOK.nil [hB 14 h2, hP 8 (Qd (Fld.rows (s_Ka p0).spec.fields) (List.length (s_Ka p0).spec.fields) (Fld.Q5 (s_Ka p0).spec.fields)), hP 0 (dec (!(((List.length (s_Ka p0).spec.fields) : Int) == 10)) false (by rw [h3]; rfl)), hP 1 (Q8y p1 (H.2.2.2.1 h0 h1 h2 h3)), hP 4 (dec (!(p2.kind == 0)) true (by rw [h4]; rfl)), hP 7 (Qdt 6 (Fld.rows (s_Ka p0).spec.fields) (Int.tmod p1 10) _ (H.2.2.2.2.2.1 h0 h1 h2 h3 h4) (Fld.Qb (Q23 (s_Ka p0).spec.fields (Int.toNat (Int.tmod p1 10)) zF (H.2.2.2.2.2.2.1 h0 h1 h2 h3 h4))) rfl), hP 3 (dec (!(p2.kind == (List.getD (s_Ka p0).spec.fields (Int.toNat (Int.tmod p1 10)) zF).v.kind)) false (by rw [h5]; rfl)), hP 2 (dec (!(sEq p3 Q29)) true (by rw [h6]; rfl)), hP 13 (dec (!((s_Kd (Q57 p0 p3)).2 == 6)) false (by rw [h7]; rfl))] [aB (t_K6 p0 (H.1)) h0, aB (Q8l p2 2000 (H.2.1 h0)) h1, aN (t_Ka p0 (H.2.2.1 h0 h1 h2)), aN (t_Kd (Q57 p0 p3) (H.2.2.2.2.2.2.2.1 h0 h1 h2 h3 h4 h5 h6)), aN t_K7] (by kernel_rfl)
  | false =>
   exact Q7 (fn := Ir.K4) rfl VOK.nil [hB 14 h2, hP 8 (Qd (Fld.rows (s_Ka p0).spec.fields) (List.length (s_Ka p0).spec.fields) (Fld.Q5 (s_Ka p0).spec.fields)), hP 0 (dec (!(((List.length (s_Ka p0).spec.fields) : Int) == 10)) false (by rw [h3]; rfl)), hP 1 (Q8y p1 (H.2.2.2.1 h0 h1 h2 h3)), hP 4 (dec (!(p2.kind == 0)) true (by rw [h4]; rfl)), hP 7 (Qdt 6 (Fld.rows (s_Ka p0).spec.fields) (Int.tmod p1 10) _ (H.2.2.2.2.2.1 h0 h1 h2 h3 h4) (Fld.Qb (Q23 (s_Ka p0).spec.fields (Int.toNat (Int.tmod p1 10)) zF (H.2.2.2.2.2.2.1 h0 h1 h2 h3 h4))) rfl), hP 3 (dec (!(p2.kind == (List.getD (s_Ka p0).spec.fields (Int.toNat (Int.tmod p1 10)) zF).v.kind)) false (by rw [h5]; rfl)), hP 2 (dec (!(sEq p3 Q29)) true (by rw [h6]; rfl)), hP 13 (dec (!((s_Kd (Q57 p0 p3)).2 == 6)) true (by rw [h7]; rfl))] [aB (t_K6 p0 (H.1)) h0, aB (Q8l p2 2000 (H.2.1 h0)) h1, aN (t_Ka p0 (H.2.2.1 h0 h1 h2)), aN (t_Kd (Q57 p0 p3) (H.2.2.2.2.2.2.2.1 h0 h1 h2 h3 h4 h5 h6))] (by kernel_rfl)
theorem Q1jf (p0 : Pod) (p1 : Int) (p2 : Val) (p3 : BA) (H : H_K4 p0 p1 p2 p3) (h0 : (s_K6 p0) = true) (h1 : (Q5a p2 2000) = true) (h2 : (decide (100 < (ByteArray.size p3 : Int))) = false) (h3 : (((List.length (s_Ka p0).spec.fields) : Int) == 10) = true) (h4 : (p2.kind == 0) = false) (h5 : (p2.kind == (List.getD (s_Ka p0).spec.fields (Int.toNat (Int.tmod p1 10)) zF).v.kind) = false) : Q6 G (c_K4 p0 p1 p2 p3) (.ret (.bool (bif ((s_Kd (Q2w p0 p1 p2)).2 == 6) then
   bif (Qro (s_Kd (Q2w p0 p1 p2)).1 Qjn) then
     bif (sEq p3 Q29) then
      true
     else
      bif ((s_Kd (Q57 p0 p3)).2 == 6) then
       true
      else
       false
   else
     false
 else
   false)) []) := by
 cases h6 : ((s_Kd (Q2w p0 p1 p2)).2 == 6) with
 | true =>
  cases h7 : (Qro (s_Kd (Q2w p0 p1 p2)).1 Qjn) with
  | true =>
   cases h8 : (sEq p3 Q29) with
   | true =>
    exact Q7 (fn := Ir.K4) rfl VOK.nil [hB 14 h2, hP 8 (Qd (Fld.rows (s_Ka p0).spec.fields) (List.length (s_Ka p0).spec.fields) (Fld.Q5 (s_Ka p0).spec.fields)), hP 0 (dec (!(((List.length (s_Ka p0).spec.fields) : Int) == 10)) false (by rw [h3]; rfl)), hP 1 (Q8y p1 (H.2.2.2.1 h0 h1 h2 h3)), hP 4 (dec (!(p2.kind == 0)) true (by rw [h4]; rfl)), hP 7 (Qdt 6 (Fld.rows (s_Ka p0).spec.fields) (Int.tmod p1 10) _ (H.2.2.2.2.2.1 h0 h1 h2 h3 h4) (Fld.Qb (Q23 (s_Ka p0).spec.fields (Int.toNat (Int.tmod p1 10)) zF (H.2.2.2.2.2.2.1 h0 h1 h2 h3 h4))) rfl), hP 3 (dec (!(p2.kind == (List.getD (s_Ka p0).spec.fields (Int.toNat (Int.tmod p1 10)) zF).v.kind)) true (by rw [h5]; rfl)), hV 8 [(3328, Fld.rows ([] ++ (s_Ka p0).spec.fields))] (Qv5 3072 3328 6 96 0 [] (Fld.rows []) (Fld.rows (s_Ka p0).spec.fields) (Fld.rows ([] ++ (s_Ka p0).spec.fields)) 0 (List.length ([] ++ (s_Ka p0).spec.fields)) rfl (Fld.Q5 []).symm (Fld.Q5 ([] ++ (s_Ka p0).spec.fields)).symm (Fld.Q2r [] (s_Ka p0).spec.fields) (Fld.Qf []) (Fld.Qf (s_Ka p0).spec.fields) (by rw [Fld.Q5]; exact (H.2.2.2.2.2.2.2.2.1 h0 h1 h2 h3 h4 h5))), hS 0 true (Fld.Q9 ([] ++ (s_Ka p0).spec.fields) 6 rfl), hP 8 (Q3n 3328 6 (List.length ([] ++ (s_Ka p0).spec.fields)) (Int.tmod p1 10) (Int.toNat (Int.tmod p1 10)) rfl (H.2.2.2.2.2.2.2.2.2.1 h0 h1 h2 h3 h4 h5) (H.2.2.2.2.2.2.2.2.2.2.1 h0 h1 h2 h3 h4 h5)), hV 1 [(3328, Fld.rows (List.set ([] ++ (s_Ka p0).spec.fields) (Int.toNat (Int.tmod p1 10)) (Fld.mk (List.getD ([] ++ (s_Ka p0).spec.fields) (Int.toNat (Int.tmod p1 10)) zF).name p2)))] (Qmo 3328 6 true ((Fld.rows ([] ++ (s_Ka p0).spec.fields)).flatten) (Fld.rows ([] ++ (s_Ka p0).spec.fields)) (Fld.rows (List.set ([] ++ (s_Ka p0).spec.fields) (Int.toNat (Int.tmod p1 10)) (Fld.mk (List.getD ([] ++ (s_Ka p0).spec.fields) (Int.toNat (Int.tmod p1 10)) zF).name p2))) 5 (Int.toNat (Int.tmod p1 10)) 1 ((Int.toNat (Int.tmod p1 10)) * 6 + 1) _ (.agg [.int .i64 p2.kind, .int .i64 p2.n, .str p2.s, .sl (Val.rows p2.list), .sl (Fld.rows p2.fields)]) rfl rfl (Fld.Qb (Q23 ([] ++ (s_Ka p0).spec.fields) (Int.toNat (Int.tmod p1 10)) zF (H.2.2.2.2.2.2.2.2.2.2.2.1 h0 h1 h2 h3 h4 h5))) (Fld.Qf ([] ++ (s_Ka p0).spec.fields)) (by decide) rfl rfl (Fld.Q2l ([] ++ (s_Ka p0).spec.fields) (Int.toNat (Int.tmod p1 10)) (Fld.mk (List.getD ([] ++ (s_Ka p0).spec.fields) (Int.toNat (Int.tmod p1 10)) zF).name p2))), hS 0 true (Fld.Q9 (List.set ([] ++ (s_Ka p0).spec.fields) (Int.toNat (Int.tmod p1 10)) (Fld.mk (List.getD ([] ++ (s_Ka p0).spec.fields) (Int.toNat (Int.tmod p1 10)) zF).name p2)) 6 rfl), hQ ((Fld.Q5 (List.set ([] ++ (s_Ka p0).spec.fields) (Int.toNat (Int.tmod p1 10)) (Fld.mk (List.getD ([] ++ (s_Ka p0).spec.fields) (Int.toNat (Int.tmod p1 10)) zF).name p2))).trans (Q3m rfl (Int.toNat (Int.tmod p1 10)) (Fld.mk (List.getD ([] ++ (s_Ka p0).spec.fields) (Int.toNat (Int.tmod p1 10)) zF).name p2))).symm, hP 9 (dec (!((s_Kd (Q2w p0 p1 p2)).2 == 6)) false (by rw [h6]; rfl)), hP 7 (dec (!(sEq p3 Q29)) false (by rw [h8]; rfl))] [aB (t_K6 p0 (H.1)) h0, aB (Q8l p2 2000 (H.2.1 h0)) h1, aN (t_Ka p0 (H.2.2.1 h0 h1 h2)), aN (t_Kd (Q2w p0 p1 p2) (H.2.2.2.2.2.2.2.2.2.2.2.2.1 h0 h1 h2 h3 h4 h5)), aB (Q1ar (s_Kd (Q2w p0 p1 p2)).1 Qjn (H.2.2.2.2.2.2.2.2.2.2.2.2.2.1 h0 h1 h2 h3 h4 h5 h6)) h7, aN t_K7] (by kernel_rfl)
   | false =>
    cases h9 : ((s_Kd (Q57 p0 p3)).2 == 6) with
    | true =>
     exact Q7 (fn := Ir.K4) rfl VOK.nil [hB 14 h2, hP 8 (Qd (Fld.rows (s_Ka p0).spec.fields) (List.length (s_Ka p0).spec.fields) (Fld.Q5 (s_Ka p0).spec.fields)), hP 0 (dec (!(((List.length (s_Ka p0).spec.fields) : Int) == 10)) false (by rw [h3]; rfl)), hP 1 (Q8y p1 (H.2.2.2.1 h0 h1 h2 h3)), hP 4 (dec (!(p2.kind == 0)) true (by rw [h4]; rfl)), hP 7 (Qdt 6 (Fld.rows (s_Ka p0).spec.fields) (Int.tmod p1 10) _ (H.2.2.2.2.2.1 h0 h1 h2 h3 h4) (Fld.Qb (Q23 (s_Ka p0).spec.fields (Int.toNat (Int.tmod p1 10)) zF (H.2.2.2.2.2.2.1 h0 h1 h2 h3 h4))) rfl), hP 3 (dec (!(p2.kind == (List.getD (s_Ka p0).spec.fields (Int.toNat (Int.tmod p1 10)) zF).v.kind)) true (by rw [h5]; rfl)), hV 8 [(3328, Fld.rows ([] ++ (s_Ka p0).spec.fields))] (Qv5 3072 3328 6 96 0 [] (Fld.rows []) (Fld.rows (s_Ka p0).spec.fields) (Fld.rows ([] ++ (s_Ka p0).spec.fields)) 0 (List.length ([] ++ (s_Ka p0).spec.fields)) rfl (Fld.Q5 []).symm (Fld.Q5 ([] ++ (s_Ka p0).spec.fields)).symm (Fld.Q2r [] (s_Ka p0).spec.fields) (Fld.Qf []) (Fld.Qf (s_Ka p0).spec.fields) (by rw [Fld.Q5]; exact (H.2.2.2.2.2.2.2.2.1 h0 h1 h2 h3 h4 h5))), hS 0 true (Fld.Q9 ([] ++ (s_Ka p0).spec.fields) 6 rfl), hP 8 (Q3n 3328 6 (List.length ([] ++ (s_Ka p0).spec.fields)) (Int.tmod p1 10) (Int.toNat (Int.tmod p1 10)) rfl (H.2.2.2.2.2.2.2.2.2.1 h0 h1 h2 h3 h4 h5) (H.2.2.2.2.2.2.2.2.2.2.1 h0 h1 h2 h3 h4 h5)), hV 1 [(3328, Fld.rows (List.set ([] ++ (s_Ka p0).spec.fields) (Int.toNat (Int.tmod p1 10)) (Fld.mk (List.getD ([] ++ (s_Ka p0).spec.fields) (Int.toNat (Int.tmod p1 10)) zF).name p2)))] (Qmo 3328 6 true ((Fld.rows ([] ++ (s_Ka p0).spec.fields)).flatten) (Fld.rows ([] ++ (s_Ka p0).spec.fields)) (Fld.rows (List.set ([] ++ (s_Ka p0).spec.fields) (Int.toNat (Int.tmod p1 10)) (Fld.mk (List.getD ([] ++ (s_Ka p0).spec.fields) (Int.toNat (Int.tmod p1 10)) zF).name p2))) 5 (Int.toNat (Int.tmod p1 10)) 1 ((Int.toNat (Int.tmod p1 10)) * 6 + 1) _ (.agg [.int .i64 p2.kind, .int .i64 p2.n, .str p2.s, .sl (Val.rows p2.list), .sl (Fld.rows p2.fields)]) rfl rfl (Fld.Qb (Q23 ([] ++ (s_Ka p0).spec.fields) (Int.toNat (Int.tmod p1 10)) zF (H.2.2.2.2.2.2.2.2.2.2.2.1 h0 h1 h2 h3 h4 h5))) (Fld.Qf ([] ++ (s_Ka p0).spec.fields)) (by decide) rfl rfl (Fld.Q2l ([] ++ (s_Ka p0).spec.fields) (Int.toNat (Int.tmod p1 10)) (Fld.mk (List.getD ([] ++ (s_Ka p0).spec.fields) (Int.toNat (Int.tmod p1 10)) zF).name p2))), hS 0 true (Fld.Q9 (List.set ([] ++ (s_Ka p0).spec.fields) (Int.toNat (Int.tmod p1 10)) (Fld.mk (List.getD ([] ++ (s_Ka p0).spec.fields) (Int.toNat (Int.tmod p1 10)) zF).name p2)) 6 rfl), hQ ((Fld.Q5 (List.set ([] ++ (s_Ka p0).spec.fields) (Int.toNat (Int.tmod p1 10)) (Fld.mk (List.getD ([] ++ (s_Ka p0).spec.fields) (Int.toNat (Int.tmod p1 10)) zF).name p2))).trans (Q3m rfl (Int.toNat (Int.tmod p1 10)) (Fld.mk (List.getD ([] ++ (s_Ka p0).spec.fields) (Int.toNat (Int.tmod p1 10)) zF).name p2))).symm, hP 9 (dec (!((s_Kd (Q2w p0 p1 p2)).2 == 6)) false (by rw [h6]; rfl)), hP 7 (dec (!(sEq p3 Q29)) true (by rw [h8]; rfl)), hP 13 (dec (!((s_Kd (Q57 p0 p3)).2 == 6)) false (by rw [h9]; rfl))] [aB (t_K6 p0 (H.1)) h0, aB (Q8l p2 2000 (H.2.1 h0)) h1, aN (t_Ka p0 (H.2.2.1 h0 h1 h2)), aN (t_Kd (Q2w p0 p1 p2) (H.2.2.2.2.2.2.2.2.2.2.2.2.1 h0 h1 h2 h3 h4 h5)), aB (Q1ar (s_Kd (Q2w p0 p1 p2)).1 Qjn (H.2.2.2.2.2.2.2.2.2.2.2.2.2.1 h0 h1 h2 h3 h4 h5 h6)) h7, aN (t_Kd (Q57 p0 p3) (H.2.2.2.2.2.2.2.2.2.2.2.2.2.2.1 h0 h1 h2 h3 h4 h5 h6 h7 h8)), aN t_K7] (by kernel_rfl)
    | false =>
     exact Q7 (fn := Ir.K4) rfl VOK.nil [hB 14 h2, hP 8 (Qd (Fld.rows (s_Ka p0).spec.fields) (List.length (s_Ka p0).spec.fields) (Fld.Q5 (s_Ka p0).spec.fields)), hP 0 (dec (!(((List.length (s_Ka p0).spec.fields) : Int) == 10)) false (by rw [h3]; rfl)), hP 1 (Q8y p1 (H.2.2.2.1 h0 h1 h2 h3)), hP 4 (dec (!(p2.kind == 0)) true (by rw [h4]; rfl)), hP 7 (Qdt 6 (Fld.rows (s_Ka p0).spec.fields) (Int.tmod p1 10) _ (H.2.2.2.2.2.1 h0 h1 h2 h3 h4) (Fld.Qb (Q23 (s_Ka p0).spec.fields (Int.toNat (Int.tmod p1 10)) zF (H.2.2.2.2.2.2.1 h0 h1 h2 h3 h4))) rfl), hP 3 (dec (!(p2.kind == (List.getD (s_Ka p0).spec.fields (Int.toNat (Int.tmod p1 10)) zF).v.kind)) true (by rw [h5]; rfl)), hV 8 [(3328, Fld.rows ([] ++ (s_Ka p0).spec.fields))] (Qv5 3072 3328 6 96 0 [] (Fld.rows []) (Fld.rows (s_Ka p0).spec.fields) (Fld.rows ([] ++ (s_Ka p0).spec.fields)) 0 (List.length ([] ++ (s_Ka p0).spec.fields)) rfl (Fld.Q5 []).symm (Fld.Q5 ([] ++ (s_Ka p0).spec.fields)).symm (Fld.Q2r [] (s_Ka p0).spec.fields) (Fld.Qf []) (Fld.Qf (s_Ka p0).spec.fields) (by rw [Fld.Q5]; exact (H.2.2.2.2.2.2.2.2.1 h0 h1 h2 h3 h4 h5))), hS 0 true (Fld.Q9 ([] ++ (s_Ka p0).spec.fields) 6 rfl), hP 8 (Q3n 3328 6 (List.length ([] ++ (s_Ka p0).spec.fields)) (Int.tmod p1 10) (Int.toNat (Int.tmod p1 10)) rfl (H.2.2.2.2.2.2.2.2.2.1 h0 h1 h2 h3 h4 h5) (H.2.2.2.2.2.2.2.2.2.2.1 h0 h1 h2 h3 h4 h5)), hV 1 [(3328, Fld.rows (List.set ([] ++ (s_Ka p0).spec.fields) (Int.toNat (Int.tmod p1 10)) (Fld.mk (List.getD ([] ++ (s_Ka p0).spec.fields) (Int.toNat (Int.tmod p1 10)) zF).name p2)))] (Qmo 3328 6 true ((Fld.rows ([] ++ (s_Ka p0).spec.fields)).flatten) (Fld.rows ([] ++ (s_Ka p0).spec.fields)) (Fld.rows (List.set ([] ++ (s_Ka p0).spec.fields) (Int.toNat (Int.tmod p1 10)) (Fld.mk (List.getD ([] ++ (s_Ka p0).spec.fields) (Int.toNat (Int.tmod p1 10)) zF).name p2))) 5 (Int.toNat (Int.tmod p1 10)) 1 ((Int.toNat (Int.tmod p1 10)) * 6 + 1) _ (.agg [.int .i64 p2.kind, .int .i64 p2.n, .str p2.s, .sl (Val.rows p2.list), .sl (Fld.rows p2.fields)]) rfl rfl (Fld.Qb (Q23 ([] ++ (s_Ka p0).spec.fields) (Int.toNat (Int.tmod p1 10)) zF (H.2.2.2.2.2.2.2.2.2.2.2.1 h0 h1 h2 h3 h4 h5))) (Fld.Qf ([] ++ (s_Ka p0).spec.fields)) (by decide) rfl rfl (Fld.Q2l ([] ++ (s_Ka p0).spec.fields) (Int.toNat (Int.tmod p1 10)) (Fld.mk (List.getD ([] ++ (s_Ka p0).spec.fields) (Int.toNat (Int.tmod p1 10)) zF).name p2))), hS 0 true (Fld.Q9 (List.set ([] ++ (s_Ka p0).spec.fields) (Int.toNat (Int.tmod p1 10)) (Fld.mk (List.getD ([] ++ (s_Ka p0).spec.fields) (Int.toNat (Int.tmod p1 10)) zF).name p2)) 6 rfl), hQ ((Fld.Q5 (List.set ([] ++ (s_Ka p0).spec.fields) (Int.toNat (Int.tmod p1 10)) (Fld.mk (List.getD ([] ++ (s_Ka p0).spec.fields) (Int.toNat (Int.tmod p1 10)) zF).name p2))).trans (Q3m rfl (Int.toNat (Int.tmod p1 10)) (Fld.mk (List.getD ([] ++ (s_Ka p0).spec.fields) (Int.toNat (Int.tmod p1 10)) zF).name p2))).symm, hP 9 (dec (!((s_Kd (Q2w p0 p1 p2)).2 == 6)) false (by rw [h6]; rfl)), hP 7 (dec (!(sEq p3 Q29)) true (by rw [h8]; rfl)), hP 13 (dec (!((s_Kd (Q57 p0 p3)).2 == 6)) true (by rw [h9]; rfl))] [aB (t_K6 p0 (H.1)) h0, aB (Q8l p2 2000 (H.2.1 h0)) h1, aN (t_Ka p0 (H.2.2.1 h0 h1 h2)), aN (t_Kd (Q2w p0 p1 p2) (H.2.2.2.2.2.2.2.2.2.2.2.2.1 h0 h1 h2 h3 h4 h5)), aB (Q1ar (s_Kd (Q2w p0 p1 p2)).1 Qjn (H.2.2.2.2.2.2.2.2.2.2.2.2.2.1 h0 h1 h2 h3 h4 h5 h6)) h7, aN (t_Kd (Q57 p0 p3) (H.2.2.2.2.2.2.2.2.2.2.2.2.2.2.1 h0 h1 h2 h3 h4 h5 h6 h7 h8))] (by kernel_rfl)
  | false =>
   exact Q7 (fn := Ir.K4) rfl VOK.nil [hB 14 h2, hP 8 (Qd (Fld.rows (s_Ka p0).spec.fields) (List.length (s_Ka p0).spec.fields) (Fld.Q5 (s_Ka p0).spec.fields)), hP 0 (dec (!(((List.length (s_Ka p0).spec.fields) : Int) == 10)) false (by rw [h3]; rfl)), hP 1 (Q8y p1 (H.2.2.2.1 h0 h1 h2 h3)), hP 4 (dec (!(p2.kind == 0)) true (by rw [h4]; rfl)), hP 7 (Qdt 6 (Fld.rows (s_Ka p0).spec.fields) (Int.tmod p1 10) _ (H.2.2.2.2.2.1 h0 h1 h2 h3 h4) (Fld.Qb (Q23 (s_Ka p0).spec.fields (Int.toNat (Int.tmod p1 10)) zF (H.2.2.2.2.2.2.1 h0 h1 h2 h3 h4))) rfl), hP 3 (dec (!(p2.kind == (List.getD (s_Ka p0).spec.fields (Int.toNat (Int.tmod p1 10)) zF).v.kind)) true (by rw [h5]; rfl)), hV 8 [(3328, Fld.rows ([] ++ (s_Ka p0).spec.fields))] (Qv5 3072 3328 6 96 0 [] (Fld.rows []) (Fld.rows (s_Ka p0).spec.fields) (Fld.rows ([] ++ (s_Ka p0).spec.fields)) 0 (List.length ([] ++ (s_Ka p0).spec.fields)) rfl (Fld.Q5 []).symm (Fld.Q5 ([] ++ (s_Ka p0).spec.fields)).symm (Fld.Q2r [] (s_Ka p0).spec.fields) (Fld.Qf []) (Fld.Qf (s_Ka p0).spec.fields) (by rw [Fld.Q5]; exact (H.2.2.2.2.2.2.2.2.1 h0 h1 h2 h3 h4 h5))), hS 0 true (Fld.Q9 ([] ++ (s_Ka p0).spec.fields) 6 rfl), hP 8 (Q3n 3328 6 (List.length ([] ++ (s_Ka p0).spec.fields)) (Int.tmod p1 10) (Int.toNat (Int.tmod p1 10)) rfl (H.2.2.2.2.2.2.2.2.2.1 h0 h1 h2 h3 h4 h5) (H.2.2.2.2.2.2.2.2.2.2.1 h0 h1 h2 h3 h4 h5)), hV 1 [(3328, Fld.rows (List.set ([] ++ (s_Ka p0).spec.fields) (Int.toNat (Int.tmod p1 10)) (Fld.mk (List.getD ([] ++ (s_Ka p0).spec.fields) (Int.toNat (Int.tmod p1 10)) zF).name p2)))] (Qmo 3328 6 true ((Fld.rows ([] ++ (s_Ka p0).spec.fields)).flatten) (Fld.rows ([] ++ (s_Ka p0).spec.fields)) (Fld.rows (List.set ([] ++ (s_Ka p0).spec.fields) (Int.toNat (Int.tmod p1 10)) (Fld.mk (List.getD ([] ++ (s_Ka p0).spec.fields) (Int.toNat (Int.tmod p1 10)) zF).name p2))) 5 (Int.toNat (Int.tmod p1 10)) 1 ((Int.toNat (Int.tmod p1 10)) * 6 + 1) _ (.agg [.int .i64 p2.kind, .int .i64 p2.n, .str p2.s, .sl (Val.rows p2.list), .sl (Fld.rows p2.fields)]) rfl rfl (Fld.Qb (Q23 ([] ++ (s_Ka p0).spec.fields) (Int.toNat (Int.tmod p1 10)) zF (H.2.2.2.2.2.2.2.2.2.2.2.1 h0 h1 h2 h3 h4 h5))) (Fld.Qf ([] ++ (s_Ka p0).spec.fields)) (by decide) rfl rfl (Fld.Q2l ([] ++ (s_Ka p0).spec.fields) (Int.toNat (Int.tmod p1 10)) (Fld.mk (List.getD ([] ++ (s_Ka p0).spec.fields) (Int.toNat (Int.tmod p1 10)) zF).name p2))), hS 0 true (Fld.Q9 (List.set ([] ++ (s_Ka p0).spec.fields) (Int.toNat (Int.tmod p1 10)) (Fld.mk (List.getD ([] ++ (s_Ka p0).spec.fields) (Int.toNat (Int.tmod p1 10)) zF).name p2)) 6 rfl), hQ ((Fld.Q5 (List.set ([] ++ (s_Ka p0).spec.fields) (Int.toNat (Int.tmod p1 10)) (Fld.mk (List.getD ([] ++ (s_Ka p0).spec.fields) (Int.toNat (Int.tmod p1 10)) zF).name p2))).trans (Q3m rfl (Int.toNat (Int.tmod p1 10)) (Fld.mk (List.getD ([] ++ (s_Ka p0).spec.fields) (Int.toNat (Int.tmod p1 10)) zF).name p2))).symm, hP 9 (dec (!((s_Kd (Q2w p0 p1 p2)).2 == 6)) false (by rw [h6]; rfl))] [aB (t_K6 p0 (H.1)) h0, aB (Q8l p2 2000 (H.2.1 h0)) h1, aN (t_Ka p0 (H.2.2.1 h0 h1 h2)), aN (t_Kd (Q2w p0 p1 p2) (H.2.2.2.2.2.2.2.2.2.2.2.2.1 h0 h1 h2 h3 h4 h5)), aB (Q1ar (s_Kd (Q2w p0 p1 p2)).1 Qjn (H.2.2.2.2.2.2.2.2.2.2.2.2.2.1 h0 h1 h2 h3 h4 h5 h6)) h7] (by kernel_rfl)
 | false =>
  exact Q7 (fn := Ir.K4) rfl VOK.nil [hB 14 h2, hP 8 (Qd (Fld.rows (s_Ka p0).spec.fields) (List.length (s_Ka p0).spec.fields) (Fld.Q5 (s_Ka p0).spec.fields)), hP 0 (dec (!(((List.length (s_Ka p0).spec.fields) : Int) == 10)) false (by rw [h3]; rfl)), hP 1 (Q8y p1 (H.2.2.2.1 h0 h1 h2 h3)), hP 4 (dec (!(p2.kind == 0)) true (by rw [h4]; rfl)), hP 7 (Qdt 6 (Fld.rows (s_Ka p0).spec.fields) (Int.tmod p1 10) _ (H.2.2.2.2.2.1 h0 h1 h2 h3 h4) (Fld.Qb (Q23 (s_Ka p0).spec.fields (Int.toNat (Int.tmod p1 10)) zF (H.2.2.2.2.2.2.1 h0 h1 h2 h3 h4))) rfl), hP 3 (dec (!(p2.kind == (List.getD (s_Ka p0).spec.fields (Int.toNat (Int.tmod p1 10)) zF).v.kind)) true (by rw [h5]; rfl)), hV 8 [(3328, Fld.rows ([] ++ (s_Ka p0).spec.fields))] (Qv5 3072 3328 6 96 0 [] (Fld.rows []) (Fld.rows (s_Ka p0).spec.fields) (Fld.rows ([] ++ (s_Ka p0).spec.fields)) 0 (List.length ([] ++ (s_Ka p0).spec.fields)) rfl (Fld.Q5 []).symm (Fld.Q5 ([] ++ (s_Ka p0).spec.fields)).symm (Fld.Q2r [] (s_Ka p0).spec.fields) (Fld.Qf []) (Fld.Qf (s_Ka p0).spec.fields) (by rw [Fld.Q5]; exact (H.2.2.2.2.2.2.2.2.1 h0 h1 h2 h3 h4 h5))), hS 0 true (Fld.Q9 ([] ++ (s_Ka p0).spec.fields) 6 rfl), hP 8 (Q3n 3328 6 (List.length ([] ++ (s_Ka p0).spec.fields)) (Int.tmod p1 10) (Int.toNat (Int.tmod p1 10)) rfl (H.2.2.2.2.2.2.2.2.2.1 h0 h1 h2 h3 h4 h5) (H.2.2.2.2.2.2.2.2.2.2.1 h0 h1 h2 h3 h4 h5)), hV 1 [(3328, Fld.rows (List.set ([] ++ (s_Ka p0).spec.fields) (Int.toNat (Int.tmod p1 10)) (Fld.mk (List.getD ([] ++ (s_Ka p0).spec.fields) (Int.toNat (Int.tmod p1 10)) zF).name p2)))] (Qmo 3328 6 true ((Fld.rows ([] ++ (s_Ka p0).spec.fields)).flatten) (Fld.rows ([] ++ (s_Ka p0).spec.fields)) (Fld.rows (List.set ([] ++ (s_Ka p0).spec.fields) (Int.toNat (Int.tmod p1 10)) (Fld.mk (List.getD ([] ++ (s_Ka p0).spec.fields) (Int.toNat (Int.tmod p1 10)) zF).name p2))) 5 (Int.toNat (Int.tmod p1 10)) 1 ((Int.toNat (Int.tmod p1 10)) * 6 + 1) _ (.agg [.int .i64 p2.kind, .int .i64 p2.n, .str p2.s, .sl (Val.rows p2.list), .sl (Fld.rows p2.fields)]) rfl rfl (Fld.Qb (Q23 ([] ++ (s_Ka p0).spec.fields) (Int.toNat (Int.tmod p1 10)) zF (H.2.2.2.2.2.2.2.2.2.2.2.1 h0 h1 h2 h3 h4 h5))) (Fld.Qf ([] ++ (s_Ka p0).spec.fields)) (by decide) rfl rfl (Fld.Q2l ([] ++ (s_Ka p0).spec.fields) (Int.toNat (Int.tmod p1 10)) (Fld.mk (List.getD ([] ++ (s_Ka p0).spec.fields) (Int.toNat (Int.tmod p1 10)) zF).name p2))), hS 0 true (Fld.Q9 (List.set ([] ++ (s_Ka p0).spec.fields) (Int.toNat (Int.tmod p1 10)) (Fld.mk (List.getD ([] ++ (s_Ka p0).spec.fields) (Int.toNat (Int.tmod p1 10)) zF).name p2)) 6 rfl), hQ ((Fld.Q5 (List.set ([] ++ (s_Ka p0).spec.fields) (Int.toNat (Int.tmod p1 10)) (Fld.mk (List.getD ([] ++ (s_Ka p0).spec.fields) (Int.toNat (Int.tmod p1 10)) zF).name p2))).trans (Q3m rfl (Int.toNat (Int.tmod p1 10)) (Fld.mk (List.getD ([] ++ (s_Ka p0).spec.fields) (Int.toNat (Int.tmod p1 10)) zF).name p2))).symm, hP 9 (dec (!((s_Kd (Q2w p0 p1 p2)).2 == 6)) true (by rw [h6]; rfl))] [aB (t_K6 p0 (H.1)) h0, aB (Q8l p2 2000 (H.2.1 h0)) h1, aN (t_Ka p0 (H.2.2.1 h0 h1 h2)), aN (t_Kd (Q2w p0 p1 p2) (H.2.2.2.2.2.2.2.2.2.2.2.2.1 h0 h1 h2 h3 h4 h5))] (by kernel_rfl)
theorem Q1kh (p0 : Pod) (p1 : Int) (p2 : Val) (p3 : BA) (H : H_K4 p0 p1 p2 p3) (h0 : (s_K6 p0) = true) (h1 : (Q5a p2 2000) = true) (h2 : (decide (100 < (ByteArray.size p3 : Int))) = false) (h3 : (((List.length (s_Ka p0).spec.fields) : Int) == 10) = false) : Q6 G (c_K4 p0 p1 p2 p3) (.ret (.bool (false)) []) := by
 exact Q7 (fn := Ir.K4) rfl VOK.nil [hB 14 h2, hP 8 (Qd (Fld.rows (s_Ka p0).spec.fields) (List.length (s_Ka p0).spec.fields) (Fld.Q5 (s_Ka p0).spec.fields)), hP 0 (dec (!(((List.length (s_Ka p0).spec.fields) : Int) == 10)) true (by rw [h3]; rfl))] [aB (t_K6 p0 (H.1)) h0, aB (Q8l p2 2000 (H.2.1 h0)) h1, aN (t_Ka p0 (H.2.2.1 h0 h1 h2))] (by kernel_rfl)
theorem Q1i6 (p0 : Pod) (p1 : Int) (p2 : Val) (p3 : BA) (H : H_K4 p0 p1 p2 p3) (h0 : (s_K6 p0) = true) (h1 : (Q5a p2 2000) = false) : Q6 G (c_K4 p0 p1 p2 p3) (.ret (.bool (true)) []) := by
 exact Q7 (fn := Ir.K4) rfl VOK.nil [] [aB (t_K6 p0 (H.1)) h0, aB (Q8l p2 2000 (H.2.1 h0)) h1, aN t_K7] (by kernel_rfl)
theorem Q1hi (p0 : Pod) (p1 : Int) (p2 : Val) (p3 : BA) (H : H_K4 p0 p1 p2 p3) (h0 : (s_K6 p0) = false) : Q6 G (c_K4 p0 p1 p2 p3) (.ret (.bool (true)) []) := by
 exact Q7 (fn := Ir.K4) rfl VOK.nil [] [aB (t_K6 p0 (H.1)) h0, aN t_K7] (by kernel_rfl)
theorem t_K4 (p0 : Pod) (p1 : Int) (p2 : Val) (p3 : BA) (H : H_K4 p0 p1 p2 p3) : Q6 G (c_K4 p0 p1 p2 p3) (a_K4 p0 p1 p2 p3) := by
 unfold a_K4 s_K4
 cases h0 : (s_K6 p0) with
 | true =>
  cases h1 : (Q5a p2 2000) with
  | true =>
   cases h2 : (decide (100 < (ByteArray.size p3 : Int))) with
   | true =>
    exact Q1hc p0 p1 p2 p3 H h0 h1 h2
   | false =>
    cases h3 : (((List.length (s_Ka p0).spec.fields) : Int) == 10) with
    | true =>
     cases h4 : (p2.kind == 0) with
     | true =>
      exact Q1hg p0 p1 p2 p3 H h0 h1 h2 h3 h4
     | false =>
      cases h5 : (p2.kind == (List.getD (s_Ka p0).spec.fields (Int.toNat (Int.tmod p1 10)) zF).v.kind) with
      | true =>
       exact Q1jr p0 p1 p2 p3 H h0 h1 h2 h3 h4 h5
      | false =>
       exact Q1jf p0 p1 p2 p3 H h0 h1 h2 h3 h4 h5
    | false =>
     exact Q1kh p0 p1 p2 p3 H h0 h1 h2 h3
  | false =>
   exact Q1i6 p0 p1 p2 p3 H h0 h1
 | false =>
  exact Q1hi p0 p1 p2 p3 H h0
def tysPodcodecWrong : List Ty := [Q1dw, .int .u8, .nm 31, .str]
theorem purePodcodecWrong {N : Nat} (hp : ∀ (p0 : Pod) (p1 : Int) (p2 : Val) (p3 : BA), Q1aj p0 → okU8 p1 → Q6b p2 → okS p3 → (Qsk N) p0 → (Val.Sm N) p2 → (fun s : ByteArray => s.size ≤ N) p3 → H_K4 p0 p1 p2 p3 ∧ s_K4 p0 p1 p2 p3 = true) : ∀ qs, Q18f Γ N tysPodcodecWrong qs → ∃ n, runs G n (.call 5 qs []) = some (.ret (.bool true) []) := by
  intro qs h
  cases qs with
  | nil => cases h
  | cons q0 qs =>
  obtain ⟨h0, h⟩ := h
  cases qs with
  | nil => cases h
  | cons q1 qs =>
  obtain ⟨h1, h⟩ := h
  cases qs with
  | nil => cases h
  | cons q2 qs =>
  obtain ⟨h2, h⟩ := h
  cases qs with
  | nil => cases h
  | cons q3 qs =>
  obtain ⟨h3, h⟩ := h
  cases qs with
  | cons _ _ => cases h
  | nil =>
  obtain ⟨c0, rfl, g0, b0⟩ := h0.agg rfl
  obtain ⟨p0, rfl, k0⟩ := (Q1bu g0)
  obtain ⟨g1, b1⟩ := h1.one rfl
  obtain ⟨p1, e1, k1⟩ := g1.u8
  injection e1 with e1
  subst e1
  obtain ⟨c2, rfl, g2, b2⟩ := h2.agg rfl
  obtain ⟨p2, rfl, k2⟩ := (Q1b5 (Q1h5 31) g2)
  obtain ⟨g3, b3⟩ := h3.one rfl
  obtain ⟨p3, e3, k3⟩ := g3.str1
  injection e3 with e3
  subst e3
  have e := hp p0 p1 p2 p3 k0 k1 k2 k3 (Q19i b0) (Q187 b2) (b3 _ List.mem_cons_self).strI
  have t := t_K4 p0 p1 p2 p3 e.1
  unfold a_K4 at t
  rw [e.2] at t
  exact t
end Go.Proofs.YtiflaadeikaghaaGreat
end

section
/- Equal metadata and objects; what is small; decoding what was encoded, in plain words. -/
namespace Go.Proofs.YtiflaadeikaghaaGreat
open Go.Pv
theorem Q18t (p : List Label) : ∀ (l : List Label) (i : Nat), List.drop i p = l → Q61 p p l i = .k0
  | [], _, _ => by rw [Q61]
  | x :: l, i, hd => by
    obtain ⟨h1, _, h3⟩ := Q11 hd
    rw [Q61, List.getD_eq_getElem?_getD, h1, Option.getD_some, Q3b, Q3b]
    exact Q18t p l (i + 1) h3
theorem Q11o {α : Type} (l : List α) : ((l.length : Int) == (l.length : Int)) = true := beq_self_eq_true _
theorem Q19r (p : List Label) : Qd8 p p = true := by
  unfold Qd8
  rw [Q11o, cond_true, Q18t p p 0 rfl]
theorem Q18w (p : List ByteArray) : ∀ (l : List ByteArray) (i : Nat), List.drop i p = l → Q5w p p l i = .k0
  | [], _, _ => by rw [Q5w]
  | x :: l, i, hd => by
    obtain ⟨h1, _, h3⟩ := Q11 hd
    rw [Q5w, List.getD_eq_getElem?_getD, h1, Option.getD_some, Q3b]
    exact Q18w p l (i + 1) h3
theorem Qxq (p : List ByteArray) : Qa1 p p = true := by
  unfold Qa1
  rw [Q11o, cond_true, Q18w p p 0 rfl]
theorem Q19d (m : Meta) : ∀ (l : List Owner) (i : Nat), List.drop i m.owners = l → Q5v m m l i = .k0
  | [], _, _ => by rw [Q5v]
  | x :: l, i, hd => by
    obtain ⟨h1, _, h3⟩ := Q11 hd
    rw [Q5v, List.getD_eq_getElem?_getD, h1, Option.getD_some]
    simp only [Q3b, beq_self_eq_true, Bool.and_true, cond_true]
    exact Q19d m l (i + 1) h3
theorem Q18u (m : Meta) : ∀ (l : List Manager) (i : Nat), List.drop i m.managers = l → Q60 m m l i = .k0
  | [], _, _ => by rw [Q60]
  | x :: l, i, hd => by
    obtain ⟨h1, _, h3⟩ := Q11 hd
    rw [Q60, List.getD_eq_getElem?_getD, h1, Option.getD_some, Q3b, Qxq, cond_true, cond_true]
    exact Q18u m l (i + 1) h3
theorem Q182 (m : Meta) : Q17k m m = true := by
  unfold Q17k
  simp only [Q3b, beq_self_eq_true, cond_true, Q19r, Qxq]
  rw [Q19d m m.owners 0 rfl, Q18u m m.managers 0 rfl]
theorem Q1c4 (o : Object) : Q18m o o = true := by
  unfold Q18m
  rw [Q182, Qqx, Qqx]
  rfl
theorem Q1bo (p : Pod) : Qro p p = true := by
  unfold Qro
  rw [Q3b, Q1c4]
  rfl
theorem Q18d {m : Meta} (k : Qar m) (s : BA) (h : s.size ≤ 140737488351232) : Qar { m with kind := s } := ⟨h, k.2⟩
theorem Q15d {m : Meta} (k : Qar m) : H_Kf m ∧ H_K5 m ∧ Q73 m m := by
  obtain ⟨_, _, _, _, _, _, _, _, _, kl, ko, kf, km⟩ := k
  have hl := kl.1
  have ho := ko.1
  have hf := kf.1
  have hm := km.1
  have hx : ∀ x ∈ m.managers, x.fields.length * 16 ≤ 140737488351232 := fun x hx => (km.2 x hx).2.1
  have lt : ∀ {α : Type} {l : List α} {i : Nat} {x : α}, l[i]? = some x → i < l.length := fun h => (List.getElem?_eq_some_iff.1 h).1
  refine ⟨⟨by omega, by omega, by omega, by omega, ⟨by omega, fun x h => by have := hx x h; omega, trivial⟩, trivial⟩, ⟨⟨by omega, trivial⟩, ⟨by omega, trivial⟩, ⟨by omega, trivial⟩, ⟨by omega, fun i x h => ⟨by have := hx x (List.mem_of_getElem? h); omega, trivial⟩, trivial⟩, trivial⟩,
    ⟨fun _ => ⟨by omega, fun i x h => lt h, trivial⟩, trivial⟩, ⟨fun _ => ⟨by omega, fun i x h => lt h, trivial⟩, trivial⟩, fun _ _ => ⟨by omega, fun i x h => lt h, trivial⟩, fun _ _ => ⟨by omega, fun i x h => lt h, fun i x h => ?_, trivial⟩, trivial⟩
  rw [List.getD_eq_getElem?_getD, h, Option.getD_some]
  have := hx x (List.mem_of_getElem? h)
  exact ⟨fun _ => ⟨by omega, fun i x h => lt h, trivial⟩, trivial⟩
theorem alH {v : Val} (h : Val.Sm sB v) : Q8c v := h.mono (Nat.le_of_ble_eq_true rfl)
theorem fewH {v : Val} (h : Val.Sm sB v) (n : Int) : Qus v n := ⟨h.mono (Nat.le_of_ble_eq_true rfl), trivial⟩
theorem objH {o : Object} (h : Q73 o.meta_ o.meta_) (g : Object.sm o) : Q1bj o o := ⟨h, alH g.1, alH g.2, trivial⟩
theorem Q1j4 {p : Pod} (c : Qsk 1048576 p) : Pod.sm p := ⟨PodSpec.Q31 (Nat.le_of_ble_eq_true rfl) c.2.1, PodStatus.Q31 (Nat.le_of_ble_eq_true rfl) c.2.2⟩
theorem Q1ap {p : Pod} (h : Q73 p.meta_ p.meta_) (g : Pod.sm p) : Q14c p p := by
  have o : Q1bj (Pod.obj p) (Pod.obj p) := objH h (Pod.Q10d g)
  unfold Q14c
  repeat' with_reducible apply And.intro
  all_goals first | exact True.intro | exact g | exact o | (intros; exact g) | (intros; exact o)
theorem Q1ac {p : Pod} (k : Qar p.meta_) (g : Pod.sm p) : H_K6 p := by
  have o := Pod.Q10d g
  have a : Qus (Q7q p).spec 20000 := fewH o.1 _
  have b : Qus (Q7q p).status 20000 := fewH o.2 _
  unfold H_K6
  repeat' with_reducible apply And.intro
  all_goals first | exact True.intro | exact g | exact (Q15d k).2.1 | (intros; exact a) | (intros; exact b) | (intros; exact (Q15d k).2.1)
end Go.Proofs.YtiflaadeikaghaaGreat
end

section
/- A specification's fields: put, taken out; what decoding makes of it (printed by a program). -/
namespace Go.Proofs.YtiflaadeikaghaaGreat
open Go.Pv
theorem Q7c {v : Val} (hm : isM v = true) {a0 : (List Container) × Bool} {a1 : Int × Bool} {a2 : ByteArray × Bool} {a3 : (List Requirement) × Bool} {a4 : (List NodeTerm) × Bool} {a5 : (List PodTerm) × Bool} {a6 : Int × Bool} {a7 : Int × Bool} {a8 : (List SpreadRule) × Bool} {a9 : (List Toleration) × Bool} (h0 : xE Container.dec (prt v Qh) = a0) (h1 : xN (prt v Q25) = a1) (h2 : xS (prt v Q28) = a2) (h3 : xE Requirement.dec (prt v Qk) = a3) (h4 : xE NodeTerm.dec (prt v Qs) = a4) (h5 : xE PodTerm.dec (prt v Qz) = a5) (h6 : xN (prt v Qx) = a6) (h7 : xN (prt v Q19) = a7) (h8 : xE SpreadRule.dec (prt v Q1q) = a8) (h9 : xE Toleration.dec (prt v Qq) = a9) : PodSpec.dec v = (PodSpec.mk a2.1 a6.1 a7.1 a1.1 a0.1 a3.1 a4.1 a5.1 a8.1 a9.1, a0.2 && a1.2 && a2.2 && a3.2 && a4.2 && a5.2 && a6.2 && a7.2 && a8.2 && a9.2) := by
  unfold PodSpec.dec
  simp only [dN, dS, dE]
  rw [hm, h0, h1, h2, h3, h4, h5, h6, h7, h8, h9]
  rfl
theorem fp0 {v : Val} {s : PodSpec} (h : prt v Qh = vL (s.containers.map Container.enc)) : xE Container.dec (prt v Qh) = (s.containers, true) := by rw [h]; exact Q4a Container.Q1x _
theorem fp1 {v : Val} {s : PodSpec} (h : prt v Q25 = vN s.grace) : xN (prt v Q25) = (s.grace, true) := by rw [h]; exact rfl
theorem fp2 {v : Val} {s : PodSpec} (h : prt v Q28 = vS s.node) : xS (prt v Q28) = (s.node, true) := by rw [h]; exact rfl
theorem fp3 {v : Val} {s : PodSpec} (h : prt v Qk = vL (s.nodeSelector.map Requirement.enc)) : xE Requirement.dec (prt v Qk) = (s.nodeSelector, true) := by rw [h]; exact Q4a Requirement.Q1x _
theorem fp4 {v : Val} {s : PodSpec} (h : prt v Qs = vL (s.nodeTerms.map NodeTerm.enc)) : xE NodeTerm.dec (prt v Qs) = (s.nodeTerms, true) := by rw [h]; exact Q4a NodeTerm.Q1x _
theorem fp5 {v : Val} {s : PodSpec} (h : prt v Qz = vL (s.podTerms.map PodTerm.enc)) : xE PodTerm.dec (prt v Qz) = (s.podTerms, true) := by rw [h]; exact Q4a PodTerm.Q1x _
theorem fp6 {v : Val} {s : PodSpec} (h : prt v Qx = vN s.priority) : xN (prt v Qx) = (s.priority, true) := by rw [h]; exact rfl
theorem fp7 {v : Val} {s : PodSpec} (h : prt v Q19 = vN s.restart) : xN (prt v Q19) = (s.restart, true) := by rw [h]; exact rfl
theorem fp8 {v : Val} {s : PodSpec} (h : prt v Q1q = vL (s.spread.map SpreadRule.enc)) : xE SpreadRule.dec (prt v Q1q) = (s.spread, true) := by rw [h]; exact Q4a SpreadRule.Q1x _
theorem fp9 {v : Val} {s : PodSpec} (h : prt v Qq = vL (s.tolerations.map Toleration.enc)) : xE Toleration.dec (prt v Qq) = (s.tolerations, true) := by rw [h]; exact Q4a Toleration.Q1x _
def put0 (s : PodSpec) (w : Val) : Val := vM [.mk Qh w, .mk Q25 (vN s.grace), .mk Q28 (vS s.node), .mk Qk (vL (s.nodeSelector.map Requirement.enc)), .mk Qs (vL (s.nodeTerms.map NodeTerm.enc)), .mk Qz (vL (s.podTerms.map PodTerm.enc)), .mk Qx (vN s.priority), .mk Q19 (vN s.restart), .mk Q1q (vL (s.spread.map SpreadRule.enc)), .mk Qq (vL (s.tolerations.map Toleration.enc))]
theorem Q1cl (s : PodSpec) (w : Val) : PodSpec.dec (put0 s w) = ({ s with containers := (xE Container.dec w).1 }, (xE Container.dec w).2) := by
  rw [Q7c (v := put0 s w) rfl (congrArg (xE Container.dec) (show prt (put0 s w) Qh = w by kernel_rfl)) (fp1 (s := s) (by kernel_rfl)) (fp2 (s := s) (by kernel_rfl)) (fp3 (s := s) (by kernel_rfl)) (fp4 (s := s) (by kernel_rfl)) (fp5 (s := s) (by kernel_rfl)) (fp6 (s := s) (by kernel_rfl)) (fp7 (s := s) (by kernel_rfl)) (fp8 (s := s) (by kernel_rfl)) (fp9 (s := s) (by kernel_rfl))]
  exact Prod.ext rfl (by cases (xE Container.dec w).2 <;> rfl)
def put1 (s : PodSpec) (w : Val) : Val := vM [.mk Qh (vL (s.containers.map Container.enc)), .mk Q25 w, .mk Q28 (vS s.node), .mk Qk (vL (s.nodeSelector.map Requirement.enc)), .mk Qs (vL (s.nodeTerms.map NodeTerm.enc)), .mk Qz (vL (s.podTerms.map PodTerm.enc)), .mk Qx (vN s.priority), .mk Q19 (vN s.restart), .mk Q1q (vL (s.spread.map SpreadRule.enc)), .mk Qq (vL (s.tolerations.map Toleration.enc))]
theorem Q1ax (s : PodSpec) (w : Val) : PodSpec.dec (put1 s w) = ({ s with grace := (xN w).1 }, (xN w).2) := by
  rw [Q7c (v := put1 s w) rfl (fp0 (s := s) (by kernel_rfl)) (congrArg (xN) (show prt (put1 s w) Q25 = w by kernel_rfl)) (fp2 (s := s) (by kernel_rfl)) (fp3 (s := s) (by kernel_rfl)) (fp4 (s := s) (by kernel_rfl)) (fp5 (s := s) (by kernel_rfl)) (fp6 (s := s) (by kernel_rfl)) (fp7 (s := s) (by kernel_rfl)) (fp8 (s := s) (by kernel_rfl)) (fp9 (s := s) (by kernel_rfl))]
  exact Prod.ext rfl (by cases (xN w).2 <;> rfl)
def put2 (s : PodSpec) (w : Val) : Val := vM [.mk Qh (vL (s.containers.map Container.enc)), .mk Q25 (vN s.grace), .mk Q28 w, .mk Qk (vL (s.nodeSelector.map Requirement.enc)), .mk Qs (vL (s.nodeTerms.map NodeTerm.enc)), .mk Qz (vL (s.podTerms.map PodTerm.enc)), .mk Qx (vN s.priority), .mk Q19 (vN s.restart), .mk Q1q (vL (s.spread.map SpreadRule.enc)), .mk Qq (vL (s.tolerations.map Toleration.enc))]
theorem Q1bl (s : PodSpec) (w : Val) : PodSpec.dec (put2 s w) = ({ s with node := (xS w).1 }, (xS w).2) := by
  rw [Q7c (v := put2 s w) rfl (fp0 (s := s) (by kernel_rfl)) (fp1 (s := s) (by kernel_rfl)) (congrArg (xS) (show prt (put2 s w) Q28 = w by kernel_rfl)) (fp3 (s := s) (by kernel_rfl)) (fp4 (s := s) (by kernel_rfl)) (fp5 (s := s) (by kernel_rfl)) (fp6 (s := s) (by kernel_rfl)) (fp7 (s := s) (by kernel_rfl)) (fp8 (s := s) (by kernel_rfl)) (fp9 (s := s) (by kernel_rfl))]
  exact Prod.ext rfl (by cases (xS w).2 <;> rfl)
def put3 (s : PodSpec) (w : Val) : Val := vM [.mk Qh (vL (s.containers.map Container.enc)), .mk Q25 (vN s.grace), .mk Q28 (vS s.node), .mk Qk w, .mk Qs (vL (s.nodeTerms.map NodeTerm.enc)), .mk Qz (vL (s.podTerms.map PodTerm.enc)), .mk Qx (vN s.priority), .mk Q19 (vN s.restart), .mk Q1q (vL (s.spread.map SpreadRule.enc)), .mk Qq (vL (s.tolerations.map Toleration.enc))]
theorem Q1at (s : PodSpec) (w : Val) : PodSpec.dec (put3 s w) = ({ s with nodeSelector := (xE Requirement.dec w).1 }, (xE Requirement.dec w).2) := by
  rw [Q7c (v := put3 s w) rfl (fp0 (s := s) (by kernel_rfl)) (fp1 (s := s) (by kernel_rfl)) (fp2 (s := s) (by kernel_rfl)) (congrArg (xE Requirement.dec) (show prt (put3 s w) Qk = w by kernel_rfl)) (fp4 (s := s) (by kernel_rfl)) (fp5 (s := s) (by kernel_rfl)) (fp6 (s := s) (by kernel_rfl)) (fp7 (s := s) (by kernel_rfl)) (fp8 (s := s) (by kernel_rfl)) (fp9 (s := s) (by kernel_rfl))]
  exact Prod.ext rfl (by cases (xE Requirement.dec w).2 <;> rfl)
def put4 (s : PodSpec) (w : Val) : Val := vM [.mk Qh (vL (s.containers.map Container.enc)), .mk Q25 (vN s.grace), .mk Q28 (vS s.node), .mk Qk (vL (s.nodeSelector.map Requirement.enc)), .mk Qs w, .mk Qz (vL (s.podTerms.map PodTerm.enc)), .mk Qx (vN s.priority), .mk Q19 (vN s.restart), .mk Q1q (vL (s.spread.map SpreadRule.enc)), .mk Qq (vL (s.tolerations.map Toleration.enc))]
theorem Q1c0 (s : PodSpec) (w : Val) : PodSpec.dec (put4 s w) = ({ s with nodeTerms := (xE NodeTerm.dec w).1 }, (xE NodeTerm.dec w).2) := by
  rw [Q7c (v := put4 s w) rfl (fp0 (s := s) (by kernel_rfl)) (fp1 (s := s) (by kernel_rfl)) (fp2 (s := s) (by kernel_rfl)) (fp3 (s := s) (by kernel_rfl)) (congrArg (xE NodeTerm.dec) (show prt (put4 s w) Qs = w by kernel_rfl)) (fp5 (s := s) (by kernel_rfl)) (fp6 (s := s) (by kernel_rfl)) (fp7 (s := s) (by kernel_rfl)) (fp8 (s := s) (by kernel_rfl)) (fp9 (s := s) (by kernel_rfl))]
  exact Prod.ext rfl (by cases (xE NodeTerm.dec w).2 <;> rfl)
def put5 (s : PodSpec) (w : Val) : Val := vM [.mk Qh (vL (s.containers.map Container.enc)), .mk Q25 (vN s.grace), .mk Q28 (vS s.node), .mk Qk (vL (s.nodeSelector.map Requirement.enc)), .mk Qs (vL (s.nodeTerms.map NodeTerm.enc)), .mk Qz w, .mk Qx (vN s.priority), .mk Q19 (vN s.restart), .mk Q1q (vL (s.spread.map SpreadRule.enc)), .mk Qq (vL (s.tolerations.map Toleration.enc))]
theorem Q1b0 (s : PodSpec) (w : Val) : PodSpec.dec (put5 s w) = ({ s with podTerms := (xE PodTerm.dec w).1 }, (xE PodTerm.dec w).2) := by
  rw [Q7c (v := put5 s w) rfl (fp0 (s := s) (by kernel_rfl)) (fp1 (s := s) (by kernel_rfl)) (fp2 (s := s) (by kernel_rfl)) (fp3 (s := s) (by kernel_rfl)) (fp4 (s := s) (by kernel_rfl)) (congrArg (xE PodTerm.dec) (show prt (put5 s w) Qz = w by kernel_rfl)) (fp6 (s := s) (by kernel_rfl)) (fp7 (s := s) (by kernel_rfl)) (fp8 (s := s) (by kernel_rfl)) (fp9 (s := s) (by kernel_rfl))]
  exact Prod.ext rfl (by cases (xE PodTerm.dec w).2 <;> rfl)
def put6 (s : PodSpec) (w : Val) : Val := vM [.mk Qh (vL (s.containers.map Container.enc)), .mk Q25 (vN s.grace), .mk Q28 (vS s.node), .mk Qk (vL (s.nodeSelector.map Requirement.enc)), .mk Qs (vL (s.nodeTerms.map NodeTerm.enc)), .mk Qz (vL (s.podTerms.map PodTerm.enc)), .mk Qx w, .mk Q19 (vN s.restart), .mk Q1q (vL (s.spread.map SpreadRule.enc)), .mk Qq (vL (s.tolerations.map Toleration.enc))]
theorem Q1bc (s : PodSpec) (w : Val) : PodSpec.dec (put6 s w) = ({ s with priority := (xN w).1 }, (xN w).2) := by
  rw [Q7c (v := put6 s w) rfl (fp0 (s := s) (by kernel_rfl)) (fp1 (s := s) (by kernel_rfl)) (fp2 (s := s) (by kernel_rfl)) (fp3 (s := s) (by kernel_rfl)) (fp4 (s := s) (by kernel_rfl)) (fp5 (s := s) (by kernel_rfl)) (congrArg (xN) (show prt (put6 s w) Qx = w by kernel_rfl)) (fp7 (s := s) (by kernel_rfl)) (fp8 (s := s) (by kernel_rfl)) (fp9 (s := s) (by kernel_rfl))]
  exact Prod.ext rfl (by cases (xN w).2 <;> rfl)
def put7 (s : PodSpec) (w : Val) : Val := vM [.mk Qh (vL (s.containers.map Container.enc)), .mk Q25 (vN s.grace), .mk Q28 (vS s.node), .mk Qk (vL (s.nodeSelector.map Requirement.enc)), .mk Qs (vL (s.nodeTerms.map NodeTerm.enc)), .mk Qz (vL (s.podTerms.map PodTerm.enc)), .mk Qx (vN s.priority), .mk Q19 w, .mk Q1q (vL (s.spread.map SpreadRule.enc)), .mk Qq (vL (s.tolerations.map Toleration.enc))]
theorem Q1by (s : PodSpec) (w : Val) : PodSpec.dec (put7 s w) = ({ s with restart := (xN w).1 }, (xN w).2) := by
  rw [Q7c (v := put7 s w) rfl (fp0 (s := s) (by kernel_rfl)) (fp1 (s := s) (by kernel_rfl)) (fp2 (s := s) (by kernel_rfl)) (fp3 (s := s) (by kernel_rfl)) (fp4 (s := s) (by kernel_rfl)) (fp5 (s := s) (by kernel_rfl)) (fp6 (s := s) (by kernel_rfl)) (congrArg (xN) (show prt (put7 s w) Q19 = w by kernel_rfl)) (fp8 (s := s) (by kernel_rfl)) (fp9 (s := s) (by kernel_rfl))]
  exact Prod.ext rfl (by cases (xN w).2 <;> rfl)
def put8 (s : PodSpec) (w : Val) : Val := vM [.mk Qh (vL (s.containers.map Container.enc)), .mk Q25 (vN s.grace), .mk Q28 (vS s.node), .mk Qk (vL (s.nodeSelector.map Requirement.enc)), .mk Qs (vL (s.nodeTerms.map NodeTerm.enc)), .mk Qz (vL (s.podTerms.map PodTerm.enc)), .mk Qx (vN s.priority), .mk Q19 (vN s.restart), .mk Q1q w, .mk Qq (vL (s.tolerations.map Toleration.enc))]
theorem Q1cc (s : PodSpec) (w : Val) : PodSpec.dec (put8 s w) = ({ s with spread := (xE SpreadRule.dec w).1 }, (xE SpreadRule.dec w).2) := by
  rw [Q7c (v := put8 s w) rfl (fp0 (s := s) (by kernel_rfl)) (fp1 (s := s) (by kernel_rfl)) (fp2 (s := s) (by kernel_rfl)) (fp3 (s := s) (by kernel_rfl)) (fp4 (s := s) (by kernel_rfl)) (fp5 (s := s) (by kernel_rfl)) (fp6 (s := s) (by kernel_rfl)) (fp7 (s := s) (by kernel_rfl)) (congrArg (xE SpreadRule.dec) (show prt (put8 s w) Q1q = w by kernel_rfl)) (fp9 (s := s) (by kernel_rfl))]
  exact Prod.ext rfl (by cases (xE SpreadRule.dec w).2 <;> rfl)
def put9 (s : PodSpec) (w : Val) : Val := vM [.mk Qh (vL (s.containers.map Container.enc)), .mk Q25 (vN s.grace), .mk Q28 (vS s.node), .mk Qk (vL (s.nodeSelector.map Requirement.enc)), .mk Qs (vL (s.nodeTerms.map NodeTerm.enc)), .mk Qz (vL (s.podTerms.map PodTerm.enc)), .mk Qx (vN s.priority), .mk Q19 (vN s.restart), .mk Q1q (vL (s.spread.map SpreadRule.enc)), .mk Qq w]
theorem Q1c7 (s : PodSpec) (w : Val) : PodSpec.dec (put9 s w) = ({ s with tolerations := (xE Toleration.dec w).1 }, (xE Toleration.dec w).2) := by
  rw [Q7c (v := put9 s w) rfl (fp0 (s := s) (by kernel_rfl)) (fp1 (s := s) (by kernel_rfl)) (fp2 (s := s) (by kernel_rfl)) (fp3 (s := s) (by kernel_rfl)) (fp4 (s := s) (by kernel_rfl)) (fp5 (s := s) (by kernel_rfl)) (fp6 (s := s) (by kernel_rfl)) (fp7 (s := s) (by kernel_rfl)) (fp8 (s := s) (by kernel_rfl)) (congrArg (xE Toleration.dec) (show prt (put9 s w) Qq = w by kernel_rfl))]
  exact Prod.ext rfl (by cases (xE Toleration.dec w).2 <;> rfl)
theorem Q1du {p : Int} (h : 0 ≤ p ∧ p ≤ 255) : 0 ≤ Int.tmod p 10 ∧ Int.tmod p 10 < 10 := by
  rw [Int.tmod_eq_emod_of_nonneg h.1]
  omega
theorem ten {i : Int} (h : 0 ≤ i ∧ i < 10) : i = 0 ∨ i = 1 ∨ i = 2 ∨ i = 3 ∨ i = 4 ∨ i = 5 ∨ i = 6 ∨ i = 7 ∨ i = 8 ∨ i = 9 := by omega
end Go.Proofs.YtiflaadeikaghaaGreat
end

section
/- The law PodcodecWrong in plain words: a field of another kind, or an object of another kind, is refused. -/
namespace Go.Proofs.YtiflaadeikaghaaGreat
open Go.Pv
abbrev zFld : Fld := Fld.mk eB vZ
theorem Q1hh (p0 : Pod) (p1 : Int) (p2 : Val) (e : Int.tmod p1 10 = 0) (h0 : (p2.kind == 0) = false) (hk : (p2.kind == (List.getD (s_Ka p0).spec.fields (Int.toNat (Int.tmod p1 10)) zFld).v.kind) = false) : podR (Q2w p0 p1 p2) = (zPod, 6) := by
  rw [e] at hk
  have hk : (p2.kind == 4) = false := hk
  unfold Q2w
  rw [e]
  show podR ⟨{ p0.meta_ with kind := Q29 }, put0 p0.spec p2, PodStatus.enc p0.status⟩ = _
  have q : (xE Container.dec p2).2 = false := by
    unfold xE xL
    rw [hk, h0]
    rfl
  unfold podR podQ Qjj
  simp only [Q1cl, PodStatus.Q1x, Q3b, q]
  rfl
theorem Q1j3 (p0 : Pod) (p1 : Int) (p2 : Val) (e : Int.tmod p1 10 = 1) (h0 : (p2.kind == 0) = false) (hk : (p2.kind == (List.getD (s_Ka p0).spec.fields (Int.toNat (Int.tmod p1 10)) zFld).v.kind) = false) : podR (Q2w p0 p1 p2) = (zPod, 6) := by
  rw [e] at hk
  have hk : (p2.kind == 2) = false := hk
  unfold Q2w
  rw [e]
  show podR ⟨{ p0.meta_ with kind := Q29 }, put1 p0.spec p2, PodStatus.enc p0.status⟩ = _
  have q : (xN p2).2 = false := by
    unfold xN
    rw [hk, h0]
    rfl
  unfold podR podQ Qjj
  simp only [Q1ax, PodStatus.Q1x, Q3b, q]
  rfl
theorem Q1h8 (p0 : Pod) (p1 : Int) (p2 : Val) (e : Int.tmod p1 10 = 2) (h0 : (p2.kind == 0) = false) (hk : (p2.kind == (List.getD (s_Ka p0).spec.fields (Int.toNat (Int.tmod p1 10)) zFld).v.kind) = false) : podR (Q2w p0 p1 p2) = (zPod, 6) := by
  rw [e] at hk
  have hk : (p2.kind == 3) = false := hk
  unfold Q2w
  rw [e]
  show podR ⟨{ p0.meta_ with kind := Q29 }, put2 p0.spec p2, PodStatus.enc p0.status⟩ = _
  have q : (xS p2).2 = false := by
    unfold xS
    rw [hk, h0]
    rfl
  unfold podR podQ Qjj
  simp only [Q1bl, PodStatus.Q1x, Q3b, q]
  rfl
theorem Q1ir (p0 : Pod) (p1 : Int) (p2 : Val) (e : Int.tmod p1 10 = 3) (h0 : (p2.kind == 0) = false) (hk : (p2.kind == (List.getD (s_Ka p0).spec.fields (Int.toNat (Int.tmod p1 10)) zFld).v.kind) = false) : podR (Q2w p0 p1 p2) = (zPod, 6) := by
  rw [e] at hk
  have hk : (p2.kind == 4) = false := hk
  unfold Q2w
  rw [e]
  show podR ⟨{ p0.meta_ with kind := Q29 }, put3 p0.spec p2, PodStatus.enc p0.status⟩ = _
  have q : (xE Requirement.dec p2).2 = false := by
    unfold xE xL
    rw [hk, h0]
    rfl
  unfold podR podQ Qjj
  simp only [Q1at, PodStatus.Q1x, Q3b, q]
  rfl
theorem Q1k7 (p0 : Pod) (p1 : Int) (p2 : Val) (e : Int.tmod p1 10 = 4) (h0 : (p2.kind == 0) = false) (hk : (p2.kind == (List.getD (s_Ka p0).spec.fields (Int.toNat (Int.tmod p1 10)) zFld).v.kind) = false) : podR (Q2w p0 p1 p2) = (zPod, 6) := by
  rw [e] at hk
  have hk : (p2.kind == 4) = false := hk
  unfold Q2w
  rw [e]
  show podR ⟨{ p0.meta_ with kind := Q29 }, put4 p0.spec p2, PodStatus.enc p0.status⟩ = _
  have q : (xE NodeTerm.dec p2).2 = false := by
    unfold xE xL
    rw [hk, h0]
    rfl
  unfold podR podQ Qjj
  simp only [Q1c0, PodStatus.Q1x, Q3b, q]
  rfl
theorem Q1j9 (p0 : Pod) (p1 : Int) (p2 : Val) (e : Int.tmod p1 10 = 5) (h0 : (p2.kind == 0) = false) (hk : (p2.kind == (List.getD (s_Ka p0).spec.fields (Int.toNat (Int.tmod p1 10)) zFld).v.kind) = false) : podR (Q2w p0 p1 p2) = (zPod, 6) := by
  rw [e] at hk
  have hk : (p2.kind == 4) = false := hk
  unfold Q2w
  rw [e]
  show podR ⟨{ p0.meta_ with kind := Q29 }, put5 p0.spec p2, PodStatus.enc p0.status⟩ = _
  have q : (xE PodTerm.dec p2).2 = false := by
    unfold xE xL
    rw [hk, h0]
    rfl
  unfold podR podQ Qjj
  simp only [Q1b0, PodStatus.Q1x, Q3b, q]
  rfl
theorem Q1i1 (p0 : Pod) (p1 : Int) (p2 : Val) (e : Int.tmod p1 10 = 6) (h0 : (p2.kind == 0) = false) (hk : (p2.kind == (List.getD (s_Ka p0).spec.fields (Int.toNat (Int.tmod p1 10)) zFld).v.kind) = false) : podR (Q2w p0 p1 p2) = (zPod, 6) := by
  rw [e] at hk
  have hk : (p2.kind == 2) = false := hk
  unfold Q2w
  rw [e]
  show podR ⟨{ p0.meta_ with kind := Q29 }, put6 p0.spec p2, PodStatus.enc p0.status⟩ = _
  have q : (xN p2).2 = false := by
    unfold xN
    rw [hk, h0]
    rfl
  unfold podR podQ Qjj
  simp only [Q1bc, PodStatus.Q1x, Q3b, q]
  rfl
theorem Q1js (p0 : Pod) (p1 : Int) (p2 : Val) (e : Int.tmod p1 10 = 7) (h0 : (p2.kind == 0) = false) (hk : (p2.kind == (List.getD (s_Ka p0).spec.fields (Int.toNat (Int.tmod p1 10)) zFld).v.kind) = false) : podR (Q2w p0 p1 p2) = (zPod, 6) := by
  rw [e] at hk
  have hk : (p2.kind == 2) = false := hk
  unfold Q2w
  rw [e]
  show podR ⟨{ p0.meta_ with kind := Q29 }, put7 p0.spec p2, PodStatus.enc p0.status⟩ = _
  have q : (xN p2).2 = false := by
    unfold xN
    rw [hk, h0]
    rfl
  unfold podR podQ Qjj
  simp only [Q1by, PodStatus.Q1x, Q3b, q]
  rfl
theorem Q1ke (p0 : Pod) (p1 : Int) (p2 : Val) (e : Int.tmod p1 10 = 8) (h0 : (p2.kind == 0) = false) (hk : (p2.kind == (List.getD (s_Ka p0).spec.fields (Int.toNat (Int.tmod p1 10)) zFld).v.kind) = false) : podR (Q2w p0 p1 p2) = (zPod, 6) := by
  rw [e] at hk
  have hk : (p2.kind == 4) = false := hk
  unfold Q2w
  rw [e]
  show podR ⟨{ p0.meta_ with kind := Q29 }, put8 p0.spec p2, PodStatus.enc p0.status⟩ = _
  have q : (xE SpreadRule.dec p2).2 = false := by
    unfold xE xL
    rw [hk, h0]
    rfl
  unfold podR podQ Qjj
  simp only [Q1cc, PodStatus.Q1x, Q3b, q]
  rfl
theorem Q1ie (p0 : Pod) (p1 : Int) (p2 : Val) (e : Int.tmod p1 10 = 9) (h0 : (p2.kind == 0) = false) (hk : (p2.kind == (List.getD (s_Ka p0).spec.fields (Int.toNat (Int.tmod p1 10)) zFld).v.kind) = false) : podR (Q2w p0 p1 p2) = (zPod, 6) := by
  rw [e] at hk
  have hk : (p2.kind == 4) = false := hk
  unfold Q2w
  rw [e]
  show podR ⟨{ p0.meta_ with kind := Q29 }, put9 p0.spec p2, PodStatus.enc p0.status⟩ = _
  have q : (xE Toleration.dec p2).2 = false := by
    unfold xE xL
    rw [hk, h0]
    rfl
  unfold podR podQ Qjj
  simp only [Q1c7, PodStatus.Q1x, Q3b, q]
  rfl
theorem Q1jc (p0 : Pod) (p1 : Int) (p2 : Val) (h : 0 ≤ p1 ∧ p1 ≤ 255) (h0 : (p2.kind == 0) = false) (hk : (p2.kind == (List.getD (s_Ka p0).spec.fields (Int.toNat (Int.tmod p1 10)) zFld).v.kind) = false) : podR (Q2w p0 p1 p2) = (zPod, 6) := by
  rcases ten (Q1du h) with e | e | e | e | e | e | e | e | e | e
  · exact Q1hh p0 p1 p2 e h0 hk
  · exact Q1j3 p0 p1 p2 e h0 hk
  · exact Q1h8 p0 p1 p2 e h0 hk
  · exact Q1ir p0 p1 p2 e h0 hk
  · exact Q1k7 p0 p1 p2 e h0 hk
  · exact Q1j9 p0 p1 p2 e h0 hk
  · exact Q1i1 p0 p1 p2 e h0 hk
  · exact Q1js p0 p1 p2 e h0 hk
  · exact Q1ke p0 p1 p2 e h0 hk
  · exact Q1ie p0 p1 p2 e h0 hk
theorem wrong (p0 : Pod) (p1 : Int) (p2 : Val) (p3 : BA) (k0 : Q1aj p0) (k1 : okU8 p1) (_ : Q6b p2) (k3 : okS p3) (c0 : Qsk 1048576 p0) (c2 : Val.Sm 1048576 p2) (_ : p3.size ≤ 1048576) : H_K4 p0 p1 p2 p3 ∧ s_K4 p0 p1 p2 p3 = true := by
  have hp : 0 ≤ p1 ∧ p1 ≤ 255 := k1
  have ht := Q1du hp
  have g := Q1j4 c0
  have m0 := Q15d (Q18d k0.1 Q29 (show 3 ≤ 140737488351232 by decide))
  have m3 := Q15d (Q18d k0.1 p3 k3)
  have mc := Q15d k0.1
  have sp := Q1ac k0.1 g
  have so := Pod.Q10d g
  have v2 : Val.Sm sB p2 := c2.mono (Nat.le_of_ble_eq_true rfl)
  have fw : Qus p2 2000 := fewH v2 _
  have hlen : (s_Ka p0).spec.fields.length = 10 := rfl
  have f1 : H_Ka p0 := ⟨mc.1, g⟩
  have o1 : Object.sm (Q2w p0 p1 p2) := ⟨.mk _ (Nat.zero_le _) (by
      show (List.set ([] ++ (s_Ka p0).spec.fields) _ _).length ≤ 1000000000
      rw [List.length_set, List.nil_append, hlen]; omega) (fun _ h => by cases h) (fun x hx => by
      rcases List.mem_or_eq_of_mem_set hx with h | h
      · exact so.1.all.2.2.2 x h
      · subst h; exact v2), so.2⟩
  have a2 : (0 + List.length (s_Ka p0).spec.fields) * 96 ≤ 140737488355328 := by rw [hlen]; omega
  have a3 : (Int.tmod p1 10) < (((List.length ([] ++ (s_Ka p0).spec.fields)) : Nat) : Int) := by rw [List.nil_append, hlen]; omega
  have a4 : (Int.toNat (Int.tmod p1 10)) < List.length ([] ++ (s_Ka p0).spec.fields) := by rw [List.nil_append, hlen]; omega
  have a5 : Int.toNat (Int.tmod p1 10) < List.length (s_Ka p0).spec.fields := by rw [hlen]; omega
  have t0 : H_Kd (Q57 p0 p3) := ⟨m3.1, so⟩
  have t1 : H_Kd (Q2w p0 p1 p2) := ⟨m0.1, o1⟩
  have zm : Qar (⟨⟨#[]⟩, ⟨#[]⟩, ⟨#[]⟩, 0, 0, 0, 0, false, 0, [], [], [], []⟩ : Meta) := by
    have i : Q3j 0 := ⟨by decide, by decide⟩
    exact ⟨Nat.zero_le _, Nat.zero_le _, Nat.zero_le _, i, i, i, i, trivial, i, ⟨Nat.zero_le _, fun _ h => by cases h⟩, ⟨Nat.zero_le _, fun _ h => by cases h⟩, ⟨Nat.zero_le _, fun _ h => by cases h⟩, ⟨Nat.zero_le _, fun _ h => by cases h⟩⟩
  have hz : Q14c zPod zPod := Q1ap (p := zPod) (Q15d zm).2.2 ⟨⟨LSm.nil, LSm.nil, LSm.nil, LSm.nil, LSm.nil, LSm.nil, trivial⟩, ⟨LSm.nil, trivial⟩⟩
  have R := Q1jc p0 p1 p2 hp
  have s1 : (p2.kind == 0) = false → (p2.kind == (List.getD (s_Ka p0).spec.fields (Int.toNat (Int.tmod p1 10)) zFld).v.kind) = false → Q14c (s_Kd (Q2w p0 p1 p2)).1 Qjn := fun h0 hk => by
    rw [show s_Kd (Q2w p0 p1 p2) = (zPod, 6) from R h0 hk]
    exact hz
  refine ⟨?_, ?_⟩
  · unfold H_K4
    repeat' with_reducible apply And.intro
    all_goals first | exact True.intro | exact sp | (intros; exact fw) | (intros; exact f1) | (intros; exact a2) | (intros; exact a3) | (intros; exact a4) | (intros; exact a5) | (intros; exact t0) | (intros; exact t1) | (intro _ _ _ _ h0 hk _; exact s1 h0 hk) | (intros; omega) | (intros; exact ⟨hp.1, by omega⟩)
  · have c1 : (((List.length (s_Ka p0).spec.fields) : Int) == 10) = true := rfl
    have r0 : sEq p3 Q29 = false → ((s_Kd (Q57 p0 p3)).2 == 6) = true := fun h => by
      show ((podR (Q57 p0 p3)).2 == 6) = true
      unfold podR
      rw [show sEq (Q57 p0 p3).meta_.kind Q29 = false from h]
      rfl
    have r1 : (p2.kind == 0) = false → (p2.kind == (List.getD (s_Ka p0).spec.fields (Int.toNat (Int.tmod p1 10)) zFld).v.kind) = false → ((s_Kd (Q2w p0 p1 p2)).2 == 6) = true ∧ Qro (s_Kd (Q2w p0 p1 p2)).1 Qjn = true := fun h0 hk => by
      rw [show s_Kd (Q2w p0 p1 p2) = (zPod, 6) from R h0 hk]
      exact ⟨rfl, Q1bo zPod⟩
    unfold s_K4
    rw [c1]
    cases s_K6 p0 with
    | false => rfl
    | true =>
      cases Q5a p2 2000 with
      | false => rfl
      | true =>
        cases (decide (100 < (ByteArray.size p3 : Int))) with
        | true => rfl
        | false =>
          have last : (bif sEq p3 Q29 then true else bif ((s_Kd (Q57 p0 p3)).2 == 6) then true else false) = true := by
            cases h : sEq p3 Q29 with
            | true => rfl
            | false => rw [r0 h]; rfl
          simp only [cond_true, cond_false]
          cases h0 : (p2.kind == 0) with
          | true => exact last
          | false =>
            cases hk : (p2.kind == (List.getD (s_Ka p0).spec.fields (Int.toNat (Int.tmod p1 10)) zFld).v.kind) with
            | true => exact last
            | false =>
              obtain ⟨q1, q2⟩ := r1 h0 hk
              rw [q1, q2]
              exact last
end Go.Proofs.YtiflaadeikaghaaGreat
end

section
/- The library's comparison of two strings, walked: it answers as the evaluator's cmpL. -/
namespace Go.Proofs.YtiflaadeikaghaaGreat
open Go.Pv
theorem cmpL_eq : ∀ (a b : List UInt8), cmpL a b = Lib.compareBytes a b
  | [], [] => rfl
  | [], _ :: _ => rfl
  | _ :: _, [] => rfl
  | a :: x, b :: y => by
    rw [Lib.compareBytes, ← cmpL_eq x y]
    rfl
set_option maxHeartbeats 1000000 in
set_option maxRecDepth 100000 in
theorem comparing (a b : BA) (w : World) :
    Calls Tryz.prog 152 #[.string a, .string b] w fun e w' => e = .returned (.int .i64 (Lib.compareBytes a.data.toList b.data.toList)) ∧ w' = w := by
  go_enter Tryz.func152, Tryz.ntmps152
  go_wp2
  rw [run_callFunc_extern Tryz.func157 (by kernel_rfl) (by kernel_rfl) (by kernel_rfl) (e := Extern.BytealgCompare.compare) (by kernel_rfl), Lib.run_compareString]
  simp only [Result.andThen]
  rw [Oper.upon_value]
  go_wp2
  go_ret
  exact ⟨rfl, rfl⟩
theorem cmpOK : Q1bi Tryz.prog 152 := by
  refine ⟨⟨_, Tryz.func152, by kernel_rfl, by kernel_rfl⟩, fun x y w => ?_⟩
  have h := comparing x y w
  rw [← cmpL_eq, ← toList_data, ← toList_data] at h
  exact h
end Go.Proofs.YtiflaadeikaghaaGreat
end

section
/- What is of bounded bulk holds nothing longer. -/
namespace Go.Proofs.YtiflaadeikaghaaGreat.bulks
open Go.Pv
theorem one_le {H : Type} (d : DataW H) : 1 ≤ Rows.uptoBulk d := by
  cases d with
  | lit l => cases l <;> simp [Rows.uptoBulk]
  | nil => simp [Rows.uptoBulk]
  | ptr d => simp [Rows.uptoBulk]
  | slice elems spare => simp [Rows.uptoBulk]
  | agg parts => simp [Rows.uptoBulk]
  | iface t d => simp [Rows.uptoBulk]
  | map entries => simp [Rows.uptoBulk]
  | held h => simp [Rows.uptoBulk]
theorem Qyn {H : Type} {d : DataW H} {l : List (DataW H)} (h : d ∈ l) : Rows.uptoBulk d ≤ Rows.uptoBulkAll l := by
  induction l with
  | nil => cases h
  | cons x r ih =>
    simp only [Rows.uptoBulkAll]
    rcases List.mem_cons.1 h with e | e
    · subst e; omega
    · have := ih e; omega
theorem length_le {H : Type} (l : List (DataW H)) : l.length ≤ Rows.uptoBulkAll l := by
  induction l with
  | nil => simp [Rows.uptoBulkAll]
  | cons x r ih => have := one_le x; simp only [Rows.uptoBulkAll, List.length_cons]; omega
theorem Q19a {H : Type} {N : Nat} : ∀ (k : Nat) (d : DataW H), Rows.uptoBulk d ≤ k → k ≤ N → CapD N d
  | 0, d, h, _ => by have := one_le d; omega
  | k + 1, d, h, hk => by
    cases d with
    | lit l => exact .lit l (fun b e => by subst e; simp only [Rows.uptoBulk] at h; omega)
    | nil => exact .nil
    | ptr d => exact .ptr d
    | slice elems spare =>
      simp only [Rows.uptoBulk] at h
      exact .slice elems spare (by have := length_le elems; omega) (fun z hz => Q19a k z (by have := Qyn hz; omega) (by omega))
    | agg parts =>
      simp only [Rows.uptoBulk] at h
      exact .agg parts (fun z hz => Q19a k z (by have := Qyn hz; omega) (by omega))
    | iface t d => exact .iface t d
    | map entries => exact .map entries
    | held x => exact .held x
theorem caps {H : Type} {ds gs : List (DataW H)} (hk : Rows.uptoSmall H (ds ++ gs) = true) : ∀ d ∈ ds, CapD 1048576 d := fun d hd =>
  Q19a 1048576 d (Nat.le_trans (Qyn (List.mem_append_left _ hd)) (of_decide_eq_true hk)) (Nat.le_refl _)
end Go.Proofs.YtiflaadeikaghaaGreat.bulks
end

