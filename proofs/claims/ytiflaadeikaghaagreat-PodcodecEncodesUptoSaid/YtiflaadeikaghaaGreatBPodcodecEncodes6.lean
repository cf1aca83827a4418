/- Texts of the claim, merged by a program; what the statement does not reach is left out. -/
import Derived.Test.YtiflaadeikaghaaGreatBPodcodecEncodes5
import Derived.Lib.Strings
import Derived.Lib.Slices
import Derived.Lib.Walk
import Derived.Lib.Bytealg
import Derived.Test.YtiflaadeikaghaaGreatRows

section
/- Metadata that are copied (printed by a program). -/
namespace Go.Proofs.YtiflaadeikaghaaGreat
open Go.Pv
structure Owner where
  kind : ByteArray
  name : ByteArray
  uid : Int
  controller : Bool
  block : Bool
def Owner.cells (x : Owner) : List PV :=
  [.str x.kind, .str x.name, .int .i64 x.uid, .bool x.controller, .bool x.block]
def Owner.rows (l : List Owner) : List (List PV) := l.map Owner.cells
theorem Owner.Q5 (l : List Owner) : (Owner.rows l).length = l.length := by simp [Owner.rows]
theorem Owner.Qa {l : List Owner} {i : Nat} {x : Owner} (h : l[i]? = some x) : (Owner.rows l)[i]? = some (Owner.cells x) := Go.Pv.Qa h
theorem Owner.Q15 (l : List Owner) (x : Owner) : Owner.rows (l ++ [x]) = Owner.rows l ++ [Owner.cells x] := by simp [Owner.rows]
theorem Owner.Q2h (l : List Owner) (k : Nat) (x : Owner) : Owner.rows (l.set k x) = (Owner.rows l).set k (Owner.cells x) := by simp [Owner.rows, List.map_set]
theorem Owner.Qi (l : List Owner) : ∀ r ∈ Owner.rows l, r.length = 5 := Q2l (f := Owner.cells) (fun _ => rfl) l
theorem Owner.Q7 (l : List Owner) (sz : Nat) (h : sz = 5) : ViewOK sz (Owner.rows l).flatten (Owner.rows l) := by subst h; exact ⟨rfl, Owner.Qi l, Q21 (f := Owner.cells) (fun _ => rfl) l⟩
structure Manager where
  name : ByteArray
  fields : List ByteArray
def Manager.cells (x : Manager) : List PV :=
  [.str x.name, .sl (Qf x.fields)]
def Manager.rows (l : List Manager) : List (List PV) := l.map Manager.cells
theorem Manager.Q5 (l : List Manager) : (Manager.rows l).length = l.length := by simp [Manager.rows]
theorem Manager.Qa {l : List Manager} {i : Nat} {x : Manager} (h : l[i]? = some x) : (Manager.rows l)[i]? = some (Manager.cells x) := Go.Pv.Qa h
theorem Manager.Q15 (l : List Manager) (x : Manager) : Manager.rows (l ++ [x]) = Manager.rows l ++ [Manager.cells x] := by simp [Manager.rows]
theorem Manager.Q2h (l : List Manager) (k : Nat) (x : Manager) : Manager.rows (l.set k x) = (Manager.rows l).set k (Manager.cells x) := by simp [Manager.rows, List.map_set]
theorem Manager.Qi (l : List Manager) : ∀ r ∈ Manager.rows l, r.length = 2 := Q2l (f := Manager.cells) (fun _ => rfl) l
theorem Manager.Q7 (l : List Manager) (sz : Nat) (h : sz = 2) : ViewOK sz (Manager.rows l).flatten (Manager.rows l) := by subst h; exact ⟨rfl, Manager.Qi l, Q21 (f := Manager.cells) (fun _ => rfl) l⟩
structure Meta where
  kind : ByteArray
  namespace_ : ByteArray
  name : ByteArray
  uid : Int
  version : Int
  generation : Int
  created : Int
  deleting : Bool
  deleteAt : Int
  labels : List Label
  owners : List Owner
  finalizers : List ByteArray
  managers : List Manager
def Meta.cells (x : Meta) : List PV :=
  [.str x.kind, .str x.namespace_, .str x.name, .int .i64 x.uid, .int .i64 x.version, .int .i64 x.generation, .int .i64 x.created, .bool x.deleting, .int .i64 x.deleteAt, .sl (Label.rows x.labels), .sl (Owner.rows x.owners), .sl (Qf x.finalizers), .sl (Manager.rows x.managers)]
def Meta.rows (l : List Meta) : List (List PV) := l.map Meta.cells
theorem Meta.Q5 (l : List Meta) : (Meta.rows l).length = l.length := by simp [Meta.rows]
theorem Meta.Qa {l : List Meta} {i : Nat} {x : Meta} (h : l[i]? = some x) : (Meta.rows l)[i]? = some (Meta.cells x) := Go.Pv.Qa h
theorem Meta.Q15 (l : List Meta) (x : Meta) : Meta.rows (l ++ [x]) = Meta.rows l ++ [Meta.cells x] := by simp [Meta.rows]
theorem Meta.Q2h (l : List Meta) (k : Nat) (x : Meta) : Meta.rows (l.set k x) = (Meta.rows l).set k (Meta.cells x) := by simp [Meta.rows, List.map_set]
theorem Meta.Qi (l : List Meta) : ∀ r ∈ Meta.rows l, r.length = 13 := Q2l (f := Meta.cells) (fun _ => rfl) l
theorem Meta.Q7 (l : List Meta) (sz : Nat) (h : sz = 13) : ViewOK sz (Meta.rows l).flatten (Meta.rows l) := by subst h; exact ⟨rfl, Meta.Qi l, Q21 (f := Meta.cells) (fun _ => rfl) l⟩
structure Pod where
  meta_ : Meta
  spec : PodSpec
  status : PodStatus
def Pod.cells (x : Pod) : List PV :=
  [.str x.meta_.kind, .str x.meta_.namespace_, .str x.meta_.name, .int .i64 x.meta_.uid, .int .i64 x.meta_.version, .int .i64 x.meta_.generation, .int .i64 x.meta_.created, .bool x.meta_.deleting, .int .i64 x.meta_.deleteAt, .sl (Label.rows x.meta_.labels), .sl (Owner.rows x.meta_.owners), .sl (Qf x.meta_.finalizers), .sl (Manager.rows x.meta_.managers), .str x.spec.node, .int .i64 x.spec.priority, .int .i64 x.spec.restart, .int .i64 x.spec.grace, .sl (Container.rows x.spec.containers), .sl (Requirement.rows x.spec.nodeSelector), .sl (NodeTerm.rows x.spec.nodeTerms), .sl (PodTerm.rows x.spec.podTerms), .sl (SpreadRule.rows x.spec.spread), .sl (Toleration.rows x.spec.tolerations), .int .i64 x.status.phase, .bool x.status.ready, .int .i64 x.status.readySince, .int .i64 x.status.started, .int .i64 x.status.finished, .sl (ContainerStatus.rows x.status.containers), .int .i64 x.status.address, .str x.status.nominated, .str x.status.reason]
def Pod.rows (l : List Pod) : List (List PV) := l.map Pod.cells
theorem Pod.Q5 (l : List Pod) : (Pod.rows l).length = l.length := by simp [Pod.rows]
theorem Pod.Qa {l : List Pod} {i : Nat} {x : Pod} (h : l[i]? = some x) : (Pod.rows l)[i]? = some (Pod.cells x) := Go.Pv.Qa h
theorem Pod.Q15 (l : List Pod) (x : Pod) : Pod.rows (l ++ [x]) = Pod.rows l ++ [Pod.cells x] := by simp [Pod.rows]
theorem Pod.Q2h (l : List Pod) (k : Nat) (x : Pod) : Pod.rows (l.set k x) = (Pod.rows l).set k (Pod.cells x) := by simp [Pod.rows, List.map_set]
theorem Pod.Qi (l : List Pod) : ∀ r ∈ Pod.rows l, r.length = 32 := Q2l (f := Pod.cells) (fun _ => rfl) l
theorem Pod.Q7 (l : List Pod) (sz : Nat) (h : sz = 32) : ViewOK sz (Pod.rows l).flatten (Pod.rows l) := by subst h; exact ⟨rfl, Pod.Qi l, Q21 (f := Pod.cells) (fun _ => rfl) l⟩
structure Node where
  meta_ : Meta
  capacity : Resources
  maxPods : Int
  cordoned : Bool
  taints : List Taint
  ready : Bool
  beat : Int
  lowMem : Bool
  lowDisk : Bool
  images : List Image
def Node.cells (x : Node) : List PV :=
  [.str x.meta_.kind, .str x.meta_.namespace_, .str x.meta_.name, .int .i64 x.meta_.uid, .int .i64 x.meta_.version, .int .i64 x.meta_.generation, .int .i64 x.meta_.created, .bool x.meta_.deleting, .int .i64 x.meta_.deleteAt, .sl (Label.rows x.meta_.labels), .sl (Owner.rows x.meta_.owners), .sl (Qf x.meta_.finalizers), .sl (Manager.rows x.meta_.managers), .int .i64 x.capacity.cPU, .int .i64 x.capacity.memory, .int .i64 x.capacity.disk, .int .i64 x.maxPods, .bool x.cordoned, .sl (Taint.rows x.taints), .bool x.ready, .int .i64 x.beat, .bool x.lowMem, .bool x.lowDisk, .sl (Image.rows x.images)]
def Node.rows (l : List Node) : List (List PV) := l.map Node.cells
theorem Node.Q5 (l : List Node) : (Node.rows l).length = l.length := by simp [Node.rows]
theorem Node.Qa {l : List Node} {i : Nat} {x : Node} (h : l[i]? = some x) : (Node.rows l)[i]? = some (Node.cells x) := Go.Pv.Qa h
theorem Node.Q15 (l : List Node) (x : Node) : Node.rows (l ++ [x]) = Node.rows l ++ [Node.cells x] := by simp [Node.rows]
theorem Node.Q2h (l : List Node) (k : Nat) (x : Node) : Node.rows (l.set k x) = (Node.rows l).set k (Node.cells x) := by simp [Node.rows, List.map_set]
theorem Node.Qi (l : List Node) : ∀ r ∈ Node.rows l, r.length = 24 := Q2l (f := Node.cells) (fun _ => rfl) l
theorem Node.Q7 (l : List Node) (sz : Nat) (h : sz = 24) : ViewOK sz (Node.rows l).flatten (Node.rows l) := by subst h; exact ⟨rfl, Node.Qi l, Q21 (f := Node.cells) (fun _ => rfl) l⟩
structure Object where
  meta_ : Meta
  spec : Val
  status : Val
def Object.cells (x : Object) : List PV :=
  [.str x.meta_.kind, .str x.meta_.namespace_, .str x.meta_.name, .int .i64 x.meta_.uid, .int .i64 x.meta_.version, .int .i64 x.meta_.generation, .int .i64 x.meta_.created, .bool x.meta_.deleting, .int .i64 x.meta_.deleteAt, .sl (Label.rows x.meta_.labels), .sl (Owner.rows x.meta_.owners), .sl (Qf x.meta_.finalizers), .sl (Manager.rows x.meta_.managers), .int .i64 x.spec.kind, .int .i64 x.spec.n, .str x.spec.s, .sl (Val.rows x.spec.list), .sl (Fld.rows x.spec.fields), .int .i64 x.status.kind, .int .i64 x.status.n, .str x.status.s, .sl (Val.rows x.status.list), .sl (Fld.rows x.status.fields)]
def Object.rows (l : List Object) : List (List PV) := l.map Object.cells
theorem Object.Q5 (l : List Object) : (Object.rows l).length = l.length := by simp [Object.rows]
theorem Object.Qa {l : List Object} {i : Nat} {x : Object} (h : l[i]? = some x) : (Object.rows l)[i]? = some (Object.cells x) := Go.Pv.Qa h
theorem Object.Q15 (l : List Object) (x : Object) : Object.rows (l ++ [x]) = Object.rows l ++ [Object.cells x] := by simp [Object.rows]
theorem Object.Q2h (l : List Object) (k : Nat) (x : Object) : Object.rows (l.set k x) = (Object.rows l).set k (Object.cells x) := by simp [Object.rows, List.map_set]
theorem Object.Qi (l : List Object) : ∀ r ∈ Object.rows l, r.length = 23 := Q2l (f := Object.cells) (fun _ => rfl) l
theorem Object.Q7 (l : List Object) (sz : Nat) (h : sz = 23) : ViewOK sz (Object.rows l).flatten (Object.rows l) := by subst h; exact ⟨rfl, Object.Qi l, Q21 (f := Object.cells) (fun _ => rfl) l⟩
def Q17m (p0 : Meta) : List Manager → Nat → Unit
 | [], _i0 =>
  ()
 | _x0 :: r0, i0 =>
  Q17m p0 r0 (i0 + 1)
def Qy3 (p0 : Meta) (i0 : Nat) : List PV :=
  [.un, .bx 0 0, .bx 1 0] ++ nuns 19 ++ [.int .i64 ((List.length p0.managers) : Int), .int .i64 (i0 : Int)] ++ nuns 16
def Qpq (p0 : Meta) (_i0 : Nat) : List Ob :=
  [⟨13, 0, true, [.str p0.kind, .str p0.namespace_, .str p0.name, .int .i64 p0.uid, .int .i64 p0.version, .int .i64 p0.generation, .int .i64 p0.created, .bool p0.deleting, .int .i64 p0.deleteAt, .sl (Label.rows p0.labels), .sl (Owner.rows p0.owners), .sl (Qf p0.finalizers), .ms 2 2 0 (List.length p0.managers)]⟩, ⟨13, 0, true, [.str (⟨#[]⟩ : ByteArray), .str (⟨#[]⟩ : ByteArray), .str (⟨#[]⟩ : ByteArray), .int .i64 0, .int .i64 0, .int .i64 0, .int .i64 0, .bool false, .int .i64 0, .ms 3 2 0 0, .ms 4 5 0 0, .ms 5 1 0 0, .ms 6 2 0 0]⟩, ⟨2, 0, true, (Manager.rows p0.managers).flatten⟩, ⟨2, 0, true, []⟩, ⟨5, 0, true, []⟩, ⟨1, 0, true, []⟩, ⟨2, 0, true, []⟩]
def Qrj (p0 : Meta) (i0 : Nat) : En := .loop 0 Ir.Qmb Ir.Q1fb (Qy3 p0 i0) (Qpq p0 i0)
def Qvk (p0 : Meta) (z : Nat → PV) (_zo : Nat → List PV) : St :=
  ⟨[z 0, .bx 0 0, .bx 1 0] ++ zr z 3 37, [(0, ⟨13, 0, true, [.str p0.kind, .str p0.namespace_, .str p0.name, .int .i64 p0.uid, .int .i64 p0.version, .int .i64 p0.generation, .int .i64 p0.created, .bool p0.deleting, .int .i64 p0.deleteAt, .sl (Label.rows p0.labels), .sl (Owner.rows p0.owners), .sl (Qf p0.finalizers), .ms 2 2 0 (List.length p0.managers)]⟩), (1, ⟨13, 0, true, [.str (⟨#[]⟩ : ByteArray), .str (⟨#[]⟩ : ByteArray), .str (⟨#[]⟩ : ByteArray), .int .i64 0, .int .i64 0, .int .i64 0, .int .i64 0, .bool false, .int .i64 0, .ms 3 2 0 0, .ms 4 5 0 0, .ms 5 1 0 0, .ms 6 2 0 0]⟩), (2, ⟨2, 0, true, (Manager.rows p0.managers).flatten⟩), (3, ⟨2, 0, true, []⟩), (4, ⟨5, 0, true, []⟩), (5, ⟨1, 0, true, []⟩), (6, ⟨2, 0, true, []⟩)], 71⟩
theorem Q15r (p0 : Meta) (i0 : Nat) : VOK (Go.Pv.look (number 0 (Qpq p0 i0))) [(2, Manager.rows p0.managers)] := (VOK.cons (show Seen _ _ from Q3j (ob := ⟨2, 0, true, (Manager.rows p0.managers).flatten⟩) (Manager.Q7 p0.managers 2 rfl)) VOK.nil)
def Qc7 (p0 : Meta) (e : En) (_q : Unit) : Prop := ∃ z zo, Q6 G e (.st (.exit 0) (Qvk p0 z zo))
theorem Qvb (p0 : Meta) {e e' : En} (h : ∀ r, Q6 G e r → Q6 G e' r) : ∀ q, Qc7 p0 e q → Qc7 p0 e' q
  | _, ⟨z, zo, hz⟩ => ⟨z, zo, h _ hz⟩
def Qq3 (p0 : Meta) : Prop := (List.length p0.managers ≤ 4611686018427387904) ∧ (∀ x0 ∈ p0.managers, List.length x0.fields * 16 ≤ 140737488355328) ∧ True
def Qsp (p0 : Meta) (i0 : Nat) : List PV :=
  nuns 22 ++ [.int .i64 ((List.length p0.managers) : Int), .int .i64 (i0 : Int), .bool false]
def Qok (_p0 : Meta) (_i0 : Nat) : List (Nat × List PV) :=
  []
theorem Q17k (p0 : Meta) (_H : Qq3 p0) (i0 : Nat) (hc0 : (decide ((i0 : Int) < ((List.length p0.managers) : Int))) = false) : Qc7 p0 (Qrj p0 i0) () := by
 exact ⟨(envF (Qsp p0 i0)), (zoF (Qok p0 i0)), Qg (Q15r p0 i0) (x := ((.exit 0), Qvk p0 (envF (Qsp p0 i0)) (zoF (Qok p0 i0)))) [hB 0 hc0] [] (by kernel_rfl)⟩
theorem Q179 (p0 : Meta) (H : Qq3 p0) (x0 : Manager) (i0 : Nat) (hx0 : p0.managers[i0]? = some x0) (hi0 : i0 < List.length p0.managers) (hc0 : (decide ((i0 : Int) < ((List.length p0.managers) : Int))) = true) {r : Rs} (hr : Q6 G (Qrj p0 (i0 + 1)) r) : Q6 G (Qrj p0 i0) r := by
 have hB0 := H.1
 exact Qk (Q15r p0 i0) (y := (Qy3 p0 (i0 + 1), Qpq p0 (i0 + 1))) [hB 0 hc0, hP 8 (Q4y 2 2 (List.length p0.managers) (i0 : Int) i0 (by omega) (by omega) (by omega)), hP 1 (Qas 2 2 0 true ((Manager.rows p0.managers).flatten) (Manager.rows p0.managers) 1 false i0 1 (i0 * 2 + 1) (Manager.cells x0) (.sl (Qf x0.fields)) rfl rfl (Manager.Qa hx0) (Manager.Qi p0.managers) (by decide) rfl), hP 1 (Q4y 2 2 (List.length p0.managers) (i0 : Int) i0 (by omega) (by omega) (by omega)), hV 1 [(2, Manager.rows p0.managers)] (Q15i 2 2 true ((Manager.rows p0.managers).flatten) (Manager.rows p0.managers) (Manager.rows p0.managers) 1 i0 1 (i0 * 2 + 1) _ (.sl (Qf x0.fields)) rfl rfl (Manager.Qa hx0) (Manager.Qi p0.managers) (by decide) rfl rfl (Qwa (Manager.Qa hx0))), hS 0 true (Manager.Q7 p0.managers 2 rfl), hP 0 (Q1y i0 (by omega))] [aN (Q6m (G := G) (f := 82) (sz := 1) (bytes := 16) rfl (Q18 x0.fields) (Ql9 x0.fields 1 rfl) (H.2.1 x0 (Q29 hx0)))] (by kernel_rfl) hr
theorem Qym (p0 : Meta) (H : Qq3 p0) : ∀ (r0 : List Manager) (i0 : Nat), List.drop i0 p0.managers = r0 → Qc7 p0 (Qrj p0 i0) (Q17m p0 r0 i0)
 | [], i0, hd => by
  have hc0 : (decide ((i0 : Int) < ((List.length p0.managers) : Int))) = false := by have := Q1b hd; simp; omega
  show Qc7 p0 _ ()
  exact Q17k p0 H i0 hc0
 | x0 :: r0, i0, hd => by
  obtain ⟨hx0, hi0, hd'⟩ := Q14 hd
  have hc0 : (decide ((i0 : Int) < ((List.length p0.managers) : Int))) = true := by simp; omega
  show Qc7 p0 _ ()
  exact Qvb p0 (fun r hr => Q179 p0 H x0 i0 hx0 hi0 hc0 hr) _ (Qym p0 H r0 (i0 + 1) hd')
def s_Kf (p0 : Meta) : Meta := p0
theorem e_Kf (p0 : Meta) : s_Kf p0 = (p0) := by
  rfl
def c_Kf (p0 : Meta) : En := .call 31 [.agg (Meta.cells p0)] []
def a_Kf (p0 : Meta) : Rs := .ret (.agg (Meta.cells (s_Kf p0))) []
def H_Kf (p0 : Meta) : Prop := (List.length p0.labels * 32 ≤ 140737488355328) ∧ (List.length p0.owners * 48 ≤ 140737488355328) ∧ (List.length p0.finalizers * 16 ≤ 140737488355328) ∧ (List.length p0.managers * 40 ≤ 140737488355328) ∧ (Qq3 p0) ∧ True
theorem t_Kf (p0 : Meta) (H : H_Kf p0) : Q6 G (c_Kf p0) (a_Kf p0) := by
 unfold a_Kf
 rw [e_Kf]
 have hl0 := Qym p0 (H.2.2.2.2.1) p0.managers 0 (by simp)
 obtain ⟨z0, zo0, hl0⟩ := hl0
 exact Qb (fn := Ir.Kf) rfl VOK.nil [hQ (Manager.Q7 p0.managers 2 rfl), hS 0 true (Manager.Q7 p0.managers 2 rfl), hQ (Manager.Q5 p0.managers).symm] [aN (Q6m (G := G) (f := 80) (sz := 2) (bytes := 32) rfl (Label.Q5 p0.labels) (Label.Q7 p0.labels 2 rfl) H.1), aN (Q6m (G := G) (f := 81) (sz := 5) (bytes := 48) rfl (Owner.Q5 p0.owners) (Owner.Q7 p0.owners 5 rfl) H.2.1), aN (Q6m (G := G) (f := 82) (sz := 1) (bytes := 16) rfl (Q18 p0.finalizers) (Ql9 p0.finalizers 1 rfl) H.2.2.1), aV [(0, Manager.rows p0.managers)] (Q7k (G := G) (f := 83) (sz := 2) (bytes := 40) rfl (Manager.Q5 p0.managers) (Manager.Q7 p0.managers 2 rfl) H.2.2.2.1), aV [(2, Manager.rows p0.managers)] hl0] (by kernel_rfl)
end Go.Proofs.YtiflaadeikaghaaGreat
end

section
/- Pods, nodes and templates to and from objects (printed by a program). -/
namespace Go.Proofs.YtiflaadeikaghaaGreat
open Go.Pv
def Pod.obj (x : Pod) : Object := ⟨{ x.meta_ with kind := Q17e }, PodSpec.enc x.spec, PodStatus.enc x.status⟩
def Node.encS (x : Node) : Val := vM [.mk Q36 (Resources.enc x.capacity), .mk Q35 (vB x.cordoned), .mk Q3f (vN x.maxPods), .mk Q48 (vL (x.taints.map Taint.enc))]
def Node.encT (x : Node) : Val := vM [.mk Q76 (vN x.beat), .mk Q47 (vL (x.images.map Image.enc)), .mk Q3h (vB x.lowDisk), .mk Q45 (vB x.lowMem), .mk Qp (vB x.ready)]
def Node.obj (x : Node) : Object := ⟨{ x.meta_ with kind := Qpx }, Node.encS x, Node.encT x⟩
def Pod.sm (x : Pod) : Prop := PodSpec.sm x.spec ∧ PodStatus.sm x.status
def Node.sm (x : Node) : Prop := LSm Taint.sm x.taints ∧ LSm Image.sm x.images
def Object.sm (x : Object) : Prop := Val.Sm sB x.spec ∧ Val.Sm sB x.status
theorem Node.Q17b {x : Node} (h : Node.sm x) : Val.Sm sB (Node.encS x) := Q8w (Nat.le_of_ble_eq_true rfl) (List.forall_mem_cons.2 ⟨Resources.Q1i trivial, List.forall_mem_cons.2 ⟨Val.Sm.leaf 1 _ _, List.forall_mem_cons.2 ⟨Val.Sm.leaf 2 _ _, List.forall_mem_cons.2 ⟨Q2a (fun _ h => Taint.Q1i h) h.1, fun _ h => by cases h⟩⟩⟩⟩)
theorem Node.Q16p {x : Node} (h : Node.sm x) : Val.Sm sB (Node.encT x) := Q8w (Nat.le_of_ble_eq_true rfl) (List.forall_mem_cons.2 ⟨Val.Sm.leaf 2 _ _, List.forall_mem_cons.2 ⟨Q2a (fun _ h => Image.Q1i h) h.2, List.forall_mem_cons.2 ⟨Val.Sm.leaf 1 _ _, List.forall_mem_cons.2 ⟨Val.Sm.leaf 1 _ _, List.forall_mem_cons.2 ⟨Val.Sm.leaf 1 _ _, fun _ h => by cases h⟩⟩⟩⟩⟩)
theorem Pod.Qzj {x : Pod} (h : Pod.sm x) : Object.sm (Pod.obj x) := ⟨PodSpec.Q1i h.1, PodStatus.Q1i h.2⟩
theorem Node.Qzj {x : Node} (h : Node.sm x) : Object.sm (Node.obj x) := ⟨Node.Q17b h, Node.Q16p h⟩
def s_Ka (p0 : Pod) : Object := Pod.obj p0
theorem e_Ka (p0 : Pod) : s_Ka p0 = ((Object.mk (Meta.mk Q17e p0.meta_.namespace_ p0.meta_.name p0.meta_.uid p0.meta_.version p0.meta_.generation p0.meta_.created p0.meta_.deleting p0.meta_.deleteAt p0.meta_.labels p0.meta_.owners p0.meta_.finalizers p0.meta_.managers) (Qtc p0.spec) (Q1ci p0.status))) := by
  rfl
def c_Ka (p0 : Pod) : En := .call 21 [.agg (Pod.cells p0)] []
def a_Ka (p0 : Pod) : Rs := .ret (.agg (Object.cells (s_Ka p0))) []
def H_Ka (p0 : Pod) : Prop := H_Kf p0.meta_ ∧ Pod.sm p0
theorem Qxf (p0 : Pod) (H : H_Ka p0) : (H_Kf p0.meta_) ∧ (Q194 p0.spec) ∧ (Q1bo p0.status) ∧ True := by
  repeat' with_reducible apply And.intro
  all_goals first | exact True.intro | exact H.1 | exact H.2.1 | exact H.2.2
theorem t_Ka (p0 : Pod) (H : H_Ka p0) : Q6 G (c_Ka p0) (a_Ka p0) := by
 unfold a_Ka
 rw [e_Ka]
 exact Qb (fn := Ir.Ka) rfl VOK.nil [] [aN (t_Kf p0.meta_ (Qxf p0 H).1), aN (Q1ea p0.spec (Qxf p0 H).2.1), aN (Q1gt p0.status (Qxf p0 H).2.2.1)] (by kernel_rfl)
def Q3x (p0 : List Taint) : List Taint → Nat → (List Val) → List Val
 | [], _i0, v0_1 =>
  v0_1
 | x0 :: r0, i0, v0_1 =>
  Q3x p0 r0 (i0 + 1) (v0_1 ++ [(Qa9 x0)])
theorem Qrf (p0 : List Taint) : ∀ (l : List Taint) (i : Nat) (a : List Val), Q3x p0 l i a = a ++ l.map (fun x0 => (Qa9 x0))
  | [], _, _ => by simp [Q3x]
  | x :: r, i, a => by rw [Q3x, Qrf p0 r]; simp
def Qt3 (p0 : List Taint) (i0 : Nat) (v0_1 : List Val) : List PV :=
  [.un, .fn 67 [] [], .un, .un, .bx 0 0, .ms 1 5 0 (List.length v0_1), .un, .un, .sl (Taint.rows p0), .int .i64 ((List.length p0) : Int), .int .i64 (i0 : Int)] ++ nuns 12
def Qgv (_p0 : List Taint) (_i0 : Nat) (v0_1 : List Val) : List Ob :=
  [⟨5, 0, true, [.int .i64 0, .int .i64 0, .str (⟨#[]⟩ : ByteArray), .ms 2 5 0 0, .ms 3 6 0 0]⟩, ⟨5, 0, true, (Val.rows v0_1).flatten⟩, ⟨5, 0, true, []⟩, ⟨6, 0, true, []⟩]
def Qe6 (p0 : List Taint) (i0 : Nat) (v0_1 : List Val) : En := .loop 0 Ir.Qkx Ir.Q19z (Qt3 p0 i0 v0_1) (Qgv p0 i0 v0_1)
def Qmg (_p0 : List Taint) (q0 : List Val) (z : Nat → PV) (_zo : Nat → List PV) : St :=
  ⟨[z 0, z 1, z 2, z 3, .bx 0 0, .ms 1 5 0 (List.length q0)] ++ zr z 6 17, [(0, ⟨5, 0, true, [.int .i64 0, .int .i64 0, .str (⟨#[]⟩ : ByteArray), .ms 2 5 0 0, .ms 3 6 0 0]⟩), (1, ⟨5, 0, true, (Val.rows q0).flatten⟩), (2, ⟨5, 0, true, []⟩), (3, ⟨6, 0, true, []⟩)], 68⟩
theorem Qzm (p0 : List Taint) (i0 : Nat) (v0_1 : List Val) : VOK (Go.Pv.look (number 0 (Qgv p0 i0 v0_1))) [(1, Val.rows v0_1)] := (VOK.cons (show Seen _ _ from Q3j (ob := ⟨5, 0, true, (Val.rows v0_1).flatten⟩) (Val.Q7 v0_1 5 rfl)) VOK.nil)
def Qee (p0 : List Taint) (e : En) (q : List Val) : Prop := ∃ z zo, Q6 G e (.st (.exit 0) (Qmg p0 q z zo))
theorem Qq1 (p0 : List Taint) {e e' : En} (h : ∀ r, Q6 G e r → Q6 G e' r) : ∀ q, Qee p0 e q → Qee p0 e' q
  | _, ⟨z, zo, hz⟩ => ⟨z, zo, h _ hz⟩
def Qeb (p0 : List Taint) : Prop := (List.length p0 ≤ 137438953472) ∧ (∀ x0 ∈ p0, Q1br x0) ∧ True
def Qm6 (p0 : List Taint) (i0 : Nat) (_v0_1 : List Val) : List PV :=
  [.un, .fn 67 [] []] ++ nuns 6 ++ [.sl (Taint.rows p0), .int .i64 ((List.length p0) : Int), .int .i64 (i0 : Int), .bool false]
def Qiu (_p0 : List Taint) (_i0 : Nat) (_v0_1 : List Val) : List (Nat × List PV) :=
  []
theorem Q110 (p0 : List Taint) (_H : Qeb p0) (i0 : Nat) (v0_1 : List Val) (_ho0_0 : List.length v0_1 ≤ i0) (hc0 : (decide ((i0 : Int) < ((List.length p0) : Int))) = false) : Qee p0 (Qe6 p0 i0 v0_1) v0_1 := by
 exact ⟨(envF (Qm6 p0 i0 v0_1)), (zoF (Qiu p0 i0 v0_1)), Qg (Qzm p0 i0 v0_1) (x := ((.exit 0), Qmg p0 v0_1 (envF (Qm6 p0 i0 v0_1)) (zoF (Qiu p0 i0 v0_1)))) [hB 0 hc0] [] (by kernel_rfl)⟩
theorem Q12t (p0 : List Taint) (H : Qeb p0) (x0 : Taint) (i0 : Nat) (v0_1 : List Val) (hx0 : p0[i0]? = some x0) (hi0 : i0 < List.length p0) (ho0_0 : List.length v0_1 ≤ i0) (hc0 : (decide ((i0 : Int) < ((List.length p0) : Int))) = true) {r : Rs} (hr : Q6 G (Qe6 p0 (i0 + 1) (v0_1 ++ [(Qa9 x0)])) r) : Q6 G (Qe6 p0 i0 v0_1) r := by
 have hB0 := H.1
 exact Qk (Qzm p0 i0 v0_1) (y := (Qt3 p0 (i0 + 1) (v0_1 ++ [(Qa9 x0)]), Qgv p0 (i0 + 1) (v0_1 ++ [(Qa9 x0)]))) [hB 0 hc0, hP 0 (Q1f 4 (Taint.rows p0) i0 _ (Taint.Qa hx0) rfl), hV 8 [(644, Val.rows (v0_1 ++ [(Qa9 x0)]))] (Q5h 1 580 644 5 80 0 0 true (Val.rows v0_1) (Val.rows (v0_1 ++ [(Qa9 x0)])) (Val.cells (Qa9 x0)) (List.length v0_1) (List.length (v0_1 ++ [(Qa9 x0)])) rfl (Val.Q5 v0_1).symm (Val.Q5 (v0_1 ++ [(Qa9 x0)])).symm (Val.Q15 v0_1 (Qa9 x0)) (Val.Qi v0_1) rfl (by omega)), hS 0 true (Val.Q7 (v0_1 ++ [(Qa9 x0)]) 5 rfl), hP 1 (Q1y i0 (by omega))] [aN (Q1ld x0 (H.2.1 x0 (Q29 hx0)))] (by kernel_rfl) hr
theorem Qw7 (p0 : List Taint) (H : Qeb p0) : ∀ (r0 : List Taint) (i0 : Nat) (v0_1 : List Val), List.drop i0 p0 = r0 → List.length v0_1 ≤ i0 → Qee p0 (Qe6 p0 i0 v0_1) (Q3x p0 r0 i0 v0_1)
 | [], i0, v0_1, hd, ho0_0 => by
  have hc0 : (decide ((i0 : Int) < ((List.length p0) : Int))) = false := by have := Q1b hd; simp; omega
  rw [Q3x]
  exact Q110 p0 H i0 v0_1 ho0_0 hc0
 | x0 :: r0, i0, v0_1, hd, ho0_0 => by
  obtain ⟨hx0, hi0, hd'⟩ := Q14 hd
  have hc0 : (decide ((i0 : Int) < ((List.length p0) : Int))) = true := by simp; omega
  rw [Q3x]
  exact Qq1 p0 (fun r hr => Q12t p0 H x0 i0 v0_1 hx0 hi0 ho0_0 hc0 hr) _ (Qw7 p0 H r0 (i0 + 1) (v0_1 ++ [(Qa9 x0)]) hd' (by first | omega | (simp; omega)))
def Q67 (p0 : List Taint) : Val := vL (p0.map Taint.enc)
theorem Q173 (p0 : List Taint) : Q67 p0 = ((Qbf (Q3x p0 p0 0 []))) := by
  rw [Qrf]
  rfl
def Q15q (p0 : List Taint) : En := .call 66 [.sl (Taint.rows p0), .fn 67 [] []] []
def Qs9 (p0 : List Taint) : Rs := .ret (.agg (Val.cells (Q67 p0))) []
def Qi7 (p0 : List Taint) : Prop := LSm Taint.sm p0
theorem Qd9 (p0 : List Taint) (H : Qi7 p0) : (Qeb p0) ∧ (Qc5 (Q3x p0 p0 0 [])) ∧ True := by
  refine ⟨⟨Nat.le_trans H.1 (Nat.le_of_ble_eq_true rfl), H.2, trivial⟩, ⟨?_, trivial⟩, trivial⟩
  rw [Qrf]
  exact Q2a (fun _ h => Taint.Q1i h) H
theorem Q16u (p0 : List Taint) (H : Qi7 p0) : Q6 G (Q15q p0) (Qs9 p0) := by
 unfold Qs9
 rw [Q173]
 have hl0 := Qw7 p0 ((Qd9 p0 H).1) p0 0 [] (by simp) (by simp)
 obtain ⟨z0, zo0, hl0⟩ := hl0
 exact Qb (fn := Ir.K1s) rfl VOK.nil [hP 3 (Qe (Taint.rows p0) (List.length p0) (Taint.Q5 p0)), hS 0 true (Val.Q7 (Q3x p0 p0 0 []) 5 rfl), hQ (Val.Q5 (Q3x p0 p0 0 [])).symm] [aV [(1, Val.rows (Q3x p0 p0 0 []))] hl0, aN (Qdv (Q3x p0 p0 0 []) (Qd9 p0 H).2.1)] (by kernel_rfl)
def Q3n (p0 : List Image) : List Image → Nat → (List Val) → List Val
 | [], _i0, v0_1 =>
  v0_1
 | x0 :: r0, i0, v0_1 =>
  Q3n p0 r0 (i0 + 1) (v0_1 ++ [(Q9w x0)])
theorem Qr8 (p0 : List Image) : ∀ (l : List Image) (i : Nat) (a : List Val), Q3n p0 l i a = a ++ l.map (fun x0 => (Q9w x0))
  | [], _, _ => by simp [Q3n]
  | x :: r, i, a => by rw [Q3n, Qr8 p0 r]; simp
def Qtb (p0 : List Image) (i0 : Nat) (v0_1 : List Val) : List PV :=
  [.un, .fn 69 [] [], .un, .un, .bx 0 0, .ms 1 5 0 (List.length v0_1), .un, .un, .sl (Image.rows p0), .int .i64 ((List.length p0) : Int), .int .i64 (i0 : Int)] ++ nuns 12
def Qj5 (_p0 : List Image) (_i0 : Nat) (v0_1 : List Val) : List Ob :=
  [⟨5, 0, true, [.int .i64 0, .int .i64 0, .str (⟨#[]⟩ : ByteArray), .ms 2 5 0 0, .ms 3 6 0 0]⟩, ⟨5, 0, true, (Val.rows v0_1).flatten⟩, ⟨5, 0, true, []⟩, ⟨6, 0, true, []⟩]
def Qfm (p0 : List Image) (i0 : Nat) (v0_1 : List Val) : En := .loop 0 Ir.Ql7 Ir.Q19m (Qtb p0 i0 v0_1) (Qj5 p0 i0 v0_1)
def Qlz (_p0 : List Image) (q0 : List Val) (z : Nat → PV) (_zo : Nat → List PV) : St :=
  ⟨[z 0, z 1, z 2, z 3, .bx 0 0, .ms 1 5 0 (List.length q0)] ++ zr z 6 17, [(0, ⟨5, 0, true, [.int .i64 0, .int .i64 0, .str (⟨#[]⟩ : ByteArray), .ms 2 5 0 0, .ms 3 6 0 0]⟩), (1, ⟨5, 0, true, (Val.rows q0).flatten⟩), (2, ⟨5, 0, true, []⟩), (3, ⟨6, 0, true, []⟩)], 68⟩
theorem Qz6 (p0 : List Image) (i0 : Nat) (v0_1 : List Val) : VOK (Go.Pv.look (number 0 (Qj5 p0 i0 v0_1))) [(1, Val.rows v0_1)] := (VOK.cons (show Seen _ _ from Q3j (ob := ⟨5, 0, true, (Val.rows v0_1).flatten⟩) (Val.Q7 v0_1 5 rfl)) VOK.nil)
def Qe1 (p0 : List Image) (e : En) (q : List Val) : Prop := ∃ z zo, Q6 G e (.st (.exit 0) (Qlz p0 q z zo))
theorem Qqh (p0 : List Image) {e e' : En} (h : ∀ r, Q6 G e r → Q6 G e' r) : ∀ q, Qe1 p0 e q → Qe1 p0 e' q
  | _, ⟨z, zo, hz⟩ => ⟨z, zo, h _ hz⟩
def Qf8 (p0 : List Image) : Prop := (List.length p0 ≤ 137438953472) ∧ (∀ x0 ∈ p0, Q1bu x0) ∧ True
def Qn3 (p0 : List Image) (i0 : Nat) (_v0_1 : List Val) : List PV :=
  [.un, .fn 69 [] []] ++ nuns 6 ++ [.sl (Image.rows p0), .int .i64 ((List.length p0) : Int), .int .i64 (i0 : Int), .bool false]
def Qhp (_p0 : List Image) (_i0 : Nat) (_v0_1 : List Val) : List (Nat × List PV) :=
  []
theorem Q10k (p0 : List Image) (_H : Qf8 p0) (i0 : Nat) (v0_1 : List Val) (_ho0_0 : List.length v0_1 ≤ i0) (hc0 : (decide ((i0 : Int) < ((List.length p0) : Int))) = false) : Qe1 p0 (Qfm p0 i0 v0_1) v0_1 := by
 exact ⟨(envF (Qn3 p0 i0 v0_1)), (zoF (Qhp p0 i0 v0_1)), Qg (Qz6 p0 i0 v0_1) (x := ((.exit 0), Qlz p0 v0_1 (envF (Qn3 p0 i0 v0_1)) (zoF (Qhp p0 i0 v0_1)))) [hB 0 hc0] [] (by kernel_rfl)⟩
theorem Q13v (p0 : List Image) (H : Qf8 p0) (x0 : Image) (i0 : Nat) (v0_1 : List Val) (hx0 : p0[i0]? = some x0) (hi0 : i0 < List.length p0) (ho0_0 : List.length v0_1 ≤ i0) (hc0 : (decide ((i0 : Int) < ((List.length p0) : Int))) = true) {r : Rs} (hr : Q6 G (Qfm p0 (i0 + 1) (v0_1 ++ [(Q9w x0)])) r) : Q6 G (Qfm p0 i0 v0_1) r := by
 have hB0 := H.1
 exact Qk (Qz6 p0 i0 v0_1) (y := (Qtb p0 (i0 + 1) (v0_1 ++ [(Q9w x0)]), Qj5 p0 (i0 + 1) (v0_1 ++ [(Q9w x0)]))) [hB 0 hc0, hP 0 (Q1f 3 (Image.rows p0) i0 _ (Image.Qa hx0) rfl), hV 8 [(644, Val.rows (v0_1 ++ [(Q9w x0)]))] (Q5h 1 580 644 5 80 0 0 true (Val.rows v0_1) (Val.rows (v0_1 ++ [(Q9w x0)])) (Val.cells (Q9w x0)) (List.length v0_1) (List.length (v0_1 ++ [(Q9w x0)])) rfl (Val.Q5 v0_1).symm (Val.Q5 (v0_1 ++ [(Q9w x0)])).symm (Val.Q15 v0_1 (Q9w x0)) (Val.Qi v0_1) rfl (by omega)), hS 0 true (Val.Q7 (v0_1 ++ [(Q9w x0)]) 5 rfl), hP 1 (Q1y i0 (by omega))] [aN (Q1k8 x0 (H.2.1 x0 (Q29 hx0)))] (by kernel_rfl) hr
theorem Qtk (p0 : List Image) (H : Qf8 p0) : ∀ (r0 : List Image) (i0 : Nat) (v0_1 : List Val), List.drop i0 p0 = r0 → List.length v0_1 ≤ i0 → Qe1 p0 (Qfm p0 i0 v0_1) (Q3n p0 r0 i0 v0_1)
 | [], i0, v0_1, hd, ho0_0 => by
  have hc0 : (decide ((i0 : Int) < ((List.length p0) : Int))) = false := by have := Q1b hd; simp; omega
  rw [Q3n]
  exact Q10k p0 H i0 v0_1 ho0_0 hc0
 | x0 :: r0, i0, v0_1, hd, ho0_0 => by
  obtain ⟨hx0, hi0, hd'⟩ := Q14 hd
  have hc0 : (decide ((i0 : Int) < ((List.length p0) : Int))) = true := by simp; omega
  rw [Q3n]
  exact Qqh p0 (fun r hr => Q13v p0 H x0 i0 v0_1 hx0 hi0 ho0_0 hc0 hr) _ (Qtk p0 H r0 (i0 + 1) (v0_1 ++ [(Q9w x0)]) hd' (by first | omega | (simp; omega)))
def Q6a (p0 : List Image) : Val := vL (p0.map Image.enc)
theorem Q16m (p0 : List Image) : Q6a p0 = ((Qbf (Q3n p0 p0 0 []))) := by
  rw [Qr8]
  rfl
def Q16k (p0 : List Image) : En := .call 68 [.sl (Image.rows p0), .fn 69 [] []] []
def Qrx (p0 : List Image) : Rs := .ret (.agg (Val.cells (Q6a p0))) []
def Qlb (p0 : List Image) : Prop := LSm Image.sm p0
theorem Qdj (p0 : List Image) (H : Qlb p0) : (Qf8 p0) ∧ (Qc5 (Q3n p0 p0 0 [])) ∧ True := by
  refine ⟨⟨Nat.le_trans H.1 (Nat.le_of_ble_eq_true rfl), H.2, trivial⟩, ⟨?_, trivial⟩, trivial⟩
  rw [Qr8]
  exact Q2a (fun _ h => Image.Q1i h) H
theorem Q17h (p0 : List Image) (H : Qlb p0) : Q6 G (Q16k p0) (Qrx p0) := by
 unfold Qrx
 rw [Q16m]
 have hl0 := Qtk p0 ((Qdj p0 H).1) p0 0 [] (by simp) (by simp)
 obtain ⟨z0, zo0, hl0⟩ := hl0
 exact Qb (fn := Ir.K22) rfl VOK.nil [hP 3 (Qe (Image.rows p0) (List.length p0) (Image.Q5 p0)), hS 0 true (Val.Q7 (Q3n p0 p0 0 []) 5 rfl), hQ (Val.Q5 (Q3n p0 p0 0 [])).symm] [aV [(1, Val.rows (Q3n p0 p0 0 []))] hl0, aN (Qdv (Q3n p0 p0 0 []) (Qdj p0 H).2.1)] (by kernel_rfl)
def s_K9 (p0 : Node) : Object := Node.obj p0
theorem e_K9 (p0 : Node) : s_K9 p0 = ((Object.mk (Meta.mk Qpx p0.meta_.namespace_ p0.meta_.name p0.meta_.uid p0.meta_.version p0.meta_.generation p0.meta_.created p0.meta_.deleting p0.meta_.deleteAt p0.meta_.labels p0.meta_.owners p0.meta_.finalizers p0.meta_.managers) (Q5f ([(Q9 Q36 (Q8f p0.capacity)), (Q9 Q35 (Q23 p0.cordoned)), (Q9 Q3f (Qs p0.maxPods)), (Q9 Q48 (Q67 p0.taints))])) (Q5f ([(Q9 Q76 (Qs p0.beat)), (Q9 Q47 (Q6a p0.images)), (Q9 Q3h (Q23 p0.lowDisk)), (Q9 Q45 (Q23 p0.lowMem)), (Q9 Qp (Q23 p0.ready))])))) := by
  have a : Q5f (Node.encS p0).fields = Node.encS p0 := Q2z (p := (Node.encS p0).fields) (by exact Nat.le_of_ble_eq_true rfl) (by kernel_rfl)
  have b : Q5f (Node.encT p0).fields = Node.encT p0 := Q2z (p := (Node.encT p0).fields) (by exact Nat.le_of_ble_eq_true rfl) (by kernel_rfl)
  show Node.obj p0 = Object.mk { p0.meta_ with kind := Qpx } (Q5f (Node.encS p0).fields) (Q5f (Node.encT p0).fields)
  rw [a, b]
  rfl
def c_K9 (p0 : Node) : En := .call 26 [.agg (Node.cells p0)] []
def a_K9 (p0 : Node) : Rs := .ret (.agg (Object.cells (s_K9 p0))) []
def H_K9 (p0 : Node) : Prop := H_Kf p0.meta_ ∧ Node.sm p0
theorem Qd0 (p0 : Node) (H : H_K9 p0) : (H_Kf p0.meta_) ∧ (Q16q p0.capacity) ∧ (Qi7 p0.taints) ∧ (Q7v ([(Q9 Q36 (Q8f p0.capacity)), (Q9 Q35 (Q23 p0.cordoned)), (Q9 Q3f (Qs p0.maxPods)), (Q9 Q48 (Q67 p0.taints))])) ∧ (Qlb p0.images) ∧ (Q7v ([(Q9 Q76 (Qs p0.beat)), (Q9 Q47 (Q6a p0.images)), (Q9 Q3h (Q23 p0.lowDisk)), (Q9 Q45 (Q23 p0.lowMem)), (Q9 Qp (Q23 p0.ready))])) ∧ True := by
  repeat' with_reducible apply And.intro
  all_goals first | exact True.intro | exact H.1 | exact H.2.1 | exact H.2.2 | exact H | exact (show Resources.sm p0.capacity from trivial) | exact Q8h (by exact Nat.le_of_ble_eq_true rfl) (Node.Q17b H.2).all.2.2.2 | exact Q8h (by exact Nat.le_of_ble_eq_true rfl) (Node.Q16p H.2).all.2.2.2
theorem t_K9 (p0 : Node) (H : H_K9 p0) : Q6 G (c_K9 p0) (a_K9 p0) := by
 unfold a_K9
 rw [e_K9]
 exact Qb (fn := Ir.K9) rfl VOK.nil [] [aN (t_Kf p0.meta_ (Qd0 p0 H).1), aN (Q1cc p0.capacity (Qd0 p0 H).2.1), aN (Q1r Q36 (Q8f p0.capacity)), aN (Qdr p0.cordoned), aN (Q1r Q35 (Q23 p0.cordoned)), aN (Q4s p0.maxPods), aN (Q1r Q3f (Qs p0.maxPods)), aN (Q16u p0.taints (Qd0 p0 H).2.2.1), aN (Q1r Q48 (Q67 p0.taints)), aN (Q3v (e' := .call 61 [.sl [(Fld.cells (Q9 Q36 (Q8f p0.capacity))), (Fld.cells (Q9 Q35 (Q23 p0.cordoned))), (Fld.cells (Q9 Q3f (Qs p0.maxPods))), (Fld.cells (Q9 Q48 (Q67 p0.taints)))]] []) (Q8s ([(Q9 Q36 (Q8f p0.capacity)), (Q9 Q35 (Q23 p0.cordoned)), (Q9 Q3f (Qs p0.maxPods)), (Q9 Q48 (Q67 p0.taints))]) (Qd0 p0 H).2.2.2.1) (by simp only [Q85, Fld.Qo, Fld.Qy])), aN (Q4s p0.beat), aN (Q1r Q76 (Qs p0.beat)), aN (Q17h p0.images (Qd0 p0 H).2.2.2.2.1), aN (Q1r Q47 (Q6a p0.images)), aN (Qdr p0.lowDisk), aN (Q1r Q3h (Q23 p0.lowDisk)), aN (Qdr p0.lowMem), aN (Q1r Q45 (Q23 p0.lowMem)), aN (Qdr p0.ready), aN (Q1r Qp (Q23 p0.ready)), aN (Q3v (e' := .call 61 [.sl [(Fld.cells (Q9 Q76 (Qs p0.beat))), (Fld.cells (Q9 Q47 (Q6a p0.images))), (Fld.cells (Q9 Q3h (Q23 p0.lowDisk))), (Fld.cells (Q9 Q45 (Q23 p0.lowMem))), (Fld.cells (Q9 Qp (Q23 p0.ready)))]] []) (Q8s ([(Q9 Q76 (Qs p0.beat)), (Q9 Q47 (Q6a p0.images)), (Q9 Q3h (Q23 p0.lowDisk)), (Q9 Q45 (Q23 p0.lowMem)), (Q9 Qp (Q23 p0.ready))]) (Qd0 p0 H).2.2.2.2.2.1) (by simp only [Q85, Fld.Qo, Fld.Qy]))] (by kernel_rfl)
def Q4w (p0 : Pod) : Object := Pod.obj p0
theorem Q1h3 (p0 : Pod) : Q4w p0 = ((Object.mk (Meta.mk Q17e p0.meta_.namespace_ p0.meta_.name p0.meta_.uid p0.meta_.version p0.meta_.generation p0.meta_.created p0.meta_.deleting p0.meta_.deleteAt p0.meta_.labels p0.meta_.owners p0.meta_.finalizers p0.meta_.managers) (Qwv p0.spec) (Q1c1 p0.status))) := by
  rfl
def Q1jt (p0 : Pod) : En := .call 25 [.agg (Pod.cells p0)] []
def Q1ds (p0 : Pod) : Rs := .ret (.agg (Object.cells (Q4w p0))) []
def Q18o (p0 : Pod) : Prop := Pod.sm p0
theorem Qzw (p0 : Pod) (H : Q18o p0) : (Q189 p0.spec) ∧ (Q1cb p0.status) ∧ True := by
  repeat' with_reducible apply And.intro
  all_goals first | exact True.intro | exact H.1 | exact H.2
theorem Qww (p0 : Pod) (H : Q18o p0) : Q6 G (Q1jt p0) (Q1ds p0) := by
 unfold Q1ds
 rw [Q1h3]
 exact Qb (fn := Ir.K2b) rfl VOK.nil [] [aN (Q1e2 p0.spec (Qzw p0 H).1), aN (Q1k2 p0.status (Qzw p0 H).2.1)] (by kernel_rfl)
def Qb9 (p0 : Node) : Object := Node.obj p0
theorem Q1hz (p0 : Node) : Qb9 p0 = ((Object.mk (Meta.mk Qpx p0.meta_.namespace_ p0.meta_.name p0.meta_.uid p0.meta_.version p0.meta_.generation p0.meta_.created p0.meta_.deleting p0.meta_.deleteAt p0.meta_.labels p0.meta_.owners p0.meta_.finalizers p0.meta_.managers) (Qt ([(Q0 Q36 (Q3a p0.capacity)), (Q0 Q35 (Qz p0.cordoned)), (Q0 Q3f (Q8 p0.maxPods)), (Q0 Q48 (Q115 p0.taints))])) (Qt ([(Q0 Q76 (Q8 p0.beat)), (Q0 Q47 (Q12k p0.images)), (Q0 Q3h (Qz p0.lowDisk)), (Q0 Q45 (Qz p0.lowMem)), (Q0 Qp (Qz p0.ready))])))) := by
  rfl
def Q1j4 (p0 : Node) : En := .call 27 [.agg (Node.cells p0)] []
def Q1fm (p0 : Node) : Rs := .ret (.agg (Object.cells (Qb9 p0))) []
def Q1b1 (p0 : Node) : Prop := Node.sm p0
theorem Qyy (p0 : Node) (H : Q1b1 p0) : (Q1cu p0.taints) ∧ (Q1ch p0.images) ∧ True := by
  repeat' with_reducible apply And.intro
  all_goals first | exact True.intro | exact H.1 | exact H.2
theorem Q1cj (p0 : Node) (H : Q1b1 p0) : Q6 G (Q1j4 p0) (Q1fm p0) := by
 unfold Q1fm
 rw [Q1hz]
 exact Qb (fn := Ir.K2a) rfl VOK.nil [] [aN (Q1c8 p0.capacity), aN (Q1q Q36 (Q3a p0.capacity)), aN (Qdn p0.cordoned), aN (Q1q Q35 (Qz p0.cordoned)), aN (Q4p p0.maxPods), aN (Q1q Q3f (Q8 p0.maxPods)), aN (Q1gp p0.taints (Qyy p0 H).1), aN (Q1q Q48 (Q115 p0.taints)), aN (Q3v (e' := .call 70 [.sl [(Fld.cells (Q0 Q36 (Q3a p0.capacity))), (Fld.cells (Q0 Q35 (Qz p0.cordoned))), (Fld.cells (Q0 Q3f (Q8 p0.maxPods))), (Fld.cells (Q0 Q48 (Q115 p0.taints)))]] []) (Q8b ([(Q0 Q36 (Q3a p0.capacity)), (Q0 Q35 (Qz p0.cordoned)), (Q0 Q3f (Q8 p0.maxPods)), (Q0 Q48 (Q115 p0.taints))])) (by simp only [Q87, Fld.Qo, Fld.Qy])), aN (Q4p p0.beat), aN (Q1q Q76 (Q8 p0.beat)), aN (Q1gw p0.images (Qyy p0 H).2.1), aN (Q1q Q47 (Q12k p0.images)), aN (Qdn p0.lowDisk), aN (Q1q Q3h (Qz p0.lowDisk)), aN (Qdn p0.lowMem), aN (Q1q Q45 (Qz p0.lowMem)), aN (Qdn p0.ready), aN (Q1q Qp (Qz p0.ready)), aN (Q3v (e' := .call 70 [.sl [(Fld.cells (Q0 Q76 (Q8 p0.beat))), (Fld.cells (Q0 Q47 (Q12k p0.images))), (Fld.cells (Q0 Q3h (Qz p0.lowDisk))), (Fld.cells (Q0 Q45 (Qz p0.lowMem))), (Fld.cells (Q0 Qp (Qz p0.ready)))]] []) (Q8b ([(Q0 Q76 (Q8 p0.beat)), (Q0 Q47 (Q12k p0.images)), (Q0 Q3h (Qz p0.lowDisk)), (Q0 Q45 (Qz p0.lowMem)), (Q0 Qp (Qz p0.ready))])) (by simp only [Q87, Fld.Qo, Fld.Qy]))] (by kernel_rfl)
end Go.Proofs.YtiflaadeikaghaaGreat
end

section
/- Equality of metadata and objects; what is small (printed by a program). -/
namespace Go.Proofs.YtiflaadeikaghaaGreat
open Go.Pv
inductive Qy4 where
  | k0
  | k1
def Q5q (p0 : List Label) (p1 : List Label) : List Label → Nat → Qy4
 | [], _i0 =>
  (.k0)
 | x0 :: r0, i0 =>
  bif ((sEq x0.key (List.getD p1 i0 (Label.mk (⟨#[]⟩ : ByteArray) (⟨#[]⟩ : ByteArray))).key) && ((sEq x0.value (List.getD p1 i0 (Label.mk (⟨#[]⟩ : ByteArray) (⟨#[]⟩ : ByteArray))).value) && true)) then
   Q5q p0 p1 r0 (i0 + 1)
  else
   (.k1)
def Qsc (p0 : List Label) (p1 : List Label) (i0 : Nat) : List PV :=
  [.sl (Label.rows p0), .sl (Label.rows p1), .un, .un, .un, .int .i64 (i0 : Int)] ++ nuns 20
def Qu6 (_p0 : List Label) (_p1 : List Label) (_i0 : Nat) : List Ob :=
  []
def Qb2 (p0 : List Label) (p1 : List Label) (i0 : Nat) : En := .loop 0 Ir.Qi0 Ir.Q1at (Qsc p0 p1 i0) (Qu6 p0 p1 i0)
def Qot (_p0 : List Label) (_p1 : List Label) (z : Nat → PV) (_zo : Nat → List PV) : St :=
  ⟨zr z 0 26, [], 256⟩
def Qls (_p0 : List Label) (_p1 : List Label) (z : Nat → PV) (_zo : Nat → List PV) : St :=
  ⟨[z 0, z 1, z 2, z 3, .bool false] ++ zr z 5 21, [], 896⟩
def Qbt (p0 : List Label) (p1 : List Label) (e : En) : Qy4 → Prop
  | .k0 => ∃ z zo, Q6 G e (.st (.exit 0) (Qot p0 p1 z zo))
  | .k1 => ∃ z zo, Q6 G e (.st .ret (Qls p0 p1 z zo))
theorem Qpz (p0 : List Label) (p1 : List Label) {e e' : En} (h : ∀ r, Q6 G e r → Q6 G e' r) : ∀ q, Qbt p0 p1 e q → Qbt p0 p1 e' q
  | .k0, ⟨z, zo, hz⟩ => ⟨z, zo, h _ hz⟩
  | .k1, ⟨z, zo, hz⟩ => ⟨z, zo, h _ hz⟩
def Qaz (p0 : List Label) (p1 : List Label) : Prop := (List.length p0 ≤ 4611686018427387904) ∧ (∀ (i0 : Nat) (x0 : Label), p0[i0]? = some x0 → i0 < List.length p1) ∧ True
def Qor (p0 : List Label) (p1 : List Label) (i0 : Nat) : List PV :=
  [.sl (Label.rows p0), .sl (Label.rows p1), .un, .un, .un, .int .i64 (i0 : Int)] ++ nuns 5 ++ [.int .i64 (i0 : Int), .sl (Label.rows p0), .int .i64 ((List.length p0) : Int), .bool false]
def Qju (_p0 : List Label) (_p1 : List Label) (_i0 : Nat) : List (Nat × List PV) :=
  []
theorem Q13m (p0 : List Label) (p1 : List Label) (_H : Qaz p0 p1) (i0 : Nat) (hc0 : (decide ((i0 : Int) < ((List.length p0) : Int))) = false) : Qbt p0 p1 (Qb2 p0 p1 i0) (.k0) := by
 exact ⟨(envF (Qor p0 p1 i0)), (zoF (Qju p0 p1 i0)), Qg VOK.nil (x := ((.exit 0), Qot p0 p1 (envF (Qor p0 p1 i0)) (zoF (Qju p0 p1 i0)))) [hP 2 (Qe (Label.rows p0) (List.length p0) (Label.Q5 p0)), hB 0 hc0] [] (by kernel_rfl)⟩
theorem Q10l (p0 : List Label) (p1 : List Label) (H : Qaz p0 p1) (x0 : Label) (i0 : Nat) (hx0 : p0[i0]? = some x0) (hi0 : i0 < List.length p0) (hc0 : (decide ((i0 : Int) < ((List.length p0) : Int))) = true) (h0 : ((sEq x0.key (List.getD p1 i0 (Label.mk (⟨#[]⟩ : ByteArray) (⟨#[]⟩ : ByteArray))).key) && ((sEq x0.value (List.getD p1 i0 (Label.mk (⟨#[]⟩ : ByteArray) (⟨#[]⟩ : ByteArray))).value) && true)) = true) {r : Rs} (hr : Q6 G (Qb2 p0 p1 (i0 + 1)) r) : Q6 G (Qb2 p0 p1 i0) r := by
 have hB0 := H.1
 exact Qk VOK.nil (y := (Qsc p0 p1 (i0 + 1), Qu6 p0 p1 (i0 + 1))) [hP 2 (Qe (Label.rows p0) (List.length p0) (Label.Q5 p0)), hB 0 hc0, hP 2 (Q1f 2 (Label.rows p0) i0 _ (Label.Qa hx0) rfl), hP 3 (Q1f 2 (Label.rows p1) i0 _ (Label.Qa (Q2b p1 i0 (Label.mk (⟨#[]⟩ : ByteArray) (⟨#[]⟩ : ByteArray)) ((H.2.1 i0 x0 hx0)))) rfl), hP 1 (dec (!((sEq x0.key (List.getD p1 i0 (Label.mk (⟨#[]⟩ : ByteArray) (⟨#[]⟩ : ByteArray))).key) && ((sEq x0.value (List.getD p1 i0 (Label.mk (⟨#[]⟩ : ByteArray) (⟨#[]⟩ : ByteArray))).value) && true))) false (by rw [h0]; rfl)), hP 1 (Q1y i0 (by omega))] [] (by kernel_rfl) hr
def Qny (p0 : List Label) (p1 : List Label) (i0 : Nat) (x0 : Label) : List PV :=
  [.sl (Label.rows p0), .sl (Label.rows p1), .un, .un, .un, .int .i64 (i0 : Int)] ++ nuns 5 ++ [.int .i64 (i0 : Int), .sl (Label.rows p0), .int .i64 ((List.length p0) : Int), .bool true, .un, .un, .sl (Label.rows p0), .int .i64 (i0 : Int), .rf [.str x0.key, .str x0.value], .agg [.str x0.key, .str x0.value], .sl (Label.rows p1), .int .i64 (i0 : Int), .rf [.str (List.getD p1 i0 (Label.mk (⟨#[]⟩ : ByteArray) (⟨#[]⟩ : ByteArray))).key, .str (List.getD p1 i0 (Label.mk (⟨#[]⟩ : ByteArray) (⟨#[]⟩ : ByteArray))).value], .agg [.str (List.getD p1 i0 (Label.mk (⟨#[]⟩ : ByteArray) (⟨#[]⟩ : ByteArray))).key, .str (List.getD p1 i0 (Label.mk (⟨#[]⟩ : ByteArray) (⟨#[]⟩ : ByteArray))).value], .bool true]
def Qi9 (_p0 : List Label) (_p1 : List Label) (_i0 : Nat) (_x0 : Label) : List (Nat × List PV) :=
  []
theorem Q128 (p0 : List Label) (p1 : List Label) (H : Qaz p0 p1) (x0 : Label) (i0 : Nat) (hx0 : p0[i0]? = some x0) (_hi0 : i0 < List.length p0) (hc0 : (decide ((i0 : Int) < ((List.length p0) : Int))) = true) (h0 : ((sEq x0.key (List.getD p1 i0 (Label.mk (⟨#[]⟩ : ByteArray) (⟨#[]⟩ : ByteArray))).key) && ((sEq x0.value (List.getD p1 i0 (Label.mk (⟨#[]⟩ : ByteArray) (⟨#[]⟩ : ByteArray))).value) && true)) = false) : Qbt p0 p1 (Qb2 p0 p1 i0) (.k1) := by
 exact ⟨(envF (Qny p0 p1 i0 x0)), (zoF (Qi9 p0 p1 i0 x0)), Qg VOK.nil (x := (.ret, Qls p0 p1 (envF (Qny p0 p1 i0 x0)) (zoF (Qi9 p0 p1 i0 x0)))) [hP 2 (Qe (Label.rows p0) (List.length p0) (Label.Q5 p0)), hB 0 hc0, hP 2 (Q1f 2 (Label.rows p0) i0 _ (Label.Qa hx0) rfl), hP 3 (Q1f 2 (Label.rows p1) i0 _ (Label.Qa (Q2b p1 i0 (Label.mk (⟨#[]⟩ : ByteArray) (⟨#[]⟩ : ByteArray)) ((H.2.1 i0 x0 hx0)))) rfl), hP 1 (dec (!((sEq x0.key (List.getD p1 i0 (Label.mk (⟨#[]⟩ : ByteArray) (⟨#[]⟩ : ByteArray))).key) && ((sEq x0.value (List.getD p1 i0 (Label.mk (⟨#[]⟩ : ByteArray) (⟨#[]⟩ : ByteArray))).value) && true))) true (by rw [h0]; rfl))] [] (by kernel_rfl)⟩
theorem Qso (p0 : List Label) (p1 : List Label) (H : Qaz p0 p1) : ∀ (r0 : List Label) (i0 : Nat), List.drop i0 p0 = r0 → Qbt p0 p1 (Qb2 p0 p1 i0) (Q5q p0 p1 r0 i0)
 | [], i0, hd => by
  have hc0 : (decide ((i0 : Int) < ((List.length p0) : Int))) = false := by have := Q1b hd; simp; omega
  rw [Q5q]
  exact Q13m p0 p1 H i0 hc0
 | x0 :: r0, i0, hd => by
  obtain ⟨hx0, hi0, hd'⟩ := Q14 hd
  have hc0 : (decide ((i0 : Int) < ((List.length p0) : Int))) = true := by simp; omega
  rw [Q5q]
  cases h0 : ((sEq x0.key (List.getD p1 i0 (Label.mk (⟨#[]⟩ : ByteArray) (⟨#[]⟩ : ByteArray))).key) && ((sEq x0.value (List.getD p1 i0 (Label.mk (⟨#[]⟩ : ByteArray) (⟨#[]⟩ : ByteArray))).value) && true)) with
  | true =>
   exact Qpz p0 p1 (fun r hr => Q10l p0 p1 H x0 i0 hx0 hi0 hc0 h0 hr) _ (Qso p0 p1 H r0 (i0 + 1) hd')
  | false =>
   exact Q128 p0 p1 H x0 i0 hx0 hi0 hc0 h0
def Qcz (p0 : List Label) (p1 : List Label) : Bool :=
 bif (((List.length p0) : Int) == ((List.length p1) : Int)) then
  (match (Q5q p0 p1 p0 0) with
  | .k0 => true
  | .k1 => false)
 else
  false
def Q1lf (p0 : List Label) (p1 : List Label) : En := .call 122 [.sl (Label.rows p0), .sl (Label.rows p1)] []
def Q1d3 (p0 : List Label) (p1 : List Label) : Rs := .ret (.bool (Qcz p0 p1)) []
def Q1db (p0 : List Label) (p1 : List Label) : Prop := ((((List.length p0) : Int) == ((List.length p1) : Int)) = true → Qaz p0 p1) ∧ True
theorem Qx3 (p0 : List Label) (p1 : List Label) (H : Q1db p0 p1) : Q6 G (Q1lf p0 p1) (Q1d3 p0 p1) := by
 unfold Q1d3 Qcz
 cases h0 : (((List.length p0) : Int) == ((List.length p1) : Int)) with
 | true =>
  have hl1 := Qso p0 p1 (H.1 h0) p0 0 (by simp)
  cases hr1 : (Q5q p0 p1 p0 0) with
  | k0 =>
   rw [hr1] at hl1
   obtain ⟨z1, zo1, hl1⟩ := hl1
   exact Qb (fn := Ir.K24) rfl VOK.nil [hP 2 (Qe (Label.rows p0) (List.length p0) (Label.Q5 p0)), hP 1 (Qe (Label.rows p1) (List.length p1) (Label.Q5 p1)), hP 0 (dec (!(((List.length p0) : Int) == ((List.length p1) : Int))) false (by rw [h0]; rfl))] [aN hl1] (by kernel_rfl)
  | k1 =>
   rw [hr1] at hl1
   obtain ⟨z1, zo1, hl1⟩ := hl1
   exact Qb (fn := Ir.K24) rfl VOK.nil [hP 2 (Qe (Label.rows p0) (List.length p0) (Label.Q5 p0)), hP 1 (Qe (Label.rows p1) (List.length p1) (Label.Q5 p1)), hP 0 (dec (!(((List.length p0) : Int) == ((List.length p1) : Int))) false (by rw [h0]; rfl))] [aN hl1] (by kernel_rfl)
 | false =>
  exact Qb (fn := Ir.K24) rfl VOK.nil [hP 2 (Qe (Label.rows p0) (List.length p0) (Label.Q5 p0)), hP 1 (Qe (Label.rows p1) (List.length p1) (Label.Q5 p1)), hP 0 (dec (!(((List.length p0) : Int) == ((List.length p1) : Int))) true (by rw [h0]; rfl))] [] (by kernel_rfl)
inductive Qz5 where
  | k0
  | k1
def Q5t (p0 : List ByteArray) (p1 : List ByteArray) : List ByteArray → Nat → Qz5
 | [], _i0 =>
  (.k0)
 | x0 :: r0, i0 =>
  bif (sEq x0 (List.getD p1 i0 (⟨#[]⟩ : ByteArray))) then
   Q5t p0 p1 r0 (i0 + 1)
  else
   (.k1)
def Qtn (p0 : List ByteArray) (p1 : List ByteArray) (i0 : Nat) : List PV :=
  [.sl (Qf p0), .sl (Qf p1), .un, .un, .un, .int .i64 (i0 : Int)] ++ nuns 20
def Qsr (_p0 : List ByteArray) (_p1 : List ByteArray) (_i0 : Nat) : List Ob :=
  []
def Qbz (p0 : List ByteArray) (p1 : List ByteArray) (i0 : Nat) : En := .loop 0 Ir.Qi2 Ir.Q1ab (Qtn p0 p1 i0) (Qsr p0 p1 i0)
def Qmc (_p0 : List ByteArray) (_p1 : List ByteArray) (z : Nat → PV) (_zo : Nat → List PV) : St :=
  ⟨zr z 0 26, [], 256⟩
def Qmn (_p0 : List ByteArray) (_p1 : List ByteArray) (z : Nat → PV) (_zo : Nat → List PV) : St :=
  ⟨[z 0, z 1, z 2, z 3, .bool false] ++ zr z 5 21, [], 896⟩
def Qba (p0 : List ByteArray) (p1 : List ByteArray) (e : En) : Qz5 → Prop
  | .k0 => ∃ z zo, Q6 G e (.st (.exit 0) (Qmc p0 p1 z zo))
  | .k1 => ∃ z zo, Q6 G e (.st .ret (Qmn p0 p1 z zo))
theorem Qq7 (p0 : List ByteArray) (p1 : List ByteArray) {e e' : En} (h : ∀ r, Q6 G e r → Q6 G e' r) : ∀ q, Qba p0 p1 e q → Qba p0 p1 e' q
  | .k0, ⟨z, zo, hz⟩ => ⟨z, zo, h _ hz⟩
  | .k1, ⟨z, zo, hz⟩ => ⟨z, zo, h _ hz⟩
def Qav (p0 : List ByteArray) (p1 : List ByteArray) : Prop := (List.length p0 ≤ 4611686018427387904) ∧ (∀ (i0 : Nat) (x0 : ByteArray), p0[i0]? = some x0 → i0 < List.length p1) ∧ True
def Qn4 (p0 : List ByteArray) (p1 : List ByteArray) (i0 : Nat) : List PV :=
  [.sl (Qf p0), .sl (Qf p1), .un, .un, .un, .int .i64 (i0 : Int)] ++ nuns 5 ++ [.int .i64 (i0 : Int), .sl (Qf p0), .int .i64 ((List.length p0) : Int), .bool false]
def Qk0 (_p0 : List ByteArray) (_p1 : List ByteArray) (_i0 : Nat) : List (Nat × List PV) :=
  []
theorem Q10w (p0 : List ByteArray) (p1 : List ByteArray) (_H : Qav p0 p1) (i0 : Nat) (hc0 : (decide ((i0 : Int) < ((List.length p0) : Int))) = false) : Qba p0 p1 (Qbz p0 p1 i0) (.k0) := by
 exact ⟨(envF (Qn4 p0 p1 i0)), (zoF (Qk0 p0 p1 i0)), Qg VOK.nil (x := ((.exit 0), Qmc p0 p1 (envF (Qn4 p0 p1 i0)) (zoF (Qk0 p0 p1 i0)))) [hP 2 (Qe (Qf p0) (List.length p0) (Q18 p0)), hB 0 hc0] [] (by kernel_rfl)⟩
theorem Q12h (p0 : List ByteArray) (p1 : List ByteArray) (H : Qav p0 p1) (x0 : ByteArray) (i0 : Nat) (hx0 : p0[i0]? = some x0) (hi0 : i0 < List.length p0) (hc0 : (decide ((i0 : Int) < ((List.length p0) : Int))) = true) (h0 : (sEq x0 (List.getD p1 i0 (⟨#[]⟩ : ByteArray))) = true) {r : Rs} (hr : Q6 G (Qbz p0 p1 (i0 + 1)) r) : Q6 G (Qbz p0 p1 i0) r := by
 have hB0 := H.1
 exact Qk VOK.nil (y := (Qtn p0 p1 (i0 + 1), Qsr p0 p1 (i0 + 1))) [hP 2 (Qe (Qf p0) (List.length p0) (Q18 p0)), hB 0 hc0, hP 2 (Q1f 1 (Qf p0) i0 _ (Q3g hx0) rfl), hP 3 (Q1f 1 (Qf p1) i0 _ (Q3g (Q2b p1 i0 (⟨#[]⟩ : ByteArray) ((H.2.1 i0 x0 hx0)))) rfl), hP 1 (dec (!(sEq x0 (List.getD p1 i0 (⟨#[]⟩ : ByteArray)))) false (by rw [h0]; rfl)), hP 1 (Q1y i0 (by omega))] [] (by kernel_rfl) hr
def Qn9 (p0 : List ByteArray) (p1 : List ByteArray) (i0 : Nat) (x0 : ByteArray) : List PV :=
  [.sl (Qf p0), .sl (Qf p1), .un, .un, .un, .int .i64 (i0 : Int)] ++ nuns 5 ++ [.int .i64 (i0 : Int), .sl (Qf p0), .int .i64 ((List.length p0) : Int), .bool true, .un, .un, .sl (Qf p0), .int .i64 (i0 : Int), .rf [.str x0], .str x0, .sl (Qf p1), .int .i64 (i0 : Int), .rf [.str (List.getD p1 i0 (⟨#[]⟩ : ByteArray))], .str (List.getD p1 i0 (⟨#[]⟩ : ByteArray)), .bool true]
def Qin (_p0 : List ByteArray) (_p1 : List ByteArray) (_i0 : Nat) (_x0 : ByteArray) : List (Nat × List PV) :=
  []
theorem Q10q (p0 : List ByteArray) (p1 : List ByteArray) (H : Qav p0 p1) (x0 : ByteArray) (i0 : Nat) (hx0 : p0[i0]? = some x0) (_hi0 : i0 < List.length p0) (hc0 : (decide ((i0 : Int) < ((List.length p0) : Int))) = true) (h0 : (sEq x0 (List.getD p1 i0 (⟨#[]⟩ : ByteArray))) = false) : Qba p0 p1 (Qbz p0 p1 i0) (.k1) := by
 exact ⟨(envF (Qn9 p0 p1 i0 x0)), (zoF (Qin p0 p1 i0 x0)), Qg VOK.nil (x := (.ret, Qmn p0 p1 (envF (Qn9 p0 p1 i0 x0)) (zoF (Qin p0 p1 i0 x0)))) [hP 2 (Qe (Qf p0) (List.length p0) (Q18 p0)), hB 0 hc0, hP 2 (Q1f 1 (Qf p0) i0 _ (Q3g hx0) rfl), hP 3 (Q1f 1 (Qf p1) i0 _ (Q3g (Q2b p1 i0 (⟨#[]⟩ : ByteArray) ((H.2.1 i0 x0 hx0)))) rfl), hP 1 (dec (!(sEq x0 (List.getD p1 i0 (⟨#[]⟩ : ByteArray)))) true (by rw [h0]; rfl))] [] (by kernel_rfl)⟩
theorem Qty (p0 : List ByteArray) (p1 : List ByteArray) (H : Qav p0 p1) : ∀ (r0 : List ByteArray) (i0 : Nat), List.drop i0 p0 = r0 → Qba p0 p1 (Qbz p0 p1 i0) (Q5t p0 p1 r0 i0)
 | [], i0, hd => by
  have hc0 : (decide ((i0 : Int) < ((List.length p0) : Int))) = false := by have := Q1b hd; simp; omega
  rw [Q5t]
  exact Q10w p0 p1 H i0 hc0
 | x0 :: r0, i0, hd => by
  obtain ⟨hx0, hi0, hd'⟩ := Q14 hd
  have hc0 : (decide ((i0 : Int) < ((List.length p0) : Int))) = true := by simp; omega
  rw [Q5t]
  cases h0 : (sEq x0 (List.getD p1 i0 (⟨#[]⟩ : ByteArray))) with
  | true =>
   exact Qq7 p0 p1 (fun r hr => Q12h p0 p1 H x0 i0 hx0 hi0 hc0 h0 hr) _ (Qty p0 p1 H r0 (i0 + 1) hd')
  | false =>
   exact Q10q p0 p1 H x0 i0 hx0 hi0 hc0 h0
def Q9r (p0 : List ByteArray) (p1 : List ByteArray) : Bool :=
 bif (((List.length p0) : Int) == ((List.length p1) : Int)) then
  (match (Q5t p0 p1 p0 0) with
  | .k0 => true
  | .k1 => false)
 else
  false
def Q1io (p0 : List ByteArray) (p1 : List ByteArray) : En := .call 123 [.sl (Qf p0), .sl (Qf p1)] []
def Q1fj (p0 : List ByteArray) (p1 : List ByteArray) : Rs := .ret (.bool (Q9r p0 p1)) []
def Q1co (p0 : List ByteArray) (p1 : List ByteArray) : Prop := ((((List.length p0) : Int) == ((List.length p1) : Int)) = true → Qav p0 p1) ∧ True
theorem Qw6 (p0 : List ByteArray) (p1 : List ByteArray) (H : Q1co p0 p1) : Q6 G (Q1io p0 p1) (Q1fj p0 p1) := by
 unfold Q1fj Q9r
 cases h0 : (((List.length p0) : Int) == ((List.length p1) : Int)) with
 | true =>
  have hl1 := Qty p0 p1 (H.1 h0) p0 0 (by simp)
  cases hr1 : (Q5t p0 p1 p0 0) with
  | k0 =>
   rw [hr1] at hl1
   obtain ⟨z1, zo1, hl1⟩ := hl1
   exact Qb (fn := Ir.K25) rfl VOK.nil [hP 2 (Qe (Qf p0) (List.length p0) (Q18 p0)), hP 1 (Qe (Qf p1) (List.length p1) (Q18 p1)), hP 0 (dec (!(((List.length p0) : Int) == ((List.length p1) : Int))) false (by rw [h0]; rfl))] [aN hl1] (by kernel_rfl)
  | k1 =>
   rw [hr1] at hl1
   obtain ⟨z1, zo1, hl1⟩ := hl1
   exact Qb (fn := Ir.K25) rfl VOK.nil [hP 2 (Qe (Qf p0) (List.length p0) (Q18 p0)), hP 1 (Qe (Qf p1) (List.length p1) (Q18 p1)), hP 0 (dec (!(((List.length p0) : Int) == ((List.length p1) : Int))) false (by rw [h0]; rfl))] [aN hl1] (by kernel_rfl)
 | false =>
  exact Qb (fn := Ir.K25) rfl VOK.nil [hP 2 (Qe (Qf p0) (List.length p0) (Q18 p0)), hP 1 (Qe (Qf p1) (List.length p1) (Q18 p1)), hP 0 (dec (!(((List.length p0) : Int) == ((List.length p1) : Int))) true (by rw [h0]; rfl))] [] (by kernel_rfl)
inductive Qyh where
  | k0
  | k1
def Q5u (p0 : Meta) (p1 : Meta) : List Owner → Nat → Qyh
 | [], _i0 =>
  (.k0)
 | x0 :: r0, i0 =>
  bif ((sEq x0.kind (List.getD p1.owners i0 (Owner.mk (⟨#[]⟩ : ByteArray) (⟨#[]⟩ : ByteArray) 0 false false)).kind) && ((sEq x0.name (List.getD p1.owners i0 (Owner.mk (⟨#[]⟩ : ByteArray) (⟨#[]⟩ : ByteArray) 0 false false)).name) && ((x0.uid == (List.getD p1.owners i0 (Owner.mk (⟨#[]⟩ : ByteArray) (⟨#[]⟩ : ByteArray) 0 false false)).uid) && ((x0.controller == (List.getD p1.owners i0 (Owner.mk (⟨#[]⟩ : ByteArray) (⟨#[]⟩ : ByteArray) 0 false false)).controller) && ((x0.block == (List.getD p1.owners i0 (Owner.mk (⟨#[]⟩ : ByteArray) (⟨#[]⟩ : ByteArray) 0 false false)).block) && true))))) then
   Q5u p0 p1 r0 (i0 + 1)
  else
   (.k1)
def Qv9 (_p0 : Meta) (_p1 : Meta) (i0 : Nat) : List PV :=
  [.un, .un, .bx 0 0, .bx 1 0, .un, .int .i64 (i0 : Int)] ++ nuns 148
def Qt1 (p0 : Meta) (p1 : Meta) (_i0 : Nat) : List Ob :=
  [⟨13, 0, true, [.str p0.kind, .str p0.namespace_, .str p0.name, .int .i64 p0.uid, .int .i64 p0.version, .int .i64 p0.generation, .int .i64 p0.created, .bool p0.deleting, .int .i64 p0.deleteAt, .sl (Label.rows p0.labels), .sl (Owner.rows p0.owners), .sl (Qf p0.finalizers), .sl (Manager.rows p0.managers)]⟩, ⟨13, 0, true, [.str p1.kind, .str p1.namespace_, .str p1.name, .int .i64 p1.uid, .int .i64 p1.version, .int .i64 p1.generation, .int .i64 p1.created, .bool p1.deleting, .int .i64 p1.deleteAt, .sl (Label.rows p1.labels), .sl (Owner.rows p1.owners), .sl (Qf p1.finalizers), .sl (Manager.rows p1.managers)]⟩]
def Q6o (p0 : Meta) (p1 : Meta) (i0 : Nat) : En := .loop 0 Ir.Qkd Ir.Q1au (Qv9 p0 p1 i0) (Qt1 p0 p1 i0)
def Q97 (p0 : Meta) (p1 : Meta) (z : Nat → PV) (_zo : Nat → List PV) : St :=
  ⟨[z 0, z 1, .bx 0 0, .bx 1 0] ++ zr z 4 150, [(0, ⟨13, 0, true, [.str p0.kind, .str p0.namespace_, .str p0.name, .int .i64 p0.uid, .int .i64 p0.version, .int .i64 p0.generation, .int .i64 p0.created, .bool p0.deleting, .int .i64 p0.deleteAt, .sl (Label.rows p0.labels), .sl (Owner.rows p0.owners), .sl (Qf p0.finalizers), .sl (Manager.rows p0.managers)]⟩), (1, ⟨13, 0, true, [.str p1.kind, .str p1.namespace_, .str p1.name, .int .i64 p1.uid, .int .i64 p1.version, .int .i64 p1.generation, .int .i64 p1.created, .bool p1.deleting, .int .i64 p1.deleteAt, .sl (Label.rows p1.labels), .sl (Owner.rows p1.owners), .sl (Qf p1.finalizers), .sl (Manager.rows p1.managers)]⟩)], 322⟩
def Qc3 (_p0 : Meta) (_p1 : Meta) (z : Nat → PV) (zo : Nat → List PV) : St :=
  ⟨[z 0, z 1, z 2, z 3, .bool false] ++ zr z 5 149, [(0, ⟨13, 0, true, zo 0⟩), (1, ⟨13, 0, true, zo 1⟩)], 1090⟩
def Qby (p0 : Meta) (p1 : Meta) (e : En) : Qyh → Prop
  | .k0 => ∃ z zo, Q6 G e (.st (.exit 0) (Q97 p0 p1 z zo))
  | .k1 => ∃ z zo, Q6 G e (.st .ret (Qc3 p0 p1 z zo))
theorem Qrg (p0 : Meta) (p1 : Meta) {e e' : En} (h : ∀ r, Q6 G e r → Q6 G e' r) : ∀ q, Qby p0 p1 e q → Qby p0 p1 e' q
  | .k0, ⟨z, zo, hz⟩ => ⟨z, zo, h _ hz⟩
  | .k1, ⟨z, zo, hz⟩ => ⟨z, zo, h _ hz⟩
def Qay (p0 : Meta) (p1 : Meta) : Prop := (List.length p0.owners ≤ 4611686018427387904) ∧ (∀ (i0 : Nat) (x0 : Owner), p0.owners[i0]? = some x0 → i0 < List.length p1.owners) ∧ True
def Qo3 (p0 : Meta) (_p1 : Meta) (i0 : Nat) : List PV :=
  nuns 5 ++ [.int .i64 (i0 : Int)] ++ nuns 94 ++ [.int .i64 (i0 : Int), .bx 0 10, .sl (Owner.rows p0.owners), .int .i64 ((List.length p0.owners) : Int), .bool false]
def Qgl (_p0 : Meta) (_p1 : Meta) (_i0 : Nat) : List (Nat × List PV) :=
  []
theorem Q12r (p0 : Meta) (p1 : Meta) (_H : Qay p0 p1) (i0 : Nat) (hc0 : (decide ((i0 : Int) < ((List.length p0.owners) : Int))) = false) : Qby p0 p1 (Q6o p0 p1 i0) (.k0) := by
 exact ⟨(envF (Qo3 p0 p1 i0)), (zoF (Qgl p0 p1 i0)), Qg VOK.nil (x := ((.exit 0), Q97 p0 p1 (envF (Qo3 p0 p1 i0)) (zoF (Qgl p0 p1 i0)))) [hP 3 (Qe (Owner.rows p0.owners) (List.length p0.owners) (Owner.Q5 p0.owners)), hB 0 hc0] [] (by kernel_rfl)⟩
theorem Q112 (p0 : Meta) (p1 : Meta) (H : Qay p0 p1) (x0 : Owner) (i0 : Nat) (hx0 : p0.owners[i0]? = some x0) (hi0 : i0 < List.length p0.owners) (hc0 : (decide ((i0 : Int) < ((List.length p0.owners) : Int))) = true) (h0 : ((sEq x0.kind (List.getD p1.owners i0 (Owner.mk (⟨#[]⟩ : ByteArray) (⟨#[]⟩ : ByteArray) 0 false false)).kind) && ((sEq x0.name (List.getD p1.owners i0 (Owner.mk (⟨#[]⟩ : ByteArray) (⟨#[]⟩ : ByteArray) 0 false false)).name) && ((x0.uid == (List.getD p1.owners i0 (Owner.mk (⟨#[]⟩ : ByteArray) (⟨#[]⟩ : ByteArray) 0 false false)).uid) && ((x0.controller == (List.getD p1.owners i0 (Owner.mk (⟨#[]⟩ : ByteArray) (⟨#[]⟩ : ByteArray) 0 false false)).controller) && ((x0.block == (List.getD p1.owners i0 (Owner.mk (⟨#[]⟩ : ByteArray) (⟨#[]⟩ : ByteArray) 0 false false)).block) && true))))) = true) {r : Rs} (hr : Q6 G (Q6o p0 p1 (i0 + 1)) r) : Q6 G (Q6o p0 p1 i0) r := by
 have hB0 := H.1
 exact Qk VOK.nil (y := (Qv9 p0 p1 (i0 + 1), Qt1 p0 p1 (i0 + 1))) [hP 3 (Qe (Owner.rows p0.owners) (List.length p0.owners) (Owner.Q5 p0.owners)), hB 0 hc0, hP 3 (Q1f 5 (Owner.rows p0.owners) i0 _ (Owner.Qa hx0) rfl), hP 4 (Q1f 5 (Owner.rows p1.owners) i0 _ (Owner.Qa (Q2b p1.owners i0 (Owner.mk (⟨#[]⟩ : ByteArray) (⟨#[]⟩ : ByteArray) 0 false false) ((H.2.1 i0 x0 hx0)))) rfl), hP 1 (dec (!((sEq x0.kind (List.getD p1.owners i0 (Owner.mk (⟨#[]⟩ : ByteArray) (⟨#[]⟩ : ByteArray) 0 false false)).kind) && ((sEq x0.name (List.getD p1.owners i0 (Owner.mk (⟨#[]⟩ : ByteArray) (⟨#[]⟩ : ByteArray) 0 false false)).name) && ((x0.uid == (List.getD p1.owners i0 (Owner.mk (⟨#[]⟩ : ByteArray) (⟨#[]⟩ : ByteArray) 0 false false)).uid) && ((x0.controller == (List.getD p1.owners i0 (Owner.mk (⟨#[]⟩ : ByteArray) (⟨#[]⟩ : ByteArray) 0 false false)).controller) && ((x0.block == (List.getD p1.owners i0 (Owner.mk (⟨#[]⟩ : ByteArray) (⟨#[]⟩ : ByteArray) 0 false false)).block) && true)))))) false (by rw [h0]; rfl)), hP 1 (Q1y i0 (by omega))] [] (by kernel_rfl) hr
def Qp9 (p0 : Meta) (p1 : Meta) (i0 : Nat) (x0 : Owner) : List PV :=
  [.un, .un, .bx 0 0, .bx 1 0, .un, .int .i64 (i0 : Int)] ++ nuns 94 ++ [.int .i64 (i0 : Int), .bx 0 10, .sl (Owner.rows p0.owners), .int .i64 ((List.length p0.owners) : Int), .bool true, .un, .un, .bx 0 10, .sl (Owner.rows p0.owners), .int .i64 (i0 : Int), .rf [.str x0.kind, .str x0.name, .int .i64 x0.uid, .bool x0.controller, .bool x0.block], .agg [.str x0.kind, .str x0.name, .int .i64 x0.uid, .bool x0.controller, .bool x0.block], .bx 1 10, .sl (Owner.rows p1.owners), .int .i64 (i0 : Int), .rf [.str (List.getD p1.owners i0 (Owner.mk (⟨#[]⟩ : ByteArray) (⟨#[]⟩ : ByteArray) 0 false false)).kind, .str (List.getD p1.owners i0 (Owner.mk (⟨#[]⟩ : ByteArray) (⟨#[]⟩ : ByteArray) 0 false false)).name, .int .i64 (List.getD p1.owners i0 (Owner.mk (⟨#[]⟩ : ByteArray) (⟨#[]⟩ : ByteArray) 0 false false)).uid, .bool (List.getD p1.owners i0 (Owner.mk (⟨#[]⟩ : ByteArray) (⟨#[]⟩ : ByteArray) 0 false false)).controller, .bool (List.getD p1.owners i0 (Owner.mk (⟨#[]⟩ : ByteArray) (⟨#[]⟩ : ByteArray) 0 false false)).block], .agg [.str (List.getD p1.owners i0 (Owner.mk (⟨#[]⟩ : ByteArray) (⟨#[]⟩ : ByteArray) 0 false false)).kind, .str (List.getD p1.owners i0 (Owner.mk (⟨#[]⟩ : ByteArray) (⟨#[]⟩ : ByteArray) 0 false false)).name, .int .i64 (List.getD p1.owners i0 (Owner.mk (⟨#[]⟩ : ByteArray) (⟨#[]⟩ : ByteArray) 0 false false)).uid, .bool (List.getD p1.owners i0 (Owner.mk (⟨#[]⟩ : ByteArray) (⟨#[]⟩ : ByteArray) 0 false false)).controller, .bool (List.getD p1.owners i0 (Owner.mk (⟨#[]⟩ : ByteArray) (⟨#[]⟩ : ByteArray) 0 false false)).block], .bool true]
def Qi3 (p0 : Meta) (p1 : Meta) (_i0 : Nat) (_x0 : Owner) : List (Nat × List PV) :=
  [(0, [.str p0.kind, .str p0.namespace_, .str p0.name, .int .i64 p0.uid, .int .i64 p0.version, .int .i64 p0.generation, .int .i64 p0.created, .bool p0.deleting, .int .i64 p0.deleteAt, .sl (Label.rows p0.labels), .sl (Owner.rows p0.owners), .sl (Qf p0.finalizers), .sl (Manager.rows p0.managers)]), (1, [.str p1.kind, .str p1.namespace_, .str p1.name, .int .i64 p1.uid, .int .i64 p1.version, .int .i64 p1.generation, .int .i64 p1.created, .bool p1.deleting, .int .i64 p1.deleteAt, .sl (Label.rows p1.labels), .sl (Owner.rows p1.owners), .sl (Qf p1.finalizers), .sl (Manager.rows p1.managers)])]
theorem Q11c (p0 : Meta) (p1 : Meta) (H : Qay p0 p1) (x0 : Owner) (i0 : Nat) (hx0 : p0.owners[i0]? = some x0) (_hi0 : i0 < List.length p0.owners) (hc0 : (decide ((i0 : Int) < ((List.length p0.owners) : Int))) = true) (h0 : ((sEq x0.kind (List.getD p1.owners i0 (Owner.mk (⟨#[]⟩ : ByteArray) (⟨#[]⟩ : ByteArray) 0 false false)).kind) && ((sEq x0.name (List.getD p1.owners i0 (Owner.mk (⟨#[]⟩ : ByteArray) (⟨#[]⟩ : ByteArray) 0 false false)).name) && ((x0.uid == (List.getD p1.owners i0 (Owner.mk (⟨#[]⟩ : ByteArray) (⟨#[]⟩ : ByteArray) 0 false false)).uid) && ((x0.controller == (List.getD p1.owners i0 (Owner.mk (⟨#[]⟩ : ByteArray) (⟨#[]⟩ : ByteArray) 0 false false)).controller) && ((x0.block == (List.getD p1.owners i0 (Owner.mk (⟨#[]⟩ : ByteArray) (⟨#[]⟩ : ByteArray) 0 false false)).block) && true))))) = false) : Qby p0 p1 (Q6o p0 p1 i0) (.k1) := by
 exact ⟨(envF (Qp9 p0 p1 i0 x0)), (zoF (Qi3 p0 p1 i0 x0)), Qg VOK.nil (x := (.ret, Qc3 p0 p1 (envF (Qp9 p0 p1 i0 x0)) (zoF (Qi3 p0 p1 i0 x0)))) [hP 3 (Qe (Owner.rows p0.owners) (List.length p0.owners) (Owner.Q5 p0.owners)), hB 0 hc0, hP 3 (Q1f 5 (Owner.rows p0.owners) i0 _ (Owner.Qa hx0) rfl), hP 4 (Q1f 5 (Owner.rows p1.owners) i0 _ (Owner.Qa (Q2b p1.owners i0 (Owner.mk (⟨#[]⟩ : ByteArray) (⟨#[]⟩ : ByteArray) 0 false false) ((H.2.1 i0 x0 hx0)))) rfl), hP 1 (dec (!((sEq x0.kind (List.getD p1.owners i0 (Owner.mk (⟨#[]⟩ : ByteArray) (⟨#[]⟩ : ByteArray) 0 false false)).kind) && ((sEq x0.name (List.getD p1.owners i0 (Owner.mk (⟨#[]⟩ : ByteArray) (⟨#[]⟩ : ByteArray) 0 false false)).name) && ((x0.uid == (List.getD p1.owners i0 (Owner.mk (⟨#[]⟩ : ByteArray) (⟨#[]⟩ : ByteArray) 0 false false)).uid) && ((x0.controller == (List.getD p1.owners i0 (Owner.mk (⟨#[]⟩ : ByteArray) (⟨#[]⟩ : ByteArray) 0 false false)).controller) && ((x0.block == (List.getD p1.owners i0 (Owner.mk (⟨#[]⟩ : ByteArray) (⟨#[]⟩ : ByteArray) 0 false false)).block) && true)))))) true (by rw [h0]; rfl))] [] (by kernel_rfl)⟩
theorem Qsl (p0 : Meta) (p1 : Meta) (H : Qay p0 p1) : ∀ (r0 : List Owner) (i0 : Nat), List.drop i0 p0.owners = r0 → Qby p0 p1 (Q6o p0 p1 i0) (Q5u p0 p1 r0 i0)
 | [], i0, hd => by
  have hc0 : (decide ((i0 : Int) < ((List.length p0.owners) : Int))) = false := by have := Q1b hd; simp; omega
  rw [Q5u]
  exact Q12r p0 p1 H i0 hc0
 | x0 :: r0, i0, hd => by
  obtain ⟨hx0, hi0, hd'⟩ := Q14 hd
  have hc0 : (decide ((i0 : Int) < ((List.length p0.owners) : Int))) = true := by simp; omega
  rw [Q5u]
  cases h0 : ((sEq x0.kind (List.getD p1.owners i0 (Owner.mk (⟨#[]⟩ : ByteArray) (⟨#[]⟩ : ByteArray) 0 false false)).kind) && ((sEq x0.name (List.getD p1.owners i0 (Owner.mk (⟨#[]⟩ : ByteArray) (⟨#[]⟩ : ByteArray) 0 false false)).name) && ((x0.uid == (List.getD p1.owners i0 (Owner.mk (⟨#[]⟩ : ByteArray) (⟨#[]⟩ : ByteArray) 0 false false)).uid) && ((x0.controller == (List.getD p1.owners i0 (Owner.mk (⟨#[]⟩ : ByteArray) (⟨#[]⟩ : ByteArray) 0 false false)).controller) && ((x0.block == (List.getD p1.owners i0 (Owner.mk (⟨#[]⟩ : ByteArray) (⟨#[]⟩ : ByteArray) 0 false false)).block) && true))))) with
  | true =>
   exact Qrg p0 p1 (fun r hr => Q112 p0 p1 H x0 i0 hx0 hi0 hc0 h0 hr) _ (Qsl p0 p1 H r0 (i0 + 1) hd')
  | false =>
   exact Q11c p0 p1 H x0 i0 hx0 hi0 hc0 h0
inductive Qyj where
  | k0
  | k1
def Q5v (p0 : Meta) (p1 : Meta) : List Manager → Nat → Qyj
 | [], _i1 =>
  (.k0)
 | x1 :: r1, i1 =>
  bif (sEq x1.name (List.getD p1.managers i1 (Manager.mk (⟨#[]⟩ : ByteArray) [])).name) then
   bif (Q9r x1.fields (List.getD p1.managers i1 (Manager.mk (⟨#[]⟩ : ByteArray) [])).fields) then
    Q5v p0 p1 r1 (i1 + 1)
   else
    (.k1)
  else
   (.k1)
def Qui (_p0 : Meta) (_p1 : Meta) (i1 : Nat) : List PV :=
  [.un, .un, .bx 0 0, .bx 1 0, .un, .un, .int .i64 (i1 : Int)] ++ nuns 147
def Qvq (p0 : Meta) (p1 : Meta) (_i1 : Nat) : List Ob :=
  [⟨13, 0, true, [.str p0.kind, .str p0.namespace_, .str p0.name, .int .i64 p0.uid, .int .i64 p0.version, .int .i64 p0.generation, .int .i64 p0.created, .bool p0.deleting, .int .i64 p0.deleteAt, .sl (Label.rows p0.labels), .sl (Owner.rows p0.owners), .sl (Qf p0.finalizers), .sl (Manager.rows p0.managers)]⟩, ⟨13, 0, true, [.str p1.kind, .str p1.namespace_, .str p1.name, .int .i64 p1.uid, .int .i64 p1.version, .int .i64 p1.generation, .int .i64 p1.created, .bool p1.deleting, .int .i64 p1.deleteAt, .sl (Label.rows p1.labels), .sl (Owner.rows p1.owners), .sl (Qf p1.finalizers), .sl (Manager.rows p1.managers)]⟩]
def Q6l (p0 : Meta) (p1 : Meta) (i1 : Nat) : En := .loop 0 Ir.Qku Ir.Q1af (Qui p0 p1 i1) (Qvq p0 p1 i1)
def Qcj (p0 : Meta) (p1 : Meta) (z : Nat → PV) (_zo : Nat → List PV) : St :=
  ⟨zr z 0 154, [(0, ⟨13, 0, true, [.str p0.kind, .str p0.namespace_, .str p0.name, .int .i64 p0.uid, .int .i64 p0.version, .int .i64 p0.generation, .int .i64 p0.created, .bool p0.deleting, .int .i64 p0.deleteAt, .sl (Label.rows p0.labels), .sl (Owner.rows p0.owners), .sl (Qf p0.finalizers), .sl (Manager.rows p0.managers)]⟩), (1, ⟨13, 0, true, [.str p1.kind, .str p1.namespace_, .str p1.name, .int .i64 p1.uid, .int .i64 p1.version, .int .i64 p1.generation, .int .i64 p1.created, .bool p1.deleting, .int .i64 p1.deleteAt, .sl (Label.rows p1.labels), .sl (Owner.rows p1.owners), .sl (Qf p1.finalizers), .sl (Manager.rows p1.managers)]⟩)], 322⟩
def Q98 (_p0 : Meta) (_p1 : Meta) (z : Nat → PV) (zo : Nat → List PV) : St :=
  ⟨[z 0, z 1, z 2, z 3, .bool false] ++ zr z 5 149, [(0, ⟨13, 0, true, zo 0⟩), (1, ⟨13, 0, true, zo 1⟩)], 2242⟩
def Q99 (p0 : Meta) (p1 : Meta) (e : En) : Qyj → Prop
  | .k0 => ∃ z zo, Q6 G e (.st (.exit 2) (Qcj p0 p1 z zo))
  | .k1 => ∃ z zo, Q6 G e (.st .ret (Q98 p0 p1 z zo))
theorem Qq5 (p0 : Meta) (p1 : Meta) {e e' : En} (h : ∀ r, Q6 G e r → Q6 G e' r) : ∀ q, Q99 p0 p1 e q → Q99 p0 p1 e' q
  | .k0, ⟨z, zo, hz⟩ => ⟨z, zo, h _ hz⟩
  | .k1, ⟨z, zo, hz⟩ => ⟨z, zo, h _ hz⟩
def Q9q (p0 : Meta) (p1 : Meta) : Prop := (List.length p0.managers ≤ 4611686018427387904) ∧ (∀ (i1 : Nat) (x1 : Manager), p0.managers[i1]? = some x1 → i1 < List.length p1.managers) ∧ (∀ (i1 : Nat) (x1 : Manager), p0.managers[i1]? = some x1 → Q1co x1.fields (List.getD p1.managers i1 (Manager.mk (⟨#[]⟩ : ByteArray) [])).fields) ∧ True
def Qp5 (p0 : Meta) (_p1 : Meta) (i1 : Nat) : List PV :=
  [.un, .un, .bx 0 0, .bx 1 0, .un, .un, .int .i64 (i1 : Int)] ++ nuns 111 ++ [.int .i64 (i1 : Int), .bx 0 12, .sl (Manager.rows p0.managers), .int .i64 ((List.length p0.managers) : Int), .bool false]
def Qiy (_p0 : Meta) (_p1 : Meta) (_i1 : Nat) : List (Nat × List PV) :=
  []
theorem Q12p (p0 : Meta) (p1 : Meta) (_H : Q9q p0 p1) (i1 : Nat) (hc1 : (decide ((i1 : Int) < ((List.length p0.managers) : Int))) = false) : Q99 p0 p1 (Q6l p0 p1 i1) (.k0) := by
 exact ⟨(envF (Qp5 p0 p1 i1)), (zoF (Qiy p0 p1 i1)), Qg VOK.nil (x := ((.exit 2), Qcj p0 p1 (envF (Qp5 p0 p1 i1)) (zoF (Qiy p0 p1 i1)))) [hP 3 (Qe (Manager.rows p0.managers) (List.length p0.managers) (Manager.Q5 p0.managers)), hB 0 hc1] [] (by kernel_rfl)⟩
theorem Q13y (p0 : Meta) (p1 : Meta) (H : Q9q p0 p1) (x1 : Manager) (i1 : Nat) (hx1 : p0.managers[i1]? = some x1) (hi1 : i1 < List.length p0.managers) (hc1 : (decide ((i1 : Int) < ((List.length p0.managers) : Int))) = true) (h0 : (sEq x1.name (List.getD p1.managers i1 (Manager.mk (⟨#[]⟩ : ByteArray) [])).name) = true) (h1 : (Q9r x1.fields (List.getD p1.managers i1 (Manager.mk (⟨#[]⟩ : ByteArray) [])).fields) = true) {r : Rs} (hr : Q6 G (Q6l p0 p1 (i1 + 1)) r) : Q6 G (Q6l p0 p1 i1) r := by
 have hB0 := H.1
 exact Qk VOK.nil (y := (Qui p0 p1 (i1 + 1), Qvq p0 p1 (i1 + 1))) [hP 3 (Qe (Manager.rows p0.managers) (List.length p0.managers) (Manager.Q5 p0.managers)), hB 0 hc1, hP 3 (Q1f 2 (Manager.rows p0.managers) i1 _ (Manager.Qa hx1) rfl), hP 5 (Q1f 2 (Manager.rows p1.managers) i1 _ (Manager.Qa (Q2b p1.managers i1 (Manager.mk (⟨#[]⟩ : ByteArray) []) ((H.2.1 i1 x1 hx1)))) rfl), hP 2 (dec (!(sEq x1.name (List.getD p1.managers i1 (Manager.mk (⟨#[]⟩ : ByteArray) [])).name)) false (by rw [h0]; rfl)), hP 4 (Q1f 2 (Manager.rows p0.managers) i1 _ (Manager.Qa hx1) rfl), hP 5 (Q1f 2 (Manager.rows p1.managers) i1 _ (Manager.Qa (Q2b p1.managers i1 (Manager.mk (⟨#[]⟩ : ByteArray) []) ((H.2.1 i1 x1 hx1)))) rfl), hP 6 (Q1y i1 (by omega))] [aB (Qw6 x1.fields (List.getD p1.managers i1 (Manager.mk (⟨#[]⟩ : ByteArray) [])).fields (H.2.2.1 i1 x1 hx1)) h1] (by kernel_rfl) hr
def Qp4 (p0 : Meta) (p1 : Meta) (i1 : Nat) (x1 : Manager) : List PV :=
  [.un, .un, .bx 0 0, .bx 1 0, .un, .un, .int .i64 (i1 : Int)] ++ nuns 111 ++ [.int .i64 (i1 : Int), .bx 0 12, .sl (Manager.rows p0.managers), .int .i64 ((List.length p0.managers) : Int), .bool true, .un, .un, .bx 0 12, .sl (Manager.rows p0.managers), .int .i64 (i1 : Int), .rf [.str x1.name, .sl (Qf x1.fields)], .rf [.str x1.name, .sl (Qf x1.fields)], .str x1.name, .bx 1 12, .sl (Manager.rows p1.managers), .int .i64 (i1 : Int), .rf [.str (List.getD p1.managers i1 (Manager.mk (⟨#[]⟩ : ByteArray) [])).name, .sl (Qf (List.getD p1.managers i1 (Manager.mk (⟨#[]⟩ : ByteArray) [])).fields)], .rf [.str (List.getD p1.managers i1 (Manager.mk (⟨#[]⟩ : ByteArray) [])).name, .sl (Qf (List.getD p1.managers i1 (Manager.mk (⟨#[]⟩ : ByteArray) [])).fields)], .str (List.getD p1.managers i1 (Manager.mk (⟨#[]⟩ : ByteArray) [])).name, .bool false, .bool false, .bx 0 12, .sl (Manager.rows p0.managers), .int .i64 (i1 : Int), .rf [.str x1.name, .sl (Qf x1.fields)], .rf [.sl (Qf x1.fields)], .sl (Qf x1.fields), .bx 1 12, .sl (Manager.rows p1.managers), .int .i64 (i1 : Int), .rf [.str (List.getD p1.managers i1 (Manager.mk (⟨#[]⟩ : ByteArray) [])).name, .sl (Qf (List.getD p1.managers i1 (Manager.mk (⟨#[]⟩ : ByteArray) [])).fields)], .rf [.sl (Qf (List.getD p1.managers i1 (Manager.mk (⟨#[]⟩ : ByteArray) [])).fields)], .sl (Qf (List.getD p1.managers i1 (Manager.mk (⟨#[]⟩ : ByteArray) [])).fields), .bool false, .bool true, .bool true]
def Qjp (p0 : Meta) (p1 : Meta) (_i1 : Nat) (_x1 : Manager) : List (Nat × List PV) :=
  [(0, [.str p0.kind, .str p0.namespace_, .str p0.name, .int .i64 p0.uid, .int .i64 p0.version, .int .i64 p0.generation, .int .i64 p0.created, .bool p0.deleting, .int .i64 p0.deleteAt, .sl (Label.rows p0.labels), .sl (Owner.rows p0.owners), .sl (Qf p0.finalizers), .sl (Manager.rows p0.managers)]), (1, [.str p1.kind, .str p1.namespace_, .str p1.name, .int .i64 p1.uid, .int .i64 p1.version, .int .i64 p1.generation, .int .i64 p1.created, .bool p1.deleting, .int .i64 p1.deleteAt, .sl (Label.rows p1.labels), .sl (Owner.rows p1.owners), .sl (Qf p1.finalizers), .sl (Manager.rows p1.managers)])]
theorem Q11g (p0 : Meta) (p1 : Meta) (H : Q9q p0 p1) (x1 : Manager) (i1 : Nat) (hx1 : p0.managers[i1]? = some x1) (_hi1 : i1 < List.length p0.managers) (hc1 : (decide ((i1 : Int) < ((List.length p0.managers) : Int))) = true) (h0 : (sEq x1.name (List.getD p1.managers i1 (Manager.mk (⟨#[]⟩ : ByteArray) [])).name) = true) (h1 : (Q9r x1.fields (List.getD p1.managers i1 (Manager.mk (⟨#[]⟩ : ByteArray) [])).fields) = false) : Q99 p0 p1 (Q6l p0 p1 i1) (.k1) := by
 exact ⟨(envF (Qp4 p0 p1 i1 x1)), (zoF (Qjp p0 p1 i1 x1)), Qg VOK.nil (x := (.ret, Q98 p0 p1 (envF (Qp4 p0 p1 i1 x1)) (zoF (Qjp p0 p1 i1 x1)))) [hP 3 (Qe (Manager.rows p0.managers) (List.length p0.managers) (Manager.Q5 p0.managers)), hB 0 hc1, hP 3 (Q1f 2 (Manager.rows p0.managers) i1 _ (Manager.Qa hx1) rfl), hP 5 (Q1f 2 (Manager.rows p1.managers) i1 _ (Manager.Qa (Q2b p1.managers i1 (Manager.mk (⟨#[]⟩ : ByteArray) []) ((H.2.1 i1 x1 hx1)))) rfl), hP 2 (dec (!(sEq x1.name (List.getD p1.managers i1 (Manager.mk (⟨#[]⟩ : ByteArray) [])).name)) false (by rw [h0]; rfl)), hP 4 (Q1f 2 (Manager.rows p0.managers) i1 _ (Manager.Qa hx1) rfl), hP 5 (Q1f 2 (Manager.rows p1.managers) i1 _ (Manager.Qa (Q2b p1.managers i1 (Manager.mk (⟨#[]⟩ : ByteArray) []) ((H.2.1 i1 x1 hx1)))) rfl)] [aB (Qw6 x1.fields (List.getD p1.managers i1 (Manager.mk (⟨#[]⟩ : ByteArray) [])).fields (H.2.2.1 i1 x1 hx1)) h1] (by kernel_rfl)⟩
def Qm1 (p0 : Meta) (p1 : Meta) (i1 : Nat) (x1 : Manager) : List PV :=
  [.un, .un, .bx 0 0, .bx 1 0, .un, .un, .int .i64 (i1 : Int)] ++ nuns 111 ++ [.int .i64 (i1 : Int), .bx 0 12, .sl (Manager.rows p0.managers), .int .i64 ((List.length p0.managers) : Int), .bool true, .un, .un, .bx 0 12, .sl (Manager.rows p0.managers), .int .i64 (i1 : Int), .rf [.str x1.name, .sl (Qf x1.fields)], .rf [.str x1.name, .sl (Qf x1.fields)], .str x1.name, .bx 1 12, .sl (Manager.rows p1.managers), .int .i64 (i1 : Int), .rf [.str (List.getD p1.managers i1 (Manager.mk (⟨#[]⟩ : ByteArray) [])).name, .sl (Qf (List.getD p1.managers i1 (Manager.mk (⟨#[]⟩ : ByteArray) [])).fields)], .rf [.str (List.getD p1.managers i1 (Manager.mk (⟨#[]⟩ : ByteArray) [])).name, .sl (Qf (List.getD p1.managers i1 (Manager.mk (⟨#[]⟩ : ByteArray) [])).fields)], .str (List.getD p1.managers i1 (Manager.mk (⟨#[]⟩ : ByteArray) [])).name, .bool true, .bool true, .tup [], .tup [], .tup [], .tup [], .tup [], .tup [], .tup [], .tup [], .tup [], .tup [], .tup [], .tup [], .tup [], .tup [], .bool true]
def Qhr (p0 : Meta) (p1 : Meta) (_i1 : Nat) (_x1 : Manager) : List (Nat × List PV) :=
  [(0, [.str p0.kind, .str p0.namespace_, .str p0.name, .int .i64 p0.uid, .int .i64 p0.version, .int .i64 p0.generation, .int .i64 p0.created, .bool p0.deleting, .int .i64 p0.deleteAt, .sl (Label.rows p0.labels), .sl (Owner.rows p0.owners), .sl (Qf p0.finalizers), .sl (Manager.rows p0.managers)]), (1, [.str p1.kind, .str p1.namespace_, .str p1.name, .int .i64 p1.uid, .int .i64 p1.version, .int .i64 p1.generation, .int .i64 p1.created, .bool p1.deleting, .int .i64 p1.deleteAt, .sl (Label.rows p1.labels), .sl (Owner.rows p1.owners), .sl (Qf p1.finalizers), .sl (Manager.rows p1.managers)])]
theorem Q12l (p0 : Meta) (p1 : Meta) (H : Q9q p0 p1) (x1 : Manager) (i1 : Nat) (hx1 : p0.managers[i1]? = some x1) (_hi1 : i1 < List.length p0.managers) (hc1 : (decide ((i1 : Int) < ((List.length p0.managers) : Int))) = true) (h0 : (sEq x1.name (List.getD p1.managers i1 (Manager.mk (⟨#[]⟩ : ByteArray) [])).name) = false) : Q99 p0 p1 (Q6l p0 p1 i1) (.k1) := by
 exact ⟨(envF (Qm1 p0 p1 i1 x1)), (zoF (Qhr p0 p1 i1 x1)), Qg VOK.nil (x := (.ret, Q98 p0 p1 (envF (Qm1 p0 p1 i1 x1)) (zoF (Qhr p0 p1 i1 x1)))) [hP 3 (Qe (Manager.rows p0.managers) (List.length p0.managers) (Manager.Q5 p0.managers)), hB 0 hc1, hP 3 (Q1f 2 (Manager.rows p0.managers) i1 _ (Manager.Qa hx1) rfl), hP 5 (Q1f 2 (Manager.rows p1.managers) i1 _ (Manager.Qa (Q2b p1.managers i1 (Manager.mk (⟨#[]⟩ : ByteArray) []) ((H.2.1 i1 x1 hx1)))) rfl), hP 2 (dec (!(sEq x1.name (List.getD p1.managers i1 (Manager.mk (⟨#[]⟩ : ByteArray) [])).name)) true (by rw [h0]; rfl))] [] (by kernel_rfl)⟩
theorem Qu9 (p0 : Meta) (p1 : Meta) (H : Q9q p0 p1) : ∀ (r1 : List Manager) (i1 : Nat), List.drop i1 p0.managers = r1 → Q99 p0 p1 (Q6l p0 p1 i1) (Q5v p0 p1 r1 i1)
 | [], i1, hd => by
  have hc1 : (decide ((i1 : Int) < ((List.length p0.managers) : Int))) = false := by have := Q1b hd; simp; omega
  rw [Q5v]
  exact Q12p p0 p1 H i1 hc1
 | x1 :: r1, i1, hd => by
  obtain ⟨hx1, hi1, hd'⟩ := Q14 hd
  have hc1 : (decide ((i1 : Int) < ((List.length p0.managers) : Int))) = true := by simp; omega
  rw [Q5v]
  cases h0 : (sEq x1.name (List.getD p1.managers i1 (Manager.mk (⟨#[]⟩ : ByteArray) [])).name) with
  | true =>
   cases h1 : (Q9r x1.fields (List.getD p1.managers i1 (Manager.mk (⟨#[]⟩ : ByteArray) [])).fields) with
   | true =>
    exact Qq5 p0 p1 (fun r hr => Q13y p0 p1 H x1 i1 hx1 hi1 hc1 h0 h1 hr) _ (Qu9 p0 p1 H r1 (i1 + 1) hd')
   | false =>
    exact Q11g p0 p1 H x1 i1 hx1 hi1 hc1 h0 h1
  | false =>
   exact Q12l p0 p1 H x1 i1 hx1 hi1 hc1 h0
def Q11d (p0 : Meta) (p1 : Meta) : Bool :=
 bif (sEq p0.kind p1.kind) then
  bif (sEq p0.namespace_ p1.namespace_) then
   bif (sEq p0.name p1.name) then
    bif (p0.uid == p1.uid) then
     bif (p0.version == p1.version) then
      bif (p0.generation == p1.generation) then
       bif (p0.created == p1.created) then
        bif (p0.deleting == p1.deleting) then
         bif (p0.deleteAt == p1.deleteAt) then
          bif (Qcz p0.labels p1.labels) then
           bif (Q9r p0.finalizers p1.finalizers) then
            bif (((List.length p0.owners) : Int) == ((List.length p1.owners) : Int)) then
             bif (((List.length p0.managers) : Int) == ((List.length p1.managers) : Int)) then
              (match (Q5u p0 p1 p0.owners 0) with
              | .k0 => (match (Q5v p0 p1 p0.managers 0) with
               | .k0 => true
               | .k1 => false)
              | .k1 => false)
             else
              false
            else
             false
           else
            false
          else
           false
         else
          false
        else
         false
       else
        false
      else
       false
     else
      false
    else
     false
   else
    false
  else
   false
 else
  false
def Q8q (p0 : Meta) (p1 : Meta) : En := .call 58 [.agg (Meta.cells p0), .agg (Meta.cells p1)] []
def Q1ey (p0 : Meta) (p1 : Meta) : Rs := .ret (.bool (Q11d p0 p1)) []
def Q7a (p0 : Meta) (p1 : Meta) : Prop := (Q1db p0.labels p1.labels) ∧ (Q1co p0.finalizers p1.finalizers) ∧ ((((List.length p0.owners) : Int) == ((List.length p1.owners) : Int)) = true → (((List.length p0.managers) : Int) == ((List.length p1.managers) : Int)) = true → Qay p0 p1) ∧ ((((List.length p0.owners) : Int) == ((List.length p1.owners) : Int)) = true → (((List.length p0.managers) : Int) == ((List.length p1.managers) : Int)) = true → Q9q p0 p1) ∧ True
theorem Q1bk (p0 : Meta) (p1 : Meta) (H : Q7a p0 p1) (h0 : (sEq p0.kind p1.kind) = true) (h1 : (sEq p0.namespace_ p1.namespace_) = true) (h2 : (sEq p0.name p1.name) = true) (h3 : (p0.uid == p1.uid) = true) (h4 : (p0.version == p1.version) = true) (h5 : (p0.generation == p1.generation) = true) (h6 : (p0.created == p1.created) = true) (h7 : (p0.deleting == p1.deleting) = true) (h8 : (p0.deleteAt == p1.deleteAt) = true) (h9 : (Qcz p0.labels p1.labels) = true) (h10 : (Q9r p0.finalizers p1.finalizers) = true) (h11 : (((List.length p0.owners) : Int) == ((List.length p1.owners) : Int)) = true) (h12 : (((List.length p0.managers) : Int) == ((List.length p1.managers) : Int)) = true) (z13 : Nat → PV) (zo13 : Nat → List PV) (hl13 : Q6 G (Q6o p0 p1 0) (.st (.exit 0) (Q97 p0 p1 z13 zo13))) (z14 : Nat → PV) (zo14 : Nat → List PV) (hl14 : Q6 G (Q6l p0 p1 0) (.st (.exit 2) (Qcj p0 p1 z14 zo14))) : Q6 G (Q8q p0 p1) (.ret (.bool (true)) []) := by
 exact Qb (fn := Ir.K2j) rfl VOK.nil [hP 7 (dec (!(sEq p0.kind p1.kind)) false (by rw [h0]; rfl)), hP 5 (dec (!(sEq p0.namespace_ p1.namespace_)) false (by rw [h1]; rfl)), hP 6 (dec (!(sEq p0.name p1.name)) false (by rw [h2]; rfl)), hP 6 (dec (!(p0.uid == p1.uid)) false (by rw [h3]; rfl)), hP 6 (dec (!(p0.version == p1.version)) false (by rw [h4]; rfl)), hP 6 (dec (!(p0.generation == p1.generation)) false (by rw [h5]; rfl)), hP 6 (dec (!(p0.created == p1.created)) false (by rw [h6]; rfl)), hP 6 (dec (!(p0.deleting == p1.deleting)) false (by rw [h7]; rfl)), hP 6 (dec (!(p0.deleteAt == p1.deleteAt)) false (by rw [h8]; rfl)), hP 18 (Qe (Owner.rows p0.owners) (List.length p0.owners) (Owner.Q5 p0.owners)), hP 2 (Qe (Owner.rows p1.owners) (List.length p1.owners) (Owner.Q5 p1.owners)), hP 0 (dec (!(((List.length p0.owners) : Int) == ((List.length p1.owners) : Int))) false (by rw [h11]; rfl)), hP 4 (Qe (Manager.rows p0.managers) (List.length p0.managers) (Manager.Q5 p0.managers)), hP 2 (Qe (Manager.rows p1.managers) (List.length p1.managers) (Manager.Q5 p1.managers)), hP 0 (dec (!(((List.length p0.managers) : Int) == ((List.length p1.managers) : Int))) false (by rw [h12]; rfl))] [aB (Qx3 p0.labels p1.labels H.1) h9, aB (Qw6 p0.finalizers p1.finalizers H.2.1) h10, aN hl13, aN hl14] (by kernel_rfl)
theorem Q1bs (p0 : Meta) (p1 : Meta) (H : Q7a p0 p1) (h0 : (sEq p0.kind p1.kind) = true) (h1 : (sEq p0.namespace_ p1.namespace_) = true) (h2 : (sEq p0.name p1.name) = true) (h3 : (p0.uid == p1.uid) = true) (h4 : (p0.version == p1.version) = true) (h5 : (p0.generation == p1.generation) = true) (h6 : (p0.created == p1.created) = true) (h7 : (p0.deleting == p1.deleting) = true) (h8 : (p0.deleteAt == p1.deleteAt) = true) (h9 : (Qcz p0.labels p1.labels) = true) (h10 : (Q9r p0.finalizers p1.finalizers) = true) (h11 : (((List.length p0.owners) : Int) == ((List.length p1.owners) : Int)) = true) (h12 : (((List.length p0.managers) : Int) == ((List.length p1.managers) : Int)) = true) (z13 : Nat → PV) (zo13 : Nat → List PV) (hl13 : Q6 G (Q6o p0 p1 0) (.st (.exit 0) (Q97 p0 p1 z13 zo13))) (z14 : Nat → PV) (zo14 : Nat → List PV) (hl14 : Q6 G (Q6l p0 p1 0) (.st .ret (Q98 p0 p1 z14 zo14))) : Q6 G (Q8q p0 p1) (.ret (.bool (false)) []) := by
 exact Qb (fn := Ir.K2j) rfl VOK.nil [hP 7 (dec (!(sEq p0.kind p1.kind)) false (by rw [h0]; rfl)), hP 5 (dec (!(sEq p0.namespace_ p1.namespace_)) false (by rw [h1]; rfl)), hP 6 (dec (!(sEq p0.name p1.name)) false (by rw [h2]; rfl)), hP 6 (dec (!(p0.uid == p1.uid)) false (by rw [h3]; rfl)), hP 6 (dec (!(p0.version == p1.version)) false (by rw [h4]; rfl)), hP 6 (dec (!(p0.generation == p1.generation)) false (by rw [h5]; rfl)), hP 6 (dec (!(p0.created == p1.created)) false (by rw [h6]; rfl)), hP 6 (dec (!(p0.deleting == p1.deleting)) false (by rw [h7]; rfl)), hP 6 (dec (!(p0.deleteAt == p1.deleteAt)) false (by rw [h8]; rfl)), hP 18 (Qe (Owner.rows p0.owners) (List.length p0.owners) (Owner.Q5 p0.owners)), hP 2 (Qe (Owner.rows p1.owners) (List.length p1.owners) (Owner.Q5 p1.owners)), hP 0 (dec (!(((List.length p0.owners) : Int) == ((List.length p1.owners) : Int))) false (by rw [h11]; rfl)), hP 4 (Qe (Manager.rows p0.managers) (List.length p0.managers) (Manager.Q5 p0.managers)), hP 2 (Qe (Manager.rows p1.managers) (List.length p1.managers) (Manager.Q5 p1.managers)), hP 0 (dec (!(((List.length p0.managers) : Int) == ((List.length p1.managers) : Int))) false (by rw [h12]; rfl))] [aB (Qx3 p0.labels p1.labels H.1) h9, aB (Qw6 p0.finalizers p1.finalizers H.2.1) h10, aN hl13, aN hl14] (by kernel_rfl)
theorem Q1b9 (p0 : Meta) (p1 : Meta) (H : Q7a p0 p1) (h0 : (sEq p0.kind p1.kind) = true) (h1 : (sEq p0.namespace_ p1.namespace_) = true) (h2 : (sEq p0.name p1.name) = true) (h3 : (p0.uid == p1.uid) = true) (h4 : (p0.version == p1.version) = true) (h5 : (p0.generation == p1.generation) = true) (h6 : (p0.created == p1.created) = true) (h7 : (p0.deleting == p1.deleting) = true) (h8 : (p0.deleteAt == p1.deleteAt) = true) (h9 : (Qcz p0.labels p1.labels) = true) (h10 : (Q9r p0.finalizers p1.finalizers) = true) (h11 : (((List.length p0.owners) : Int) == ((List.length p1.owners) : Int)) = true) (h12 : (((List.length p0.managers) : Int) == ((List.length p1.managers) : Int)) = true) (z13 : Nat → PV) (zo13 : Nat → List PV) (hl13 : Q6 G (Q6o p0 p1 0) (.st .ret (Qc3 p0 p1 z13 zo13))) : Q6 G (Q8q p0 p1) (.ret (.bool (false)) []) := by
 exact Qb (fn := Ir.K2j) rfl VOK.nil [hP 7 (dec (!(sEq p0.kind p1.kind)) false (by rw [h0]; rfl)), hP 5 (dec (!(sEq p0.namespace_ p1.namespace_)) false (by rw [h1]; rfl)), hP 6 (dec (!(sEq p0.name p1.name)) false (by rw [h2]; rfl)), hP 6 (dec (!(p0.uid == p1.uid)) false (by rw [h3]; rfl)), hP 6 (dec (!(p0.version == p1.version)) false (by rw [h4]; rfl)), hP 6 (dec (!(p0.generation == p1.generation)) false (by rw [h5]; rfl)), hP 6 (dec (!(p0.created == p1.created)) false (by rw [h6]; rfl)), hP 6 (dec (!(p0.deleting == p1.deleting)) false (by rw [h7]; rfl)), hP 6 (dec (!(p0.deleteAt == p1.deleteAt)) false (by rw [h8]; rfl)), hP 18 (Qe (Owner.rows p0.owners) (List.length p0.owners) (Owner.Q5 p0.owners)), hP 2 (Qe (Owner.rows p1.owners) (List.length p1.owners) (Owner.Q5 p1.owners)), hP 0 (dec (!(((List.length p0.owners) : Int) == ((List.length p1.owners) : Int))) false (by rw [h11]; rfl)), hP 4 (Qe (Manager.rows p0.managers) (List.length p0.managers) (Manager.Q5 p0.managers)), hP 2 (Qe (Manager.rows p1.managers) (List.length p1.managers) (Manager.Q5 p1.managers)), hP 0 (dec (!(((List.length p0.managers) : Int) == ((List.length p1.managers) : Int))) false (by rw [h12]; rfl))] [aB (Qx3 p0.labels p1.labels H.1) h9, aB (Qw6 p0.finalizers p1.finalizers H.2.1) h10, aN hl13] (by kernel_rfl)
theorem Q1c0 (p0 : Meta) (p1 : Meta) (H : Q7a p0 p1) (h0 : (sEq p0.kind p1.kind) = true) (h1 : (sEq p0.namespace_ p1.namespace_) = true) (h2 : (sEq p0.name p1.name) = true) (h3 : (p0.uid == p1.uid) = true) (h4 : (p0.version == p1.version) = true) (h5 : (p0.generation == p1.generation) = true) (h6 : (p0.created == p1.created) = true) (h7 : (p0.deleting == p1.deleting) = true) (h8 : (p0.deleteAt == p1.deleteAt) = true) (h9 : (Qcz p0.labels p1.labels) = true) (h10 : (Q9r p0.finalizers p1.finalizers) = true) (h11 : (((List.length p0.owners) : Int) == ((List.length p1.owners) : Int)) = true) (h12 : (((List.length p0.managers) : Int) == ((List.length p1.managers) : Int)) = false) : Q6 G (Q8q p0 p1) (.ret (.bool (false)) []) := by
 exact Qb (fn := Ir.K2j) rfl VOK.nil [hP 7 (dec (!(sEq p0.kind p1.kind)) false (by rw [h0]; rfl)), hP 5 (dec (!(sEq p0.namespace_ p1.namespace_)) false (by rw [h1]; rfl)), hP 6 (dec (!(sEq p0.name p1.name)) false (by rw [h2]; rfl)), hP 6 (dec (!(p0.uid == p1.uid)) false (by rw [h3]; rfl)), hP 6 (dec (!(p0.version == p1.version)) false (by rw [h4]; rfl)), hP 6 (dec (!(p0.generation == p1.generation)) false (by rw [h5]; rfl)), hP 6 (dec (!(p0.created == p1.created)) false (by rw [h6]; rfl)), hP 6 (dec (!(p0.deleting == p1.deleting)) false (by rw [h7]; rfl)), hP 6 (dec (!(p0.deleteAt == p1.deleteAt)) false (by rw [h8]; rfl)), hP 18 (Qe (Owner.rows p0.owners) (List.length p0.owners) (Owner.Q5 p0.owners)), hP 2 (Qe (Owner.rows p1.owners) (List.length p1.owners) (Owner.Q5 p1.owners)), hP 0 (dec (!(((List.length p0.owners) : Int) == ((List.length p1.owners) : Int))) false (by rw [h11]; rfl)), hP 4 (Qe (Manager.rows p0.managers) (List.length p0.managers) (Manager.Q5 p0.managers)), hP 2 (Qe (Manager.rows p1.managers) (List.length p1.managers) (Manager.Q5 p1.managers)), hP 0 (dec (!(((List.length p0.managers) : Int) == ((List.length p1.managers) : Int))) true (by rw [h12]; rfl))] [aB (Qx3 p0.labels p1.labels H.1) h9, aB (Qw6 p0.finalizers p1.finalizers H.2.1) h10] (by kernel_rfl)
theorem Q1b4 (p0 : Meta) (p1 : Meta) (H : Q7a p0 p1) (h0 : (sEq p0.kind p1.kind) = true) (h1 : (sEq p0.namespace_ p1.namespace_) = true) (h2 : (sEq p0.name p1.name) = true) (h3 : (p0.uid == p1.uid) = true) (h4 : (p0.version == p1.version) = true) (h5 : (p0.generation == p1.generation) = true) (h6 : (p0.created == p1.created) = true) (h7 : (p0.deleting == p1.deleting) = true) (h8 : (p0.deleteAt == p1.deleteAt) = true) (h9 : (Qcz p0.labels p1.labels) = true) (h10 : (Q9r p0.finalizers p1.finalizers) = true) (h11 : (((List.length p0.owners) : Int) == ((List.length p1.owners) : Int)) = false) : Q6 G (Q8q p0 p1) (.ret (.bool (false)) []) := by
 exact Qb (fn := Ir.K2j) rfl VOK.nil [hP 7 (dec (!(sEq p0.kind p1.kind)) false (by rw [h0]; rfl)), hP 5 (dec (!(sEq p0.namespace_ p1.namespace_)) false (by rw [h1]; rfl)), hP 6 (dec (!(sEq p0.name p1.name)) false (by rw [h2]; rfl)), hP 6 (dec (!(p0.uid == p1.uid)) false (by rw [h3]; rfl)), hP 6 (dec (!(p0.version == p1.version)) false (by rw [h4]; rfl)), hP 6 (dec (!(p0.generation == p1.generation)) false (by rw [h5]; rfl)), hP 6 (dec (!(p0.created == p1.created)) false (by rw [h6]; rfl)), hP 6 (dec (!(p0.deleting == p1.deleting)) false (by rw [h7]; rfl)), hP 6 (dec (!(p0.deleteAt == p1.deleteAt)) false (by rw [h8]; rfl)), hP 18 (Qe (Owner.rows p0.owners) (List.length p0.owners) (Owner.Q5 p0.owners)), hP 2 (Qe (Owner.rows p1.owners) (List.length p1.owners) (Owner.Q5 p1.owners)), hP 0 (dec (!(((List.length p0.owners) : Int) == ((List.length p1.owners) : Int))) true (by rw [h11]; rfl))] [aB (Qx3 p0.labels p1.labels H.1) h9, aB (Qw6 p0.finalizers p1.finalizers H.2.1) h10] (by kernel_rfl)
theorem Q1cw (p0 : Meta) (p1 : Meta) (H : Q7a p0 p1) (h0 : (sEq p0.kind p1.kind) = true) (h1 : (sEq p0.namespace_ p1.namespace_) = true) (h2 : (sEq p0.name p1.name) = true) (h3 : (p0.uid == p1.uid) = true) (h4 : (p0.version == p1.version) = true) (h5 : (p0.generation == p1.generation) = true) (h6 : (p0.created == p1.created) = true) (h7 : (p0.deleting == p1.deleting) = true) (h8 : (p0.deleteAt == p1.deleteAt) = true) (h9 : (Qcz p0.labels p1.labels) = true) (h10 : (Q9r p0.finalizers p1.finalizers) = false) : Q6 G (Q8q p0 p1) (.ret (.bool (false)) []) := by
 exact Qb (fn := Ir.K2j) rfl VOK.nil [hP 7 (dec (!(sEq p0.kind p1.kind)) false (by rw [h0]; rfl)), hP 5 (dec (!(sEq p0.namespace_ p1.namespace_)) false (by rw [h1]; rfl)), hP 6 (dec (!(sEq p0.name p1.name)) false (by rw [h2]; rfl)), hP 6 (dec (!(p0.uid == p1.uid)) false (by rw [h3]; rfl)), hP 6 (dec (!(p0.version == p1.version)) false (by rw [h4]; rfl)), hP 6 (dec (!(p0.generation == p1.generation)) false (by rw [h5]; rfl)), hP 6 (dec (!(p0.created == p1.created)) false (by rw [h6]; rfl)), hP 6 (dec (!(p0.deleting == p1.deleting)) false (by rw [h7]; rfl)), hP 6 (dec (!(p0.deleteAt == p1.deleteAt)) false (by rw [h8]; rfl))] [aB (Qx3 p0.labels p1.labels H.1) h9, aB (Qw6 p0.finalizers p1.finalizers H.2.1) h10] (by kernel_rfl)
theorem Q1cq (p0 : Meta) (p1 : Meta) (H : Q7a p0 p1) (h0 : (sEq p0.kind p1.kind) = true) (h1 : (sEq p0.namespace_ p1.namespace_) = true) (h2 : (sEq p0.name p1.name) = true) (h3 : (p0.uid == p1.uid) = true) (h4 : (p0.version == p1.version) = true) (h5 : (p0.generation == p1.generation) = true) (h6 : (p0.created == p1.created) = true) (h7 : (p0.deleting == p1.deleting) = true) (h8 : (p0.deleteAt == p1.deleteAt) = true) (h9 : (Qcz p0.labels p1.labels) = false) : Q6 G (Q8q p0 p1) (.ret (.bool (false)) []) := by
 exact Qb (fn := Ir.K2j) rfl VOK.nil [hP 7 (dec (!(sEq p0.kind p1.kind)) false (by rw [h0]; rfl)), hP 5 (dec (!(sEq p0.namespace_ p1.namespace_)) false (by rw [h1]; rfl)), hP 6 (dec (!(sEq p0.name p1.name)) false (by rw [h2]; rfl)), hP 6 (dec (!(p0.uid == p1.uid)) false (by rw [h3]; rfl)), hP 6 (dec (!(p0.version == p1.version)) false (by rw [h4]; rfl)), hP 6 (dec (!(p0.generation == p1.generation)) false (by rw [h5]; rfl)), hP 6 (dec (!(p0.created == p1.created)) false (by rw [h6]; rfl)), hP 6 (dec (!(p0.deleting == p1.deleting)) false (by rw [h7]; rfl)), hP 6 (dec (!(p0.deleteAt == p1.deleteAt)) false (by rw [h8]; rfl))] [aB (Qx3 p0.labels p1.labels H.1) h9] (by kernel_rfl)
theorem Q1bl (p0 : Meta) (p1 : Meta) (_H : Q7a p0 p1) (h0 : (sEq p0.kind p1.kind) = true) (h1 : (sEq p0.namespace_ p1.namespace_) = true) (h2 : (sEq p0.name p1.name) = true) (h3 : (p0.uid == p1.uid) = true) (h4 : (p0.version == p1.version) = true) (h5 : (p0.generation == p1.generation) = true) (h6 : (p0.created == p1.created) = true) (h7 : (p0.deleting == p1.deleting) = true) (h8 : (p0.deleteAt == p1.deleteAt) = false) : Q6 G (Q8q p0 p1) (.ret (.bool (false)) []) := by
 exact Qb (fn := Ir.K2j) rfl VOK.nil [hP 7 (dec (!(sEq p0.kind p1.kind)) false (by rw [h0]; rfl)), hP 5 (dec (!(sEq p0.namespace_ p1.namespace_)) false (by rw [h1]; rfl)), hP 6 (dec (!(sEq p0.name p1.name)) false (by rw [h2]; rfl)), hP 6 (dec (!(p0.uid == p1.uid)) false (by rw [h3]; rfl)), hP 6 (dec (!(p0.version == p1.version)) false (by rw [h4]; rfl)), hP 6 (dec (!(p0.generation == p1.generation)) false (by rw [h5]; rfl)), hP 6 (dec (!(p0.created == p1.created)) false (by rw [h6]; rfl)), hP 6 (dec (!(p0.deleting == p1.deleting)) false (by rw [h7]; rfl)), hP 6 (dec (!(p0.deleteAt == p1.deleteAt)) true (by rw [h8]; rfl))] [] (by kernel_rfl)
theorem Q1bv (p0 : Meta) (p1 : Meta) (_H : Q7a p0 p1) (h0 : (sEq p0.kind p1.kind) = true) (h1 : (sEq p0.namespace_ p1.namespace_) = true) (h2 : (sEq p0.name p1.name) = true) (h3 : (p0.uid == p1.uid) = true) (h4 : (p0.version == p1.version) = true) (h5 : (p0.generation == p1.generation) = true) (h6 : (p0.created == p1.created) = true) (h7 : (p0.deleting == p1.deleting) = false) : Q6 G (Q8q p0 p1) (.ret (.bool (false)) []) := by
 exact Qb (fn := Ir.K2j) rfl VOK.nil [hP 7 (dec (!(sEq p0.kind p1.kind)) false (by rw [h0]; rfl)), hP 5 (dec (!(sEq p0.namespace_ p1.namespace_)) false (by rw [h1]; rfl)), hP 6 (dec (!(sEq p0.name p1.name)) false (by rw [h2]; rfl)), hP 6 (dec (!(p0.uid == p1.uid)) false (by rw [h3]; rfl)), hP 6 (dec (!(p0.version == p1.version)) false (by rw [h4]; rfl)), hP 6 (dec (!(p0.generation == p1.generation)) false (by rw [h5]; rfl)), hP 6 (dec (!(p0.created == p1.created)) false (by rw [h6]; rfl)), hP 6 (dec (!(p0.deleting == p1.deleting)) true (by rw [h7]; rfl))] [] (by kernel_rfl)
theorem Q1b2 (p0 : Meta) (p1 : Meta) (_H : Q7a p0 p1) (h0 : (sEq p0.kind p1.kind) = true) (h1 : (sEq p0.namespace_ p1.namespace_) = true) (h2 : (sEq p0.name p1.name) = true) (h3 : (p0.uid == p1.uid) = true) (h4 : (p0.version == p1.version) = true) (h5 : (p0.generation == p1.generation) = true) (h6 : (p0.created == p1.created) = false) : Q6 G (Q8q p0 p1) (.ret (.bool (false)) []) := by
 exact Qb (fn := Ir.K2j) rfl VOK.nil [hP 7 (dec (!(sEq p0.kind p1.kind)) false (by rw [h0]; rfl)), hP 5 (dec (!(sEq p0.namespace_ p1.namespace_)) false (by rw [h1]; rfl)), hP 6 (dec (!(sEq p0.name p1.name)) false (by rw [h2]; rfl)), hP 6 (dec (!(p0.uid == p1.uid)) false (by rw [h3]; rfl)), hP 6 (dec (!(p0.version == p1.version)) false (by rw [h4]; rfl)), hP 6 (dec (!(p0.generation == p1.generation)) false (by rw [h5]; rfl)), hP 6 (dec (!(p0.created == p1.created)) true (by rw [h6]; rfl))] [] (by kernel_rfl)
theorem Q196 (p0 : Meta) (p1 : Meta) (_H : Q7a p0 p1) (h0 : (sEq p0.kind p1.kind) = true) (h1 : (sEq p0.namespace_ p1.namespace_) = true) (h2 : (sEq p0.name p1.name) = true) (h3 : (p0.uid == p1.uid) = true) (h4 : (p0.version == p1.version) = true) (h5 : (p0.generation == p1.generation) = false) : Q6 G (Q8q p0 p1) (.ret (.bool (false)) []) := by
 exact Qb (fn := Ir.K2j) rfl VOK.nil [hP 7 (dec (!(sEq p0.kind p1.kind)) false (by rw [h0]; rfl)), hP 5 (dec (!(sEq p0.namespace_ p1.namespace_)) false (by rw [h1]; rfl)), hP 6 (dec (!(sEq p0.name p1.name)) false (by rw [h2]; rfl)), hP 6 (dec (!(p0.uid == p1.uid)) false (by rw [h3]; rfl)), hP 6 (dec (!(p0.version == p1.version)) false (by rw [h4]; rfl)), hP 6 (dec (!(p0.generation == p1.generation)) true (by rw [h5]; rfl))] [] (by kernel_rfl)
theorem Q18v (p0 : Meta) (p1 : Meta) (_H : Q7a p0 p1) (h0 : (sEq p0.kind p1.kind) = true) (h1 : (sEq p0.namespace_ p1.namespace_) = true) (h2 : (sEq p0.name p1.name) = true) (h3 : (p0.uid == p1.uid) = true) (h4 : (p0.version == p1.version) = false) : Q6 G (Q8q p0 p1) (.ret (.bool (false)) []) := by
 exact Qb (fn := Ir.K2j) rfl VOK.nil [hP 7 (dec (!(sEq p0.kind p1.kind)) false (by rw [h0]; rfl)), hP 5 (dec (!(sEq p0.namespace_ p1.namespace_)) false (by rw [h1]; rfl)), hP 6 (dec (!(sEq p0.name p1.name)) false (by rw [h2]; rfl)), hP 6 (dec (!(p0.uid == p1.uid)) false (by rw [h3]; rfl)), hP 6 (dec (!(p0.version == p1.version)) true (by rw [h4]; rfl))] [] (by kernel_rfl)
theorem Q17v (p0 : Meta) (p1 : Meta) (_H : Q7a p0 p1) (h0 : (sEq p0.kind p1.kind) = true) (h1 : (sEq p0.namespace_ p1.namespace_) = true) (h2 : (sEq p0.name p1.name) = true) (h3 : (p0.uid == p1.uid) = false) : Q6 G (Q8q p0 p1) (.ret (.bool (false)) []) := by
 exact Qb (fn := Ir.K2j) rfl VOK.nil [hP 7 (dec (!(sEq p0.kind p1.kind)) false (by rw [h0]; rfl)), hP 5 (dec (!(sEq p0.namespace_ p1.namespace_)) false (by rw [h1]; rfl)), hP 6 (dec (!(sEq p0.name p1.name)) false (by rw [h2]; rfl)), hP 6 (dec (!(p0.uid == p1.uid)) true (by rw [h3]; rfl))] [] (by kernel_rfl)
theorem Q18r (p0 : Meta) (p1 : Meta) (_H : Q7a p0 p1) (h0 : (sEq p0.kind p1.kind) = true) (h1 : (sEq p0.namespace_ p1.namespace_) = true) (h2 : (sEq p0.name p1.name) = false) : Q6 G (Q8q p0 p1) (.ret (.bool (false)) []) := by
 exact Qb (fn := Ir.K2j) rfl VOK.nil [hP 7 (dec (!(sEq p0.kind p1.kind)) false (by rw [h0]; rfl)), hP 5 (dec (!(sEq p0.namespace_ p1.namespace_)) false (by rw [h1]; rfl)), hP 6 (dec (!(sEq p0.name p1.name)) true (by rw [h2]; rfl))] [] (by kernel_rfl)
theorem Q195 (p0 : Meta) (p1 : Meta) (_H : Q7a p0 p1) (h0 : (sEq p0.kind p1.kind) = true) (h1 : (sEq p0.namespace_ p1.namespace_) = false) : Q6 G (Q8q p0 p1) (.ret (.bool (false)) []) := by
 exact Qb (fn := Ir.K2j) rfl VOK.nil [hP 7 (dec (!(sEq p0.kind p1.kind)) false (by rw [h0]; rfl)), hP 5 (dec (!(sEq p0.namespace_ p1.namespace_)) true (by rw [h1]; rfl))] [] (by kernel_rfl)
theorem Q188 (p0 : Meta) (p1 : Meta) (_H : Q7a p0 p1) (h0 : (sEq p0.kind p1.kind) = false) : Q6 G (Q8q p0 p1) (.ret (.bool (false)) []) := by
 exact Qb (fn := Ir.K2j) rfl VOK.nil [hP 7 (dec (!(sEq p0.kind p1.kind)) true (by rw [h0]; rfl))] [] (by kernel_rfl)
theorem Q1bx (p0 : Meta) (p1 : Meta) (H : Q7a p0 p1) : Q6 G (Q8q p0 p1) (Q1ey p0 p1) := by
 unfold Q1ey Q11d
 cases h0 : (sEq p0.kind p1.kind) with
 | true =>
  cases h1 : (sEq p0.namespace_ p1.namespace_) with
  | true =>
   cases h2 : (sEq p0.name p1.name) with
   | true =>
    cases h3 : (p0.uid == p1.uid) with
    | true =>
     cases h4 : (p0.version == p1.version) with
     | true =>
      cases h5 : (p0.generation == p1.generation) with
      | true =>
       cases h6 : (p0.created == p1.created) with
       | true =>
        cases h7 : (p0.deleting == p1.deleting) with
        | true =>
         cases h8 : (p0.deleteAt == p1.deleteAt) with
         | true =>
          cases h9 : (Qcz p0.labels p1.labels) with
          | true =>
           cases h10 : (Q9r p0.finalizers p1.finalizers) with
           | true =>
            cases h11 : (((List.length p0.owners) : Int) == ((List.length p1.owners) : Int)) with
            | true =>
             cases h12 : (((List.length p0.managers) : Int) == ((List.length p1.managers) : Int)) with
             | true =>
              have hl13 := Qsl p0 p1 (H.2.2.1 h11 h12) p0.owners 0 (by simp)
              cases hr13 : (Q5u p0 p1 p0.owners 0) with
              | k0 =>
               rw [hr13] at hl13
               obtain ⟨z13, zo13, hl13⟩ := hl13
               try dsimp only
               have hl14 := Qu9 p0 p1 (H.2.2.2.1 h11 h12) p0.managers 0 (by simp)
               cases hr14 : (Q5v p0 p1 p0.managers 0) with
               | k0 =>
                rw [hr14] at hl14
                obtain ⟨z14, zo14, hl14⟩ := hl14
                exact Q1bk p0 p1 H h0 h1 h2 h3 h4 h5 h6 h7 h8 h9 h10 h11 h12 z13 zo13 hl13 z14 zo14 hl14
               | k1 =>
                rw [hr14] at hl14
                obtain ⟨z14, zo14, hl14⟩ := hl14
                exact Q1bs p0 p1 H h0 h1 h2 h3 h4 h5 h6 h7 h8 h9 h10 h11 h12 z13 zo13 hl13 z14 zo14 hl14
              | k1 =>
               rw [hr13] at hl13
               obtain ⟨z13, zo13, hl13⟩ := hl13
               exact Q1b9 p0 p1 H h0 h1 h2 h3 h4 h5 h6 h7 h8 h9 h10 h11 h12 z13 zo13 hl13
             | false =>
              exact Q1c0 p0 p1 H h0 h1 h2 h3 h4 h5 h6 h7 h8 h9 h10 h11 h12
            | false =>
             exact Q1b4 p0 p1 H h0 h1 h2 h3 h4 h5 h6 h7 h8 h9 h10 h11
           | false =>
            exact Q1cw p0 p1 H h0 h1 h2 h3 h4 h5 h6 h7 h8 h9 h10
          | false =>
           exact Q1cq p0 p1 H h0 h1 h2 h3 h4 h5 h6 h7 h8 h9
         | false =>
          exact Q1bl p0 p1 H h0 h1 h2 h3 h4 h5 h6 h7 h8
        | false =>
         exact Q1bv p0 p1 H h0 h1 h2 h3 h4 h5 h6 h7
       | false =>
        exact Q1b2 p0 p1 H h0 h1 h2 h3 h4 h5 h6
      | false =>
       exact Q196 p0 p1 H h0 h1 h2 h3 h4 h5
     | false =>
      exact Q18v p0 p1 H h0 h1 h2 h3 h4
    | false =>
     exact Q17v p0 p1 H h0 h1 h2 h3
   | false =>
    exact Q18r p0 p1 H h0 h1 h2
  | false =>
   exact Q195 p0 p1 H h0 h1
 | false =>
  exact Q188 p0 p1 H h0
def Q6x (p0 : Object) (p1 : Object) : Bool :=
 bif (Q11d p0.meta_ p1.meta_) then
  bif (Q5n p0.spec p1.spec) then
   (Q5n p0.status p1.status)
  else
   false
 else
  false
def Q1j8 (p0 : Object) (p1 : Object) : En := .call 24 [.agg (Object.cells p0), .agg (Object.cells p1)] []
def Q1ep (p0 : Object) (p1 : Object) : Rs := .ret (.bool (Q6x p0 p1)) []
def Q13c (p0 : Object) (p1 : Object) : Prop := (Q7a p0.meta_ p1.meta_) ∧ (Q7j p0.spec) ∧ (Q7j p0.status) ∧ True
theorem Qxj (p0 : Object) (p1 : Object) (H : Q13c p0 p1) : Q6 G (Q1j8 p0 p1) (Q1ep p0 p1) := by
 unfold Q1ep Q6x
 cases h0 : (Q11d p0.meta_ p1.meta_) with
 | true =>
  cases h1 : (Q5n p0.spec p1.spec) with
  | true =>
   exact Qb (fn := Ir.K2l) rfl VOK.nil [] [aB (Q1bx p0.meta_ p1.meta_ H.1) h0, aB (Q15y p0.spec p1.spec H.2.1) h1, aN (Q15y p0.status p1.status H.2.2.1)] (by kernel_rfl)
  | false =>
   exact Qb (fn := Ir.K2l) rfl VOK.nil [] [aB (Q1bx p0.meta_ p1.meta_ H.1) h0, aB (Q15y p0.spec p1.spec H.2.1) h1] (by kernel_rfl)
 | false =>
  exact Qb (fn := Ir.K2l) rfl VOK.nil [] [aB (Q1bx p0.meta_ p1.meta_ H.1) h0] (by kernel_rfl)
inductive Q152 where
  | k0
  | k1
def Qcl (p0 : Meta) : List Label → Nat → Q152
 | [], _i0 =>
  (.k0)
 | x0 :: r0, i0 =>
  bif (decide (400 < (w64 ((ByteArray.size x0.key : Int) + (ByteArray.size x0.value : Int))))) then
   (.k1)
  else
   Qcl p0 r0 (i0 + 1)
def Q10a (p0 : Meta) (i0 : Nat) : List PV :=
  [.un, .bx 0 0] ++ nuns 48 ++ [.sl (Label.rows p0.labels), .int .i64 ((List.length p0.labels) : Int), .int .i64 (i0 : Int)] ++ nuns 68
def Qxw (p0 : Meta) (_i0 : Nat) : List Ob :=
  [⟨13, 0, true, [.str p0.kind, .str p0.namespace_, .str p0.name, .int .i64 p0.uid, .int .i64 p0.version, .int .i64 p0.generation, .int .i64 p0.created, .bool p0.deleting, .int .i64 p0.deleteAt, .sl (Label.rows p0.labels), .sl (Owner.rows p0.owners), .sl (Qf p0.finalizers), .sl (Manager.rows p0.managers)]⟩]
def Q69 (p0 : Meta) (i0 : Nat) : En := .loop 0 Ir.Qpf Ir.Q1e5 (Q10a p0 i0) (Qxw p0 i0)
def Q66 (p0 : Meta) (z : Nat → PV) (_zo : Nat → List PV) : St :=
  ⟨[z 0, .bx 0 0] ++ zr z 2 119, [(0, ⟨13, 0, true, [.str p0.kind, .str p0.namespace_, .str p0.name, .int .i64 p0.uid, .int .i64 p0.version, .int .i64 p0.generation, .int .i64 p0.created, .bool p0.deleting, .int .i64 p0.deleteAt, .sl (Label.rows p0.labels), .sl (Owner.rows p0.owners), .sl (Qf p0.finalizers), .sl (Manager.rows p0.managers)]⟩)], 65⟩
def Qic (_p0 : Meta) (z : Nat → PV) (zo : Nat → List PV) : St :=
  ⟨[z 0, z 1, .bool false] ++ zr z 3 118, [(0, ⟨13, 0, true, zo 0⟩), (193, ⟨2, 0, true, zo 193⟩)], 897⟩
def Qkh (p0 : Meta) (e : En) : Q152 → Prop
  | .k0 => ∃ z zo, Q6 G e (.st (.exit 0) (Q66 p0 z zo))
  | .k1 => ∃ z zo, Q6 G e (.st .ret (Qic p0 z zo))
theorem Qv2 (p0 : Meta) {e e' : En} (h : ∀ r, Q6 G e r → Q6 G e' r) : ∀ q, Qkh p0 e q → Qkh p0 e' q
  | .k0, ⟨z, zo, hz⟩ => ⟨z, zo, h _ hz⟩
  | .k1, ⟨z, zo, hz⟩ => ⟨z, zo, h _ hz⟩
def Qks (p0 : Meta) : Prop := (List.length p0.labels ≤ 4611686018427387904) ∧ True
def Qte (p0 : Meta) (i0 : Nat) : List PV :=
  nuns 50 ++ [.sl (Label.rows p0.labels), .int .i64 ((List.length p0.labels) : Int), .int .i64 (i0 : Int), .bool false]
def Qnt (_p0 : Meta) (_i0 : Nat) : List (Nat × List PV) :=
  []
theorem Q153 (p0 : Meta) (_H : Qks p0) (i0 : Nat) (hc0 : (decide ((i0 : Int) < ((List.length p0.labels) : Int))) = false) : Qkh p0 (Q69 p0 i0) (.k0) := by
 exact ⟨(envF (Qte p0 i0)), (zoF (Qnt p0 i0)), Qg VOK.nil (x := ((.exit 0), Q66 p0 (envF (Qte p0 i0)) (zoF (Qnt p0 i0)))) [hB 0 hc0] [] (by kernel_rfl)⟩
def Qv3 (p0 : Meta) (i0 : Nat) (x0 : Label) : List PV :=
  [.un, .bx 0 0, .un, .un, .bx 193 0] ++ nuns 45 ++ [.sl (Label.rows p0.labels), .int .i64 ((List.length p0.labels) : Int), .int .i64 (i0 : Int), .bool true, .rf [.str x0.key, .str x0.value], .agg [.str x0.key, .str x0.value], .bx 193 0, .str x0.key, .int .i64 (ByteArray.size x0.key : Int), .bx 193 1, .str x0.value, .int .i64 (ByteArray.size x0.value : Int), .int .i64 (w64 ((ByteArray.size x0.key : Int) + (ByteArray.size x0.value : Int))), .bool true]
def Qms (p0 : Meta) (_i0 : Nat) (x0 : Label) : List (Nat × List PV) :=
  [(0, [.str p0.kind, .str p0.namespace_, .str p0.name, .int .i64 p0.uid, .int .i64 p0.version, .int .i64 p0.generation, .int .i64 p0.created, .bool p0.deleting, .int .i64 p0.deleteAt, .sl (Label.rows p0.labels), .sl (Owner.rows p0.owners), .sl (Qf p0.finalizers), .sl (Manager.rows p0.managers)]), (193, [.str x0.key, .str x0.value])]
theorem Q171 (p0 : Meta) (_H : Qks p0) (x0 : Label) (i0 : Nat) (hx0 : p0.labels[i0]? = some x0) (_hi0 : i0 < List.length p0.labels) (hc0 : (decide ((i0 : Int) < ((List.length p0.labels) : Int))) = true) (h0 : (decide (400 < (w64 ((ByteArray.size x0.key : Int) + (ByteArray.size x0.value : Int))))) = true) : Qkh p0 (Q69 p0 i0) (.k1) := by
 exact ⟨(envF (Qv3 p0 i0 x0)), (zoF (Qms p0 i0 x0)), Qg VOK.nil (x := (.ret, Qic p0 (envF (Qv3 p0 i0 x0)) (zoF (Qms p0 i0 x0)))) [hB 0 hc0, hP 0 (Q1f 2 (Label.rows p0.labels) i0 _ (Label.Qa hx0) rfl), hB 10 h0] [] (by kernel_rfl)⟩
theorem Q15o (p0 : Meta) (H : Qks p0) (x0 : Label) (i0 : Nat) (hx0 : p0.labels[i0]? = some x0) (hi0 : i0 < List.length p0.labels) (hc0 : (decide ((i0 : Int) < ((List.length p0.labels) : Int))) = true) (h0 : (decide (400 < (w64 ((ByteArray.size x0.key : Int) + (ByteArray.size x0.value : Int))))) = false) {r : Rs} (hr : Q6 G (Q69 p0 (i0 + 1)) r) : Q6 G (Q69 p0 i0) r := by
 have hB0 := H.1; have e0 := of_decide_eq_false h0
 exact Qk VOK.nil (y := (Q10a p0 (i0 + 1), Qxw p0 (i0 + 1))) [hB 0 hc0, hP 0 (Q1f 2 (Label.rows p0.labels) i0 _ (Label.Qa hx0) rfl), hB 10 h0, hP 0 (Q1y i0 (by omega))] [] (by kernel_rfl) hr
theorem Qyr (p0 : Meta) (H : Qks p0) : ∀ (r0 : List Label) (i0 : Nat), List.drop i0 p0.labels = r0 → Qkh p0 (Q69 p0 i0) (Qcl p0 r0 i0)
 | [], i0, hd => by
  have hc0 : (decide ((i0 : Int) < ((List.length p0.labels) : Int))) = false := by have := Q1b hd; simp; omega
  rw [Qcl]
  exact Q153 p0 H i0 hc0
 | x0 :: r0, i0, hd => by
  obtain ⟨hx0, hi0, hd'⟩ := Q14 hd
  have hc0 : (decide ((i0 : Int) < ((List.length p0.labels) : Int))) = true := by simp; omega
  rw [Qcl]
  cases h0 : (decide (400 < (w64 ((ByteArray.size x0.key : Int) + (ByteArray.size x0.value : Int))))) with
  | true =>
   exact Q171 p0 H x0 i0 hx0 hi0 hc0 h0
  | false =>
   exact Qv2 p0 (fun r hr => Q15o p0 H x0 i0 hx0 hi0 hc0 h0 hr) _ (Qyr p0 H r0 (i0 + 1) hd')
inductive Q159 where
  | k0
  | k1
def Qcn (p0 : Meta) : List Owner → Nat → Q159
 | [], _i1 =>
  (.k0)
 | x1 :: r1, i1 =>
  bif (decide (400 < (w64 ((ByteArray.size x1.kind : Int) + (ByteArray.size x1.name : Int))))) then
   (.k1)
  else
   Qcn p0 r1 (i1 + 1)
def Qz2 (p0 : Meta) (i1 : Nat) : List PV :=
  [.un, .bx 0 0] ++ nuns 64 ++ [.sl (Owner.rows p0.owners), .int .i64 ((List.length p0.owners) : Int), .int .i64 (i1 : Int)] ++ nuns 52
def Qyg (p0 : Meta) (_i1 : Nat) : List Ob :=
  [⟨13, 0, true, [.str p0.kind, .str p0.namespace_, .str p0.name, .int .i64 p0.uid, .int .i64 p0.version, .int .i64 p0.generation, .int .i64 p0.created, .bool p0.deleting, .int .i64 p0.deleteAt, .sl (Label.rows p0.labels), .sl (Owner.rows p0.owners), .sl (Qf p0.finalizers), .sl (Manager.rows p0.managers)]⟩]
def Q75 (p0 : Meta) (i1 : Nat) : En := .loop 0 Ir.Qm3 Ir.Q1er (Qz2 p0 i1) (Qyg p0 i1)
def Q7f (p0 : Meta) (z : Nat → PV) (_zo : Nat → List PV) : St :=
  ⟨[z 0, .bx 0 0] ++ zr z 2 119, [(0, ⟨13, 0, true, [.str p0.kind, .str p0.namespace_, .str p0.name, .int .i64 p0.uid, .int .i64 p0.version, .int .i64 p0.generation, .int .i64 p0.created, .bool p0.deleting, .int .i64 p0.deleteAt, .sl (Label.rows p0.labels), .sl (Owner.rows p0.owners), .sl (Qf p0.finalizers), .sl (Manager.rows p0.managers)]⟩)], 65⟩
def Qhc (_p0 : Meta) (z : Nat → PV) (zo : Nat → List PV) : St :=
  ⟨[z 0, z 1, .bool false] ++ zr z 3 118, [(0, ⟨13, 0, true, zo 0⟩), (193, ⟨5, 0, true, zo 193⟩)], 897⟩
def Qhy (p0 : Meta) (e : En) : Q159 → Prop
  | .k0 => ∃ z zo, Q6 G e (.st (.exit 2) (Q7f p0 z zo))
  | .k1 => ∃ z zo, Q6 G e (.st .ret (Qhc p0 z zo))
theorem Qs2 (p0 : Meta) {e e' : En} (h : ∀ r, Q6 G e r → Q6 G e' r) : ∀ q, Qhy p0 e q → Qhy p0 e' q
  | .k0, ⟨z, zo, hz⟩ => ⟨z, zo, h _ hz⟩
  | .k1, ⟨z, zo, hz⟩ => ⟨z, zo, h _ hz⟩
def Qh4 (p0 : Meta) : Prop := (List.length p0.owners ≤ 4611686018427387904) ∧ True
def Qu4 (p0 : Meta) (i1 : Nat) : List PV :=
  nuns 66 ++ [.sl (Owner.rows p0.owners), .int .i64 ((List.length p0.owners) : Int), .int .i64 (i1 : Int), .bool false]
def Qop (_p0 : Meta) (_i1 : Nat) : List (Nat × List PV) :=
  []
theorem Q176 (p0 : Meta) (_H : Qh4 p0) (i1 : Nat) (hc1 : (decide ((i1 : Int) < ((List.length p0.owners) : Int))) = false) : Qhy p0 (Q75 p0 i1) (.k0) := by
 exact ⟨(envF (Qu4 p0 i1)), (zoF (Qop p0 i1)), Qg VOK.nil (x := ((.exit 2), Q7f p0 (envF (Qu4 p0 i1)) (zoF (Qop p0 i1)))) [hB 0 hc1] [] (by kernel_rfl)⟩
def Qt5 (p0 : Meta) (i1 : Nat) (x1 : Owner) : List PV :=
  [.un, .bx 0 0, .un, .un, .un, .un, .bx 193 0] ++ nuns 59 ++ [.sl (Owner.rows p0.owners), .int .i64 ((List.length p0.owners) : Int), .int .i64 (i1 : Int), .bool true, .rf [.str x1.kind, .str x1.name, .int .i64 x1.uid, .bool x1.controller, .bool x1.block], .agg [.str x1.kind, .str x1.name, .int .i64 x1.uid, .bool x1.controller, .bool x1.block], .bx 193 0, .str x1.kind, .int .i64 (ByteArray.size x1.kind : Int), .bx 193 1, .str x1.name, .int .i64 (ByteArray.size x1.name : Int), .int .i64 (w64 ((ByteArray.size x1.kind : Int) + (ByteArray.size x1.name : Int))), .bool true]
def Qo4 (p0 : Meta) (_i1 : Nat) (x1 : Owner) : List (Nat × List PV) :=
  [(0, [.str p0.kind, .str p0.namespace_, .str p0.name, .int .i64 p0.uid, .int .i64 p0.version, .int .i64 p0.generation, .int .i64 p0.created, .bool p0.deleting, .int .i64 p0.deleteAt, .sl (Label.rows p0.labels), .sl (Owner.rows p0.owners), .sl (Qf p0.finalizers), .sl (Manager.rows p0.managers)]), (193, [.str x1.kind, .str x1.name, .int .i64 x1.uid, .bool x1.controller, .bool x1.block])]
theorem Q15m (p0 : Meta) (_H : Qh4 p0) (x1 : Owner) (i1 : Nat) (hx1 : p0.owners[i1]? = some x1) (_hi1 : i1 < List.length p0.owners) (hc1 : (decide ((i1 : Int) < ((List.length p0.owners) : Int))) = true) (h0 : (decide (400 < (w64 ((ByteArray.size x1.kind : Int) + (ByteArray.size x1.name : Int))))) = true) : Qhy p0 (Q75 p0 i1) (.k1) := by
 exact ⟨(envF (Qt5 p0 i1 x1)), (zoF (Qo4 p0 i1 x1)), Qg VOK.nil (x := (.ret, Qhc p0 (envF (Qt5 p0 i1 x1)) (zoF (Qo4 p0 i1 x1)))) [hB 0 hc1, hP 0 (Q1f 5 (Owner.rows p0.owners) i1 _ (Owner.Qa hx1) rfl), hB 10 h0] [] (by kernel_rfl)⟩
theorem Q16i (p0 : Meta) (H : Qh4 p0) (x1 : Owner) (i1 : Nat) (hx1 : p0.owners[i1]? = some x1) (hi1 : i1 < List.length p0.owners) (hc1 : (decide ((i1 : Int) < ((List.length p0.owners) : Int))) = true) (h0 : (decide (400 < (w64 ((ByteArray.size x1.kind : Int) + (ByteArray.size x1.name : Int))))) = false) {r : Rs} (hr : Q6 G (Q75 p0 (i1 + 1)) r) : Q6 G (Q75 p0 i1) r := by
 have hB0 := H.1; have e0 := of_decide_eq_false h0
 exact Qk VOK.nil (y := (Qz2 p0 (i1 + 1), Qyg p0 (i1 + 1))) [hB 0 hc1, hP 0 (Q1f 5 (Owner.rows p0.owners) i1 _ (Owner.Qa hx1) rfl), hB 10 h0, hP 0 (Q1y i1 (by omega))] [] (by kernel_rfl) hr
theorem Qyz (p0 : Meta) (H : Qh4 p0) : ∀ (r1 : List Owner) (i1 : Nat), List.drop i1 p0.owners = r1 → Qhy p0 (Q75 p0 i1) (Qcn p0 r1 i1)
 | [], i1, hd => by
  have hc1 : (decide ((i1 : Int) < ((List.length p0.owners) : Int))) = false := by have := Q1b hd; simp; omega
  rw [Qcn]
  exact Q176 p0 H i1 hc1
 | x1 :: r1, i1, hd => by
  obtain ⟨hx1, hi1, hd'⟩ := Q14 hd
  have hc1 : (decide ((i1 : Int) < ((List.length p0.owners) : Int))) = true := by simp; omega
  rw [Qcn]
  cases h0 : (decide (400 < (w64 ((ByteArray.size x1.kind : Int) + (ByteArray.size x1.name : Int))))) with
  | true =>
   exact Q15m p0 H x1 i1 hx1 hi1 hc1 h0
  | false =>
   exact Qs2 p0 (fun r hr => Q16i p0 H x1 i1 hx1 hi1 hc1 h0 hr) _ (Qyz p0 H r1 (i1 + 1) hd')
inductive Q15h where
  | k0
  | k1
def Qd4 (p0 : Meta) : List ByteArray → Nat → Q15h
 | [], _i2 =>
  (.k0)
 | x2 :: r2, i2 =>
  bif (decide (400 < (ByteArray.size x2 : Int))) then
   (.k1)
  else
   Qd4 p0 r2 (i2 + 1)
def Q10d (p0 : Meta) (i2 : Nat) : List PV :=
  [.un, .bx 0 0] ++ nuns 80 ++ [.sl (Qf p0.finalizers), .int .i64 ((List.length p0.finalizers) : Int), .int .i64 (i2 : Int)] ++ nuns 36
def Qya (p0 : Meta) (_i2 : Nat) : List Ob :=
  [⟨13, 0, true, [.str p0.kind, .str p0.namespace_, .str p0.name, .int .i64 p0.uid, .int .i64 p0.version, .int .i64 p0.generation, .int .i64 p0.created, .bool p0.deleting, .int .i64 p0.deleteAt, .sl (Label.rows p0.labels), .sl (Owner.rows p0.owners), .sl (Qf p0.finalizers), .sl (Manager.rows p0.managers)]⟩]
def Q7p (p0 : Meta) (i2 : Nat) : En := .loop 0 Ir.Qoq Ir.Q1eh (Q10d p0 i2) (Qya p0 i2)
def Q88 (p0 : Meta) (z : Nat → PV) (_zo : Nat → List PV) : St :=
  ⟨[z 0, .bx 0 0] ++ zr z 2 119, [(0, ⟨13, 0, true, [.str p0.kind, .str p0.namespace_, .str p0.name, .int .i64 p0.uid, .int .i64 p0.version, .int .i64 p0.generation, .int .i64 p0.created, .bool p0.deleting, .int .i64 p0.deleteAt, .sl (Label.rows p0.labels), .sl (Owner.rows p0.owners), .sl (Qf p0.finalizers), .sl (Manager.rows p0.managers)]⟩)], 65⟩
def Qio (_p0 : Meta) (z : Nat → PV) (zo : Nat → List PV) : St :=
  ⟨[z 0, z 1, .bool false] ++ zr z 3 118, [(0, ⟨13, 0, true, zo 0⟩)], 513⟩
def Qkc (p0 : Meta) (e : En) : Q15h → Prop
  | .k0 => ∃ z zo, Q6 G e (.st (.exit 4) (Q88 p0 z zo))
  | .k1 => ∃ z zo, Q6 G e (.st .ret (Qio p0 z zo))
theorem Qtz (p0 : Meta) {e e' : En} (h : ∀ r, Q6 G e r → Q6 G e' r) : ∀ q, Qkc p0 e q → Qkc p0 e' q
  | .k0, ⟨z, zo, hz⟩ => ⟨z, zo, h _ hz⟩
  | .k1, ⟨z, zo, hz⟩ => ⟨z, zo, h _ hz⟩
def Ql4 (p0 : Meta) : Prop := (List.length p0.finalizers ≤ 4611686018427387904) ∧ True
def Qw0 (p0 : Meta) (i2 : Nat) : List PV :=
  nuns 82 ++ [.sl (Qf p0.finalizers), .int .i64 ((List.length p0.finalizers) : Int), .int .i64 (i2 : Int), .bool false]
def Qp0 (_p0 : Meta) (_i2 : Nat) : List (Nat × List PV) :=
  []
theorem Q175 (p0 : Meta) (_H : Ql4 p0) (i2 : Nat) (hc2 : (decide ((i2 : Int) < ((List.length p0.finalizers) : Int))) = false) : Qkc p0 (Q7p p0 i2) (.k0) := by
 exact ⟨(envF (Qw0 p0 i2)), (zoF (Qp0 p0 i2)), Qg VOK.nil (x := ((.exit 4), Q88 p0 (envF (Qw0 p0 i2)) (zoF (Qp0 p0 i2)))) [hB 0 hc2] [] (by kernel_rfl)⟩
def Qvj (p0 : Meta) (i2 : Nat) (x2 : ByteArray) : List PV :=
  [.un, .bx 0 0] ++ nuns 6 ++ [.str x2] ++ nuns 73 ++ [.sl (Qf p0.finalizers), .int .i64 ((List.length p0.finalizers) : Int), .int .i64 (i2 : Int), .bool true, .rf [.str x2], .str x2, .str x2, .int .i64 (ByteArray.size x2 : Int), .bool true]
def Qpg (p0 : Meta) (_i2 : Nat) (_x2 : ByteArray) : List (Nat × List PV) :=
  [(0, [.str p0.kind, .str p0.namespace_, .str p0.name, .int .i64 p0.uid, .int .i64 p0.version, .int .i64 p0.generation, .int .i64 p0.created, .bool p0.deleting, .int .i64 p0.deleteAt, .sl (Label.rows p0.labels), .sl (Owner.rows p0.owners), .sl (Qf p0.finalizers), .sl (Manager.rows p0.managers)])]
theorem Q16y (p0 : Meta) (_H : Ql4 p0) (x2 : ByteArray) (i2 : Nat) (hx2 : p0.finalizers[i2]? = some x2) (_hi2 : i2 < List.length p0.finalizers) (hc2 : (decide ((i2 : Int) < ((List.length p0.finalizers) : Int))) = true) (h0 : (decide (400 < (ByteArray.size x2 : Int))) = true) : Qkc p0 (Q7p p0 i2) (.k1) := by
 exact ⟨(envF (Qvj p0 i2 x2)), (zoF (Qpg p0 i2 x2)), Qg VOK.nil (x := (.ret, Qio p0 (envF (Qvj p0 i2 x2)) (zoF (Qpg p0 i2 x2)))) [hB 0 hc2, hP 0 (Q1f 1 (Qf p0.finalizers) i2 _ (Q3g hx2) rfl), hB 4 h0] [] (by kernel_rfl)⟩
theorem Q168 (p0 : Meta) (H : Ql4 p0) (x2 : ByteArray) (i2 : Nat) (hx2 : p0.finalizers[i2]? = some x2) (hi2 : i2 < List.length p0.finalizers) (hc2 : (decide ((i2 : Int) < ((List.length p0.finalizers) : Int))) = true) (h0 : (decide (400 < (ByteArray.size x2 : Int))) = false) {r : Rs} (hr : Q6 G (Q7p p0 (i2 + 1)) r) : Q6 G (Q7p p0 i2) r := by
 have hB0 := H.1; have e0 := of_decide_eq_false h0
 exact Qk VOK.nil (y := (Q10d p0 (i2 + 1), Qya p0 (i2 + 1))) [hB 0 hc2, hP 0 (Q1f 1 (Qf p0.finalizers) i2 _ (Q3g hx2) rfl), hB 4 h0, hP 0 (Q1y i2 (by omega))] [] (by kernel_rfl) hr
theorem Qzd (p0 : Meta) (H : Ql4 p0) : ∀ (r2 : List ByteArray) (i2 : Nat), List.drop i2 p0.finalizers = r2 → Qkc p0 (Q7p p0 i2) (Qd4 p0 r2 i2)
 | [], i2, hd => by
  have hc2 : (decide ((i2 : Int) < ((List.length p0.finalizers) : Int))) = false := by have := Q1b hd; simp; omega
  rw [Qd4]
  exact Q175 p0 H i2 hc2
 | x2 :: r2, i2, hd => by
  obtain ⟨hx2, hi2, hd'⟩ := Q14 hd
  have hc2 : (decide ((i2 : Int) < ((List.length p0.finalizers) : Int))) = true := by simp; omega
  rw [Qd4]
  cases h0 : (decide (400 < (ByteArray.size x2 : Int))) with
  | true =>
   exact Q16y p0 H x2 i2 hx2 hi2 hc2 h0
  | false =>
   exact Qtz p0 (fun r hr => Q168 p0 H x2 i2 hx2 hi2 hc2 h0 hr) _ (Qzd p0 H r2 (i2 + 1) hd')
inductive Q17l where
  | k0
  | k1
def Qd3 (p0 : Meta) (i3 : Nat) (x3 : Manager) : List ByteArray → Nat → Q17l
 | [], _i4 =>
  (.k0)
 | x4 :: r4, i4 =>
  bif (decide (2000 < (ByteArray.size x4 : Int))) then
   (.k1)
  else
   Qd3 p0 i3 x3 r4 (i4 + 1)
def Qzx (p0 : Meta) (i3 : Nat) (x3 : Manager) (i4 : Nat) : List PV :=
  nuns 93 ++ [.sl (Manager.rows p0.managers), .int .i64 ((List.length p0.managers) : Int), .int .i64 (i3 : Int)] ++ nuns 14 ++ [.sl (Qf x3.fields), .int .i64 ((List.length x3.fields) : Int), .int .i64 (i4 : Int)] ++ nuns 8
def Qzz (_p0 : Meta) (_i3 : Nat) (_x3 : Manager) (_i4 : Nat) : List Ob :=
  []
def Qaf (p0 : Meta) (i3 : Nat) (x3 : Manager) (i4 : Nat) : En := .loop 0 Ir.Qnk Ir.Q1cx (Qzx p0 i3 x3 i4) (Qzz p0 i3 x3 i4)
def Qi5 (p0 : Meta) (i3 : Nat) (_x3 : Manager) (z : Nat → PV) (_zo : Nat → List PV) : St :=
  ⟨zr z 0 93 ++ [.sl (Manager.rows p0.managers), .int .i64 ((List.length p0.managers) : Int), .int .i64 (i3 : Int)] ++ zr z 96 25, [], 64⟩
def Qjg (_p0 : Meta) (_i3 : Nat) (_x3 : Manager) (z : Nat → PV) (_zo : Nat → List PV) : St :=
  ⟨[z 0, z 1, .bool false] ++ zr z 3 118, [], 512⟩
def Qk3 (p0 : Meta) (i3 : Nat) (x3 : Manager) (e : En) : Q17l → Prop
  | .k0 => ∃ z zo, Q6 G e (.st (.exit 8) (Qi5 p0 i3 x3 z zo))
  | .k1 => ∃ z zo, Q6 G e (.st .ret (Qjg p0 i3 x3 z zo))
theorem Qto (p0 : Meta) (i3 : Nat) (x3 : Manager) {e e' : En} (h : ∀ r, Q6 G e r → Q6 G e' r) : ∀ q, Qk3 p0 i3 x3 e q → Qk3 p0 i3 x3 e' q
  | .k0, ⟨z, zo, hz⟩ => ⟨z, zo, h _ hz⟩
  | .k1, ⟨z, zo, hz⟩ => ⟨z, zo, h _ hz⟩
def Qh3 (_p0 : Meta) (_i3 : Nat) (x3 : Manager) : Prop := (List.length x3.fields ≤ 4611686018427387904) ∧ True
def Qsw (_p0 : Meta) (_i3 : Nat) (x3 : Manager) (i4 : Nat) : List PV :=
  nuns 110 ++ [.sl (Qf x3.fields), .int .i64 ((List.length x3.fields) : Int), .int .i64 (i4 : Int), .bool false]
def Qpb (_p0 : Meta) (_i3 : Nat) (_x3 : Manager) (_i4 : Nat) : List (Nat × List PV) :=
  []
theorem Q17q (p0 : Meta) (i3 : Nat) (x3 : Manager) (_H : Qh3 p0 i3 x3) (i4 : Nat) (hc4 : (decide ((i4 : Int) < ((List.length x3.fields) : Int))) = false) : Qk3 p0 i3 x3 (Qaf p0 i3 x3 i4) (.k0) := by
 exact ⟨(envF (Qsw p0 i3 x3 i4)), (zoF (Qpb p0 i3 x3 i4)), Qg VOK.nil (x := ((.exit 8), Qi5 p0 i3 x3 (envF (Qsw p0 i3 x3 i4)) (zoF (Qpb p0 i3 x3 i4)))) [hB 0 hc4] [] (by kernel_rfl)⟩
def Qup (p0 : Meta) (i3 : Nat) (x3 : Manager) (i4 : Nat) (x4 : ByteArray) : List PV :=
  nuns 12 ++ [.str x4] ++ nuns 80 ++ [.sl (Manager.rows p0.managers), .int .i64 ((List.length p0.managers) : Int), .int .i64 (i3 : Int)] ++ nuns 14 ++ [.sl (Qf x3.fields), .int .i64 ((List.length x3.fields) : Int), .int .i64 (i4 : Int), .bool true, .rf [.str x4], .str x4, .str x4, .int .i64 (ByteArray.size x4 : Int), .bool true]
def Qp2 (_p0 : Meta) (_i3 : Nat) (_x3 : Manager) (_i4 : Nat) (_x4 : ByteArray) : List (Nat × List PV) :=
  []
theorem Q162 (p0 : Meta) (i3 : Nat) (x3 : Manager) (_H : Qh3 p0 i3 x3) (x4 : ByteArray) (i4 : Nat) (hx4 : x3.fields[i4]? = some x4) (_hi4 : i4 < List.length x3.fields) (hc4 : (decide ((i4 : Int) < ((List.length x3.fields) : Int))) = true) (h0 : (decide (2000 < (ByteArray.size x4 : Int))) = true) : Qk3 p0 i3 x3 (Qaf p0 i3 x3 i4) (.k1) := by
 exact ⟨(envF (Qup p0 i3 x3 i4 x4)), (zoF (Qp2 p0 i3 x3 i4 x4)), Qg VOK.nil (x := (.ret, Qjg p0 i3 x3 (envF (Qup p0 i3 x3 i4 x4)) (zoF (Qp2 p0 i3 x3 i4 x4)))) [hB 0 hc4, hP 0 (Q1f 1 (Qf x3.fields) i4 _ (Q3g hx4) rfl), hB 4 h0] [] (by kernel_rfl)⟩
theorem Q165 (p0 : Meta) (i3 : Nat) (x3 : Manager) (H : Qh3 p0 i3 x3) (x4 : ByteArray) (i4 : Nat) (hx4 : x3.fields[i4]? = some x4) (hi4 : i4 < List.length x3.fields) (hc4 : (decide ((i4 : Int) < ((List.length x3.fields) : Int))) = true) (h0 : (decide (2000 < (ByteArray.size x4 : Int))) = false) {r : Rs} (hr : Q6 G (Qaf p0 i3 x3 (i4 + 1)) r) : Q6 G (Qaf p0 i3 x3 i4) r := by
 have hB0 := H.1; have e0 := of_decide_eq_false h0
 exact Qk VOK.nil (y := (Qzx p0 i3 x3 (i4 + 1), Qzz p0 i3 x3 (i4 + 1))) [hB 0 hc4, hP 0 (Q1f 1 (Qf x3.fields) i4 _ (Q3g hx4) rfl), hB 4 h0, hP 0 (Q1y i4 (by omega))] [] (by kernel_rfl) hr
theorem Qxy (p0 : Meta) (i3 : Nat) (x3 : Manager) (H : Qh3 p0 i3 x3) : ∀ (r4 : List ByteArray) (i4 : Nat), List.drop i4 x3.fields = r4 → Qk3 p0 i3 x3 (Qaf p0 i3 x3 i4) (Qd3 p0 i3 x3 r4 i4)
 | [], i4, hd => by
  have hc4 : (decide ((i4 : Int) < ((List.length x3.fields) : Int))) = false := by have := Q1b hd; simp; omega
  rw [Qd3]
  exact Q17q p0 i3 x3 H i4 hc4
 | x4 :: r4, i4, hd => by
  obtain ⟨hx4, hi4, hd'⟩ := Q14 hd
  have hc4 : (decide ((i4 : Int) < ((List.length x3.fields) : Int))) = true := by simp; omega
  rw [Qd3]
  cases h0 : (decide (2000 < (ByteArray.size x4 : Int))) with
  | true =>
   exact Q162 p0 i3 x3 H x4 i4 hx4 hi4 hc4 h0
  | false =>
   exact Qto p0 i3 x3 (fun r hr => Q165 p0 i3 x3 H x4 i4 hx4 hi4 hc4 h0 hr) _ (Qxy p0 i3 x3 H r4 (i4 + 1) hd')
inductive Q16w where
  | k0
  | k1
  | k2
def Qc4 (p0 : Meta) : List Manager → Nat → Q16w
 | [], _i3 =>
  (.k0)
 | x3 :: r3, i3 =>
  bif (decide (400 < (ByteArray.size x3.name : Int))) then
   (.k1)
  else
   bif (decide (200 < ((List.length x3.fields) : Int))) then
    (.k1)
   else
    (match (Qd3 p0 i3 x3 x3.fields 0) with
    | .k0 => Qc4 p0 r3 (i3 + 1)
    | .k1 => (.k2))
def Q106 (p0 : Meta) (i3 : Nat) : List PV :=
  nuns 93 ++ [.sl (Manager.rows p0.managers), .int .i64 ((List.length p0.managers) : Int), .int .i64 (i3 : Int)] ++ nuns 25
def Qzk (_p0 : Meta) (_i3 : Nat) : List Ob :=
  []
def Q78 (p0 : Meta) (i3 : Nat) : En := .loop 0 Ir.Qoz Ir.Q1du (Q106 p0 i3) (Qzk p0 i3)
def Ql5 (_p0 : Meta) (z : Nat → PV) (_zo : Nat → List PV) : St :=
  ⟨zr z 0 121, [], 64⟩
def Qb7 (_p0 : Meta) (z : Nat → PV) (zo : Nat → List PV) : St :=
  ⟨[z 0, z 1, .bool false] ++ zr z 3 118, [(192, ⟨2, 0, true, zo 192⟩)], 1024⟩
def Qk5 (_p0 : Meta) (z : Nat → PV) (_zo : Nat → List PV) : St :=
  ⟨[z 0, z 1, .bool false] ++ zr z 3 118, [], 512⟩
def Q9x (p0 : Meta) (e : En) : Q16w → Prop
  | .k0 => ∃ z zo, Q6 G e (.st (.exit 6) (Ql5 p0 z zo))
  | .k1 => ∃ z zo, Q6 G e (.st .ret (Qb7 p0 z zo))
  | .k2 => ∃ z zo, Q6 G e (.st .ret (Qk5 p0 z zo))
theorem Qtq (p0 : Meta) {e e' : En} (h : ∀ r, Q6 G e r → Q6 G e' r) : ∀ q, Q9x p0 e q → Q9x p0 e' q
  | .k0, ⟨z, zo, hz⟩ => ⟨z, zo, h _ hz⟩
  | .k1, ⟨z, zo, hz⟩ => ⟨z, zo, h _ hz⟩
  | .k2, ⟨z, zo, hz⟩ => ⟨z, zo, h _ hz⟩
def Qan (p0 : Meta) : Prop := (List.length p0.managers ≤ 4611686018427387904) ∧ (∀ (i3 : Nat) (x3 : Manager), p0.managers[i3]? = some x3 → Qh3 p0 i3 x3) ∧ True
def Quq (p0 : Meta) (i3 : Nat) : List PV :=
  nuns 93 ++ [.sl (Manager.rows p0.managers), .int .i64 ((List.length p0.managers) : Int), .int .i64 (i3 : Int), .bool false]
def Qoh (_p0 : Meta) (_i3 : Nat) : List (Nat × List PV) :=
  []
theorem Q16o (p0 : Meta) (_H : Qan p0) (i3 : Nat) (hc3 : (decide ((i3 : Int) < ((List.length p0.managers) : Int))) = false) : Q9x p0 (Q78 p0 i3) (.k0) := by
 exact ⟨(envF (Quq p0 i3)), (zoF (Qoh p0 i3)), Qg VOK.nil (x := ((.exit 6), Ql5 p0 (envF (Quq p0 i3)) (zoF (Qoh p0 i3)))) [hB 0 hc3] [] (by kernel_rfl)⟩
def Qv5 (p0 : Meta) (i3 : Nat) (x3 : Manager) : List PV :=
  nuns 10 ++ [.bx 192 0] ++ nuns 82 ++ [.sl (Manager.rows p0.managers), .int .i64 ((List.length p0.managers) : Int), .int .i64 (i3 : Int), .bool true, .rf [.str x3.name, .sl (Qf x3.fields)], .agg [.str x3.name, .sl (Qf x3.fields)], .bx 192 0, .str x3.name, .int .i64 (ByteArray.size x3.name : Int), .bool true, .bool true, .tup [], .tup [], .tup [], .tup [], .bool true]
def Qoi (_p0 : Meta) (_i3 : Nat) (x3 : Manager) : List (Nat × List PV) :=
  [(192, [.str x3.name, .sl (Qf x3.fields)])]
theorem Q15l (p0 : Meta) (_H : Qan p0) (x3 : Manager) (i3 : Nat) (hx3 : p0.managers[i3]? = some x3) (_hi3 : i3 < List.length p0.managers) (hc3 : (decide ((i3 : Int) < ((List.length p0.managers) : Int))) = true) (h0 : (decide (400 < (ByteArray.size x3.name : Int))) = true) : Q9x p0 (Q78 p0 i3) (.k1) := by
 exact ⟨(envF (Qv5 p0 i3 x3)), (zoF (Qoi p0 i3 x3)), Qg VOK.nil (x := (.ret, Qb7 p0 (envF (Qv5 p0 i3 x3)) (zoF (Qoi p0 i3 x3)))) [hB 0 hc3, hP 0 (Q1f 2 (Manager.rows p0.managers) i3 _ (Manager.Qa hx3) rfl), hB 6 h0] [] (by kernel_rfl)⟩
def Qsh (p0 : Meta) (i3 : Nat) (x3 : Manager) : List PV :=
  nuns 10 ++ [.bx 192 0] ++ nuns 82 ++ [.sl (Manager.rows p0.managers), .int .i64 ((List.length p0.managers) : Int), .int .i64 (i3 : Int), .bool true, .rf [.str x3.name, .sl (Qf x3.fields)], .agg [.str x3.name, .sl (Qf x3.fields)], .bx 192 0, .str x3.name, .int .i64 (ByteArray.size x3.name : Int), .bool false, .bool false, .bx 192 1, .sl (Qf x3.fields), .int .i64 ((List.length x3.fields) : Int), .bool true, .bool true]
def Qmd (_p0 : Meta) (_i3 : Nat) (x3 : Manager) : List (Nat × List PV) :=
  [(192, [.str x3.name, .sl (Qf x3.fields)])]
theorem Q151 (p0 : Meta) (_H : Qan p0) (x3 : Manager) (i3 : Nat) (hx3 : p0.managers[i3]? = some x3) (_hi3 : i3 < List.length p0.managers) (hc3 : (decide ((i3 : Int) < ((List.length p0.managers) : Int))) = true) (h0 : (decide (400 < (ByteArray.size x3.name : Int))) = false) (h1 : (decide (200 < ((List.length x3.fields) : Int))) = true) : Q9x p0 (Q78 p0 i3) (.k1) := by
 exact ⟨(envF (Qsh p0 i3 x3)), (zoF (Qmd p0 i3 x3)), Qg VOK.nil (x := (.ret, Qb7 p0 (envF (Qsh p0 i3 x3)) (zoF (Qmd p0 i3 x3)))) [hB 0 hc3, hP 0 (Q1f 2 (Manager.rows p0.managers) i3 _ (Manager.Qa hx3) rfl), hB 6 h0, hP 3 (Qe (Qf x3.fields) (List.length x3.fields) (Q18 x3.fields)), hB 0 h1] [] (by kernel_rfl)⟩
theorem Q170 (p0 : Meta) (H : Qan p0) (x3 : Manager) (i3 : Nat) (hx3 : p0.managers[i3]? = some x3) (hi3 : i3 < List.length p0.managers) (hc3 : (decide ((i3 : Int) < ((List.length p0.managers) : Int))) = true) (h0 : (decide (400 < (ByteArray.size x3.name : Int))) = false) (h1 : (decide (200 < ((List.length x3.fields) : Int))) = false) (z2 : Nat → PV) (zo2 : Nat → List PV) (hl2 : Q6 G (Qaf p0 i3 x3 0) (.st (.exit 8) (Qi5 p0 i3 x3 z2 zo2))) {r : Rs} (hr : Q6 G (Q78 p0 (i3 + 1)) r) : Q6 G (Q78 p0 i3) r := by
 have hB0 := H.1; have e0 := of_decide_eq_false h0; have e1 := of_decide_eq_false h1
 exact Qk VOK.nil (y := (Q106 p0 (i3 + 1), Qzk p0 (i3 + 1))) [hB 0 hc3, hP 0 (Q1f 2 (Manager.rows p0.managers) i3 _ (Manager.Qa hx3) rfl), hB 6 h0, hP 3 (Qe (Qf x3.fields) (List.length x3.fields) (Q18 x3.fields)), hB 0 h1, hP 3 (Qe (Qf x3.fields) (List.length x3.fields) (Q18 x3.fields)), hP 1 (Q1y i3 (by omega))] [aN hl2] (by kernel_rfl) hr
def Qub (_p0 : Meta) (_i3 : Nat) (_x3 : Manager) (z2 : Nat → PV) (_zo2 : Nat → List PV) : List PV :=
  [(z2 0), (z2 1), .un, (z2 3), (z2 4), (z2 5), (z2 6), (z2 7), (z2 8), (z2 9), (z2 10), (z2 11), (z2 12), (z2 13), (z2 14), (z2 15), (z2 16), (z2 17), (z2 18), (z2 19), (z2 20), (z2 21), (z2 22), (z2 23), (z2 24), (z2 25), (z2 26), (z2 27), (z2 28), (z2 29), (z2 30), (z2 31), (z2 32), (z2 33), (z2 34), (z2 35), (z2 36), (z2 37), (z2 38), (z2 39), (z2 40), (z2 41), (z2 42), (z2 43), (z2 44), (z2 45), (z2 46), (z2 47), (z2 48), (z2 49), (z2 50), (z2 51), (z2 52), (z2 53), (z2 54), (z2 55), (z2 56), (z2 57), (z2 58), (z2 59), (z2 60), (z2 61), (z2 62), (z2 63), (z2 64), (z2 65), (z2 66), (z2 67), (z2 68), (z2 69), (z2 70), (z2 71), (z2 72), (z2 73), (z2 74), (z2 75), (z2 76), (z2 77), (z2 78), (z2 79), (z2 80), (z2 81), (z2 82), (z2 83), (z2 84), (z2 85), (z2 86), (z2 87), (z2 88), (z2 89), (z2 90), (z2 91), (z2 92), (z2 93), (z2 94), (z2 95), (z2 96), (z2 97), (z2 98), (z2 99), (z2 100), (z2 101), (z2 102), (z2 103), (z2 104), (z2 105), (z2 106), (z2 107), (z2 108), (z2 109), (z2 110), (z2 111), (z2 112), (z2 113), (z2 114), (z2 115), (z2 116), (z2 117), (z2 118), (z2 119), (z2 120)]
def Qoj (_p0 : Meta) (_i3 : Nat) (_x3 : Manager) (_z2 : Nat → PV) (_zo2 : Nat → List PV) : List (Nat × List PV) :=
  []
theorem Q155 (p0 : Meta) (_H : Qan p0) (x3 : Manager) (i3 : Nat) (hx3 : p0.managers[i3]? = some x3) (_hi3 : i3 < List.length p0.managers) (hc3 : (decide ((i3 : Int) < ((List.length p0.managers) : Int))) = true) (h0 : (decide (400 < (ByteArray.size x3.name : Int))) = false) (h1 : (decide (200 < ((List.length x3.fields) : Int))) = false) (z2 : Nat → PV) (zo2 : Nat → List PV) (hl2 : Q6 G (Qaf p0 i3 x3 0) (.st .ret (Qjg p0 i3 x3 z2 zo2))) : Q9x p0 (Q78 p0 i3) (.k2) := by
 exact ⟨(envF (Qub p0 i3 x3 z2 zo2)), (zoF (Qoj p0 i3 x3 z2 zo2)), Qg VOK.nil (x := (.ret, Qk5 p0 (envF (Qub p0 i3 x3 z2 zo2)) (zoF (Qoj p0 i3 x3 z2 zo2)))) [hB 0 hc3, hP 0 (Q1f 2 (Manager.rows p0.managers) i3 _ (Manager.Qa hx3) rfl), hB 6 h0, hP 3 (Qe (Qf x3.fields) (List.length x3.fields) (Q18 x3.fields)), hB 0 h1, hP 3 (Qe (Qf x3.fields) (List.length x3.fields) (Q18 x3.fields))] [aN hl2] (by kernel_rfl)⟩
theorem Qzg (p0 : Meta) (H : Qan p0) : ∀ (r3 : List Manager) (i3 : Nat), List.drop i3 p0.managers = r3 → Q9x p0 (Q78 p0 i3) (Qc4 p0 r3 i3)
 | [], i3, hd => by
  have hc3 : (decide ((i3 : Int) < ((List.length p0.managers) : Int))) = false := by have := Q1b hd; simp; omega
  rw [Qc4]
  exact Q16o p0 H i3 hc3
 | x3 :: r3, i3, hd => by
  obtain ⟨hx3, hi3, hd'⟩ := Q14 hd
  have hc3 : (decide ((i3 : Int) < ((List.length p0.managers) : Int))) = true := by simp; omega
  rw [Qc4]
  cases h0 : (decide (400 < (ByteArray.size x3.name : Int))) with
  | true =>
   exact Q15l p0 H x3 i3 hx3 hi3 hc3 h0
  | false =>
   cases h1 : (decide (200 < ((List.length x3.fields) : Int))) with
   | true =>
    exact Q151 p0 H x3 i3 hx3 hi3 hc3 h0 h1
   | false =>
    have hl2 := Qxy p0 i3 x3 ((H.2.1 i3 x3 hx3)) x3.fields 0 (by simp)
    cases hr2 : (Qd3 p0 i3 x3 x3.fields 0) with
    | k0 =>
     rw [hr2] at hl2
     obtain ⟨z2, zo2, hl2⟩ := hl2
     exact Qtq p0 (fun r hr => Q170 p0 H x3 i3 hx3 hi3 hc3 h0 h1 z2 zo2 hl2 hr) _ (Qzg p0 H r3 (i3 + 1) hd')
    | k1 =>
     rw [hr2] at hl2
     obtain ⟨z2, zo2, hl2⟩ := hl2
     exact Q155 p0 H x3 i3 hx3 hi3 hc3 h0 h1 z2 zo2 hl2
def s_K5 (p0 : Meta) : Bool :=
 bif (decide (60 < ((List.length p0.labels) : Int))) then
  false
 else
  bif (decide (60 < ((List.length p0.owners) : Int))) then
   false
  else
   bif (decide (60 < ((List.length p0.finalizers) : Int))) then
    false
   else
    bif (decide (60 < ((List.length p0.managers) : Int))) then
     false
    else
     bif (decide (400 < (w64 ((w64 ((ByteArray.size p0.kind : Int) + (ByteArray.size p0.namespace_ : Int))) + (ByteArray.size p0.name : Int))))) then
      false
     else
      (match (Qcl p0 p0.labels 0) with
      | .k0 => (match (Qcn p0 p0.owners 0) with
       | .k0 => (match (Qd4 p0 p0.finalizers 0) with
        | .k0 => (match (Qc4 p0 p0.managers 0) with
         | .k0 => true
         | .k1 => false
         | .k2 => false)
        | .k1 => false)
       | .k1 => false)
      | .k1 => false)
def c_K5 (p0 : Meta) : En := .call 8 [.agg (Meta.cells p0)] []
def a_K5 (p0 : Meta) : Rs := .ret (.bool (s_K5 p0)) []
def H_K5 (p0 : Meta) : Prop := (Qks p0) ∧ (Qh4 p0) ∧ (Ql4 p0) ∧ (Qan p0) ∧ True
theorem Q1eo (p0 : Meta) (_H : H_K5 p0) (h0 : (decide (60 < ((List.length p0.labels) : Int))) = true) : Q6 G (c_K5 p0) (.ret (.bool (false)) []) := by
 exact Qb (fn := Ir.K5) rfl VOK.nil [hP 4 (Qe (Label.rows p0.labels) (List.length p0.labels) (Label.Q5 p0.labels)), hB 0 h0] [] (by kernel_rfl)
theorem Q1e1 (p0 : Meta) (_H : H_K5 p0) (h0 : (decide (60 < ((List.length p0.labels) : Int))) = false) (h1 : (decide (60 < ((List.length p0.owners) : Int))) = true) : Q6 G (c_K5 p0) (.ret (.bool (false)) []) := by
 exact Qb (fn := Ir.K5) rfl VOK.nil [hP 4 (Qe (Label.rows p0.labels) (List.length p0.labels) (Label.Q5 p0.labels)), hB 0 h0, hP 3 (Qe (Owner.rows p0.owners) (List.length p0.owners) (Owner.Q5 p0.owners)), hB 0 h1] [] (by kernel_rfl)
theorem Q1f4 (p0 : Meta) (_H : H_K5 p0) (h0 : (decide (60 < ((List.length p0.labels) : Int))) = false) (h1 : (decide (60 < ((List.length p0.owners) : Int))) = false) (h2 : (decide (60 < ((List.length p0.finalizers) : Int))) = true) : Q6 G (c_K5 p0) (.ret (.bool (false)) []) := by
 exact Qb (fn := Ir.K5) rfl VOK.nil [hP 4 (Qe (Label.rows p0.labels) (List.length p0.labels) (Label.Q5 p0.labels)), hB 0 h0, hP 3 (Qe (Owner.rows p0.owners) (List.length p0.owners) (Owner.Q5 p0.owners)), hB 0 h1, hP 4 (Qe (Qf p0.finalizers) (List.length p0.finalizers) (Q18 p0.finalizers)), hB 0 h2] [] (by kernel_rfl)
theorem Q1et (p0 : Meta) (_H : H_K5 p0) (h0 : (decide (60 < ((List.length p0.labels) : Int))) = false) (h1 : (decide (60 < ((List.length p0.owners) : Int))) = false) (h2 : (decide (60 < ((List.length p0.finalizers) : Int))) = false) (h3 : (decide (60 < ((List.length p0.managers) : Int))) = true) : Q6 G (c_K5 p0) (.ret (.bool (false)) []) := by
 exact Qb (fn := Ir.K5) rfl VOK.nil [hP 4 (Qe (Label.rows p0.labels) (List.length p0.labels) (Label.Q5 p0.labels)), hB 0 h0, hP 3 (Qe (Owner.rows p0.owners) (List.length p0.owners) (Owner.Q5 p0.owners)), hB 0 h1, hP 4 (Qe (Qf p0.finalizers) (List.length p0.finalizers) (Q18 p0.finalizers)), hB 0 h2, hP 4 (Qe (Manager.rows p0.managers) (List.length p0.managers) (Manager.Q5 p0.managers)), hB 0 h3] [] (by kernel_rfl)
theorem Q1cz (p0 : Meta) (_H : H_K5 p0) (h0 : (decide (60 < ((List.length p0.labels) : Int))) = false) (h1 : (decide (60 < ((List.length p0.owners) : Int))) = false) (h2 : (decide (60 < ((List.length p0.finalizers) : Int))) = false) (h3 : (decide (60 < ((List.length p0.managers) : Int))) = false) (h4 : (decide (400 < (w64 ((w64 ((ByteArray.size p0.kind : Int) + (ByteArray.size p0.namespace_ : Int))) + (ByteArray.size p0.name : Int))))) = true) : Q6 G (c_K5 p0) (.ret (.bool (false)) []) := by
 exact Qb (fn := Ir.K5) rfl VOK.nil [hP 4 (Qe (Label.rows p0.labels) (List.length p0.labels) (Label.Q5 p0.labels)), hB 0 h0, hP 3 (Qe (Owner.rows p0.owners) (List.length p0.owners) (Owner.Q5 p0.owners)), hB 0 h1, hP 4 (Qe (Qf p0.finalizers) (List.length p0.finalizers) (Q18 p0.finalizers)), hB 0 h2, hP 4 (Qe (Manager.rows p0.managers) (List.length p0.managers) (Manager.Q5 p0.managers)), hB 0 h3, hB 13 h4] [] (by kernel_rfl)
theorem Q1fv (p0 : Meta) (_H : H_K5 p0) (h0 : (decide (60 < ((List.length p0.labels) : Int))) = false) (h1 : (decide (60 < ((List.length p0.owners) : Int))) = false) (h2 : (decide (60 < ((List.length p0.finalizers) : Int))) = false) (h3 : (decide (60 < ((List.length p0.managers) : Int))) = false) (h4 : (decide (400 < (w64 ((w64 ((ByteArray.size p0.kind : Int) + (ByteArray.size p0.namespace_ : Int))) + (ByteArray.size p0.name : Int))))) = false) (z5 : Nat → PV) (zo5 : Nat → List PV) (hl5 : Q6 G (Q69 p0 0) (.st (.exit 0) (Q66 p0 z5 zo5))) (z6 : Nat → PV) (zo6 : Nat → List PV) (hl6 : Q6 G (Q75 p0 0) (.st (.exit 2) (Q7f p0 z6 zo6))) (z7 : Nat → PV) (zo7 : Nat → List PV) (hl7 : Q6 G (Q7p p0 0) (.st (.exit 4) (Q88 p0 z7 zo7))) (z8 : Nat → PV) (zo8 : Nat → List PV) (hl8 : Q6 G (Q78 p0 0) (.st (.exit 6) (Ql5 p0 z8 zo8))) : Q6 G (c_K5 p0) (.ret (.bool (true)) []) := by
 exact Qb (fn := Ir.K5) rfl VOK.nil [hP 4 (Qe (Label.rows p0.labels) (List.length p0.labels) (Label.Q5 p0.labels)), hB 0 h0, hP 3 (Qe (Owner.rows p0.owners) (List.length p0.owners) (Owner.Q5 p0.owners)), hB 0 h1, hP 4 (Qe (Qf p0.finalizers) (List.length p0.finalizers) (Q18 p0.finalizers)), hB 0 h2, hP 4 (Qe (Manager.rows p0.managers) (List.length p0.managers) (Manager.Q5 p0.managers)), hB 0 h3, hB 13 h4, hP 3 (Qe (Label.rows p0.labels) (List.length p0.labels) (Label.Q5 p0.labels)), hP 3 (Qe (Owner.rows p0.owners) (List.length p0.owners) (Owner.Q5 p0.owners)), hP 3 (Qe (Qf p0.finalizers) (List.length p0.finalizers) (Q18 p0.finalizers)), hP 3 (Qe (Manager.rows p0.managers) (List.length p0.managers) (Manager.Q5 p0.managers))] [aN hl5, aN hl6, aN hl7, aN hl8] (by kernel_rfl)
theorem Q1dz (p0 : Meta) (_H : H_K5 p0) (h0 : (decide (60 < ((List.length p0.labels) : Int))) = false) (h1 : (decide (60 < ((List.length p0.owners) : Int))) = false) (h2 : (decide (60 < ((List.length p0.finalizers) : Int))) = false) (h3 : (decide (60 < ((List.length p0.managers) : Int))) = false) (h4 : (decide (400 < (w64 ((w64 ((ByteArray.size p0.kind : Int) + (ByteArray.size p0.namespace_ : Int))) + (ByteArray.size p0.name : Int))))) = false) (z5 : Nat → PV) (zo5 : Nat → List PV) (hl5 : Q6 G (Q69 p0 0) (.st (.exit 0) (Q66 p0 z5 zo5))) (z6 : Nat → PV) (zo6 : Nat → List PV) (hl6 : Q6 G (Q75 p0 0) (.st (.exit 2) (Q7f p0 z6 zo6))) (z7 : Nat → PV) (zo7 : Nat → List PV) (hl7 : Q6 G (Q7p p0 0) (.st (.exit 4) (Q88 p0 z7 zo7))) (z8 : Nat → PV) (zo8 : Nat → List PV) (hl8 : Q6 G (Q78 p0 0) (.st .ret (Qb7 p0 z8 zo8))) : Q6 G (c_K5 p0) (.ret (.bool (false)) []) := by
 exact Qb (fn := Ir.K5) rfl VOK.nil [hP 4 (Qe (Label.rows p0.labels) (List.length p0.labels) (Label.Q5 p0.labels)), hB 0 h0, hP 3 (Qe (Owner.rows p0.owners) (List.length p0.owners) (Owner.Q5 p0.owners)), hB 0 h1, hP 4 (Qe (Qf p0.finalizers) (List.length p0.finalizers) (Q18 p0.finalizers)), hB 0 h2, hP 4 (Qe (Manager.rows p0.managers) (List.length p0.managers) (Manager.Q5 p0.managers)), hB 0 h3, hB 13 h4, hP 3 (Qe (Label.rows p0.labels) (List.length p0.labels) (Label.Q5 p0.labels)), hP 3 (Qe (Owner.rows p0.owners) (List.length p0.owners) (Owner.Q5 p0.owners)), hP 3 (Qe (Qf p0.finalizers) (List.length p0.finalizers) (Q18 p0.finalizers)), hP 3 (Qe (Manager.rows p0.managers) (List.length p0.managers) (Manager.Q5 p0.managers))] [aN hl5, aN hl6, aN hl7, aN hl8] (by kernel_rfl)
theorem Q1dh (p0 : Meta) (_H : H_K5 p0) (h0 : (decide (60 < ((List.length p0.labels) : Int))) = false) (h1 : (decide (60 < ((List.length p0.owners) : Int))) = false) (h2 : (decide (60 < ((List.length p0.finalizers) : Int))) = false) (h3 : (decide (60 < ((List.length p0.managers) : Int))) = false) (h4 : (decide (400 < (w64 ((w64 ((ByteArray.size p0.kind : Int) + (ByteArray.size p0.namespace_ : Int))) + (ByteArray.size p0.name : Int))))) = false) (z5 : Nat → PV) (zo5 : Nat → List PV) (hl5 : Q6 G (Q69 p0 0) (.st (.exit 0) (Q66 p0 z5 zo5))) (z6 : Nat → PV) (zo6 : Nat → List PV) (hl6 : Q6 G (Q75 p0 0) (.st (.exit 2) (Q7f p0 z6 zo6))) (z7 : Nat → PV) (zo7 : Nat → List PV) (hl7 : Q6 G (Q7p p0 0) (.st (.exit 4) (Q88 p0 z7 zo7))) (z8 : Nat → PV) (zo8 : Nat → List PV) (hl8 : Q6 G (Q78 p0 0) (.st .ret (Qk5 p0 z8 zo8))) : Q6 G (c_K5 p0) (.ret (.bool (false)) []) := by
 exact Qb (fn := Ir.K5) rfl VOK.nil [hP 4 (Qe (Label.rows p0.labels) (List.length p0.labels) (Label.Q5 p0.labels)), hB 0 h0, hP 3 (Qe (Owner.rows p0.owners) (List.length p0.owners) (Owner.Q5 p0.owners)), hB 0 h1, hP 4 (Qe (Qf p0.finalizers) (List.length p0.finalizers) (Q18 p0.finalizers)), hB 0 h2, hP 4 (Qe (Manager.rows p0.managers) (List.length p0.managers) (Manager.Q5 p0.managers)), hB 0 h3, hB 13 h4, hP 3 (Qe (Label.rows p0.labels) (List.length p0.labels) (Label.Q5 p0.labels)), hP 3 (Qe (Owner.rows p0.owners) (List.length p0.owners) (Owner.Q5 p0.owners)), hP 3 (Qe (Qf p0.finalizers) (List.length p0.finalizers) (Q18 p0.finalizers)), hP 3 (Qe (Manager.rows p0.managers) (List.length p0.managers) (Manager.Q5 p0.managers))] [aN hl5, aN hl6, aN hl7, aN hl8] (by kernel_rfl)
theorem Q1ff (p0 : Meta) (_H : H_K5 p0) (h0 : (decide (60 < ((List.length p0.labels) : Int))) = false) (h1 : (decide (60 < ((List.length p0.owners) : Int))) = false) (h2 : (decide (60 < ((List.length p0.finalizers) : Int))) = false) (h3 : (decide (60 < ((List.length p0.managers) : Int))) = false) (h4 : (decide (400 < (w64 ((w64 ((ByteArray.size p0.kind : Int) + (ByteArray.size p0.namespace_ : Int))) + (ByteArray.size p0.name : Int))))) = false) (z5 : Nat → PV) (zo5 : Nat → List PV) (hl5 : Q6 G (Q69 p0 0) (.st (.exit 0) (Q66 p0 z5 zo5))) (z6 : Nat → PV) (zo6 : Nat → List PV) (hl6 : Q6 G (Q75 p0 0) (.st (.exit 2) (Q7f p0 z6 zo6))) (z7 : Nat → PV) (zo7 : Nat → List PV) (hl7 : Q6 G (Q7p p0 0) (.st .ret (Qio p0 z7 zo7))) : Q6 G (c_K5 p0) (.ret (.bool (false)) []) := by
 exact Qb (fn := Ir.K5) rfl VOK.nil [hP 4 (Qe (Label.rows p0.labels) (List.length p0.labels) (Label.Q5 p0.labels)), hB 0 h0, hP 3 (Qe (Owner.rows p0.owners) (List.length p0.owners) (Owner.Q5 p0.owners)), hB 0 h1, hP 4 (Qe (Qf p0.finalizers) (List.length p0.finalizers) (Q18 p0.finalizers)), hB 0 h2, hP 4 (Qe (Manager.rows p0.managers) (List.length p0.managers) (Manager.Q5 p0.managers)), hB 0 h3, hB 13 h4, hP 3 (Qe (Label.rows p0.labels) (List.length p0.labels) (Label.Q5 p0.labels)), hP 3 (Qe (Owner.rows p0.owners) (List.length p0.owners) (Owner.Q5 p0.owners)), hP 3 (Qe (Qf p0.finalizers) (List.length p0.finalizers) (Q18 p0.finalizers))] [aN hl5, aN hl6, aN hl7] (by kernel_rfl)
theorem Q1ef (p0 : Meta) (_H : H_K5 p0) (h0 : (decide (60 < ((List.length p0.labels) : Int))) = false) (h1 : (decide (60 < ((List.length p0.owners) : Int))) = false) (h2 : (decide (60 < ((List.length p0.finalizers) : Int))) = false) (h3 : (decide (60 < ((List.length p0.managers) : Int))) = false) (h4 : (decide (400 < (w64 ((w64 ((ByteArray.size p0.kind : Int) + (ByteArray.size p0.namespace_ : Int))) + (ByteArray.size p0.name : Int))))) = false) (z5 : Nat → PV) (zo5 : Nat → List PV) (hl5 : Q6 G (Q69 p0 0) (.st (.exit 0) (Q66 p0 z5 zo5))) (z6 : Nat → PV) (zo6 : Nat → List PV) (hl6 : Q6 G (Q75 p0 0) (.st .ret (Qhc p0 z6 zo6))) : Q6 G (c_K5 p0) (.ret (.bool (false)) []) := by
 exact Qb (fn := Ir.K5) rfl VOK.nil [hP 4 (Qe (Label.rows p0.labels) (List.length p0.labels) (Label.Q5 p0.labels)), hB 0 h0, hP 3 (Qe (Owner.rows p0.owners) (List.length p0.owners) (Owner.Q5 p0.owners)), hB 0 h1, hP 4 (Qe (Qf p0.finalizers) (List.length p0.finalizers) (Q18 p0.finalizers)), hB 0 h2, hP 4 (Qe (Manager.rows p0.managers) (List.length p0.managers) (Manager.Q5 p0.managers)), hB 0 h3, hB 13 h4, hP 3 (Qe (Label.rows p0.labels) (List.length p0.labels) (Label.Q5 p0.labels)), hP 3 (Qe (Owner.rows p0.owners) (List.length p0.owners) (Owner.Q5 p0.owners))] [aN hl5, aN hl6] (by kernel_rfl)
theorem Q1b7 (p0 : Meta) (_H : H_K5 p0) (h0 : (decide (60 < ((List.length p0.labels) : Int))) = false) (h1 : (decide (60 < ((List.length p0.owners) : Int))) = false) (h2 : (decide (60 < ((List.length p0.finalizers) : Int))) = false) (h3 : (decide (60 < ((List.length p0.managers) : Int))) = false) (h4 : (decide (400 < (w64 ((w64 ((ByteArray.size p0.kind : Int) + (ByteArray.size p0.namespace_ : Int))) + (ByteArray.size p0.name : Int))))) = false) (z5 : Nat → PV) (zo5 : Nat → List PV) (hl5 : Q6 G (Q69 p0 0) (.st .ret (Qic p0 z5 zo5))) : Q6 G (c_K5 p0) (.ret (.bool (false)) []) := by
 exact Qb (fn := Ir.K5) rfl VOK.nil [hP 4 (Qe (Label.rows p0.labels) (List.length p0.labels) (Label.Q5 p0.labels)), hB 0 h0, hP 3 (Qe (Owner.rows p0.owners) (List.length p0.owners) (Owner.Q5 p0.owners)), hB 0 h1, hP 4 (Qe (Qf p0.finalizers) (List.length p0.finalizers) (Q18 p0.finalizers)), hB 0 h2, hP 4 (Qe (Manager.rows p0.managers) (List.length p0.managers) (Manager.Q5 p0.managers)), hB 0 h3, hB 13 h4, hP 3 (Qe (Label.rows p0.labels) (List.length p0.labels) (Label.Q5 p0.labels))] [aN hl5] (by kernel_rfl)
theorem t_K5 (p0 : Meta) (H : H_K5 p0) : Q6 G (c_K5 p0) (a_K5 p0) := by
 unfold a_K5 s_K5
 cases h0 : (decide (60 < ((List.length p0.labels) : Int))) with
 | true =>
  exact Q1eo p0 H h0
 | false =>
  cases h1 : (decide (60 < ((List.length p0.owners) : Int))) with
  | true =>
   exact Q1e1 p0 H h0 h1
  | false =>
   cases h2 : (decide (60 < ((List.length p0.finalizers) : Int))) with
   | true =>
    exact Q1f4 p0 H h0 h1 h2
   | false =>
    cases h3 : (decide (60 < ((List.length p0.managers) : Int))) with
    | true =>
     exact Q1et p0 H h0 h1 h2 h3
    | false =>
     cases h4 : (decide (400 < (w64 ((w64 ((ByteArray.size p0.kind : Int) + (ByteArray.size p0.namespace_ : Int))) + (ByteArray.size p0.name : Int))))) with
     | true =>
      exact Q1cz p0 H h0 h1 h2 h3 h4
     | false =>
      have hl5 := Qyr p0 (H.1) p0.labels 0 (by simp)
      cases hr5 : (Qcl p0 p0.labels 0) with
      | k0 =>
       rw [hr5] at hl5
       obtain ⟨z5, zo5, hl5⟩ := hl5
       try dsimp only
       have hl6 := Qyz p0 (H.2.1) p0.owners 0 (by simp)
       cases hr6 : (Qcn p0 p0.owners 0) with
       | k0 =>
        rw [hr6] at hl6
        obtain ⟨z6, zo6, hl6⟩ := hl6
        try dsimp only
        have hl7 := Qzd p0 (H.2.2.1) p0.finalizers 0 (by simp)
        cases hr7 : (Qd4 p0 p0.finalizers 0) with
        | k0 =>
         rw [hr7] at hl7
         obtain ⟨z7, zo7, hl7⟩ := hl7
         try dsimp only
         have hl8 := Qzg p0 (H.2.2.2.1) p0.managers 0 (by simp)
         cases hr8 : (Qc4 p0 p0.managers 0) with
         | k0 =>
          rw [hr8] at hl8
          obtain ⟨z8, zo8, hl8⟩ := hl8
          exact Q1fv p0 H h0 h1 h2 h3 h4 z5 zo5 hl5 z6 zo6 hl6 z7 zo7 hl7 z8 zo8 hl8
         | k1 =>
          rw [hr8] at hl8
          obtain ⟨z8, zo8, hl8⟩ := hl8
          exact Q1dz p0 H h0 h1 h2 h3 h4 z5 zo5 hl5 z6 zo6 hl6 z7 zo7 hl7 z8 zo8 hl8
         | k2 =>
          rw [hr8] at hl8
          obtain ⟨z8, zo8, hl8⟩ := hl8
          exact Q1dh p0 H h0 h1 h2 h3 h4 z5 zo5 hl5 z6 zo6 hl6 z7 zo7 hl7 z8 zo8 hl8
        | k1 =>
         rw [hr7] at hl7
         obtain ⟨z7, zo7, hl7⟩ := hl7
         exact Q1ff p0 H h0 h1 h2 h3 h4 z5 zo5 hl5 z6 zo6 hl6 z7 zo7 hl7
       | k1 =>
        rw [hr6] at hl6
        obtain ⟨z6, zo6, hl6⟩ := hl6
        exact Q1ef p0 H h0 h1 h2 h3 h4 z5 zo5 hl5 z6 zo6 hl6
      | k1 =>
       rw [hr5] at hl5
       obtain ⟨z5, zo5, hl5⟩ := hl5
       exact Q1b7 p0 H h0 h1 h2 h3 h4 z5 zo5 hl5
end Go.Proofs.YtiflaadeikaghaaGreat
end

section
/- The chapter's examples (printed by a program). -/
namespace Go.Proofs.YtiflaadeikaghaaGreat
open Go.Pv
theorem t_K7 : Q6 G (.call 10 [] []) (.ret (.bool true) []) := ⟨400, by kernel_rfl⟩
end Go.Proofs.YtiflaadeikaghaaGreat
end

section
/- What the laws ask of their arguments (printed by a program). -/
namespace Go.Proofs.YtiflaadeikaghaaGreat
open Go.Pv
def s_K6 (p0 : Pod) : Bool :=
 bif (s_K5 p0.meta_) then
  bif (Q12d (Q4w p0).spec 20000) then
   (Q12d (Q4w p0).status 20000)
  else
   false
 else
  false
def c_K6 (p0 : Pod) : En := .call 20 [.agg (Pod.cells p0)] []
def a_K6 (p0 : Pod) : Rs := .ret (.bool (s_K6 p0)) []
def H_K6 (p0 : Pod) : Prop := (Q18o p0) ∧ (H_K5 p0.meta_) ∧ ((s_K5 p0.meta_) = true → Q140 (Q4w p0).spec 20000) ∧ ((s_K5 p0.meta_) = true → (Q12d (Q4w p0).spec 20000) = true → Q140 (Q4w p0).status 20000) ∧ True
theorem t_K6 (p0 : Pod) (H : H_K6 p0) : Q6 G (c_K6 p0) (a_K6 p0) := by
 unfold a_K6 s_K6
 cases h0 : (s_K5 p0.meta_) with
 | true =>
  cases h1 : (Q12d (Q4w p0).spec 20000) with
  | true =>
   exact Qb (fn := Ir.K6) rfl VOK.nil [] [aN (Qww p0 (H.1)), aB (t_K5 p0.meta_ (H.2.1)) h0, aB (Q1ca (Q4w p0).spec 20000 (H.2.2.1 h0)) h1, aN (Q1ca (Q4w p0).status 20000 (H.2.2.2.1 h0 h1))] (by kernel_rfl)
  | false =>
   exact Qb (fn := Ir.K6) rfl VOK.nil [] [aN (Qww p0 (H.1)), aB (t_K5 p0.meta_ (H.2.1)) h0, aB (Q1ca (Q4w p0).spec 20000 (H.2.2.1 h0)) h1] (by kernel_rfl)
 | false =>
  exact Qb (fn := Ir.K6) rfl VOK.nil [] [aN (Qww p0 (H.1)), aB (t_K5 p0.meta_ (H.2.1)) h0] (by kernel_rfl)
def Q10e : Ty := .st [.str, .str]
def Qqv (x : Label) : Prop := okS x.key ∧ okS x.value
theorem Q12n {c : List PV} (h : Of Γ Q10e c) : ∃ x : Label, c = x.cells ∧ Qqv x := by
  have g0 := h.st1
  obtain ⟨a0, b0, rfl, h0, g1⟩ := g0.Qr
  obtain ⟨x0, rfl, k0⟩ := h0.str1
  obtain ⟨a1, b1, rfl, h1, g2⟩ := g1.Qr
  obtain ⟨x1, rfl, k1⟩ := h1.str1
  have e := g2.empty
  subst e
  exact ⟨⟨x0, x1⟩, rfl, ⟨k0, k1⟩⟩
def Qzv : Ty := .st [.str, .str, .int .i64, .bool, .bool]
def Qpo (x : Owner) : Prop := okS x.kind ∧ okS x.name ∧ Q34 x.uid ∧ (fun _ : Bool => True) x.controller ∧ (fun _ : Bool => True) x.block
theorem Q14n {c : List PV} (h : Of Γ Qzv c) : ∃ x : Owner, c = x.cells ∧ Qpo x := by
  have g0 := h.st1
  obtain ⟨a0, b0, rfl, h0, g1⟩ := g0.Qr
  obtain ⟨x0, rfl, k0⟩ := h0.str1
  obtain ⟨a1, b1, rfl, h1, g2⟩ := g1.Qr
  obtain ⟨x1, rfl, k1⟩ := h1.str1
  obtain ⟨a2, b2, rfl, h2, g3⟩ := g2.Qr
  obtain ⟨x2, rfl, k2⟩ := h2.i64
  obtain ⟨a3, b3, rfl, h3, g4⟩ := g3.Qr
  obtain ⟨x3, rfl, k3⟩ := h3.bool2
  obtain ⟨a4, b4, rfl, h4, g5⟩ := g4.Qr
  obtain ⟨x4, rfl, k4⟩ := h4.bool2
  have e := g5.empty
  subst e
  exact ⟨⟨x0, x1, x2, x3, x4⟩, rfl, ⟨k0, k1, k2, k3, k4⟩⟩
def Qnq : Ty := .st [.str, .sl 16 .str]
def Qcu (x : Manager) : Prop := okS x.name ∧ (okL 16 okS) x.fields
theorem Qu2 {c : List PV} (h : Of Γ Qnq c) : ∃ x : Manager, c = x.cells ∧ Qcu x := by
  have g0 := h.st1
  obtain ⟨a0, b0, rfl, h0, g1⟩ := g0.Qr
  obtain ⟨x0, rfl, k0⟩ := h0.str1
  obtain ⟨a1, b1, rfl, h1, g2⟩ := g1.Qr
  obtain ⟨x1, rfl, k1⟩ := (h1.sl1 (f := (fun s : ByteArray => [.str s])) (ok := okS) fun r hr => hr.str1)
  have e := g2.empty
  subst e
  exact ⟨⟨x0, x1⟩, rfl, ⟨k0, k1⟩⟩
def Qwy : Ty := .st [.str, .str, .str, .int .i64, .int .i64, .int .i64, .int .i64, .bool, .int .i64, .sl 32 Q10e, .sl 48 Qzv, .sl 16 .str, .sl 40 Qnq]
def Qkv (x : Meta) : Prop := okS x.kind ∧ okS x.namespace_ ∧ okS x.name ∧ Q34 x.uid ∧ Q34 x.version ∧ Q34 x.generation ∧ Q34 x.created ∧ (fun _ : Bool => True) x.deleting ∧ Q34 x.deleteAt ∧ (okL 32 Qqv) x.labels ∧ (okL 48 Qpo) x.owners ∧ (okL 16 okS) x.finalizers ∧ (okL 40 Qcu) x.managers
theorem Qt4 {c : List PV} (h : Of Γ Qwy c) : ∃ x : Meta, c = x.cells ∧ Qkv x := by
  have g0 := h.st1
  obtain ⟨a0, b0, rfl, h0, g1⟩ := g0.Qr
  obtain ⟨x0, rfl, k0⟩ := h0.str1
  obtain ⟨a1, b1, rfl, h1, g2⟩ := g1.Qr
  obtain ⟨x1, rfl, k1⟩ := h1.str1
  obtain ⟨a2, b2, rfl, h2, g3⟩ := g2.Qr
  obtain ⟨x2, rfl, k2⟩ := h2.str1
  obtain ⟨a3, b3, rfl, h3, g4⟩ := g3.Qr
  obtain ⟨x3, rfl, k3⟩ := h3.i64
  obtain ⟨a4, b4, rfl, h4, g5⟩ := g4.Qr
  obtain ⟨x4, rfl, k4⟩ := h4.i64
  obtain ⟨a5, b5, rfl, h5, g6⟩ := g5.Qr
  obtain ⟨x5, rfl, k5⟩ := h5.i64
  obtain ⟨a6, b6, rfl, h6, g7⟩ := g6.Qr
  obtain ⟨x6, rfl, k6⟩ := h6.i64
  obtain ⟨a7, b7, rfl, h7, g8⟩ := g7.Qr
  obtain ⟨x7, rfl, k7⟩ := h7.bool2
  obtain ⟨a8, b8, rfl, h8, g9⟩ := g8.Qr
  obtain ⟨x8, rfl, k8⟩ := h8.i64
  obtain ⟨a9, b9, rfl, h9, g10⟩ := g9.Qr
  obtain ⟨x9, rfl, k9⟩ := (h9.sl1 (f := Label.cells) (ok := Qqv) fun r hr => (Q12n hr))
  obtain ⟨a10, b10, rfl, h10, g11⟩ := g10.Qr
  obtain ⟨x10, rfl, k10⟩ := (h10.sl1 (f := Owner.cells) (ok := Qpo) fun r hr => (Q14n hr))
  obtain ⟨a11, b11, rfl, h11, g12⟩ := g11.Qr
  obtain ⟨x11, rfl, k11⟩ := (h11.sl1 (f := (fun s : ByteArray => [.str s])) (ok := okS) fun r hr => hr.str1)
  obtain ⟨a12, b12, rfl, h12, g13⟩ := g12.Qr
  obtain ⟨x12, rfl, k12⟩ := (h12.sl1 (f := Manager.cells) (ok := Qcu) fun r hr => (Qu2 hr))
  have e := g13.empty
  subst e
  exact ⟨⟨x0, x1, x2, x3, x4, x5, x6, x7, x8, x9, x10, x11, x12⟩, rfl, ⟨k0, k1, k2, k3, k4, k5, k6, k7, k8, k9, k10, k11, k12⟩⟩
def Q6s : Ty := .st [.int .i64, .int .i64, .int .i64]
def Q6g (x : Resources) : Prop := Q34 x.cPU ∧ Q34 x.memory ∧ Q34 x.disk
theorem Q6u {c : List PV} (h : Of Γ Q6s c) : ∃ x : Resources, c = x.cells ∧ Q6g x := by
  have g0 := h.st1
  obtain ⟨a0, b0, rfl, h0, g1⟩ := g0.Qr
  obtain ⟨x0, rfl, k0⟩ := h0.i64
  obtain ⟨a1, b1, rfl, h1, g2⟩ := g1.Qr
  obtain ⟨x1, rfl, k1⟩ := h1.i64
  obtain ⟨a2, b2, rfl, h2, g3⟩ := g2.Qr
  obtain ⟨x2, rfl, k2⟩ := h2.i64
  have e := g3.empty
  subst e
  exact ⟨⟨x0, x1, x2⟩, rfl, ⟨k0, k1, k2⟩⟩
def Qey : Ty := .st [.int .i64, .int .i64, .int .i64, .int .i64]
def Q7n (x : Probe) : Prop := Q34 x.delay ∧ Q34 x.period ∧ Q34 x.success ∧ Q34 x.failure
theorem Qc8 {c : List PV} (h : Of Γ Qey c) : ∃ x : Probe, c = x.cells ∧ Q7n x := by
  have g0 := h.st1
  obtain ⟨a0, b0, rfl, h0, g1⟩ := g0.Qr
  obtain ⟨x0, rfl, k0⟩ := h0.i64
  obtain ⟨a1, b1, rfl, h1, g2⟩ := g1.Qr
  obtain ⟨x1, rfl, k1⟩ := h1.i64
  obtain ⟨a2, b2, rfl, h2, g3⟩ := g2.Qr
  obtain ⟨x2, rfl, k2⟩ := h2.i64
  obtain ⟨a3, b3, rfl, h3, g4⟩ := g3.Qr
  obtain ⟨x3, rfl, k3⟩ := h3.i64
  have e := g4.empty
  subst e
  exact ⟨⟨x0, x1, x2, x3⟩, rfl, ⟨k0, k1, k2, k3⟩⟩
def Qdf : Ty := .st [.str, .str, Q6s, Q6s, .sl 32 Qey, .sl 32 Qey, .sl 32 Qey]
def Q8j (x : Container) : Prop := okS x.name ∧ okS x.image ∧ Q6g x.request ∧ Q6g x.limit ∧ (okL 32 Q7n) x.live ∧ (okL 32 Q7n) x.ready ∧ (okL 32 Q7n) x.startup
theorem Qlf {c : List PV} (h : Of Γ Qdf c) : ∃ x : Container, c = x.cells ∧ Q8j x := by
  have g0 := h.st1
  obtain ⟨a0, b0, rfl, h0, g1⟩ := g0.Qr
  obtain ⟨x0, rfl, k0⟩ := h0.str1
  obtain ⟨a1, b1, rfl, h1, g2⟩ := g1.Qr
  obtain ⟨x1, rfl, k1⟩ := h1.str1
  obtain ⟨a2, b2, rfl, h2, g3⟩ := g2.Qr
  obtain ⟨x2, rfl, k2⟩ := (Q6u h2)
  obtain ⟨a3, b3, rfl, h3, g4⟩ := g3.Qr
  obtain ⟨x3, rfl, k3⟩ := (Q6u h3)
  obtain ⟨a4, b4, rfl, h4, g5⟩ := g4.Qr
  obtain ⟨x4, rfl, k4⟩ := (h4.sl1 (f := Probe.cells) (ok := Q7n) fun r hr => (Qc8 hr))
  obtain ⟨a5, b5, rfl, h5, g6⟩ := g5.Qr
  obtain ⟨x5, rfl, k5⟩ := (h5.sl1 (f := Probe.cells) (ok := Q7n) fun r hr => (Qc8 hr))
  obtain ⟨a6, b6, rfl, h6, g7⟩ := g6.Qr
  obtain ⟨x6, rfl, k6⟩ := (h6.sl1 (f := Probe.cells) (ok := Q7n) fun r hr => (Qc8 hr))
  have e := g7.empty
  subst e
  exact ⟨⟨x0, x1, x2, x3, x4, x5, x6⟩, rfl, ⟨k0, k1, k2, k3, k4, k5, k6⟩⟩
def Q46 : Ty := .st [.str, .int .i64, .sl 16 .str]
def Q2g (x : Requirement) : Prop := okS x.key ∧ Q34 x.op ∧ (okL 16 okS) x.values
theorem Q4n {c : List PV} (h : Of Γ Q46 c) : ∃ x : Requirement, c = x.cells ∧ Q2g x := by
  have g0 := h.st1
  obtain ⟨a0, b0, rfl, h0, g1⟩ := g0.Qr
  obtain ⟨x0, rfl, k0⟩ := h0.str1
  obtain ⟨a1, b1, rfl, h1, g2⟩ := g1.Qr
  obtain ⟨x1, rfl, k1⟩ := h1.i64
  obtain ⟨a2, b2, rfl, h2, g3⟩ := g2.Qr
  obtain ⟨x2, rfl, k2⟩ := (h2.sl1 (f := (fun s : ByteArray => [.str s])) (ok := okS) fun r hr => hr.str1)
  have e := g3.empty
  subst e
  exact ⟨⟨x0, x1, x2⟩, rfl, ⟨k0, k1, k2⟩⟩
def Qk4 : Ty := .st [.bool, .sl 48 Q46, .int .i64]
def Qao (x : NodeTerm) : Prop := (fun _ : Bool => True) x.required ∧ (okL 48 Q2g) x.selector ∧ Q34 x.weight
theorem Qr1 {c : List PV} (h : Of Γ Qk4 c) : ∃ x : NodeTerm, c = x.cells ∧ Qao x := by
  have g0 := h.st1
  obtain ⟨a0, b0, rfl, h0, g1⟩ := g0.Qr
  obtain ⟨x0, rfl, k0⟩ := h0.bool2
  obtain ⟨a1, b1, rfl, h1, g2⟩ := g1.Qr
  obtain ⟨x1, rfl, k1⟩ := (h1.sl1 (f := Requirement.cells) (ok := Q2g) fun r hr => (Q4n hr))
  obtain ⟨a2, b2, rfl, h2, g3⟩ := g2.Qr
  obtain ⟨x2, rfl, k2⟩ := h2.i64
  have e := g3.empty
  subst e
  exact ⟨⟨x0, x1, x2⟩, rfl, ⟨k0, k1, k2⟩⟩
def Qm5 : Ty := .st [.bool, .bool, .sl 48 Q46, .str, .int .i64]
def Qcm (x : PodTerm) : Prop := (fun _ : Bool => True) x.required ∧ (fun _ : Bool => True) x.anti ∧ (okL 48 Q2g) x.selector ∧ okS x.topology ∧ Q34 x.weight
theorem Qu3 {c : List PV} (h : Of Γ Qm5 c) : ∃ x : PodTerm, c = x.cells ∧ Qcm x := by
  have g0 := h.st1
  obtain ⟨a0, b0, rfl, h0, g1⟩ := g0.Qr
  obtain ⟨x0, rfl, k0⟩ := h0.bool2
  obtain ⟨a1, b1, rfl, h1, g2⟩ := g1.Qr
  obtain ⟨x1, rfl, k1⟩ := h1.bool2
  obtain ⟨a2, b2, rfl, h2, g3⟩ := g2.Qr
  obtain ⟨x2, rfl, k2⟩ := (h2.sl1 (f := Requirement.cells) (ok := Q2g) fun r hr => (Q4n hr))
  obtain ⟨a3, b3, rfl, h3, g4⟩ := g3.Qr
  obtain ⟨x3, rfl, k3⟩ := h3.str1
  obtain ⟨a4, b4, rfl, h4, g5⟩ := g4.Qr
  obtain ⟨x4, rfl, k4⟩ := h4.i64
  have e := g5.empty
  subst e
  exact ⟨⟨x0, x1, x2, x3, x4⟩, rfl, ⟨k0, k1, k2, k3, k4⟩⟩
def Qb4 : Ty := .st [.int .i64, .str, .sl 48 Q46, .bool]
def Q7x (x : SpreadRule) : Prop := Q34 x.maxSkew ∧ okS x.topology ∧ (okL 48 Q2g) x.selector ∧ (fun _ : Bool => True) x.required
theorem Qhk {c : List PV} (h : Of Γ Qb4 c) : ∃ x : SpreadRule, c = x.cells ∧ Q7x x := by
  have g0 := h.st1
  obtain ⟨a0, b0, rfl, h0, g1⟩ := g0.Qr
  obtain ⟨x0, rfl, k0⟩ := h0.i64
  obtain ⟨a1, b1, rfl, h1, g2⟩ := g1.Qr
  obtain ⟨x1, rfl, k1⟩ := h1.str1
  obtain ⟨a2, b2, rfl, h2, g3⟩ := g2.Qr
  obtain ⟨x2, rfl, k2⟩ := (h2.sl1 (f := Requirement.cells) (ok := Q2g) fun r hr => (Q4n hr))
  obtain ⟨a3, b3, rfl, h3, g4⟩ := g3.Qr
  obtain ⟨x3, rfl, k3⟩ := h3.bool2
  have e := g4.empty
  subst e
  exact ⟨⟨x0, x1, x2, x3⟩, rfl, ⟨k0, k1, k2, k3⟩⟩
def Qb8 : Ty := .st [.str, .str, .bool, .int .i64, .int .i64]
def Q7s (x : Toleration) : Prop := okS x.key ∧ okS x.value ∧ (fun _ : Bool => True) x.exists_ ∧ Q34 x.effect ∧ Q34 x.seconds
theorem Qgp {c : List PV} (h : Of Γ Qb8 c) : ∃ x : Toleration, c = x.cells ∧ Q7s x := by
  have g0 := h.st1
  obtain ⟨a0, b0, rfl, h0, g1⟩ := g0.Qr
  obtain ⟨x0, rfl, k0⟩ := h0.str1
  obtain ⟨a1, b1, rfl, h1, g2⟩ := g1.Qr
  obtain ⟨x1, rfl, k1⟩ := h1.str1
  obtain ⟨a2, b2, rfl, h2, g3⟩ := g2.Qr
  obtain ⟨x2, rfl, k2⟩ := h2.bool2
  obtain ⟨a3, b3, rfl, h3, g4⟩ := g3.Qr
  obtain ⟨x3, rfl, k3⟩ := h3.i64
  obtain ⟨a4, b4, rfl, h4, g5⟩ := g4.Qr
  obtain ⟨x4, rfl, k4⟩ := h4.i64
  have e := g5.empty
  subst e
  exact ⟨⟨x0, x1, x2, x3, x4⟩, rfl, ⟨k0, k1, k2, k3, k4⟩⟩
def Qmu : Ty := .st [.str, .int .i64, .int .i64, .int .i64, .sl 152 Qdf, .sl 48 Q46, .sl 40 Qk4, .sl 56 Qm5, .sl 56 Qb4, .sl 56 Qb8]
def Qlr (x : PodSpec) : Prop := okS x.node ∧ Q34 x.priority ∧ Q34 x.restart ∧ Q34 x.grace ∧ (okL 152 Q8j) x.containers ∧ (okL 48 Q2g) x.nodeSelector ∧ (okL 40 Qao) x.nodeTerms ∧ (okL 56 Qcm) x.podTerms ∧ (okL 56 Q7x) x.spread ∧ (okL 56 Q7s) x.tolerations
theorem Quv {c : List PV} (h : Of Γ Qmu c) : ∃ x : PodSpec, c = x.cells ∧ Qlr x := by
  have g0 := h.st1
  obtain ⟨a0, b0, rfl, h0, g1⟩ := g0.Qr
  obtain ⟨x0, rfl, k0⟩ := h0.str1
  obtain ⟨a1, b1, rfl, h1, g2⟩ := g1.Qr
  obtain ⟨x1, rfl, k1⟩ := h1.i64
  obtain ⟨a2, b2, rfl, h2, g3⟩ := g2.Qr
  obtain ⟨x2, rfl, k2⟩ := h2.i64
  obtain ⟨a3, b3, rfl, h3, g4⟩ := g3.Qr
  obtain ⟨x3, rfl, k3⟩ := h3.i64
  obtain ⟨a4, b4, rfl, h4, g5⟩ := g4.Qr
  obtain ⟨x4, rfl, k4⟩ := (h4.sl1 (f := Container.cells) (ok := Q8j) fun r hr => (Qlf hr))
  obtain ⟨a5, b5, rfl, h5, g6⟩ := g5.Qr
  obtain ⟨x5, rfl, k5⟩ := (h5.sl1 (f := Requirement.cells) (ok := Q2g) fun r hr => (Q4n hr))
  obtain ⟨a6, b6, rfl, h6, g7⟩ := g6.Qr
  obtain ⟨x6, rfl, k6⟩ := (h6.sl1 (f := NodeTerm.cells) (ok := Qao) fun r hr => (Qr1 hr))
  obtain ⟨a7, b7, rfl, h7, g8⟩ := g7.Qr
  obtain ⟨x7, rfl, k7⟩ := (h7.sl1 (f := PodTerm.cells) (ok := Qcm) fun r hr => (Qu3 hr))
  obtain ⟨a8, b8, rfl, h8, g9⟩ := g8.Qr
  obtain ⟨x8, rfl, k8⟩ := (h8.sl1 (f := SpreadRule.cells) (ok := Q7x) fun r hr => (Qhk hr))
  obtain ⟨a9, b9, rfl, h9, g10⟩ := g9.Qr
  obtain ⟨x9, rfl, k9⟩ := (h9.sl1 (f := Toleration.cells) (ok := Q7s) fun r hr => (Qgp hr))
  have e := g10.empty
  subst e
  exact ⟨⟨x0, x1, x2, x3, x4, x5, x6, x7, x8, x9⟩, rfl, ⟨k0, k1, k2, k3, k4, k5, k6, k7, k8, k9⟩⟩
def Q6k : Ty := .st [.str, .int .i64, .int .i64, .int .i64, .int .i64, .bool, .bool]
def Q51 (x : ContainerStatus) : Prop := okS x.name ∧ Q34 x.state ∧ Q34 x.restarts ∧ Q34 x.exitCode ∧ Q34 x.since ∧ (fun _ : Bool => True) x.ready ∧ (fun _ : Bool => True) x.started
theorem Q9s {c : List PV} (h : Of Γ Q6k c) : ∃ x : ContainerStatus, c = x.cells ∧ Q51 x := by
  have g0 := h.st1
  obtain ⟨a0, b0, rfl, h0, g1⟩ := g0.Qr
  obtain ⟨x0, rfl, k0⟩ := h0.str1
  obtain ⟨a1, b1, rfl, h1, g2⟩ := g1.Qr
  obtain ⟨x1, rfl, k1⟩ := h1.i64
  obtain ⟨a2, b2, rfl, h2, g3⟩ := g2.Qr
  obtain ⟨x2, rfl, k2⟩ := h2.i64
  obtain ⟨a3, b3, rfl, h3, g4⟩ := g3.Qr
  obtain ⟨x3, rfl, k3⟩ := h3.i64
  obtain ⟨a4, b4, rfl, h4, g5⟩ := g4.Qr
  obtain ⟨x4, rfl, k4⟩ := h4.i64
  obtain ⟨a5, b5, rfl, h5, g6⟩ := g5.Qr
  obtain ⟨x5, rfl, k5⟩ := h5.bool2
  obtain ⟨a6, b6, rfl, h6, g7⟩ := g6.Qr
  obtain ⟨x6, rfl, k6⟩ := h6.bool2
  have e := g7.empty
  subst e
  exact ⟨⟨x0, x1, x2, x3, x4, x5, x6⟩, rfl, ⟨k0, k1, k2, k3, k4, k5, k6⟩⟩
def Qd6 : Ty := .st [.int .i64, .bool, .int .i64, .int .i64, .int .i64, .sl 56 Q6k, .int .i64, .str, .str]
def Qd7 (x : PodStatus) : Prop := Q34 x.phase ∧ (fun _ : Bool => True) x.ready ∧ Q34 x.readySince ∧ Q34 x.started ∧ Q34 x.finished ∧ (okL 56 Q51) x.containers ∧ Q34 x.address ∧ okS x.nominated ∧ okS x.reason
theorem Qli {c : List PV} (h : Of Γ Qd6 c) : ∃ x : PodStatus, c = x.cells ∧ Qd7 x := by
  have g0 := h.st1
  obtain ⟨a0, b0, rfl, h0, g1⟩ := g0.Qr
  obtain ⟨x0, rfl, k0⟩ := h0.i64
  obtain ⟨a1, b1, rfl, h1, g2⟩ := g1.Qr
  obtain ⟨x1, rfl, k1⟩ := h1.bool2
  obtain ⟨a2, b2, rfl, h2, g3⟩ := g2.Qr
  obtain ⟨x2, rfl, k2⟩ := h2.i64
  obtain ⟨a3, b3, rfl, h3, g4⟩ := g3.Qr
  obtain ⟨x3, rfl, k3⟩ := h3.i64
  obtain ⟨a4, b4, rfl, h4, g5⟩ := g4.Qr
  obtain ⟨x4, rfl, k4⟩ := h4.i64
  obtain ⟨a5, b5, rfl, h5, g6⟩ := g5.Qr
  obtain ⟨x5, rfl, k5⟩ := (h5.sl1 (f := ContainerStatus.cells) (ok := Q51) fun r hr => (Q9s hr))
  obtain ⟨a6, b6, rfl, h6, g7⟩ := g6.Qr
  obtain ⟨x6, rfl, k6⟩ := h6.i64
  obtain ⟨a7, b7, rfl, h7, g8⟩ := g7.Qr
  obtain ⟨x7, rfl, k7⟩ := h7.str1
  obtain ⟨a8, b8, rfl, h8, g9⟩ := g8.Qr
  obtain ⟨x8, rfl, k8⟩ := h8.str1
  have e := g9.empty
  subst e
  exact ⟨⟨x0, x1, x2, x3, x4, x5, x6, x7, x8⟩, rfl, ⟨k0, k1, k2, k3, k4, k5, k6, k7, k8⟩⟩
def Q1a0 : Ty := .st [Qwy, Qmu, Qd6]
def Q167 (x : Pod) : Prop := Qkv x.meta_ ∧ Qlr x.spec ∧ Qd7 x.status
theorem Q17y {c : List PV} (h : Of Γ Q1a0 c) : ∃ x : Pod, c = x.cells ∧ Q167 x := by
  have g0 := h.st1
  obtain ⟨a0, b0, rfl, h0, g1⟩ := g0.Qr
  obtain ⟨x0, rfl, k0⟩ := (Qt4 h0)
  obtain ⟨a1, b1, rfl, h1, g2⟩ := g1.Qr
  obtain ⟨x1, rfl, k1⟩ := (Quv h1)
  obtain ⟨a2, b2, rfl, h2, g3⟩ := g2.Qr
  obtain ⟨x2, rfl, k2⟩ := (Qli h2)
  have e := g3.empty
  subst e
  exact ⟨⟨x0, x1, x2⟩, rfl, ⟨k0, k1, k2⟩⟩
def Qz9 : Ty := .st [.str, .str, .int .i64, .int .i64]
def Qra (x : Taint) : Prop := okS x.key ∧ okS x.value ∧ Q34 x.effect ∧ Q34 x.since
theorem Q134 {c : List PV} (h : Of Γ Qz9 c) : ∃ x : Taint, c = x.cells ∧ Qra x := by
  have g0 := h.st1
  obtain ⟨a0, b0, rfl, h0, g1⟩ := g0.Qr
  obtain ⟨x0, rfl, k0⟩ := h0.str1
  obtain ⟨a1, b1, rfl, h1, g2⟩ := g1.Qr
  obtain ⟨x1, rfl, k1⟩ := h1.str1
  obtain ⟨a2, b2, rfl, h2, g3⟩ := g2.Qr
  obtain ⟨x2, rfl, k2⟩ := h2.i64
  obtain ⟨a3, b3, rfl, h3, g4⟩ := g3.Qr
  obtain ⟨x3, rfl, k3⟩ := h3.i64
  have e := g4.empty
  subst e
  exact ⟨⟨x0, x1, x2, x3⟩, rfl, ⟨k0, k1, k2, k3⟩⟩
def Qyo : Ty := .st [.str, .int .i64, .int .i64]
def Qpt (x : Image) : Prop := okS x.name ∧ Q34 x.size ∧ Q34 x.used
theorem Q14o {c : List PV} (h : Of Γ Qyo c) : ∃ x : Image, c = x.cells ∧ Qpt x := by
  have g0 := h.st1
  obtain ⟨a0, b0, rfl, h0, g1⟩ := g0.Qr
  obtain ⟨x0, rfl, k0⟩ := h0.str1
  obtain ⟨a1, b1, rfl, h1, g2⟩ := g1.Qr
  obtain ⟨x1, rfl, k1⟩ := h1.i64
  obtain ⟨a2, b2, rfl, h2, g3⟩ := g2.Qr
  obtain ⟨x2, rfl, k2⟩ := h2.i64
  have e := g3.empty
  subst e
  exact ⟨⟨x0, x1, x2⟩, rfl, ⟨k0, k1, k2⟩⟩
def Q15u : Ty := .st [Qwy, Q6s, .int .i64, .bool, .sl 48 Qz9, .bool, .int .i64, .bool, .bool, .sl 32 Qyo]
def Qwx (x : Node) : Prop := Qkv x.meta_ ∧ Q6g x.capacity ∧ Q34 x.maxPods ∧ (fun _ : Bool => True) x.cordoned ∧ (okL 48 Qra) x.taints ∧ (fun _ : Bool => True) x.ready ∧ Q34 x.beat ∧ (fun _ : Bool => True) x.lowMem ∧ (fun _ : Bool => True) x.lowDisk ∧ (okL 32 Qpt) x.images
theorem Q15b {c : List PV} (h : Of Γ Q15u c) : ∃ x : Node, c = x.cells ∧ Qwx x := by
  have g0 := h.st1
  obtain ⟨a0, b0, rfl, h0, g1⟩ := g0.Qr
  obtain ⟨x0, rfl, k0⟩ := (Qt4 h0)
  obtain ⟨a1, b1, rfl, h1, g2⟩ := g1.Qr
  obtain ⟨x1, rfl, k1⟩ := (Q6u h1)
  obtain ⟨a2, b2, rfl, h2, g3⟩ := g2.Qr
  obtain ⟨x2, rfl, k2⟩ := h2.i64
  obtain ⟨a3, b3, rfl, h3, g4⟩ := g3.Qr
  obtain ⟨x3, rfl, k3⟩ := h3.bool2
  obtain ⟨a4, b4, rfl, h4, g5⟩ := g4.Qr
  obtain ⟨x4, rfl, k4⟩ := (h4.sl1 (f := Taint.cells) (ok := Qra) fun r hr => (Q134 hr))
  obtain ⟨a5, b5, rfl, h5, g6⟩ := g5.Qr
  obtain ⟨x5, rfl, k5⟩ := h5.bool2
  obtain ⟨a6, b6, rfl, h6, g7⟩ := g6.Qr
  obtain ⟨x6, rfl, k6⟩ := h6.i64
  obtain ⟨a7, b7, rfl, h7, g8⟩ := g7.Qr
  obtain ⟨x7, rfl, k7⟩ := h7.bool2
  obtain ⟨a8, b8, rfl, h8, g9⟩ := g8.Qr
  obtain ⟨x8, rfl, k8⟩ := h8.bool2
  obtain ⟨a9, b9, rfl, h9, g10⟩ := g9.Qr
  obtain ⟨x9, rfl, k9⟩ := (h9.sl1 (f := Image.cells) (ok := Qpt) fun r hr => (Q14o hr))
  have e := g10.empty
  subst e
  exact ⟨⟨x0, x1, x2, x3, x4, x5, x6, x7, x8, x9⟩, rfl, ⟨k0, k1, k2, k3, k4, k5, k6, k7, k8, k9⟩⟩
def Q8p (_N : Nat) (_x : Probe) : Prop := True
theorem Qa3 {N : Nat} {x : Probe} (_h : CapL N x.cells) : Q8p N x := trivial
theorem Probe.Q2o {N : Nat} (_ : N ≤ sB) {x : Probe} (_ : Q8p N x) : Probe.sm x := trivial
def Q4x (_N : Nat) (_x : Resources) : Prop := True
theorem Q6b {N : Nat} {x : Resources} (_h : CapL N x.cells) : Q4x N x := trivial
theorem Resources.Q2o {N : Nat} (_ : N ≤ sB) {x : Resources} (_ : Q4x N x) : Resources.sm x := trivial
def Q7y (N : Nat) (x : Container) : Prop := (fun s : ByteArray => s.size ≤ N) x.name ∧ (fun s : ByteArray => s.size ≤ N) x.image ∧ (Q4x N) x.request ∧ (Q4x N) x.limit ∧ (fun l : List Probe => l.length ≤ N ∧ ∀ x ∈ l, (Q8p N) x) x.live ∧ (fun l : List Probe => l.length ≤ N ∧ ∀ x ∈ l, (Q8p N) x) x.ready ∧ (fun l : List Probe => l.length ≤ N ∧ ∀ x ∈ l, (Q8p N) x) x.startup
theorem Qjs {N : Nat} {x : Container} (h : CapL N x.cells) : Q7y N x := ⟨(let g : CapL N [.str x.name] := fun p hp => h p (by simp only [List.mem_cons, List.not_mem_nil, or_false] at hp; rcases hp with rfl <;> simp [Container.cells]); (g _ List.mem_cons_self).strI), (let g : CapL N [.str x.image] := fun p hp => h p (by simp only [List.mem_cons, List.not_mem_nil, or_false] at hp; rcases hp with rfl <;> simp [Container.cells]); (g _ List.mem_cons_self).strI), (let g : CapL N [.int .i64 x.request.cPU, .int .i64 x.request.memory, .int .i64 x.request.disk] := fun p hp => h p (by simp only [List.mem_cons, List.not_mem_nil, or_false] at hp; rcases hp with rfl | rfl | rfl <;> simp [Container.cells]); (Q6b g)), (let g : CapL N [.int .i64 x.limit.cPU, .int .i64 x.limit.memory, .int .i64 x.limit.disk] := fun p hp => h p (by simp only [List.mem_cons, List.not_mem_nil, or_false] at hp; rcases hp with rfl | rfl | rfl <;> simp [Container.cells]); (Q6b g)), (let g : CapL N [.sl (Probe.rows x.live)] := fun p hp => h p (by simp only [List.mem_cons, List.not_mem_nil, or_false] at hp; rcases hp with rfl <;> simp [Container.cells]); (let r := Cap.Q72 (f := Probe.cells) (g _ List.mem_cons_self); ⟨r.1, fun x hx => (Qa3 (r.2 x hx))⟩)), (let g : CapL N [.sl (Probe.rows x.ready)] := fun p hp => h p (by simp only [List.mem_cons, List.not_mem_nil, or_false] at hp; rcases hp with rfl <;> simp [Container.cells]); (let r := Cap.Q72 (f := Probe.cells) (g _ List.mem_cons_self); ⟨r.1, fun x hx => (Qa3 (r.2 x hx))⟩)), (let g : CapL N [.sl (Probe.rows x.startup)] := fun p hp => h p (by simp only [List.mem_cons, List.not_mem_nil, or_false] at hp; rcases hp with rfl <;> simp [Container.cells]); (let r := Cap.Q72 (f := Probe.cells) (g _ List.mem_cons_self); ⟨r.1, fun x hx => (Qa3 (r.2 x hx))⟩))⟩
theorem Container.Q2o {N : Nat} (hN : N ≤ sB) {x : Container} (c : Q7y N x) : Container.sm x := ⟨Resources.Q2o hN c.2.2.1, Resources.Q2o hN c.2.2.2.1, ⟨Nat.le_trans c.2.2.2.2.1.1 hN, fun _ hx => Probe.Q2o hN (c.2.2.2.2.1.2 _ hx)⟩, ⟨Nat.le_trans c.2.2.2.2.2.1.1 hN, fun _ hx => Probe.Q2o hN (c.2.2.2.2.2.1.2 _ hx)⟩, ⟨Nat.le_trans c.2.2.2.2.2.2.1 hN, fun _ hx => Probe.Q2o hN (c.2.2.2.2.2.2.2 _ hx)⟩, trivial⟩
def Q38 (N : Nat) (x : Requirement) : Prop := (fun s : ByteArray => s.size ≤ N) x.key ∧ (fun l : List ByteArray => l.length ≤ N ∧ ∀ x ∈ l, (fun s : ByteArray => s.size ≤ N) x) x.values
theorem Q3o {N : Nat} {x : Requirement} (h : CapL N x.cells) : Q38 N x := ⟨(let g : CapL N [.str x.key] := fun p hp => h p (by simp only [List.mem_cons, List.not_mem_nil, or_false] at hp; rcases hp with rfl <;> simp [Requirement.cells]); (g _ List.mem_cons_self).strI), (let g : CapL N [.sl (Qf x.values)] := fun p hp => h p (by simp only [List.mem_cons, List.not_mem_nil, or_false] at hp; rcases hp with rfl <;> simp [Requirement.cells]); (let r := Cap.Q72 (f := (fun s : ByteArray => [.str s])) (g _ List.mem_cons_self); ⟨r.1, fun x hx => ((r.2 x hx) _ List.mem_cons_self).strI⟩))⟩
theorem Requirement.Q2o {N : Nat} (hN : N ≤ sB) {x : Requirement} (c : Q38 N x) : Requirement.sm x := ⟨⟨Nat.le_trans c.2.1 hN, fun _ _hx => trivial⟩, trivial⟩
def Q8n (N : Nat) (x : NodeTerm) : Prop := (fun l : List Requirement => l.length ≤ N ∧ ∀ x ∈ l, (Q38 N) x) x.selector
theorem Qlg {N : Nat} {x : NodeTerm} (h : CapL N x.cells) : Q8n N x := (let g : CapL N [.sl (Requirement.rows x.selector)] := fun p hp => h p (by simp only [List.mem_cons, List.not_mem_nil, or_false] at hp; rcases hp with rfl <;> simp [NodeTerm.cells]); (let r := Cap.Q72 (f := Requirement.cells) (g _ List.mem_cons_self); ⟨r.1, fun x hx => (Q3o (r.2 x hx))⟩))
theorem NodeTerm.Q2o {N : Nat} (hN : N ≤ sB) {x : NodeTerm} (c : Q8n N x) : NodeTerm.sm x := ⟨⟨Nat.le_trans c.1 hN, fun _ hx => Requirement.Q2o hN (c.2 _ hx)⟩, trivial⟩
def Qa2 (N : Nat) (x : PodTerm) : Prop := (fun l : List Requirement => l.length ≤ N ∧ ∀ x ∈ l, (Q38 N) x) x.selector ∧ (fun s : ByteArray => s.size ≤ N) x.topology
theorem Qqn {N : Nat} {x : PodTerm} (h : CapL N x.cells) : Qa2 N x := ⟨(let g : CapL N [.sl (Requirement.rows x.selector)] := fun p hp => h p (by simp only [List.mem_cons, List.not_mem_nil, or_false] at hp; rcases hp with rfl <;> simp [PodTerm.cells]); (let r := Cap.Q72 (f := Requirement.cells) (g _ List.mem_cons_self); ⟨r.1, fun x hx => (Q3o (r.2 x hx))⟩)), (let g : CapL N [.str x.topology] := fun p hp => h p (by simp only [List.mem_cons, List.not_mem_nil, or_false] at hp; rcases hp with rfl <;> simp [PodTerm.cells]); (g _ List.mem_cons_self).strI)⟩
theorem PodTerm.Q2o {N : Nat} (hN : N ≤ sB) {x : PodTerm} (c : Qa2 N x) : PodTerm.sm x := ⟨⟨Nat.le_trans c.1.1 hN, fun _ hx => Requirement.Q2o hN (c.1.2 _ hx)⟩, trivial⟩
def Q73 (N : Nat) (x : SpreadRule) : Prop := (fun s : ByteArray => s.size ≤ N) x.topology ∧ (fun l : List Requirement => l.length ≤ N ∧ ∀ x ∈ l, (Q38 N) x) x.selector
theorem Qds {N : Nat} {x : SpreadRule} (h : CapL N x.cells) : Q73 N x := ⟨(let g : CapL N [.str x.topology] := fun p hp => h p (by simp only [List.mem_cons, List.not_mem_nil, or_false] at hp; rcases hp with rfl <;> simp [SpreadRule.cells]); (g _ List.mem_cons_self).strI), (let g : CapL N [.sl (Requirement.rows x.selector)] := fun p hp => h p (by simp only [List.mem_cons, List.not_mem_nil, or_false] at hp; rcases hp with rfl <;> simp [SpreadRule.cells]); (let r := Cap.Q72 (f := Requirement.cells) (g _ List.mem_cons_self); ⟨r.1, fun x hx => (Q3o (r.2 x hx))⟩))⟩
theorem SpreadRule.Q2o {N : Nat} (hN : N ≤ sB) {x : SpreadRule} (c : Q73 N x) : SpreadRule.sm x := ⟨⟨Nat.le_trans c.2.1 hN, fun _ hx => Requirement.Q2o hN (c.2.2 _ hx)⟩, trivial⟩
def Q6w (N : Nat) (x : Toleration) : Prop := (fun s : ByteArray => s.size ≤ N) x.key ∧ (fun s : ByteArray => s.size ≤ N) x.value
theorem Qdt {N : Nat} {x : Toleration} (h : CapL N x.cells) : Q6w N x := ⟨(let g : CapL N [.str x.key] := fun p hp => h p (by simp only [List.mem_cons, List.not_mem_nil, or_false] at hp; rcases hp with rfl <;> simp [Toleration.cells]); (g _ List.mem_cons_self).strI), (let g : CapL N [.str x.value] := fun p hp => h p (by simp only [List.mem_cons, List.not_mem_nil, or_false] at hp; rcases hp with rfl <;> simp [Toleration.cells]); (g _ List.mem_cons_self).strI)⟩
theorem Toleration.Q2o {N : Nat} (_ : N ≤ sB) {x : Toleration} (_ : Q6w N x) : Toleration.sm x := trivial
def Q7o (N : Nat) (x : PodSpec) : Prop := (fun s : ByteArray => s.size ≤ N) x.node ∧ (fun l : List Container => l.length ≤ N ∧ ∀ x ∈ l, (Q7y N) x) x.containers ∧ (fun l : List Requirement => l.length ≤ N ∧ ∀ x ∈ l, (Q38 N) x) x.nodeSelector ∧ (fun l : List NodeTerm => l.length ≤ N ∧ ∀ x ∈ l, (Q8n N) x) x.nodeTerms ∧ (fun l : List PodTerm => l.length ≤ N ∧ ∀ x ∈ l, (Qa2 N) x) x.podTerms ∧ (fun l : List SpreadRule => l.length ≤ N ∧ ∀ x ∈ l, (Q73 N) x) x.spread ∧ (fun l : List Toleration => l.length ≤ N ∧ ∀ x ∈ l, (Q6w N) x) x.tolerations
theorem Qpn {N : Nat} {x : PodSpec} (h : CapL N x.cells) : Q7o N x := ⟨(let g : CapL N [.str x.node] := fun p hp => h p (by simp only [List.mem_cons, List.not_mem_nil, or_false] at hp; rcases hp with rfl <;> simp [PodSpec.cells]); (g _ List.mem_cons_self).strI), (let g : CapL N [.sl (Container.rows x.containers)] := fun p hp => h p (by simp only [List.mem_cons, List.not_mem_nil, or_false] at hp; rcases hp with rfl <;> simp [PodSpec.cells]); (let r := Cap.Q72 (f := Container.cells) (g _ List.mem_cons_self); ⟨r.1, fun x hx => (Qjs (r.2 x hx))⟩)), (let g : CapL N [.sl (Requirement.rows x.nodeSelector)] := fun p hp => h p (by simp only [List.mem_cons, List.not_mem_nil, or_false] at hp; rcases hp with rfl <;> simp [PodSpec.cells]); (let r := Cap.Q72 (f := Requirement.cells) (g _ List.mem_cons_self); ⟨r.1, fun x hx => (Q3o (r.2 x hx))⟩)), (let g : CapL N [.sl (NodeTerm.rows x.nodeTerms)] := fun p hp => h p (by simp only [List.mem_cons, List.not_mem_nil, or_false] at hp; rcases hp with rfl <;> simp [PodSpec.cells]); (let r := Cap.Q72 (f := NodeTerm.cells) (g _ List.mem_cons_self); ⟨r.1, fun x hx => (Qlg (r.2 x hx))⟩)), (let g : CapL N [.sl (PodTerm.rows x.podTerms)] := fun p hp => h p (by simp only [List.mem_cons, List.not_mem_nil, or_false] at hp; rcases hp with rfl <;> simp [PodSpec.cells]); (let r := Cap.Q72 (f := PodTerm.cells) (g _ List.mem_cons_self); ⟨r.1, fun x hx => (Qqn (r.2 x hx))⟩)), (let g : CapL N [.sl (SpreadRule.rows x.spread)] := fun p hp => h p (by simp only [List.mem_cons, List.not_mem_nil, or_false] at hp; rcases hp with rfl <;> simp [PodSpec.cells]); (let r := Cap.Q72 (f := SpreadRule.cells) (g _ List.mem_cons_self); ⟨r.1, fun x hx => (Qds (r.2 x hx))⟩)), (let g : CapL N [.sl (Toleration.rows x.tolerations)] := fun p hp => h p (by simp only [List.mem_cons, List.not_mem_nil, or_false] at hp; rcases hp with rfl <;> simp [PodSpec.cells]); (let r := Cap.Q72 (f := Toleration.cells) (g _ List.mem_cons_self); ⟨r.1, fun x hx => (Qdt (r.2 x hx))⟩))⟩
theorem PodSpec.Q2o {N : Nat} (hN : N ≤ sB) {x : PodSpec} (c : Q7o N x) : PodSpec.sm x := ⟨⟨Nat.le_trans c.2.1.1 hN, fun _ hx => Container.Q2o hN (c.2.1.2 _ hx)⟩, ⟨Nat.le_trans c.2.2.1.1 hN, fun _ hx => Requirement.Q2o hN (c.2.2.1.2 _ hx)⟩, ⟨Nat.le_trans c.2.2.2.1.1 hN, fun _ hx => NodeTerm.Q2o hN (c.2.2.2.1.2 _ hx)⟩, ⟨Nat.le_trans c.2.2.2.2.1.1 hN, fun _ hx => PodTerm.Q2o hN (c.2.2.2.2.1.2 _ hx)⟩, ⟨Nat.le_trans c.2.2.2.2.2.1.1 hN, fun _ hx => SpreadRule.Q2o hN (c.2.2.2.2.2.1.2 _ hx)⟩, ⟨Nat.le_trans c.2.2.2.2.2.2.1 hN, fun _ hx => Toleration.Q2o hN (c.2.2.2.2.2.2.2 _ hx)⟩, trivial⟩
def Q4u (N : Nat) (x : ContainerStatus) : Prop := (fun s : ByteArray => s.size ≤ N) x.name
theorem Q8c {N : Nat} {x : ContainerStatus} (h : CapL N x.cells) : Q4u N x := (let g : CapL N [.str x.name] := fun p hp => h p (by simp only [List.mem_cons, List.not_mem_nil, or_false] at hp; rcases hp with rfl <;> simp [ContainerStatus.cells]); (g _ List.mem_cons_self).strI)
theorem ContainerStatus.Q2o {N : Nat} (_ : N ≤ sB) {x : ContainerStatus} (_ : Q4u N x) : ContainerStatus.sm x := trivial
def Q7z (N : Nat) (x : PodStatus) : Prop := (fun l : List ContainerStatus => l.length ≤ N ∧ ∀ x ∈ l, (Q4u N) x) x.containers ∧ (fun s : ByteArray => s.size ≤ N) x.nominated ∧ (fun s : ByteArray => s.size ≤ N) x.reason
theorem Qjl {N : Nat} {x : PodStatus} (h : CapL N x.cells) : Q7z N x := ⟨(let g : CapL N [.sl (ContainerStatus.rows x.containers)] := fun p hp => h p (by simp only [List.mem_cons, List.not_mem_nil, or_false] at hp; rcases hp with rfl <;> simp [PodStatus.cells]); (let r := Cap.Q72 (f := ContainerStatus.cells) (g _ List.mem_cons_self); ⟨r.1, fun x hx => (Q8c (r.2 x hx))⟩)), (let g : CapL N [.str x.nominated] := fun p hp => h p (by simp only [List.mem_cons, List.not_mem_nil, or_false] at hp; rcases hp with rfl <;> simp [PodStatus.cells]); (g _ List.mem_cons_self).strI), (let g : CapL N [.str x.reason] := fun p hp => h p (by simp only [List.mem_cons, List.not_mem_nil, or_false] at hp; rcases hp with rfl <;> simp [PodStatus.cells]); (g _ List.mem_cons_self).strI)⟩
theorem PodStatus.Q2o {N : Nat} (hN : N ≤ sB) {x : PodStatus} (c : Q7z N x) : PodStatus.sm x := ⟨⟨Nat.le_trans c.1.1 hN, fun _ hx => ContainerStatus.Q2o hN (c.1.2 _ hx)⟩, trivial⟩
def Qk9 (N : Nat) (x : Taint) : Prop := (fun s : ByteArray => s.size ≤ N) x.key ∧ (fun s : ByteArray => s.size ≤ N) x.value
theorem Qwp {N : Nat} {x : Taint} (h : CapL N x.cells) : Qk9 N x := ⟨(let g : CapL N [.str x.key] := fun p hp => h p (by simp only [List.mem_cons, List.not_mem_nil, or_false] at hp; rcases hp with rfl <;> simp [Taint.cells]); (g _ List.mem_cons_self).strI), (let g : CapL N [.str x.value] := fun p hp => h p (by simp only [List.mem_cons, List.not_mem_nil, or_false] at hp; rcases hp with rfl <;> simp [Taint.cells]); (g _ List.mem_cons_self).strI)⟩
theorem Taint.Q2o {N : Nat} (_ : N ≤ sB) {x : Taint} (_ : Qk9 N x) : Taint.sm x := trivial
def Qgk (N : Nat) (x : Image) : Prop := (fun s : ByteArray => s.size ≤ N) x.name
theorem Qwf {N : Nat} {x : Image} (h : CapL N x.cells) : Qgk N x := (let g : CapL N [.str x.name] := fun p hp => h p (by simp only [List.mem_cons, List.not_mem_nil, or_false] at hp; rcases hp with rfl <;> simp [Image.cells]); (g _ List.mem_cons_self).strI)
theorem Image.Q2o {N : Nat} (_ : N ≤ sB) {x : Image} (_ : Qgk N x) : Image.sm x := trivial
def Qb6 (N : Nat) (x : Label) : Prop := (fun s : ByteArray => s.size ≤ N) x.key ∧ (fun s : ByteArray => s.size ≤ N) x.value
theorem Qw9 {N : Nat} {x : Label} (h : CapL N x.cells) : Qb6 N x := ⟨(let g : CapL N [.str x.key] := fun p hp => h p (by simp only [List.mem_cons, List.not_mem_nil, or_false] at hp; rcases hp with rfl <;> simp [Label.cells]); (g _ List.mem_cons_self).strI), (let g : CapL N [.str x.value] := fun p hp => h p (by simp only [List.mem_cons, List.not_mem_nil, or_false] at hp; rcases hp with rfl <;> simp [Label.cells]); (g _ List.mem_cons_self).strI)⟩
theorem Label.Q2o {N : Nat} (_ : N ≤ sB) {x : Label} (_ : Qb6 N x) : Label.sm x := trivial
def Qvn (N : Nat) (x : Template) : Prop := (fun l : List Label => l.length ≤ N ∧ ∀ x ∈ l, (Qb6 N) x) x.labels ∧ (Q7o N) x.spec
theorem Template.Q2o {N : Nat} (hN : N ≤ sB) {x : Template} (c : Qvn N x) : Template.sm x := ⟨⟨Nat.le_trans c.1.1 hN, fun _ hx => Label.Q2o hN (c.1.2 _ hx)⟩, PodSpec.Q2o hN c.2, trivial⟩
def Quz (N : Nat) (x : Owner) : Prop := (fun s : ByteArray => s.size ≤ N) x.kind ∧ (fun s : ByteArray => s.size ≤ N) x.name
theorem Qwm {N : Nat} {x : Owner} (h : CapL N x.cells) : Quz N x := ⟨(let g : CapL N [.str x.kind] := fun p hp => h p (by simp only [List.mem_cons, List.not_mem_nil, or_false] at hp; rcases hp with rfl <;> simp [Owner.cells]); (g _ List.mem_cons_self).strI), (let g : CapL N [.str x.name] := fun p hp => h p (by simp only [List.mem_cons, List.not_mem_nil, or_false] at hp; rcases hp with rfl <;> simp [Owner.cells]); (g _ List.mem_cons_self).strI)⟩
def Qgu (N : Nat) (x : Manager) : Prop := (fun s : ByteArray => s.size ≤ N) x.name ∧ (fun l : List ByteArray => l.length ≤ N ∧ ∀ x ∈ l, (fun s : ByteArray => s.size ≤ N) x) x.fields
theorem Qqk {N : Nat} {x : Manager} (h : CapL N x.cells) : Qgu N x := ⟨(let g : CapL N [.str x.name] := fun p hp => h p (by simp only [List.mem_cons, List.not_mem_nil, or_false] at hp; rcases hp with rfl <;> simp [Manager.cells]); (g _ List.mem_cons_self).strI), (let g : CapL N [.sl (Qf x.fields)] := fun p hp => h p (by simp only [List.mem_cons, List.not_mem_nil, or_false] at hp; rcases hp with rfl <;> simp [Manager.cells]); (let r := Cap.Q72 (f := (fun s : ByteArray => [.str s])) (g _ List.mem_cons_self); ⟨r.1, fun x hx => ((r.2 x hx) _ List.mem_cons_self).strI⟩))⟩
def Qr7 (N : Nat) (x : Meta) : Prop := (fun s : ByteArray => s.size ≤ N) x.kind ∧ (fun s : ByteArray => s.size ≤ N) x.namespace_ ∧ (fun s : ByteArray => s.size ≤ N) x.name ∧ (fun l : List Label => l.length ≤ N ∧ ∀ x ∈ l, (Qb6 N) x) x.labels ∧ (fun l : List Owner => l.length ≤ N ∧ ∀ x ∈ l, (Quz N) x) x.owners ∧ (fun l : List ByteArray => l.length ≤ N ∧ ∀ x ∈ l, (fun s : ByteArray => s.size ≤ N) x) x.finalizers ∧ (fun l : List Manager => l.length ≤ N ∧ ∀ x ∈ l, (Qgu N) x) x.managers
theorem Qod {N : Nat} {x : Meta} (h : CapL N x.cells) : Qr7 N x := ⟨(let g : CapL N [.str x.kind] := fun p hp => h p (by simp only [List.mem_cons, List.not_mem_nil, or_false] at hp; rcases hp with rfl <;> simp [Meta.cells]); (g _ List.mem_cons_self).strI), (let g : CapL N [.str x.namespace_] := fun p hp => h p (by simp only [List.mem_cons, List.not_mem_nil, or_false] at hp; rcases hp with rfl <;> simp [Meta.cells]); (g _ List.mem_cons_self).strI), (let g : CapL N [.str x.name] := fun p hp => h p (by simp only [List.mem_cons, List.not_mem_nil, or_false] at hp; rcases hp with rfl <;> simp [Meta.cells]); (g _ List.mem_cons_self).strI), (let g : CapL N [.sl (Label.rows x.labels)] := fun p hp => h p (by simp only [List.mem_cons, List.not_mem_nil, or_false] at hp; rcases hp with rfl <;> simp [Meta.cells]); (let r := Cap.Q72 (f := Label.cells) (g _ List.mem_cons_self); ⟨r.1, fun x hx => (Qw9 (r.2 x hx))⟩)), (let g : CapL N [.sl (Owner.rows x.owners)] := fun p hp => h p (by simp only [List.mem_cons, List.not_mem_nil, or_false] at hp; rcases hp with rfl <;> simp [Meta.cells]); (let r := Cap.Q72 (f := Owner.cells) (g _ List.mem_cons_self); ⟨r.1, fun x hx => (Qwm (r.2 x hx))⟩)), (let g : CapL N [.sl (Qf x.finalizers)] := fun p hp => h p (by simp only [List.mem_cons, List.not_mem_nil, or_false] at hp; rcases hp with rfl <;> simp [Meta.cells]); (let r := Cap.Q72 (f := (fun s : ByteArray => [.str s])) (g _ List.mem_cons_self); ⟨r.1, fun x hx => ((r.2 x hx) _ List.mem_cons_self).strI⟩)), (let g : CapL N [.sl (Manager.rows x.managers)] := fun p hp => h p (by simp only [List.mem_cons, List.not_mem_nil, or_false] at hp; rcases hp with rfl <;> simp [Meta.cells]); (let r := Cap.Q72 (f := Manager.cells) (g _ List.mem_cons_self); ⟨r.1, fun x hx => (Qqk (r.2 x hx))⟩))⟩
def Qrt (N : Nat) (x : Pod) : Prop := (Qr7 N) x.meta_ ∧ (Q7o N) x.spec ∧ (Q7z N) x.status
theorem Q16x {N : Nat} {x : Pod} (h : CapL N x.cells) : Qrt N x := ⟨(let g : CapL N [.str x.meta_.kind, .str x.meta_.namespace_, .str x.meta_.name, .int .i64 x.meta_.uid, .int .i64 x.meta_.version, .int .i64 x.meta_.generation, .int .i64 x.meta_.created, .bool x.meta_.deleting, .int .i64 x.meta_.deleteAt, .sl (Label.rows x.meta_.labels), .sl (Owner.rows x.meta_.owners), .sl (Qf x.meta_.finalizers), .sl (Manager.rows x.meta_.managers)] := fun p hp => h p (by simp only [List.mem_cons, List.not_mem_nil, or_false] at hp; rcases hp with rfl | rfl | rfl | rfl | rfl | rfl | rfl | rfl | rfl | rfl | rfl | rfl | rfl <;> simp [Pod.cells]); (Qod g)), (let g : CapL N [.str x.spec.node, .int .i64 x.spec.priority, .int .i64 x.spec.restart, .int .i64 x.spec.grace, .sl (Container.rows x.spec.containers), .sl (Requirement.rows x.spec.nodeSelector), .sl (NodeTerm.rows x.spec.nodeTerms), .sl (PodTerm.rows x.spec.podTerms), .sl (SpreadRule.rows x.spec.spread), .sl (Toleration.rows x.spec.tolerations)] := fun p hp => h p (by simp only [List.mem_cons, List.not_mem_nil, or_false] at hp; rcases hp with rfl | rfl | rfl | rfl | rfl | rfl | rfl | rfl | rfl | rfl <;> simp [Pod.cells]); (Qpn g)), (let g : CapL N [.int .i64 x.status.phase, .bool x.status.ready, .int .i64 x.status.readySince, .int .i64 x.status.started, .int .i64 x.status.finished, .sl (ContainerStatus.rows x.status.containers), .int .i64 x.status.address, .str x.status.nominated, .str x.status.reason] := fun p hp => h p (by simp only [List.mem_cons, List.not_mem_nil, or_false] at hp; rcases hp with rfl | rfl | rfl | rfl | rfl | rfl | rfl | rfl | rfl <;> simp [Pod.cells]); (Qjl g))⟩
def Qqw (N : Nat) (x : Node) : Prop := (Qr7 N) x.meta_ ∧ (Q4x N) x.capacity ∧ (fun l : List Taint => l.length ≤ N ∧ ∀ x ∈ l, (Qk9 N) x) x.taints ∧ (fun l : List Image => l.length ≤ N ∧ ∀ x ∈ l, (Qgk N) x) x.images
theorem Q14d {N : Nat} {x : Node} (h : CapL N x.cells) : Qqw N x := ⟨(let g : CapL N [.str x.meta_.kind, .str x.meta_.namespace_, .str x.meta_.name, .int .i64 x.meta_.uid, .int .i64 x.meta_.version, .int .i64 x.meta_.generation, .int .i64 x.meta_.created, .bool x.meta_.deleting, .int .i64 x.meta_.deleteAt, .sl (Label.rows x.meta_.labels), .sl (Owner.rows x.meta_.owners), .sl (Qf x.meta_.finalizers), .sl (Manager.rows x.meta_.managers)] := fun p hp => h p (by simp only [List.mem_cons, List.not_mem_nil, or_false] at hp; rcases hp with rfl | rfl | rfl | rfl | rfl | rfl | rfl | rfl | rfl | rfl | rfl | rfl | rfl <;> simp [Node.cells]); (Qod g)), (let g : CapL N [.int .i64 x.capacity.cPU, .int .i64 x.capacity.memory, .int .i64 x.capacity.disk] := fun p hp => h p (by simp only [List.mem_cons, List.not_mem_nil, or_false] at hp; rcases hp with rfl | rfl | rfl <;> simp [Node.cells]); (Q6b g)), (let g : CapL N [.sl (Taint.rows x.taints)] := fun p hp => h p (by simp only [List.mem_cons, List.not_mem_nil, or_false] at hp; rcases hp with rfl <;> simp [Node.cells]); (let r := Cap.Q72 (f := Taint.cells) (g _ List.mem_cons_self); ⟨r.1, fun x hx => (Qwp (r.2 x hx))⟩)), (let g : CapL N [.sl (Image.rows x.images)] := fun p hp => h p (by simp only [List.mem_cons, List.not_mem_nil, or_false] at hp; rcases hp with rfl <;> simp [Node.cells]); (let r := Cap.Q72 (f := Image.cells) (g _ List.mem_cons_self); ⟨r.1, fun x hx => (Qwf (r.2 x hx))⟩))⟩
end Go.Proofs.YtiflaadeikaghaaGreat
end

section
/- What the law PodcodecEncodes computes (printed by a program). -/
namespace Go.Proofs.YtiflaadeikaghaaGreat
open Go.Pv
def s_K2 (p0 : Pod) (p1 : Node) : Bool :=
 bif (s_K6 p0) then
  bif (s_K5 p1.meta_) then
   bif (decide (200 < ((List.length p1.taints) : Int))) then
    true
   else
    bif (decide (200 < ((List.length p1.images) : Int))) then
     true
    else
     bif (Q6x (s_Ka p0) (Q4w p0)) then
      bif (Q6x (s_K9 p1) (Qb9 p1)) then
       bif (Q5n (s_Kb (Template.mk p0.meta_.labels p0.spec)) (Quy (Template.mk p0.meta_.labels p0.spec))) then
        true
       else
        false
      else
       false
     else
      false
  else
   true
 else
  true
def c_K2 (p0 : Pod) (p1 : Node) : En := .call 6 [.agg (Pod.cells p0), .agg (Node.cells p1)] []
def a_K2 (p0 : Pod) (p1 : Node) : Rs := .ret (.bool (s_K2 p0 p1)) []
def H_K2 (p0 : Pod) (p1 : Node) : Prop := (H_K6 p0) ∧ ((s_K6 p0) = true → H_K5 p1.meta_) ∧ ((s_K6 p0) = true → (s_K5 p1.meta_) = true → (decide (200 < ((List.length p1.taints) : Int))) = false → (decide (200 < ((List.length p1.images) : Int))) = false → H_Ka p0) ∧ ((s_K6 p0) = true → (s_K5 p1.meta_) = true → (decide (200 < ((List.length p1.taints) : Int))) = false → (decide (200 < ((List.length p1.images) : Int))) = false → Q18o p0) ∧ ((s_K6 p0) = true → (s_K5 p1.meta_) = true → (decide (200 < ((List.length p1.taints) : Int))) = false → (decide (200 < ((List.length p1.images) : Int))) = false → Q13c (s_Ka p0) (Q4w p0)) ∧ ((s_K6 p0) = true → (s_K5 p1.meta_) = true → (decide (200 < ((List.length p1.taints) : Int))) = false → (decide (200 < ((List.length p1.images) : Int))) = false → (Q6x (s_Ka p0) (Q4w p0)) = true → H_K9 p1) ∧ ((s_K6 p0) = true → (s_K5 p1.meta_) = true → (decide (200 < ((List.length p1.taints) : Int))) = false → (decide (200 < ((List.length p1.images) : Int))) = false → (Q6x (s_Ka p0) (Q4w p0)) = true → Q1b1 p1) ∧ ((s_K6 p0) = true → (s_K5 p1.meta_) = true → (decide (200 < ((List.length p1.taints) : Int))) = false → (decide (200 < ((List.length p1.images) : Int))) = false → (Q6x (s_Ka p0) (Q4w p0)) = true → Q13c (s_K9 p1) (Qb9 p1)) ∧ ((s_K6 p0) = true → (s_K5 p1.meta_) = true → (decide (200 < ((List.length p1.taints) : Int))) = false → (decide (200 < ((List.length p1.images) : Int))) = false → (Q6x (s_Ka p0) (Q4w p0)) = true → (Q6x (s_K9 p1) (Qb9 p1)) = true → H_Kb (Template.mk p0.meta_.labels p0.spec)) ∧ ((s_K6 p0) = true → (s_K5 p1.meta_) = true → (decide (200 < ((List.length p1.taints) : Int))) = false → (decide (200 < ((List.length p1.images) : Int))) = false → (Q6x (s_Ka p0) (Q4w p0)) = true → (Q6x (s_K9 p1) (Qb9 p1)) = true → Q1b3 (Template.mk p0.meta_.labels p0.spec)) ∧ ((s_K6 p0) = true → (s_K5 p1.meta_) = true → (decide (200 < ((List.length p1.taints) : Int))) = false → (decide (200 < ((List.length p1.images) : Int))) = false → (Q6x (s_Ka p0) (Q4w p0)) = true → (Q6x (s_K9 p1) (Qb9 p1)) = true → Q7j (s_Kb (Template.mk p0.meta_.labels p0.spec))) ∧ True
theorem Q1dd (p0 : Pod) (p1 : Node) (H : H_K2 p0 p1) (h0 : (s_K6 p0) = true) (h1 : (s_K5 p1.meta_) = true) : Q6 G (c_K2 p0 p1) (.ret (.bool (bif (decide (200 < ((List.length p1.taints) : Int))) then
   true
 else
   bif (decide (200 < ((List.length p1.images) : Int))) then
     true
   else
     bif (Q6x (s_Ka p0) (Q4w p0)) then
       bif (Q6x (s_K9 p1) (Qb9 p1)) then
        bif (Q5n (s_Kb (Template.mk p0.meta_.labels p0.spec)) (Quy (Template.mk p0.meta_.labels p0.spec))) then
         true
        else
         false
       else
        false
     else
       false)) []) := by
 cases h2 : (decide (200 < ((List.length p1.taints) : Int))) with
 | true =>
  exact Qb (fn := Ir.K2) rfl VOK.nil [hP 15 (Qe (Taint.rows p1.taints) (List.length p1.taints) (Taint.Q5 p1.taints)), hB 0 h2] [aB (t_K6 p0 (H.1)) h0, aB (t_K5 p1.meta_ (H.2.1 h0)) h1, aN t_K7] (by kernel_rfl)
 | false =>
  cases h3 : (decide (200 < ((List.length p1.images) : Int))) with
  | true =>
   exact Qb (fn := Ir.K2) rfl VOK.nil [hP 15 (Qe (Taint.rows p1.taints) (List.length p1.taints) (Taint.Q5 p1.taints)), hB 0 h2, hP 4 (Qe (Image.rows p1.images) (List.length p1.images) (Image.Q5 p1.images)), hB 0 h3] [aB (t_K6 p0 (H.1)) h0, aB (t_K5 p1.meta_ (H.2.1 h0)) h1, aN t_K7] (by kernel_rfl)
  | false =>
   cases h4 : (Q6x (s_Ka p0) (Q4w p0)) with
   | true =>
    cases h5 : (Q6x (s_K9 p1) (Qb9 p1)) with
    | true =>
     cases h6 : (Q5n (s_Kb (Template.mk p0.meta_.labels p0.spec)) (Quy (Template.mk p0.meta_.labels p0.spec))) with
     | true =>
      exact Qb (fn := Ir.K2) rfl VOK.nil [hP 15 (Qe (Taint.rows p1.taints) (List.length p1.taints) (Taint.Q5 p1.taints)), hB 0 h2, hP 4 (Qe (Image.rows p1.images) (List.length p1.images) (Image.Q5 p1.images)), hB 0 h3] [aB (t_K6 p0 (H.1)) h0, aB (t_K5 p1.meta_ (H.2.1 h0)) h1, aN (t_Ka p0 (H.2.2.1 h0 h1 h2 h3)), aN (Qww p0 (H.2.2.2.1 h0 h1 h2 h3)), aB (Qxj (s_Ka p0) (Q4w p0) (H.2.2.2.2.1 h0 h1 h2 h3)) h4, aN (t_K9 p1 (H.2.2.2.2.2.1 h0 h1 h2 h3 h4)), aN (Q1cj p1 (H.2.2.2.2.2.2.1 h0 h1 h2 h3 h4)), aB (Qxj (s_K9 p1) (Qb9 p1) (H.2.2.2.2.2.2.2.1 h0 h1 h2 h3 h4)) h5, aN (t_Kb (Template.mk p0.meta_.labels p0.spec) (H.2.2.2.2.2.2.2.2.1 h0 h1 h2 h3 h4 h5)), aN (Q1fw (Template.mk p0.meta_.labels p0.spec) (H.2.2.2.2.2.2.2.2.2.1 h0 h1 h2 h3 h4 h5)), aB (Q15y (s_Kb (Template.mk p0.meta_.labels p0.spec)) (Quy (Template.mk p0.meta_.labels p0.spec)) (H.2.2.2.2.2.2.2.2.2.2.1 h0 h1 h2 h3 h4 h5)) h6, aN t_K7] (by kernel_rfl)
     | false =>
      exact Qb (fn := Ir.K2) rfl VOK.nil [hP 15 (Qe (Taint.rows p1.taints) (List.length p1.taints) (Taint.Q5 p1.taints)), hB 0 h2, hP 4 (Qe (Image.rows p1.images) (List.length p1.images) (Image.Q5 p1.images)), hB 0 h3] [aB (t_K6 p0 (H.1)) h0, aB (t_K5 p1.meta_ (H.2.1 h0)) h1, aN (t_Ka p0 (H.2.2.1 h0 h1 h2 h3)), aN (Qww p0 (H.2.2.2.1 h0 h1 h2 h3)), aB (Qxj (s_Ka p0) (Q4w p0) (H.2.2.2.2.1 h0 h1 h2 h3)) h4, aN (t_K9 p1 (H.2.2.2.2.2.1 h0 h1 h2 h3 h4)), aN (Q1cj p1 (H.2.2.2.2.2.2.1 h0 h1 h2 h3 h4)), aB (Qxj (s_K9 p1) (Qb9 p1) (H.2.2.2.2.2.2.2.1 h0 h1 h2 h3 h4)) h5, aN (t_Kb (Template.mk p0.meta_.labels p0.spec) (H.2.2.2.2.2.2.2.2.1 h0 h1 h2 h3 h4 h5)), aN (Q1fw (Template.mk p0.meta_.labels p0.spec) (H.2.2.2.2.2.2.2.2.2.1 h0 h1 h2 h3 h4 h5)), aB (Q15y (s_Kb (Template.mk p0.meta_.labels p0.spec)) (Quy (Template.mk p0.meta_.labels p0.spec)) (H.2.2.2.2.2.2.2.2.2.2.1 h0 h1 h2 h3 h4 h5)) h6] (by kernel_rfl)
    | false =>
     exact Qb (fn := Ir.K2) rfl VOK.nil [hP 15 (Qe (Taint.rows p1.taints) (List.length p1.taints) (Taint.Q5 p1.taints)), hB 0 h2, hP 4 (Qe (Image.rows p1.images) (List.length p1.images) (Image.Q5 p1.images)), hB 0 h3] [aB (t_K6 p0 (H.1)) h0, aB (t_K5 p1.meta_ (H.2.1 h0)) h1, aN (t_Ka p0 (H.2.2.1 h0 h1 h2 h3)), aN (Qww p0 (H.2.2.2.1 h0 h1 h2 h3)), aB (Qxj (s_Ka p0) (Q4w p0) (H.2.2.2.2.1 h0 h1 h2 h3)) h4, aN (t_K9 p1 (H.2.2.2.2.2.1 h0 h1 h2 h3 h4)), aN (Q1cj p1 (H.2.2.2.2.2.2.1 h0 h1 h2 h3 h4)), aB (Qxj (s_K9 p1) (Qb9 p1) (H.2.2.2.2.2.2.2.1 h0 h1 h2 h3 h4)) h5] (by kernel_rfl)
   | false =>
    exact Qb (fn := Ir.K2) rfl VOK.nil [hP 15 (Qe (Taint.rows p1.taints) (List.length p1.taints) (Taint.Q5 p1.taints)), hB 0 h2, hP 4 (Qe (Image.rows p1.images) (List.length p1.images) (Image.Q5 p1.images)), hB 0 h3] [aB (t_K6 p0 (H.1)) h0, aB (t_K5 p1.meta_ (H.2.1 h0)) h1, aN (t_Ka p0 (H.2.2.1 h0 h1 h2 h3)), aN (Qww p0 (H.2.2.2.1 h0 h1 h2 h3)), aB (Qxj (s_Ka p0) (Q4w p0) (H.2.2.2.2.1 h0 h1 h2 h3)) h4] (by kernel_rfl)
theorem Q1fg (p0 : Pod) (p1 : Node) (H : H_K2 p0 p1) (h0 : (s_K6 p0) = true) (h1 : (s_K5 p1.meta_) = false) : Q6 G (c_K2 p0 p1) (.ret (.bool (true)) []) := by
 exact Qb (fn := Ir.K2) rfl VOK.nil [] [aB (t_K6 p0 (H.1)) h0, aB (t_K5 p1.meta_ (H.2.1 h0)) h1, aN t_K7] (by kernel_rfl)
theorem Q1ek (p0 : Pod) (p1 : Node) (H : H_K2 p0 p1) (h0 : (s_K6 p0) = false) : Q6 G (c_K2 p0 p1) (.ret (.bool (true)) []) := by
 exact Qb (fn := Ir.K2) rfl VOK.nil [] [aB (t_K6 p0 (H.1)) h0, aN t_K7] (by kernel_rfl)
theorem t_K2 (p0 : Pod) (p1 : Node) (H : H_K2 p0 p1) : Q6 G (c_K2 p0 p1) (a_K2 p0 p1) := by
 unfold a_K2 s_K2
 cases h0 : (s_K6 p0) with
 | true =>
  cases h1 : (s_K5 p1.meta_) with
  | true =>
   exact Q1dd p0 p1 H h0 h1
  | false =>
   exact Q1fg p0 p1 H h0 h1
 | false =>
  exact Q1ek p0 p1 H h0
def tysPodcodecEncodes : List Ty := [Q1a0, Q15u]
theorem purePodcodecEncodes {N : Nat} (hp : ∀ (p0 : Pod) (p1 : Node), Q167 p0 → Qwx p1 → (Qrt N) p0 → (Qqw N) p1 → H_K2 p0 p1 ∧ s_K2 p0 p1 = true) : ∀ qs, Q164 Γ N tysPodcodecEncodes qs → ∃ n, runs G n (.call 6 qs []) = some (.ret (.bool true) []) := by
  intro qs h
  cases qs with
  | nil => cases h
  | cons q0 qs =>
  obtain ⟨h0, h⟩ := h
  cases qs with
  | nil => cases h
  | cons q1 qs =>
  obtain ⟨h1, h⟩ := h
  cases qs with
  | cons _ _ => cases h
  | nil =>
  obtain ⟨c0, rfl, g0, b0⟩ := h0.agg rfl
  obtain ⟨p0, rfl, k0⟩ := (Q17y g0)
  obtain ⟨c1, rfl, g1, b1⟩ := h1.agg rfl
  obtain ⟨p1, rfl, k1⟩ := (Q15b g1)
  have e := hp p0 p1 k0 k1 (Q16x b0) (Q14d b1)
  have t := t_K2 p0 p1 e.1
  unfold a_K2 at t
  rw [e.2] at t
  exact t
end Go.Proofs.YtiflaadeikaghaaGreat
end

section
/- Equal metadata and objects; what is small; decoding what was encoded, in plain words. -/
namespace Go.Proofs.YtiflaadeikaghaaGreat
open Go.Pv
theorem Q174 (p : List Label) : ∀ (l : List Label) (i : Nat), List.drop i p = l → Q5q p p l i = .k0
  | [], _, _ => by rw [Q5q]
  | x :: l, i, hd => by
    obtain ⟨h1, _, h3⟩ := Q14 hd
    rw [Q5q, List.getD_eq_getElem?_getD, h1, Option.getD_some, Q9f, Q9f]
    exact Q174 p l (i + 1) h3
theorem Qzn {α : Type} (l : List α) : ((l.length : Int) == (l.length : Int)) = true := beq_self_eq_true _
theorem Q16t (p : List Label) : Qcz p p = true := by
  unfold Qcz
  rw [Qzn, cond_true, Q174 p p 0 rfl]
theorem Q16g (p : List ByteArray) : ∀ (l : List ByteArray) (i : Nat), List.drop i p = l → Q5t p p l i = .k0
  | [], _, _ => by rw [Q5t]
  | x :: l, i, hd => by
    obtain ⟨h1, _, h3⟩ := Q14 hd
    rw [Q5t, List.getD_eq_getElem?_getD, h1, Option.getD_some, Q9f]
    exact Q16g p l (i + 1) h3
theorem Qu7 (p : List ByteArray) : Q9r p p = true := by
  unfold Q9r
  rw [Qzn, cond_true, Q16g p p 0 rfl]
theorem Q15v (m : Meta) : ∀ (l : List Owner) (i : Nat), List.drop i m.owners = l → Q5u m m l i = .k0
  | [], _, _ => by rw [Q5u]
  | x :: l, i, hd => by
    obtain ⟨h1, _, h3⟩ := Q14 hd
    rw [Q5u, List.getD_eq_getElem?_getD, h1, Option.getD_some]
    simp only [Q9f, beq_self_eq_true, Bool.and_true, cond_true]
    exact Q15v m l (i + 1) h3
theorem Q177 (m : Meta) : ∀ (l : List Manager) (i : Nat), List.drop i m.managers = l → Q5v m m l i = .k0
  | [], _, _ => by rw [Q5v]
  | x :: l, i, hd => by
    obtain ⟨h1, _, h3⟩ := Q14 hd
    rw [Q5v, List.getD_eq_getElem?_getD, h1, Option.getD_some, Q9f, Qu7, cond_true, cond_true]
    exact Q177 m l (i + 1) h3
theorem Q15f (m : Meta) : Q11d m m = true := by
  unfold Q11d
  simp only [Q9f, beq_self_eq_true, cond_true, Q16t, Qu7]
  rw [Q15v m m.owners 0 rfl, Q177 m m.managers 0 rfl]
theorem Qxn (o : Object) : Q6x o o = true := by
  unfold Q6x
  rw [Q15f, Qcb, Qcb]
  rfl
theorem Q180 {m : Meta} (k : Qkv m) : H_Kf m ∧ H_K5 m ∧ Q7a m m := by
  obtain ⟨_, _, _, _, _, _, _, _, _, kl, ko, kf, km⟩ := k
  have hl := kl.1
  have ho := ko.1
  have hf := kf.1
  have hm := km.1
  have hx : ∀ x ∈ m.managers, x.fields.length * 16 ≤ 140737488351232 := fun x hx => (km.2 x hx).2.1
  have lt : ∀ {α : Type} {l : List α} {i : Nat} {x : α}, l[i]? = some x → i < l.length := fun h => (List.getElem?_eq_some_iff.1 h).1
  refine ⟨⟨by omega, by omega, by omega, by omega, ⟨by omega, fun x h => by have := hx x h; omega, trivial⟩, trivial⟩, ⟨⟨by omega, trivial⟩, ⟨by omega, trivial⟩, ⟨by omega, trivial⟩, ⟨by omega, fun i x h => ⟨by have := hx x (List.mem_of_getElem? h); omega, trivial⟩, trivial⟩, trivial⟩,
    ⟨fun _ => ⟨by omega, fun i x h => lt h, trivial⟩, trivial⟩, ⟨fun _ => ⟨by omega, fun i x h => lt h, trivial⟩, trivial⟩, fun _ _ => ⟨by omega, fun i x h => lt h, trivial⟩, fun _ _ => ⟨by omega, fun i x h => lt h, fun i x h => ?_, trivial⟩, trivial⟩
  rw [List.getD_eq_getElem?_getD, h, Option.getD_some]
  have := hx x (List.mem_of_getElem? h)
  exact ⟨fun _ => ⟨by omega, fun i x h => lt h, trivial⟩, trivial⟩
theorem alH {v : Val} (h : Val.Sm sB v) : Q7j v := h.mono (Nat.le_of_ble_eq_true rfl)
theorem fewH {v : Val} (h : Val.Sm sB v) (n : Int) : Q140 v n := ⟨h.mono (Nat.le_of_ble_eq_true rfl), trivial⟩
theorem objH {o : Object} (h : Q7a o.meta_ o.meta_) (g : Object.sm o) : Q13c o o := ⟨h, alH g.1, alH g.2, trivial⟩
theorem Q1f3 {p : Pod} (c : Qrt 1048576 p) : Pod.sm p := ⟨PodSpec.Q2o (Nat.le_of_ble_eq_true rfl) c.2.1, PodStatus.Q2o (Nat.le_of_ble_eq_true rfl) c.2.2⟩
theorem Q158 {p : Pod} (k : Qkv p.meta_) (g : Pod.sm p) : H_K6 p := by
  have o := Pod.Qzj g
  have a : Q140 (Q4w p).spec 20000 := fewH o.1 _
  have b : Q140 (Q4w p).status 20000 := fewH o.2 _
  unfold H_K6
  repeat' with_reducible apply And.intro
  all_goals first | exact True.intro | exact g | exact (Q180 k).2.1 | (intros; exact a) | (intros; exact b) | (intros; exact (Q180 k).2.1)
end Go.Proofs.YtiflaadeikaghaaGreat
end

section
/- The law PodcodecEncodes in plain words: both encoders answer the same. -/
namespace Go.Proofs.YtiflaadeikaghaaGreat
open Go.Pv
theorem encodes (p0 : Pod) (p1 : Node) (k0 : Q167 p0) (k1 : Qwx p1) (c0 : Qrt 1048576 p0) (c1 : Qqw 1048576 p1) : H_K2 p0 p1 ∧ s_K2 p0 p1 = true := by
  have g := Q1f3 c0
  have m0 := Q180 k0.1
  have m1 := Q180 k1.1
  have n : Node.sm p1 := ⟨⟨Nat.le_trans c1.2.2.1.1 (Nat.le_of_ble_eq_true rfl), fun _ _ => trivial⟩, ⟨Nat.le_trans c1.2.2.2.1 (Nat.le_of_ble_eq_true rfl), fun _ _ => trivial⟩⟩
  have t : Template.sm (Template.mk p0.meta_.labels p0.spec) := ⟨⟨Nat.le_trans c0.1.2.2.2.1.1 (Nat.le_of_ble_eq_true rfl), fun _ _ => trivial⟩, g.1, trivial⟩
  have o1 : Q13c (s_Ka p0) (Q4w p0) := objH (o := Pod.obj p0) m0.2.2 (Pod.Qzj g)
  have o2 : Q13c (s_K9 p1) (Qb9 p1) := objH (o := Node.obj p1) m1.2.2 (Node.Qzj n)
  have a : Q7j (s_Kb (Template.mk p0.meta_.labels p0.spec)) := alH (Template.Q1i t)
  have sp := Q158 k0.1 g
  refine ⟨?_, ?_⟩
  · unfold H_K2
    repeat' with_reducible apply And.intro
    all_goals first | exact True.intro | exact sp | (intros; exact m1.2.1) | (intros; exact ⟨m0.1, g⟩) | (intros; exact g) | (intros; exact ⟨m1.1, n⟩) | (intros; exact n) | (intros; exact o1) | (intros; exact o2) | (intros; exact t) | (intros; exact a)
  · have e1 : Q6x (s_Ka p0) (Q4w p0) = true := Qxn (Pod.obj p0)
    have e2 : Q6x (s_K9 p1) (Qb9 p1) = true := Qxn (Node.obj p1)
    have e3 : Q5n (s_Kb (Template.mk p0.meta_.labels p0.spec)) (Quy (Template.mk p0.meta_.labels p0.spec)) = true := Qcb (Template.enc _)
    unfold s_K2
    rw [e1, e2, e3]
    cases s_K6 p0 <;> cases s_K5 p1.meta_ <;> cases (decide (200 < ((List.length p1.taints) : Int))) <;> cases (decide (200 < ((List.length p1.images) : Int))) <;> rfl
end Go.Proofs.YtiflaadeikaghaaGreat
end

section
/- The library's comparison of two strings, walked: it answers as the evaluator's cmpL. -/
namespace Go.Proofs.YtiflaadeikaghaaGreat
open Go.Pv
theorem cmpL_eq : ∀ (a b : List UInt8), cmpL a b = Lib.compareBytes a b
  | [], [] => rfl
  | [], _ :: _ => rfl
  | _ :: _, [] => rfl
  | a :: x, b :: y => by
    rw [Lib.compareBytes, ← cmpL_eq x y]
    rfl
set_option maxHeartbeats 1000000 in
set_option maxRecDepth 100000 in
theorem comparing (a b : ByteArray) (w : World) :
    Calls Tryz.prog 152 #[.string a, .string b] w fun e w' => e = .returned (.int .i64 (Lib.compareBytes a.data.toList b.data.toList)) ∧ w' = w := by
  go_enter Tryz.func152, Tryz.ntmps152
  go_wp2
  rw [run_callFunc_extern Tryz.func157 (by kernel_rfl) (by kernel_rfl) (by kernel_rfl) (e := Extern.BytealgCompare.compare) (by kernel_rfl), Lib.run_compareString]
  simp only [Result.andThen]
  rw [Oper.upon_value]
  go_wp2
  go_ret
  exact ⟨rfl, rfl⟩
theorem cmpOK : Q18h Tryz.prog 152 := by
  refine ⟨⟨_, Tryz.func152, by kernel_rfl, by kernel_rfl⟩, fun x y w => ?_⟩
  have h := comparing x y w
  rw [← cmpL_eq, ← toList_data, ← toList_data] at h
  exact h
end Go.Proofs.YtiflaadeikaghaaGreat
end

section
/- What is of bounded bulk holds nothing longer. -/
namespace Go.Proofs.YtiflaadeikaghaaGreat.bulks
open Go.Pv
theorem one_le {H : Type} (d : DataW H) : 1 ≤ Rows.uptoBulk d := by
  cases d with
  | lit l => cases l <;> simp [Rows.uptoBulk]
  | nil => simp [Rows.uptoBulk]
  | ptr d => simp [Rows.uptoBulk]
  | slice elems spare => simp [Rows.uptoBulk]
  | agg parts => simp [Rows.uptoBulk]
  | iface t d => simp [Rows.uptoBulk]
  | map entries => simp [Rows.uptoBulk]
  | held h => simp [Rows.uptoBulk]
theorem Qxd {H : Type} {d : DataW H} {l : List (DataW H)} (h : d ∈ l) : Rows.uptoBulk d ≤ Rows.uptoBulkAll l := by
  induction l with
  | nil => cases h
  | cons x r ih =>
    simp only [Rows.uptoBulkAll]
    rcases List.mem_cons.1 h with e | e
    · subst e; omega
    · have := ih e; omega
theorem length_le {H : Type} (l : List (DataW H)) : l.length ≤ Rows.uptoBulkAll l := by
  induction l with
  | nil => simp [Rows.uptoBulkAll]
  | cons x r ih => have := one_le x; simp only [Rows.uptoBulkAll, List.length_cons]; omega
theorem Q16v {H : Type} {N : Nat} : ∀ (k : Nat) (d : DataW H), Rows.uptoBulk d ≤ k → k ≤ N → CapD N d
  | 0, d, h, _ => by have := one_le d; omega
  | k + 1, d, h, hk => by
    cases d with
    | lit l => exact .lit l (fun b e => by subst e; simp only [Rows.uptoBulk] at h; omega)
    | nil => exact .nil
    | ptr d => exact .ptr d
    | slice elems spare =>
      simp only [Rows.uptoBulk] at h
      exact .slice elems spare (by have := length_le elems; omega) (fun z hz => Q16v k z (by have := Qxd hz; omega) (by omega))
    | agg parts =>
      simp only [Rows.uptoBulk] at h
      exact .agg parts (fun z hz => Q16v k z (by have := Qxd hz; omega) (by omega))
    | iface t d => exact .iface t d
    | map entries => exact .map entries
    | held x => exact .held x
theorem caps {H : Type} {ds gs : List (DataW H)} (hk : Rows.uptoSmall H (ds ++ gs) = true) : ∀ d ∈ ds, CapD 1048576 d := fun d hd =>
  Q16v 1048576 d (Nat.le_trans (Qxd (List.mem_append_left _ hd)) (of_decide_eq_true hk)) (Nat.le_refl _)
end Go.Proofs.YtiflaadeikaghaaGreat.bulks
end

