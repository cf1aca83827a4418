/- Texts of the claim, merged by a program; what the statement does not reach is left out. -/
import Derived.Test.YtiflaadeikaghaaGreatBPodcodecMissing5

section
/- Metadata that are copied (printed by a program). -/
namespace Go.Proofs.YtiflaadeikaghaaGreat
open Go.Pv
structure Owner where
  kind : ByteArray
  name : ByteArray
  uid : Int
  controller : Bool
  block : Bool
def Owner.cells (x : Owner) : List PV :=
  [.str x.kind, .str x.name, .int .i64 x.uid, .bool x.controller, .bool x.block]
def Owner.rows (l : List Owner) : List (List PV) := l.map Owner.cells
theorem Owner.Q0 (l : List Owner) : (Owner.rows l).length = l.length := by simp [Owner.rows]
theorem Owner.Qb {l : List Owner} {i : Nat} {x : Owner} (h : l[i]? = some x) : (Owner.rows l)[i]? = some (Owner.cells x) := Go.Pv.Qb h
theorem Owner.Q15 (l : List Owner) (x : Owner) : Owner.rows (l ++ [x]) = Owner.rows l ++ [Owner.cells x] := by simp [Owner.rows]
theorem Owner.Q2k (l m : List Owner) : Owner.rows (l ++ m) = Owner.rows l ++ Owner.rows m := by simp [Owner.rows]
theorem Owner.Q2j (l : List Owner) (k : Nat) (x : Owner) : Owner.rows (l.set k x) = (Owner.rows l).set k (Owner.cells x) := by simp [Owner.rows, List.map_set]
theorem Owner.Q2t (l : List Owner) (n : Nat) : Owner.rows (l.take n) = (Owner.rows l).take n := by simp [Owner.rows, List.map_take]
theorem Owner.Q2u (l : List Owner) (n : Nat) : Owner.rows (l.drop n) = (Owner.rows l).drop n := by simp [Owner.rows, List.map_drop]
theorem Owner.Qd (l : List Owner) : ∀ r ∈ Owner.rows l, r.length = 5 := Q35 (f := Owner.cells) (fun _ => rfl) l
theorem Owner.Q7 (l : List Owner) (sz : Nat) (h : sz = 5) : ViewOK sz (Owner.rows l).flatten (Owner.rows l) := by subst h; exact ⟨rfl, Owner.Qd l, Q2o (f := Owner.cells) (fun _ => rfl) l⟩
structure Manager where
  name : ByteArray
  fields : List ByteArray
def Manager.cells (x : Manager) : List PV :=
  [.str x.name, .sl (Qe x.fields)]
def Manager.rows (l : List Manager) : List (List PV) := l.map Manager.cells
theorem Manager.Q0 (l : List Manager) : (Manager.rows l).length = l.length := by simp [Manager.rows]
theorem Manager.Qb {l : List Manager} {i : Nat} {x : Manager} (h : l[i]? = some x) : (Manager.rows l)[i]? = some (Manager.cells x) := Go.Pv.Qb h
theorem Manager.Q15 (l : List Manager) (x : Manager) : Manager.rows (l ++ [x]) = Manager.rows l ++ [Manager.cells x] := by simp [Manager.rows]
theorem Manager.Q2k (l m : List Manager) : Manager.rows (l ++ m) = Manager.rows l ++ Manager.rows m := by simp [Manager.rows]
theorem Manager.Q2j (l : List Manager) (k : Nat) (x : Manager) : Manager.rows (l.set k x) = (Manager.rows l).set k (Manager.cells x) := by simp [Manager.rows, List.map_set]
theorem Manager.Q2t (l : List Manager) (n : Nat) : Manager.rows (l.take n) = (Manager.rows l).take n := by simp [Manager.rows, List.map_take]
theorem Manager.Q2u (l : List Manager) (n : Nat) : Manager.rows (l.drop n) = (Manager.rows l).drop n := by simp [Manager.rows, List.map_drop]
theorem Manager.Qd (l : List Manager) : ∀ r ∈ Manager.rows l, r.length = 2 := Q35 (f := Manager.cells) (fun _ => rfl) l
theorem Manager.Q7 (l : List Manager) (sz : Nat) (h : sz = 2) : ViewOK sz (Manager.rows l).flatten (Manager.rows l) := by subst h; exact ⟨rfl, Manager.Qd l, Q2o (f := Manager.cells) (fun _ => rfl) l⟩
structure Meta where
  kind : ByteArray
  namespace_ : ByteArray
  name : ByteArray
  uid : Int
  version : Int
  generation : Int
  created : Int
  deleting : Bool
  deleteAt : Int
  labels : List Label
  owners : List Owner
  finalizers : List ByteArray
  managers : List Manager
def Meta.cells (x : Meta) : List PV :=
  [.str x.kind, .str x.namespace_, .str x.name, .int .i64 x.uid, .int .i64 x.version, .int .i64 x.generation, .int .i64 x.created, .bool x.deleting, .int .i64 x.deleteAt, .sl (Label.rows x.labels), .sl (Owner.rows x.owners), .sl (Qe x.finalizers), .sl (Manager.rows x.managers)]
def Meta.rows (l : List Meta) : List (List PV) := l.map Meta.cells
theorem Meta.Q0 (l : List Meta) : (Meta.rows l).length = l.length := by simp [Meta.rows]
theorem Meta.Qb {l : List Meta} {i : Nat} {x : Meta} (h : l[i]? = some x) : (Meta.rows l)[i]? = some (Meta.cells x) := Go.Pv.Qb h
theorem Meta.Q15 (l : List Meta) (x : Meta) : Meta.rows (l ++ [x]) = Meta.rows l ++ [Meta.cells x] := by simp [Meta.rows]
theorem Meta.Q2k (l m : List Meta) : Meta.rows (l ++ m) = Meta.rows l ++ Meta.rows m := by simp [Meta.rows]
theorem Meta.Q2j (l : List Meta) (k : Nat) (x : Meta) : Meta.rows (l.set k x) = (Meta.rows l).set k (Meta.cells x) := by simp [Meta.rows, List.map_set]
theorem Meta.Q2t (l : List Meta) (n : Nat) : Meta.rows (l.take n) = (Meta.rows l).take n := by simp [Meta.rows, List.map_take]
theorem Meta.Q2u (l : List Meta) (n : Nat) : Meta.rows (l.drop n) = (Meta.rows l).drop n := by simp [Meta.rows, List.map_drop]
theorem Meta.Qd (l : List Meta) : ∀ r ∈ Meta.rows l, r.length = 13 := Q35 (f := Meta.cells) (fun _ => rfl) l
theorem Meta.Q7 (l : List Meta) (sz : Nat) (h : sz = 13) : ViewOK sz (Meta.rows l).flatten (Meta.rows l) := by subst h; exact ⟨rfl, Meta.Qd l, Q2o (f := Meta.cells) (fun _ => rfl) l⟩
structure Pod where
  meta_ : Meta
  spec : PodSpec
  status : PodStatus
def Pod.cells (x : Pod) : List PV :=
  [.str x.meta_.kind, .str x.meta_.namespace_, .str x.meta_.name, .int .i64 x.meta_.uid, .int .i64 x.meta_.version, .int .i64 x.meta_.generation, .int .i64 x.meta_.created, .bool x.meta_.deleting, .int .i64 x.meta_.deleteAt, .sl (Label.rows x.meta_.labels), .sl (Owner.rows x.meta_.owners), .sl (Qe x.meta_.finalizers), .sl (Manager.rows x.meta_.managers), .str x.spec.node, .int .i64 x.spec.priority, .int .i64 x.spec.restart, .int .i64 x.spec.grace, .sl (Container.rows x.spec.containers), .sl (Requirement.rows x.spec.nodeSelector), .sl (NodeTerm.rows x.spec.nodeTerms), .sl (PodTerm.rows x.spec.podTerms), .sl (SpreadRule.rows x.spec.spread), .sl (Toleration.rows x.spec.tolerations), .int .i64 x.status.phase, .bool x.status.ready, .int .i64 x.status.readySince, .int .i64 x.status.started, .int .i64 x.status.finished, .sl (ContainerStatus.rows x.status.containers), .int .i64 x.status.address, .str x.status.nominated, .str x.status.reason]
def Pod.rows (l : List Pod) : List (List PV) := l.map Pod.cells
theorem Pod.Q0 (l : List Pod) : (Pod.rows l).length = l.length := by simp [Pod.rows]
theorem Pod.Qb {l : List Pod} {i : Nat} {x : Pod} (h : l[i]? = some x) : (Pod.rows l)[i]? = some (Pod.cells x) := Go.Pv.Qb h
theorem Pod.Q15 (l : List Pod) (x : Pod) : Pod.rows (l ++ [x]) = Pod.rows l ++ [Pod.cells x] := by simp [Pod.rows]
theorem Pod.Q2k (l m : List Pod) : Pod.rows (l ++ m) = Pod.rows l ++ Pod.rows m := by simp [Pod.rows]
theorem Pod.Q2j (l : List Pod) (k : Nat) (x : Pod) : Pod.rows (l.set k x) = (Pod.rows l).set k (Pod.cells x) := by simp [Pod.rows, List.map_set]
theorem Pod.Q2t (l : List Pod) (n : Nat) : Pod.rows (l.take n) = (Pod.rows l).take n := by simp [Pod.rows, List.map_take]
theorem Pod.Q2u (l : List Pod) (n : Nat) : Pod.rows (l.drop n) = (Pod.rows l).drop n := by simp [Pod.rows, List.map_drop]
theorem Pod.Qd (l : List Pod) : ∀ r ∈ Pod.rows l, r.length = 32 := Q35 (f := Pod.cells) (fun _ => rfl) l
theorem Pod.Q7 (l : List Pod) (sz : Nat) (h : sz = 32) : ViewOK sz (Pod.rows l).flatten (Pod.rows l) := by subst h; exact ⟨rfl, Pod.Qd l, Q2o (f := Pod.cells) (fun _ => rfl) l⟩
structure Node where
  meta_ : Meta
  capacity : Resources
  maxPods : Int
  cordoned : Bool
  taints : List Taint
  ready : Bool
  beat : Int
  lowMem : Bool
  lowDisk : Bool
  images : List Image
def Node.cells (x : Node) : List PV :=
  [.str x.meta_.kind, .str x.meta_.namespace_, .str x.meta_.name, .int .i64 x.meta_.uid, .int .i64 x.meta_.version, .int .i64 x.meta_.generation, .int .i64 x.meta_.created, .bool x.meta_.deleting, .int .i64 x.meta_.deleteAt, .sl (Label.rows x.meta_.labels), .sl (Owner.rows x.meta_.owners), .sl (Qe x.meta_.finalizers), .sl (Manager.rows x.meta_.managers), .int .i64 x.capacity.cPU, .int .i64 x.capacity.memory, .int .i64 x.capacity.disk, .int .i64 x.maxPods, .bool x.cordoned, .sl (Taint.rows x.taints), .bool x.ready, .int .i64 x.beat, .bool x.lowMem, .bool x.lowDisk, .sl (Image.rows x.images)]
def Node.rows (l : List Node) : List (List PV) := l.map Node.cells
theorem Node.Q0 (l : List Node) : (Node.rows l).length = l.length := by simp [Node.rows]
theorem Node.Qb {l : List Node} {i : Nat} {x : Node} (h : l[i]? = some x) : (Node.rows l)[i]? = some (Node.cells x) := Go.Pv.Qb h
theorem Node.Q15 (l : List Node) (x : Node) : Node.rows (l ++ [x]) = Node.rows l ++ [Node.cells x] := by simp [Node.rows]
theorem Node.Q2k (l m : List Node) : Node.rows (l ++ m) = Node.rows l ++ Node.rows m := by simp [Node.rows]
theorem Node.Q2j (l : List Node) (k : Nat) (x : Node) : Node.rows (l.set k x) = (Node.rows l).set k (Node.cells x) := by simp [Node.rows, List.map_set]
theorem Node.Q2t (l : List Node) (n : Nat) : Node.rows (l.take n) = (Node.rows l).take n := by simp [Node.rows, List.map_take]
theorem Node.Q2u (l : List Node) (n : Nat) : Node.rows (l.drop n) = (Node.rows l).drop n := by simp [Node.rows, List.map_drop]
theorem Node.Qd (l : List Node) : ∀ r ∈ Node.rows l, r.length = 24 := Q35 (f := Node.cells) (fun _ => rfl) l
theorem Node.Q7 (l : List Node) (sz : Nat) (h : sz = 24) : ViewOK sz (Node.rows l).flatten (Node.rows l) := by subst h; exact ⟨rfl, Node.Qd l, Q2o (f := Node.cells) (fun _ => rfl) l⟩
structure Object where
  meta_ : Meta
  spec : Val
  status : Val
def Object.cells (x : Object) : List PV :=
  [.str x.meta_.kind, .str x.meta_.namespace_, .str x.meta_.name, .int .i64 x.meta_.uid, .int .i64 x.meta_.version, .int .i64 x.meta_.generation, .int .i64 x.meta_.created, .bool x.meta_.deleting, .int .i64 x.meta_.deleteAt, .sl (Label.rows x.meta_.labels), .sl (Owner.rows x.meta_.owners), .sl (Qe x.meta_.finalizers), .sl (Manager.rows x.meta_.managers), .int .i64 x.spec.kind, .int .i64 x.spec.n, .str x.spec.s, .sl (Val.rows x.spec.list), .sl (Fld.rows x.spec.fields), .int .i64 x.status.kind, .int .i64 x.status.n, .str x.status.s, .sl (Val.rows x.status.list), .sl (Fld.rows x.status.fields)]
def Object.rows (l : List Object) : List (List PV) := l.map Object.cells
theorem Object.Q0 (l : List Object) : (Object.rows l).length = l.length := by simp [Object.rows]
theorem Object.Qb {l : List Object} {i : Nat} {x : Object} (h : l[i]? = some x) : (Object.rows l)[i]? = some (Object.cells x) := Go.Pv.Qb h
theorem Object.Q15 (l : List Object) (x : Object) : Object.rows (l ++ [x]) = Object.rows l ++ [Object.cells x] := by simp [Object.rows]
theorem Object.Q2k (l m : List Object) : Object.rows (l ++ m) = Object.rows l ++ Object.rows m := by simp [Object.rows]
theorem Object.Q2j (l : List Object) (k : Nat) (x : Object) : Object.rows (l.set k x) = (Object.rows l).set k (Object.cells x) := by simp [Object.rows, List.map_set]
theorem Object.Q2t (l : List Object) (n : Nat) : Object.rows (l.take n) = (Object.rows l).take n := by simp [Object.rows, List.map_take]
theorem Object.Q2u (l : List Object) (n : Nat) : Object.rows (l.drop n) = (Object.rows l).drop n := by simp [Object.rows, List.map_drop]
theorem Object.Qd (l : List Object) : ∀ r ∈ Object.rows l, r.length = 23 := Q35 (f := Object.cells) (fun _ => rfl) l
theorem Object.Q7 (l : List Object) (sz : Nat) (h : sz = 23) : ViewOK sz (Object.rows l).flatten (Object.rows l) := by subst h; exact ⟨rfl, Object.Qd l, Q2o (f := Object.cells) (fun _ => rfl) l⟩
def Q1ao (p0 : Meta) : List Manager → Nat → Unit
 | [], _i0 =>
  ()
 | _x0 :: r0, i0 =>
  Q1ao p0 r0 (i0 + 1)
def Q12l (p0 : Meta) (i0 : Nat) : List PV :=
  [.un, .bx 0 0, .bx 1 0] ++ nuns 19 ++ [.int .i64 ((List.length p0.managers) : Int), .int .i64 (i0 : Int)] ++ nuns 16
def Qtm (p0 : Meta) (_i0 : Nat) : List Ob :=
  [⟨13, 0, true, [.str p0.kind, .str p0.namespace_, .str p0.name, .int .i64 p0.uid, .int .i64 p0.version, .int .i64 p0.generation, .int .i64 p0.created, .bool p0.deleting, .int .i64 p0.deleteAt, .sl (Label.rows p0.labels), .sl (Owner.rows p0.owners), .sl (Qe p0.finalizers), .ms 2 2 0 (List.length p0.managers)]⟩, ⟨13, 0, true, [.str eB, .str eB, .str eB, .int .i64 0, .int .i64 0, .int .i64 0, .int .i64 0, .bool false, .int .i64 0, .ms 3 2 0 0, .ms 4 5 0 0, .ms 5 1 0 0, .ms 6 2 0 0]⟩, ⟨2, 0, true, (Manager.rows p0.managers).flatten⟩, ⟨2, 0, true, []⟩, ⟨5, 0, true, []⟩, ⟨1, 0, true, []⟩, ⟨2, 0, true, []⟩]
def Qsw (p0 : Meta) (i0 : Nat) : En := .loop 0 Ir.Qoh Ir.Q1i7 (Q12l p0 i0) (Qtm p0 i0)
def Qxl (p0 : Meta) (z : Nat → PV) (_zo : Nat → List PV) : St :=
  ⟨[z 0, .bx 0 0, .bx 1 0] ++ zr z 3 37, [(0, ⟨13, 0, true, [.str p0.kind, .str p0.namespace_, .str p0.name, .int .i64 p0.uid, .int .i64 p0.version, .int .i64 p0.generation, .int .i64 p0.created, .bool p0.deleting, .int .i64 p0.deleteAt, .sl (Label.rows p0.labels), .sl (Owner.rows p0.owners), .sl (Qe p0.finalizers), .ms 2 2 0 (List.length p0.managers)]⟩), (1, ⟨13, 0, true, [.str eB, .str eB, .str eB, .int .i64 0, .int .i64 0, .int .i64 0, .int .i64 0, .bool false, .int .i64 0, .ms 3 2 0 0, .ms 4 5 0 0, .ms 5 1 0 0, .ms 6 2 0 0]⟩), (2, ⟨2, 0, true, (Manager.rows p0.managers).flatten⟩), (3, ⟨2, 0, true, []⟩), (4, ⟨5, 0, true, []⟩), (5, ⟨1, 0, true, []⟩), (6, ⟨2, 0, true, []⟩)], 71⟩
theorem Q18z (p0 : Meta) (i0 : Nat) : VOK (Go.Pv.look (number 0 (Qtm p0 i0))) [(2, Manager.rows p0.managers)] := (VOK.cons (show Seen _ _ from Q3q (ob := ⟨2, 0, true, (Manager.rows p0.managers).flatten⟩) (Manager.Q7 p0.managers 2 rfl)) VOK.nil)
def Qd0 (p0 : Meta) (e : En) (_q : Unit) : Prop := ∃ z zo, Q6 G e (.st (.exit 0) (Qxl p0 z zo))
theorem Qy6 (p0 : Meta) {e e' : En} (h : ∀ r, Q6 G e r → Q6 G e' r) : ∀ q, Qd0 p0 e q → Qd0 p0 e' q
  | _, ⟨z, zo, hz⟩ => ⟨z, zo, h _ hz⟩
def Qtu (p0 : Meta) : Prop := (List.length p0.managers ≤ 4611686018427387904) ∧ (∀ x0 ∈ p0.managers, List.length x0.fields * 16 ≤ 140737488355328) ∧ True
def Qyp (p0 : Meta) (i0 : Nat) : List PV :=
  nuns 22 ++ [.int .i64 ((List.length p0.managers) : Int), .int .i64 (i0 : Int), .bool false]
def Qnv (_p0 : Meta) (_i0 : Nat) : List (Nat × List PV) :=
  []
theorem Q19c (p0 : Meta) (_H : Qtu p0) (i0 : Nat) (hc0 : (decide ((i0 : Int) < ((List.length p0.managers) : Int))) = false) : Qd0 p0 (Qsw p0 i0) () := by
 exact ⟨(envF (Qyp p0 i0)), (zoF (Qnv p0 i0)), Qh (Q18z p0 i0) (x := ((.exit 0), Qxl p0 (envF (Qyp p0 i0)) (zoF (Qnv p0 i0)))) [hB 0 hc0] [] (by kernel_rfl)⟩
theorem Q1ak (p0 : Meta) (H : Qtu p0) (x0 : Manager) (i0 : Nat) (hx0 : p0.managers[i0]? = some x0) (hi0 : i0 < List.length p0.managers) (hc0 : (decide ((i0 : Int) < ((List.length p0.managers) : Int))) = true) {r : Rs} (hr : Q6 G (Qsw p0 (i0 + 1)) r) : Q6 G (Qsw p0 i0) r := by
 have hB0 := H.1
 exact Qm (Q18z p0 i0) (y := (Q12l p0 (i0 + 1), Qtm p0 (i0 + 1))) [hB 0 hc0, hP 8 (Q3l 2 2 (List.length p0.managers) (i0 : Int) i0 (by omega) (by omega) (by omega)), hP 1 (Qbq 2 2 0 true ((Manager.rows p0.managers).flatten) (Manager.rows p0.managers) 1 false i0 1 (i0 * 2 + 1) (Manager.cells x0) (.sl (Qe x0.fields)) rfl rfl (Manager.Qb hx0) (Manager.Qd p0.managers) (by decide) rfl), hP 1 (Q3l 2 2 (List.length p0.managers) (i0 : Int) i0 (by omega) (by omega) (by omega)), hV 1 [(2, Manager.rows p0.managers)] (Qd5 2 2 true ((Manager.rows p0.managers).flatten) (Manager.rows p0.managers) (Manager.rows p0.managers) 1 i0 1 (i0 * 2 + 1) _ (.sl (Qe x0.fields)) rfl rfl (Manager.Qb hx0) (Manager.Qd p0.managers) (by decide) rfl rfl (Qzl (Manager.Qb hx0))), hS 0 true (Manager.Q7 p0.managers 2 rfl), hP 0 (Q29 i0 (by omega))] [aN (Q74 (G := G) (f := 82) (sz := 1) (bytes := 16) rfl (Q1c x0.fields) (Q6f x0.fields 1 rfl) (H.2.1 x0 (Q2e hx0)))] (by kernel_rfl) hr
theorem Q110 (p0 : Meta) (H : Qtu p0) : ∀ (r0 : List Manager) (i0 : Nat), List.drop i0 p0.managers = r0 → Qd0 p0 (Qsw p0 i0) (Q1ao p0 r0 i0)
 | [], i0, hd => by
  have hc0 : (decide ((i0 : Int) < ((List.length p0.managers) : Int))) = false := by have := Q1g hd; simp; omega
  show Qd0 p0 _ ()
  exact Q19c p0 H i0 hc0
 | x0 :: r0, i0, hd => by
  obtain ⟨hx0, hi0, hd'⟩ := Q12 hd
  have hc0 : (decide ((i0 : Int) < ((List.length p0.managers) : Int))) = true := by simp; omega
  show Qd0 p0 _ ()
  exact Qy6 p0 (fun r hr => Q1ak p0 H x0 i0 hx0 hi0 hc0 hr) _ (Q110 p0 H r0 (i0 + 1) hd')
def s_Kf (p0 : Meta) : Meta := p0
theorem e_Kf (p0 : Meta) : s_Kf p0 = (p0) := by
  rfl
def c_Kf (p0 : Meta) : En := .call 31 [.agg (Meta.cells p0)] []
def a_Kf (p0 : Meta) : Rs := .ret (.agg (Meta.cells (s_Kf p0))) []
def H_Kf (p0 : Meta) : Prop := (List.length p0.labels * 32 ≤ 140737488355328) ∧ (List.length p0.owners * 48 ≤ 140737488355328) ∧ (List.length p0.finalizers * 16 ≤ 140737488355328) ∧ (List.length p0.managers * 40 ≤ 140737488355328) ∧ (Qtu p0) ∧ True
theorem t_Kf (p0 : Meta) (H : H_Kf p0) : Q6 G (c_Kf p0) (a_Kf p0) := by
 unfold a_Kf
 rw [e_Kf]
 have hl0 := Q110 p0 (H.2.2.2.2.1) p0.managers 0 (by simp)
 obtain ⟨z0, zo0, hl0⟩ := hl0
 exact Q8 (fn := Ir.Kf) rfl VOK.nil [hQ (Manager.Q7 p0.managers 2 rfl), hS 0 true (Manager.Q7 p0.managers 2 rfl), hQ (Manager.Q0 p0.managers).symm] [aN (Q74 (G := G) (f := 80) (sz := 2) (bytes := 32) rfl (Label.Q0 p0.labels) (Label.Q7 p0.labels 2 rfl) H.1), aN (Q74 (G := G) (f := 81) (sz := 5) (bytes := 48) rfl (Owner.Q0 p0.owners) (Owner.Q7 p0.owners 5 rfl) H.2.1), aN (Q74 (G := G) (f := 82) (sz := 1) (bytes := 16) rfl (Q1c p0.finalizers) (Q6f p0.finalizers 1 rfl) H.2.2.1), aV [(0, Manager.rows p0.managers)] (Q7y (G := G) (f := 83) (sz := 2) (bytes := 40) rfl (Manager.Q0 p0.managers) (Manager.Q7 p0.managers 2 rfl) H.2.2.2.1), aV [(2, Manager.rows p0.managers)] hl0] (by kernel_rfl)
end Go.Proofs.YtiflaadeikaghaaGreat
end

section
/- Pods, nodes and templates to and from objects (printed by a program). -/
namespace Go.Proofs.YtiflaadeikaghaaGreat
open Go.Pv
def zPod : Pod := (Pod.mk (Meta.mk eB eB eB 0 0 0 0 false 0 [] [] [] []) (PodSpec.mk eB 0 0 0 [] [] [] [] [] []) (PodStatus.mk 0 false 0 0 0 [] 0 eB eB))
def Pod.obj (x : Pod) : Object := ⟨{ x.meta_ with kind := Q2n }, PodSpec.enc x.spec, PodStatus.enc x.status⟩
def Node.encS (x : Node) : Val := vM [.mk Qzn (Resources.enc x.capacity), .mk Qz2 (vB x.cordoned), .mk Q17u (vN x.maxPods), .mk Q1aa (vL (x.taints.map Taint.enc))]
def Node.encT (x : Node) : Val := vM [.mk Q1fu (vN x.beat), .mk Q193 (vL (x.images.map Image.enc)), .mk Q16w (vB x.lowDisk), .mk Q1a7 (vB x.lowMem), .mk Qq (vB x.ready)]
def Node.obj (x : Node) : Object := ⟨{ x.meta_ with kind := Q1ho }, Node.encS x, Node.encT x⟩
def podQ (o : Object) : Bool := (PodSpec.dec o.spec).2 && (PodStatus.dec o.status).2
def Q6q (o : Object) : Pod := ⟨o.meta_, (PodSpec.dec o.spec).1, (PodStatus.dec o.status).1⟩
def podR (o : Object) : Pod × Int := bif !(sEq o.meta_.kind Q2n) || !(podQ o) then (zPod, 6) else (Q6q o, 0)
def Pod.sm (x : Pod) : Prop := PodSpec.sm x.spec ∧ PodStatus.sm x.status
def Node.sm (x : Node) : Prop := LSm Taint.sm x.taints ∧ LSm Image.sm x.images
def Object.sm (x : Object) : Prop := Val.Sm sB x.spec ∧ Val.Sm sB x.status
theorem Node.Q1g3 {x : Node} (h : Node.sm x) : Val.Sm sB (Node.encS x) := Q8m (Nat.le_of_ble_eq_true rfl) (List.forall_mem_cons.2 ⟨Resources.Q28 trivial, List.forall_mem_cons.2 ⟨Val.Sm.leaf 1 _ _, List.forall_mem_cons.2 ⟨Val.Sm.leaf 2 _ _, List.forall_mem_cons.2 ⟨Q32 (fun _ h => Taint.Q28 h) h.1, fun _ h => by cases h⟩⟩⟩⟩)
theorem Node.Q1fr {x : Node} (h : Node.sm x) : Val.Sm sB (Node.encT x) := Q8m (Nat.le_of_ble_eq_true rfl) (List.forall_mem_cons.2 ⟨Val.Sm.leaf 2 _ _, List.forall_mem_cons.2 ⟨Q32 (fun _ h => Image.Q28 h) h.2, List.forall_mem_cons.2 ⟨Val.Sm.leaf 1 _ _, List.forall_mem_cons.2 ⟨Val.Sm.leaf 1 _ _, List.forall_mem_cons.2 ⟨Val.Sm.leaf 1 _ _, fun _ h => by cases h⟩⟩⟩⟩⟩)
theorem Pod.Qv7 {x : Pod} (h : Pod.sm x) : Object.sm (Pod.obj x) := ⟨PodSpec.Q28 h.1, PodStatus.Q28 h.2⟩
theorem Node.Qv7 {x : Node} (h : Node.sm x) : Object.sm (Node.obj x) := ⟨Node.Q1g3 h, Node.Q1fr h⟩
theorem Q1cg {o : Object} (h : Object.sm o) : Pod.sm (Q6q o) := ⟨PodSpec.Q36 h.1, PodStatus.Q36 h.2⟩
def s_Ka (p0 : Pod) : Object := Pod.obj p0
theorem e_Ka (p0 : Pod) : s_Ka p0 = ((Object.mk (Meta.mk Q2n p0.meta_.namespace_ p0.meta_.name p0.meta_.uid p0.meta_.version p0.meta_.generation p0.meta_.created p0.meta_.deleting p0.meta_.deleteAt p0.meta_.labels p0.meta_.owners p0.meta_.finalizers p0.meta_.managers) (Q1g5 p0.spec) (Q1h6 p0.status))) := by
  rfl
def c_Ka (p0 : Pod) : En := .call 21 [.agg (Pod.cells p0)] []
def a_Ka (p0 : Pod) : Rs := .ret (.agg (Object.cells (s_Ka p0))) []
def H_Ka (p0 : Pod) : Prop := H_Kf p0.meta_ ∧ Pod.sm p0
theorem Qyz (p0 : Pod) (H : H_Ka p0) : (H_Kf p0.meta_) ∧ (Q1h4 p0.spec) ∧ (Q1gm p0.status) ∧ True := by
  repeat' with_reducible apply And.intro
  all_goals first | exact True.intro | exact H.1 | exact H.2.1 | exact H.2.2
theorem t_Ka (p0 : Pod) (H : H_Ka p0) : Q6 G (c_Ka p0) (a_Ka p0) := by
 unfold a_Ka
 rw [e_Ka]
 exact Q8 (fn := Ir.Ka) rfl VOK.nil [] [aN (t_Kf p0.meta_ (Qyz p0 H).1), aN (Q1qn p0.spec (Qyz p0 H).2.1), aN (Q1mt p0.status (Qyz p0 H).2.2.1)] (by kernel_rfl)
def Q8c (p0 : Pod) : Object := Pod.obj p0
theorem Q1pg (p0 : Pod) : Q8c p0 = ((Object.mk (Meta.mk Q2n p0.meta_.namespace_ p0.meta_.name p0.meta_.uid p0.meta_.version p0.meta_.generation p0.meta_.created p0.meta_.deleting p0.meta_.deleteAt p0.meta_.labels p0.meta_.owners p0.meta_.finalizers p0.meta_.managers) (Q1fs p0.spec) (Q1hm p0.status))) := by
  rfl
def Q1mv (p0 : Pod) : En := .call 25 [.agg (Pod.cells p0)] []
def Q1kx (p0 : Pod) : Rs := .ret (.agg (Object.cells (Q8c p0))) []
def Q18w (p0 : Pod) : Prop := Pod.sm p0
theorem Q12m (p0 : Pod) (H : Q18w p0) : (Q1ha p0.spec) ∧ (Q1g2 p0.status) ∧ True := by
  repeat' with_reducible apply And.intro
  all_goals first | exact True.intro | exact H.1 | exact H.2
theorem Q19d (p0 : Pod) (H : Q18w p0) : Q6 G (Q1mv p0) (Q1kx p0) := by
 unfold Q1kx
 rw [Q1pg]
 exact Q8 (fn := Ir.K2b) rfl VOK.nil [] [aN (Q1n4 p0.spec (Q12m p0 H).1), aN (Q1o9 p0.status (Q12m p0 H).2.1)] (by kernel_rfl)
def s_Kd (p0 : Object) : Pod × Int := podR p0
theorem e_Kd (p0 : Object) : s_Kd p0 = (bif (s_Ku p0.status (s_Ks p0.spec (Decoder.mk (!(sEq p0.meta_.kind Q2n)))).2).2.failed then
    ((Pod.mk (Meta.mk eB eB eB 0 0 0 0 false 0 [] [] [] []) (PodSpec.mk eB 0 0 0 [] [] [] [] [] []) (PodStatus.mk 0 false 0 0 0 [] 0 eB eB)), 6)
  else
    ((Pod.mk p0.meta_ (s_Ks p0.spec (Decoder.mk (!(sEq p0.meta_.kind Q2n)))).1 (s_Ku p0.status (s_Ks p0.spec (Decoder.mk (!(sEq p0.meta_.kind Q2n)))).2).1), 0)) := by
  unfold s_Kd podR podQ
  simp only [s_Ks, s_Ku, ft]
  cases (sEq p0.meta_.kind Q2n) <;> cases (PodSpec.dec p0.spec).2 <;> cases (PodStatus.dec p0.status).2 <;> rfl
def c_Kd (p0 : Object) : En := .call 11 [.agg (Object.cells p0)] []
def a_Kd (p0 : Object) : Rs := .ret (.tup [.agg (Pod.cells (s_Kd p0).1), .int .i64 (s_Kd p0).2]) []
def H_Kd (p0 : Object) : Prop := H_Kf p0.meta_ ∧ Object.sm p0
theorem Qcu (p0 : Object) (H : H_Kd p0) : (H_Kf p0.meta_) ∧ (H_Ks p0.spec) ∧ (H_Ku p0.status) ∧ True := by
  repeat' with_reducible apply And.intro
  all_goals first | exact True.intro | exact H.1 | exact H.2.1 | exact H.2.2
theorem t_Kd (p0 : Object) (H : H_Kd p0) : Q6 G (c_Kd p0) (a_Kd p0) := by
 unfold a_Kd
 rw [e_Kd]
 cases h0 : (s_Ku p0.status (s_Ks p0.spec (Decoder.mk (!(sEq p0.meta_.kind Q2n)))).2).2.failed with
 | true =>
  exact Q8 (fn := Ir.Kd) rfl VOK.nil [hP 27 (decR (s_Ku p0.status (s_Ks p0.spec (Decoder.mk (!(sEq p0.meta_.kind Q2n)))).2).2.failed true [512] h0)] [aN (t_Kf p0.meta_ (Qcu p0 H).1), aN (t_Ks p0.spec (Decoder.mk (!(sEq p0.meta_.kind Q2n))) (Qcu p0 H).2.1), aN (t_Ku p0.status (s_Ks p0.spec (Decoder.mk (!(sEq p0.meta_.kind Q2n)))).2 (Qcu p0 H).2.2.1)] (by kernel_rfl)
 | false =>
  exact Q8 (fn := Ir.Kd) rfl VOK.nil [hP 27 (decR (s_Ku p0.status (s_Ks p0.spec (Decoder.mk (!(sEq p0.meta_.kind Q2n)))).2).2.failed false [512] h0)] [aN (t_Kf p0.meta_ (Qcu p0 H).1), aN (t_Ks p0.spec (Decoder.mk (!(sEq p0.meta_.kind Q2n))) (Qcu p0 H).2.1), aN (t_Ku p0.status (s_Ks p0.spec (Decoder.mk (!(sEq p0.meta_.kind Q2n)))).2 (Qcu p0 H).2.2.1)] (by kernel_rfl)
end Go.Proofs.YtiflaadeikaghaaGreat
end

section
/- Equality of metadata and objects; what is small (printed by a program). -/
namespace Go.Proofs.YtiflaadeikaghaaGreat
open Go.Pv
inductive Q139 where
  | k0
  | k1
def Q61 (p0 : List Label) (p1 : List Label) : List Label → Nat → Q139
 | [], _i0 =>
  (.k0)
 | x0 :: r0, i0 =>
  bif ((sEq x0.key (List.getD p1 i0 (Label.mk eB eB)).key) && ((sEq x0.value (List.getD p1 i0 (Label.mk eB eB)).value) && true)) then
   Q61 p0 p1 r0 (i0 + 1)
  else
   (.k1)
def Qv9 (p0 : List Label) (p1 : List Label) (i0 : Nat) : List PV :=
  [.sl (Label.rows p0), .sl (Label.rows p1), .un, .un, .un, .int .i64 (i0 : Int)] ++ nuns 20
def Qw2 (_p0 : List Label) (_p1 : List Label) (_i0 : Nat) : List Ob :=
  []
def Qbu (p0 : List Label) (p1 : List Label) (i0 : Nat) : En := .loop 0 Ir.Qhx Ir.Q1e1 (Qv9 p0 p1 i0) (Qw2 p0 p1 i0)
def Qpu (_p0 : List Label) (_p1 : List Label) (z : Nat → PV) (_zo : Nat → List PV) : St :=
  ⟨zr z 0 26, [], 256⟩
def Qqe (_p0 : List Label) (_p1 : List Label) (z : Nat → PV) (_zo : Nat → List PV) : St :=
  ⟨[z 0, z 1, z 2, z 3, .bool false] ++ zr z 5 21, [], 896⟩
def Qc4 (p0 : List Label) (p1 : List Label) (e : En) : Q139 → Prop
  | .k0 => ∃ z zo, Q6 G e (.st (.exit 0) (Qpu p0 p1 z zo))
  | .k1 => ∃ z zo, Q6 G e (.st .ret (Qqe p0 p1 z zo))
theorem Qrr (p0 : List Label) (p1 : List Label) {e e' : En} (h : ∀ r, Q6 G e r → Q6 G e' r) : ∀ q, Qc4 p0 p1 e q → Qc4 p0 p1 e' q
  | .k0, ⟨z, zo, hz⟩ => ⟨z, zo, h _ hz⟩
  | .k1, ⟨z, zo, hz⟩ => ⟨z, zo, h _ hz⟩
def Qb7 (p0 : List Label) (p1 : List Label) : Prop := (List.length p0 ≤ 4611686018427387904) ∧ (∀ (i0 : Nat) (x0 : Label), p0[i0]? = some x0 → i0 < List.length p1) ∧ True
def Qoz (p0 : List Label) (p1 : List Label) (i0 : Nat) : List PV :=
  [.sl (Label.rows p0), .sl (Label.rows p1), .un, .un, .un, .int .i64 (i0 : Int)] ++ nuns 5 ++ [.int .i64 (i0 : Int), .sl (Label.rows p0), .int .i64 ((List.length p0) : Int), .bool false]
def Qko (_p0 : List Label) (_p1 : List Label) (_i0 : Nat) : List (Nat × List PV) :=
  []
theorem Q13y (p0 : List Label) (p1 : List Label) (_H : Qb7 p0 p1) (i0 : Nat) (hc0 : (decide ((i0 : Int) < ((List.length p0) : Int))) = false) : Qc4 p0 p1 (Qbu p0 p1 i0) (.k0) := by
 exact ⟨(envF (Qoz p0 p1 i0)), (zoF (Qko p0 p1 i0)), Qh VOK.nil (x := ((.exit 0), Qpu p0 p1 (envF (Qoz p0 p1 i0)) (zoF (Qko p0 p1 i0)))) [hP 2 (Qf (Label.rows p0) (List.length p0) (Label.Q0 p0)), hB 0 hc0] [] (by kernel_rfl)⟩
theorem Q15y (p0 : List Label) (p1 : List Label) (H : Qb7 p0 p1) (x0 : Label) (i0 : Nat) (hx0 : p0[i0]? = some x0) (hi0 : i0 < List.length p0) (hc0 : (decide ((i0 : Int) < ((List.length p0) : Int))) = true) (h0 : ((sEq x0.key (List.getD p1 i0 (Label.mk eB eB)).key) && ((sEq x0.value (List.getD p1 i0 (Label.mk eB eB)).value) && true)) = true) {r : Rs} (hr : Q6 G (Qbu p0 p1 (i0 + 1)) r) : Q6 G (Qbu p0 p1 i0) r := by
 have hB0 := H.1
 exact Qm VOK.nil (y := (Qv9 p0 p1 (i0 + 1), Qw2 p0 p1 (i0 + 1))) [hP 2 (Qf (Label.rows p0) (List.length p0) (Label.Q0 p0)), hB 0 hc0, hP 2 (Q1k 2 (Label.rows p0) i0 _ (Label.Qb hx0) rfl), hP 3 (Q1k 2 (Label.rows p1) i0 _ (Label.Qb (Q21 p1 i0 (Label.mk eB eB) ((H.2.1 i0 x0 hx0)))) rfl), hP 1 (dec (!((sEq x0.key (List.getD p1 i0 (Label.mk eB eB)).key) && ((sEq x0.value (List.getD p1 i0 (Label.mk eB eB)).value) && true))) false (by rw [h0]; rfl)), hP 1 (Q29 i0 (by omega))] [] (by kernel_rfl) hr
def Qo9 (p0 : List Label) (p1 : List Label) (i0 : Nat) (x0 : Label) : List PV :=
  [.sl (Label.rows p0), .sl (Label.rows p1), .un, .un, .un, .int .i64 (i0 : Int)] ++ nuns 5 ++ [.int .i64 (i0 : Int), .sl (Label.rows p0), .int .i64 ((List.length p0) : Int), .bool true, .un, .un, .sl (Label.rows p0), .int .i64 (i0 : Int), .rf [.str x0.key, .str x0.value], .agg [.str x0.key, .str x0.value], .sl (Label.rows p1), .int .i64 (i0 : Int), .rf [.str (List.getD p1 i0 (Label.mk eB eB)).key, .str (List.getD p1 i0 (Label.mk eB eB)).value], .agg [.str (List.getD p1 i0 (Label.mk eB eB)).key, .str (List.getD p1 i0 (Label.mk eB eB)).value], .bool true]
def Qme (_p0 : List Label) (_p1 : List Label) (_i0 : Nat) (_x0 : Label) : List (Nat × List PV) :=
  []
theorem Q16v (p0 : List Label) (p1 : List Label) (H : Qb7 p0 p1) (x0 : Label) (i0 : Nat) (hx0 : p0[i0]? = some x0) (_hi0 : i0 < List.length p0) (hc0 : (decide ((i0 : Int) < ((List.length p0) : Int))) = true) (h0 : ((sEq x0.key (List.getD p1 i0 (Label.mk eB eB)).key) && ((sEq x0.value (List.getD p1 i0 (Label.mk eB eB)).value) && true)) = false) : Qc4 p0 p1 (Qbu p0 p1 i0) (.k1) := by
 exact ⟨(envF (Qo9 p0 p1 i0 x0)), (zoF (Qme p0 p1 i0 x0)), Qh VOK.nil (x := (.ret, Qqe p0 p1 (envF (Qo9 p0 p1 i0 x0)) (zoF (Qme p0 p1 i0 x0)))) [hP 2 (Qf (Label.rows p0) (List.length p0) (Label.Q0 p0)), hB 0 hc0, hP 2 (Q1k 2 (Label.rows p0) i0 _ (Label.Qb hx0) rfl), hP 3 (Q1k 2 (Label.rows p1) i0 _ (Label.Qb (Q21 p1 i0 (Label.mk eB eB) ((H.2.1 i0 x0 hx0)))) rfl), hP 1 (dec (!((sEq x0.key (List.getD p1 i0 (Label.mk eB eB)).key) && ((sEq x0.value (List.getD p1 i0 (Label.mk eB eB)).value) && true))) true (by rw [h0]; rfl))] [] (by kernel_rfl)⟩
theorem Qy8 (p0 : List Label) (p1 : List Label) (H : Qb7 p0 p1) : ∀ (r0 : List Label) (i0 : Nat), List.drop i0 p0 = r0 → Qc4 p0 p1 (Qbu p0 p1 i0) (Q61 p0 p1 r0 i0)
 | [], i0, hd => by
  have hc0 : (decide ((i0 : Int) < ((List.length p0) : Int))) = false := by have := Q1g hd; simp; omega
  rw [Q61]
  exact Q13y p0 p1 H i0 hc0
 | x0 :: r0, i0, hd => by
  obtain ⟨hx0, hi0, hd'⟩ := Q12 hd
  have hc0 : (decide ((i0 : Int) < ((List.length p0) : Int))) = true := by simp; omega
  rw [Q61]
  cases h0 : ((sEq x0.key (List.getD p1 i0 (Label.mk eB eB)).key) && ((sEq x0.value (List.getD p1 i0 (Label.mk eB eB)).value) && true)) with
  | true =>
   exact Qrr p0 p1 (fun r hr => Q15y p0 p1 H x0 i0 hx0 hi0 hc0 h0 hr) _ (Qy8 p0 p1 H r0 (i0 + 1) hd')
  | false =>
   exact Q16v p0 p1 H x0 i0 hx0 hi0 hc0 h0
def Qcw (p0 : List Label) (p1 : List Label) : Bool :=
 bif (((List.length p0) : Int) == ((List.length p1) : Int)) then
  (match (Q61 p0 p1 p0 0) with
  | .k0 => true
  | .k1 => false)
 else
  false
def Q1q6 (p0 : List Label) (p1 : List Label) : En := .call 122 [.sl (Label.rows p0), .sl (Label.rows p1)] []
def Q1l0 (p0 : List Label) (p1 : List Label) : Rs := .ret (.bool (Qcw p0 p1)) []
def Q1jq (p0 : List Label) (p1 : List Label) : Prop := ((((List.length p0) : Int) == ((List.length p1) : Int)) = true → Qb7 p0 p1) ∧ True
theorem Qzh (p0 : List Label) (p1 : List Label) (H : Q1jq p0 p1) : Q6 G (Q1q6 p0 p1) (Q1l0 p0 p1) := by
 unfold Q1l0 Qcw
 cases h0 : (((List.length p0) : Int) == ((List.length p1) : Int)) with
 | true =>
  have hl1 := Qy8 p0 p1 (H.1 h0) p0 0 (by simp)
  cases hr1 : (Q61 p0 p1 p0 0) with
  | k0 =>
   rw [hr1] at hl1
   obtain ⟨z1, zo1, hl1⟩ := hl1
   exact Q8 (fn := Ir.K24) rfl VOK.nil [hP 2 (Qf (Label.rows p0) (List.length p0) (Label.Q0 p0)), hP 1 (Qf (Label.rows p1) (List.length p1) (Label.Q0 p1)), hP 0 (dec (!(((List.length p0) : Int) == ((List.length p1) : Int))) false (by rw [h0]; rfl))] [aN hl1] (by kernel_rfl)
  | k1 =>
   rw [hr1] at hl1
   obtain ⟨z1, zo1, hl1⟩ := hl1
   exact Q8 (fn := Ir.K24) rfl VOK.nil [hP 2 (Qf (Label.rows p0) (List.length p0) (Label.Q0 p0)), hP 1 (Qf (Label.rows p1) (List.length p1) (Label.Q0 p1)), hP 0 (dec (!(((List.length p0) : Int) == ((List.length p1) : Int))) false (by rw [h0]; rfl))] [aN hl1] (by kernel_rfl)
 | false =>
  exact Q8 (fn := Ir.K24) rfl VOK.nil [hP 2 (Qf (Label.rows p0) (List.length p0) (Label.Q0 p0)), hP 1 (Qf (Label.rows p1) (List.length p1) (Label.Q0 p1)), hP 0 (dec (!(((List.length p0) : Int) == ((List.length p1) : Int))) true (by rw [h0]; rfl))] [] (by kernel_rfl)
inductive Q10k where
  | k0
  | k1
def Q65 (p0 : List ByteArray) (p1 : List ByteArray) : List ByteArray → Nat → Q10k
 | [], _i0 =>
  (.k0)
 | x0 :: r0, i0 =>
  bif (sEq x0 (List.getD p1 i0 eB)) then
   Q65 p0 p1 r0 (i0 + 1)
  else
   (.k1)
def Qy7 (p0 : List ByteArray) (p1 : List ByteArray) (i0 : Nat) : List PV :=
  [.sl (Qe p0), .sl (Qe p1), .un, .un, .un, .int .i64 (i0 : Int)] ++ nuns 20
def Qv3 (_p0 : List ByteArray) (_p1 : List ByteArray) (_i0 : Nat) : List Ob :=
  []
def Qc3 (p0 : List ByteArray) (p1 : List ByteArray) (i0 : Nat) : En := .loop 0 Ir.Qk7 Ir.Q1e0 (Qy7 p0 p1 i0) (Qv3 p0 p1 i0)
def Qop (_p0 : List ByteArray) (_p1 : List ByteArray) (z : Nat → PV) (_zo : Nat → List PV) : St :=
  ⟨zr z 0 26, [], 256⟩
def Qr0 (_p0 : List ByteArray) (_p1 : List ByteArray) (z : Nat → PV) (_zo : Nat → List PV) : St :=
  ⟨[z 0, z 1, z 2, z 3, .bool false] ++ zr z 5 21, [], 896⟩
def Qbn (p0 : List ByteArray) (p1 : List ByteArray) (e : En) : Q10k → Prop
  | .k0 => ∃ z zo, Q6 G e (.st (.exit 0) (Qop p0 p1 z zo))
  | .k1 => ∃ z zo, Q6 G e (.st .ret (Qr0 p0 p1 z zo))
theorem Qtb (p0 : List ByteArray) (p1 : List ByteArray) {e e' : En} (h : ∀ r, Q6 G e r → Q6 G e' r) : ∀ q, Qbn p0 p1 e q → Qbn p0 p1 e' q
  | .k0, ⟨z, zo, hz⟩ => ⟨z, zo, h _ hz⟩
  | .k1, ⟨z, zo, hz⟩ => ⟨z, zo, h _ hz⟩
def Qc0 (p0 : List ByteArray) (p1 : List ByteArray) : Prop := (List.length p0 ≤ 4611686018427387904) ∧ (∀ (i0 : Nat) (x0 : BA), p0[i0]? = some x0 → i0 < List.length p1) ∧ True
def Qq5 (p0 : List ByteArray) (p1 : List ByteArray) (i0 : Nat) : List PV :=
  [.sl (Qe p0), .sl (Qe p1), .un, .un, .un, .int .i64 (i0 : Int)] ++ nuns 5 ++ [.int .i64 (i0 : Int), .sl (Qe p0), .int .i64 ((List.length p0) : Int), .bool false]
def Qix (_p0 : List ByteArray) (_p1 : List ByteArray) (_i0 : Nat) : List (Nat × List PV) :=
  []
theorem Q14a (p0 : List ByteArray) (p1 : List ByteArray) (_H : Qc0 p0 p1) (i0 : Nat) (hc0 : (decide ((i0 : Int) < ((List.length p0) : Int))) = false) : Qbn p0 p1 (Qc3 p0 p1 i0) (.k0) := by
 exact ⟨(envF (Qq5 p0 p1 i0)), (zoF (Qix p0 p1 i0)), Qh VOK.nil (x := ((.exit 0), Qop p0 p1 (envF (Qq5 p0 p1 i0)) (zoF (Qix p0 p1 i0)))) [hP 2 (Qf (Qe p0) (List.length p0) (Q1c p0)), hB 0 hc0] [] (by kernel_rfl)⟩
theorem Q148 (p0 : List ByteArray) (p1 : List ByteArray) (H : Qc0 p0 p1) (x0 : BA) (i0 : Nat) (hx0 : p0[i0]? = some x0) (hi0 : i0 < List.length p0) (hc0 : (decide ((i0 : Int) < ((List.length p0) : Int))) = true) (h0 : (sEq x0 (List.getD p1 i0 eB)) = true) {r : Rs} (hr : Q6 G (Qc3 p0 p1 (i0 + 1)) r) : Q6 G (Qc3 p0 p1 i0) r := by
 have hB0 := H.1
 exact Qm VOK.nil (y := (Qy7 p0 p1 (i0 + 1), Qv3 p0 p1 (i0 + 1))) [hP 2 (Qf (Qe p0) (List.length p0) (Q1c p0)), hB 0 hc0, hP 2 (Q1k 1 (Qe p0) i0 _ (Q3t hx0) rfl), hP 3 (Q1k 1 (Qe p1) i0 _ (Q3t (Q21 p1 i0 eB ((H.2.1 i0 x0 hx0)))) rfl), hP 1 (dec (!(sEq x0 (List.getD p1 i0 eB))) false (by rw [h0]; rfl)), hP 1 (Q29 i0 (by omega))] [] (by kernel_rfl) hr
def Qno (p0 : List ByteArray) (p1 : List ByteArray) (i0 : Nat) (x0 : BA) : List PV :=
  [.sl (Qe p0), .sl (Qe p1), .un, .un, .un, .int .i64 (i0 : Int)] ++ nuns 5 ++ [.int .i64 (i0 : Int), .sl (Qe p0), .int .i64 ((List.length p0) : Int), .bool true, .un, .un, .sl (Qe p0), .int .i64 (i0 : Int), .rf [.str x0], .str x0, .sl (Qe p1), .int .i64 (i0 : Int), .rf [.str (List.getD p1 i0 eB)], .str (List.getD p1 i0 eB), .bool true]
def Qly (_p0 : List ByteArray) (_p1 : List ByteArray) (_i0 : Nat) (_x0 : BA) : List (Nat × List PV) :=
  []
theorem Q13m (p0 : List ByteArray) (p1 : List ByteArray) (H : Qc0 p0 p1) (x0 : BA) (i0 : Nat) (hx0 : p0[i0]? = some x0) (_hi0 : i0 < List.length p0) (hc0 : (decide ((i0 : Int) < ((List.length p0) : Int))) = true) (h0 : (sEq x0 (List.getD p1 i0 eB)) = false) : Qbn p0 p1 (Qc3 p0 p1 i0) (.k1) := by
 exact ⟨(envF (Qno p0 p1 i0 x0)), (zoF (Qly p0 p1 i0 x0)), Qh VOK.nil (x := (.ret, Qr0 p0 p1 (envF (Qno p0 p1 i0 x0)) (zoF (Qly p0 p1 i0 x0)))) [hP 2 (Qf (Qe p0) (List.length p0) (Q1c p0)), hB 0 hc0, hP 2 (Q1k 1 (Qe p0) i0 _ (Q3t hx0) rfl), hP 3 (Q1k 1 (Qe p1) i0 _ (Q3t (Q21 p1 i0 eB ((H.2.1 i0 x0 hx0)))) rfl), hP 1 (dec (!(sEq x0 (List.getD p1 i0 eB))) true (by rw [h0]; rfl))] [] (by kernel_rfl)⟩
theorem Qvy (p0 : List ByteArray) (p1 : List ByteArray) (H : Qc0 p0 p1) : ∀ (r0 : List ByteArray) (i0 : Nat), List.drop i0 p0 = r0 → Qbn p0 p1 (Qc3 p0 p1 i0) (Q65 p0 p1 r0 i0)
 | [], i0, hd => by
  have hc0 : (decide ((i0 : Int) < ((List.length p0) : Int))) = false := by have := Q1g hd; simp; omega
  rw [Q65]
  exact Q14a p0 p1 H i0 hc0
 | x0 :: r0, i0, hd => by
  obtain ⟨hx0, hi0, hd'⟩ := Q12 hd
  have hc0 : (decide ((i0 : Int) < ((List.length p0) : Int))) = true := by simp; omega
  rw [Q65]
  cases h0 : (sEq x0 (List.getD p1 i0 eB)) with
  | true =>
   exact Qtb p0 p1 (fun r hr => Q148 p0 p1 H x0 i0 hx0 hi0 hc0 h0 hr) _ (Qvy p0 p1 H r0 (i0 + 1) hd')
  | false =>
   exact Q13m p0 p1 H x0 i0 hx0 hi0 hc0 h0
def Qa5 (p0 : List ByteArray) (p1 : List ByteArray) : Bool :=
 bif (((List.length p0) : Int) == ((List.length p1) : Int)) then
  (match (Q65 p0 p1 p0 0) with
  | .k0 => true
  | .k1 => false)
 else
  false
def Q1ql (p0 : List ByteArray) (p1 : List ByteArray) : En := .call 123 [.sl (Qe p0), .sl (Qe p1)] []
def Q1kc (p0 : List ByteArray) (p1 : List ByteArray) : Rs := .ret (.bool (Qa5 p0 p1)) []
def Q1gq (p0 : List ByteArray) (p1 : List ByteArray) : Prop := ((((List.length p0) : Int) == ((List.length p1) : Int)) = true → Qc0 p0 p1) ∧ True
theorem Qy5 (p0 : List ByteArray) (p1 : List ByteArray) (H : Q1gq p0 p1) : Q6 G (Q1ql p0 p1) (Q1kc p0 p1) := by
 unfold Q1kc Qa5
 cases h0 : (((List.length p0) : Int) == ((List.length p1) : Int)) with
 | true =>
  have hl1 := Qvy p0 p1 (H.1 h0) p0 0 (by simp)
  cases hr1 : (Q65 p0 p1 p0 0) with
  | k0 =>
   rw [hr1] at hl1
   obtain ⟨z1, zo1, hl1⟩ := hl1
   exact Q8 (fn := Ir.K25) rfl VOK.nil [hP 2 (Qf (Qe p0) (List.length p0) (Q1c p0)), hP 1 (Qf (Qe p1) (List.length p1) (Q1c p1)), hP 0 (dec (!(((List.length p0) : Int) == ((List.length p1) : Int))) false (by rw [h0]; rfl))] [aN hl1] (by kernel_rfl)
  | k1 =>
   rw [hr1] at hl1
   obtain ⟨z1, zo1, hl1⟩ := hl1
   exact Q8 (fn := Ir.K25) rfl VOK.nil [hP 2 (Qf (Qe p0) (List.length p0) (Q1c p0)), hP 1 (Qf (Qe p1) (List.length p1) (Q1c p1)), hP 0 (dec (!(((List.length p0) : Int) == ((List.length p1) : Int))) false (by rw [h0]; rfl))] [aN hl1] (by kernel_rfl)
 | false =>
  exact Q8 (fn := Ir.K25) rfl VOK.nil [hP 2 (Qf (Qe p0) (List.length p0) (Q1c p0)), hP 1 (Qf (Qe p1) (List.length p1) (Q1c p1)), hP 0 (dec (!(((List.length p0) : Int) == ((List.length p1) : Int))) true (by rw [h0]; rfl))] [] (by kernel_rfl)
inductive Q13h where
  | k0
  | k1
def Q66 (p0 : Meta) (p1 : Meta) : List Owner → Nat → Q13h
 | [], _i0 =>
  (.k0)
 | x0 :: r0, i0 =>
  bif ((sEq x0.kind (List.getD p1.owners i0 (Owner.mk eB eB 0 false false)).kind) && ((sEq x0.name (List.getD p1.owners i0 (Owner.mk eB eB 0 false false)).name) && ((x0.uid == (List.getD p1.owners i0 (Owner.mk eB eB 0 false false)).uid) && ((x0.controller == (List.getD p1.owners i0 (Owner.mk eB eB 0 false false)).controller) && ((x0.block == (List.getD p1.owners i0 (Owner.mk eB eB 0 false false)).block) && true))))) then
   Q66 p0 p1 r0 (i0 + 1)
  else
   (.k1)
def Qv4 (_p0 : Meta) (_p1 : Meta) (i0 : Nat) : List PV :=
  [.un, .un, .bx 0 0, .bx 1 0, .un, .int .i64 (i0 : Int)] ++ nuns 148
def Qun (p0 : Meta) (p1 : Meta) (_i0 : Nat) : List Ob :=
  [⟨13, 0, true, [.str p0.kind, .str p0.namespace_, .str p0.name, .int .i64 p0.uid, .int .i64 p0.version, .int .i64 p0.generation, .int .i64 p0.created, .bool p0.deleting, .int .i64 p0.deleteAt, .sl (Label.rows p0.labels), .sl (Owner.rows p0.owners), .sl (Qe p0.finalizers), .sl (Manager.rows p0.managers)]⟩, ⟨13, 0, true, [.str p1.kind, .str p1.namespace_, .str p1.name, .int .i64 p1.uid, .int .i64 p1.version, .int .i64 p1.generation, .int .i64 p1.created, .bool p1.deleting, .int .i64 p1.deleteAt, .sl (Label.rows p1.labels), .sl (Owner.rows p1.owners), .sl (Qe p1.finalizers), .sl (Manager.rows p1.managers)]⟩]
def Q6u (p0 : Meta) (p1 : Meta) (i0 : Nat) : En := .loop 0 Ir.Qki Ir.Q1fe (Qv4 p0 p1 i0) (Qun p0 p1 i0)
def Q9n (p0 : Meta) (p1 : Meta) (z : Nat → PV) (_zo : Nat → List PV) : St :=
  ⟨[z 0, z 1, .bx 0 0, .bx 1 0] ++ zr z 4 150, [(0, ⟨13, 0, true, [.str p0.kind, .str p0.namespace_, .str p0.name, .int .i64 p0.uid, .int .i64 p0.version, .int .i64 p0.generation, .int .i64 p0.created, .bool p0.deleting, .int .i64 p0.deleteAt, .sl (Label.rows p0.labels), .sl (Owner.rows p0.owners), .sl (Qe p0.finalizers), .sl (Manager.rows p0.managers)]⟩), (1, ⟨13, 0, true, [.str p1.kind, .str p1.namespace_, .str p1.name, .int .i64 p1.uid, .int .i64 p1.version, .int .i64 p1.generation, .int .i64 p1.created, .bool p1.deleting, .int .i64 p1.deleteAt, .sl (Label.rows p1.labels), .sl (Owner.rows p1.owners), .sl (Qe p1.finalizers), .sl (Manager.rows p1.managers)]⟩)], 322⟩
def Qdc (_p0 : Meta) (_p1 : Meta) (z : Nat → PV) (zo : Nat → List PV) : St :=
  ⟨[z 0, z 1, z 2, z 3, .bool false] ++ zr z 5 149, [(0, ⟨13, 0, true, zo 0⟩), (1, ⟨13, 0, true, zo 1⟩)], 1090⟩
def Qcp (p0 : Meta) (p1 : Meta) (e : En) : Q13h → Prop
  | .k0 => ∃ z zo, Q6 G e (.st (.exit 0) (Q9n p0 p1 z zo))
  | .k1 => ∃ z zo, Q6 G e (.st .ret (Qdc p0 p1 z zo))
theorem Qrs (p0 : Meta) (p1 : Meta) {e e' : En} (h : ∀ r, Q6 G e r → Q6 G e' r) : ∀ q, Qcp p0 p1 e q → Qcp p0 p1 e' q
  | .k0, ⟨z, zo, hz⟩ => ⟨z, zo, h _ hz⟩
  | .k1, ⟨z, zo, hz⟩ => ⟨z, zo, h _ hz⟩
def Qb9 (p0 : Meta) (p1 : Meta) : Prop := (List.length p0.owners ≤ 4611686018427387904) ∧ (∀ (i0 : Nat) (x0 : Owner), p0.owners[i0]? = some x0 → i0 < List.length p1.owners) ∧ True
def Qqx (p0 : Meta) (_p1 : Meta) (i0 : Nat) : List PV :=
  nuns 5 ++ [.int .i64 (i0 : Int)] ++ nuns 94 ++ [.int .i64 (i0 : Int), .bx 0 10, .sl (Owner.rows p0.owners), .int .i64 ((List.length p0.owners) : Int), .bool false]
def Qi1 (_p0 : Meta) (_p1 : Meta) (_i0 : Nat) : List (Nat × List PV) :=
  []
theorem Q13n (p0 : Meta) (p1 : Meta) (_H : Qb9 p0 p1) (i0 : Nat) (hc0 : (decide ((i0 : Int) < ((List.length p0.owners) : Int))) = false) : Qcp p0 p1 (Q6u p0 p1 i0) (.k0) := by
 exact ⟨(envF (Qqx p0 p1 i0)), (zoF (Qi1 p0 p1 i0)), Qh VOK.nil (x := ((.exit 0), Q9n p0 p1 (envF (Qqx p0 p1 i0)) (zoF (Qi1 p0 p1 i0)))) [hP 3 (Qf (Owner.rows p0.owners) (List.length p0.owners) (Owner.Q0 p0.owners)), hB 0 hc0] [] (by kernel_rfl)⟩
theorem Q14k (p0 : Meta) (p1 : Meta) (H : Qb9 p0 p1) (x0 : Owner) (i0 : Nat) (hx0 : p0.owners[i0]? = some x0) (hi0 : i0 < List.length p0.owners) (hc0 : (decide ((i0 : Int) < ((List.length p0.owners) : Int))) = true) (h0 : ((sEq x0.kind (List.getD p1.owners i0 (Owner.mk eB eB 0 false false)).kind) && ((sEq x0.name (List.getD p1.owners i0 (Owner.mk eB eB 0 false false)).name) && ((x0.uid == (List.getD p1.owners i0 (Owner.mk eB eB 0 false false)).uid) && ((x0.controller == (List.getD p1.owners i0 (Owner.mk eB eB 0 false false)).controller) && ((x0.block == (List.getD p1.owners i0 (Owner.mk eB eB 0 false false)).block) && true))))) = true) {r : Rs} (hr : Q6 G (Q6u p0 p1 (i0 + 1)) r) : Q6 G (Q6u p0 p1 i0) r := by
 have hB0 := H.1
 exact Qm VOK.nil (y := (Qv4 p0 p1 (i0 + 1), Qun p0 p1 (i0 + 1))) [hP 3 (Qf (Owner.rows p0.owners) (List.length p0.owners) (Owner.Q0 p0.owners)), hB 0 hc0, hP 3 (Q1k 5 (Owner.rows p0.owners) i0 _ (Owner.Qb hx0) rfl), hP 4 (Q1k 5 (Owner.rows p1.owners) i0 _ (Owner.Qb (Q21 p1.owners i0 (Owner.mk eB eB 0 false false) ((H.2.1 i0 x0 hx0)))) rfl), hP 1 (dec (!((sEq x0.kind (List.getD p1.owners i0 (Owner.mk eB eB 0 false false)).kind) && ((sEq x0.name (List.getD p1.owners i0 (Owner.mk eB eB 0 false false)).name) && ((x0.uid == (List.getD p1.owners i0 (Owner.mk eB eB 0 false false)).uid) && ((x0.controller == (List.getD p1.owners i0 (Owner.mk eB eB 0 false false)).controller) && ((x0.block == (List.getD p1.owners i0 (Owner.mk eB eB 0 false false)).block) && true)))))) false (by rw [h0]; rfl)), hP 1 (Q29 i0 (by omega))] [] (by kernel_rfl) hr
def Qnl (p0 : Meta) (p1 : Meta) (i0 : Nat) (x0 : Owner) : List PV :=
  [.un, .un, .bx 0 0, .bx 1 0, .un, .int .i64 (i0 : Int)] ++ nuns 94 ++ [.int .i64 (i0 : Int), .bx 0 10, .sl (Owner.rows p0.owners), .int .i64 ((List.length p0.owners) : Int), .bool true, .un, .un, .bx 0 10, .sl (Owner.rows p0.owners), .int .i64 (i0 : Int), .rf [.str x0.kind, .str x0.name, .int .i64 x0.uid, .bool x0.controller, .bool x0.block], .agg [.str x0.kind, .str x0.name, .int .i64 x0.uid, .bool x0.controller, .bool x0.block], .bx 1 10, .sl (Owner.rows p1.owners), .int .i64 (i0 : Int), .rf [.str (List.getD p1.owners i0 (Owner.mk eB eB 0 false false)).kind, .str (List.getD p1.owners i0 (Owner.mk eB eB 0 false false)).name, .int .i64 (List.getD p1.owners i0 (Owner.mk eB eB 0 false false)).uid, .bool (List.getD p1.owners i0 (Owner.mk eB eB 0 false false)).controller, .bool (List.getD p1.owners i0 (Owner.mk eB eB 0 false false)).block], .agg [.str (List.getD p1.owners i0 (Owner.mk eB eB 0 false false)).kind, .str (List.getD p1.owners i0 (Owner.mk eB eB 0 false false)).name, .int .i64 (List.getD p1.owners i0 (Owner.mk eB eB 0 false false)).uid, .bool (List.getD p1.owners i0 (Owner.mk eB eB 0 false false)).controller, .bool (List.getD p1.owners i0 (Owner.mk eB eB 0 false false)).block], .bool true]
def Qj4 (p0 : Meta) (p1 : Meta) (_i0 : Nat) (_x0 : Owner) : List (Nat × List PV) :=
  [(0, [.str p0.kind, .str p0.namespace_, .str p0.name, .int .i64 p0.uid, .int .i64 p0.version, .int .i64 p0.generation, .int .i64 p0.created, .bool p0.deleting, .int .i64 p0.deleteAt, .sl (Label.rows p0.labels), .sl (Owner.rows p0.owners), .sl (Qe p0.finalizers), .sl (Manager.rows p0.managers)]), (1, [.str p1.kind, .str p1.namespace_, .str p1.name, .int .i64 p1.uid, .int .i64 p1.version, .int .i64 p1.generation, .int .i64 p1.created, .bool p1.deleting, .int .i64 p1.deleteAt, .sl (Label.rows p1.labels), .sl (Owner.rows p1.owners), .sl (Qe p1.finalizers), .sl (Manager.rows p1.managers)])]
theorem Q16d (p0 : Meta) (p1 : Meta) (H : Qb9 p0 p1) (x0 : Owner) (i0 : Nat) (hx0 : p0.owners[i0]? = some x0) (_hi0 : i0 < List.length p0.owners) (hc0 : (decide ((i0 : Int) < ((List.length p0.owners) : Int))) = true) (h0 : ((sEq x0.kind (List.getD p1.owners i0 (Owner.mk eB eB 0 false false)).kind) && ((sEq x0.name (List.getD p1.owners i0 (Owner.mk eB eB 0 false false)).name) && ((x0.uid == (List.getD p1.owners i0 (Owner.mk eB eB 0 false false)).uid) && ((x0.controller == (List.getD p1.owners i0 (Owner.mk eB eB 0 false false)).controller) && ((x0.block == (List.getD p1.owners i0 (Owner.mk eB eB 0 false false)).block) && true))))) = false) : Qcp p0 p1 (Q6u p0 p1 i0) (.k1) := by
 exact ⟨(envF (Qnl p0 p1 i0 x0)), (zoF (Qj4 p0 p1 i0 x0)), Qh VOK.nil (x := (.ret, Qdc p0 p1 (envF (Qnl p0 p1 i0 x0)) (zoF (Qj4 p0 p1 i0 x0)))) [hP 3 (Qf (Owner.rows p0.owners) (List.length p0.owners) (Owner.Q0 p0.owners)), hB 0 hc0, hP 3 (Q1k 5 (Owner.rows p0.owners) i0 _ (Owner.Qb hx0) rfl), hP 4 (Q1k 5 (Owner.rows p1.owners) i0 _ (Owner.Qb (Q21 p1.owners i0 (Owner.mk eB eB 0 false false) ((H.2.1 i0 x0 hx0)))) rfl), hP 1 (dec (!((sEq x0.kind (List.getD p1.owners i0 (Owner.mk eB eB 0 false false)).kind) && ((sEq x0.name (List.getD p1.owners i0 (Owner.mk eB eB 0 false false)).name) && ((x0.uid == (List.getD p1.owners i0 (Owner.mk eB eB 0 false false)).uid) && ((x0.controller == (List.getD p1.owners i0 (Owner.mk eB eB 0 false false)).controller) && ((x0.block == (List.getD p1.owners i0 (Owner.mk eB eB 0 false false)).block) && true)))))) true (by rw [h0]; rfl))] [] (by kernel_rfl)⟩
theorem Qxi (p0 : Meta) (p1 : Meta) (H : Qb9 p0 p1) : ∀ (r0 : List Owner) (i0 : Nat), List.drop i0 p0.owners = r0 → Qcp p0 p1 (Q6u p0 p1 i0) (Q66 p0 p1 r0 i0)
 | [], i0, hd => by
  have hc0 : (decide ((i0 : Int) < ((List.length p0.owners) : Int))) = false := by have := Q1g hd; simp; omega
  rw [Q66]
  exact Q13n p0 p1 H i0 hc0
 | x0 :: r0, i0, hd => by
  obtain ⟨hx0, hi0, hd'⟩ := Q12 hd
  have hc0 : (decide ((i0 : Int) < ((List.length p0.owners) : Int))) = true := by simp; omega
  rw [Q66]
  cases h0 : ((sEq x0.kind (List.getD p1.owners i0 (Owner.mk eB eB 0 false false)).kind) && ((sEq x0.name (List.getD p1.owners i0 (Owner.mk eB eB 0 false false)).name) && ((x0.uid == (List.getD p1.owners i0 (Owner.mk eB eB 0 false false)).uid) && ((x0.controller == (List.getD p1.owners i0 (Owner.mk eB eB 0 false false)).controller) && ((x0.block == (List.getD p1.owners i0 (Owner.mk eB eB 0 false false)).block) && true))))) with
  | true =>
   exact Qrs p0 p1 (fun r hr => Q14k p0 p1 H x0 i0 hx0 hi0 hc0 h0 hr) _ (Qxi p0 p1 H r0 (i0 + 1) hd')
  | false =>
   exact Q16d p0 p1 H x0 i0 hx0 hi0 hc0 h0
inductive Q10i where
  | k0
  | k1
def Q62 (p0 : Meta) (p1 : Meta) : List Manager → Nat → Q10i
 | [], _i1 =>
  (.k0)
 | x1 :: r1, i1 =>
  bif (sEq x1.name (List.getD p1.managers i1 (Manager.mk eB [])).name) then
   bif (Qa5 x1.fields (List.getD p1.managers i1 (Manager.mk eB [])).fields) then
    Q62 p0 p1 r1 (i1 + 1)
   else
    (.k1)
  else
   (.k1)
def Qv0 (_p0 : Meta) (_p1 : Meta) (i1 : Nat) : List PV :=
  [.un, .un, .bx 0 0, .bx 1 0, .un, .un, .int .i64 (i1 : Int)] ++ nuns 147
def Qxv (p0 : Meta) (p1 : Meta) (_i1 : Nat) : List Ob :=
  [⟨13, 0, true, [.str p0.kind, .str p0.namespace_, .str p0.name, .int .i64 p0.uid, .int .i64 p0.version, .int .i64 p0.generation, .int .i64 p0.created, .bool p0.deleting, .int .i64 p0.deleteAt, .sl (Label.rows p0.labels), .sl (Owner.rows p0.owners), .sl (Qe p0.finalizers), .sl (Manager.rows p0.managers)]⟩, ⟨13, 0, true, [.str p1.kind, .str p1.namespace_, .str p1.name, .int .i64 p1.uid, .int .i64 p1.version, .int .i64 p1.generation, .int .i64 p1.created, .bool p1.deleting, .int .i64 p1.deleteAt, .sl (Label.rows p1.labels), .sl (Owner.rows p1.owners), .sl (Qe p1.finalizers), .sl (Manager.rows p1.managers)]⟩]
def Q6w (p0 : Meta) (p1 : Meta) (i1 : Nat) : En := .loop 0 Ir.Qii Ir.Q1f4 (Qv0 p0 p1 i1) (Qxv p0 p1 i1)
def Qd3 (p0 : Meta) (p1 : Meta) (z : Nat → PV) (_zo : Nat → List PV) : St :=
  ⟨zr z 0 154, [(0, ⟨13, 0, true, [.str p0.kind, .str p0.namespace_, .str p0.name, .int .i64 p0.uid, .int .i64 p0.version, .int .i64 p0.generation, .int .i64 p0.created, .bool p0.deleting, .int .i64 p0.deleteAt, .sl (Label.rows p0.labels), .sl (Owner.rows p0.owners), .sl (Qe p0.finalizers), .sl (Manager.rows p0.managers)]⟩), (1, ⟨13, 0, true, [.str p1.kind, .str p1.namespace_, .str p1.name, .int .i64 p1.uid, .int .i64 p1.version, .int .i64 p1.generation, .int .i64 p1.created, .bool p1.deleting, .int .i64 p1.deleteAt, .sl (Label.rows p1.labels), .sl (Owner.rows p1.owners), .sl (Qe p1.finalizers), .sl (Manager.rows p1.managers)]⟩)], 322⟩
def Q9l (_p0 : Meta) (_p1 : Meta) (z : Nat → PV) (zo : Nat → List PV) : St :=
  ⟨[z 0, z 1, z 2, z 3, .bool false] ++ zr z 5 149, [(0, ⟨13, 0, true, zo 0⟩), (1, ⟨13, 0, true, zo 1⟩)], 2242⟩
def Q9f (p0 : Meta) (p1 : Meta) (e : En) : Q10i → Prop
  | .k0 => ∃ z zo, Q6 G e (.st (.exit 2) (Qd3 p0 p1 z zo))
  | .k1 => ∃ z zo, Q6 G e (.st .ret (Q9l p0 p1 z zo))
theorem Qtf (p0 : Meta) (p1 : Meta) {e e' : En} (h : ∀ r, Q6 G e r → Q6 G e' r) : ∀ q, Q9f p0 p1 e q → Q9f p0 p1 e' q
  | .k0, ⟨z, zo, hz⟩ => ⟨z, zo, h _ hz⟩
  | .k1, ⟨z, zo, hz⟩ => ⟨z, zo, h _ hz⟩
def Q9o (p0 : Meta) (p1 : Meta) : Prop := (List.length p0.managers ≤ 4611686018427387904) ∧ (∀ (i1 : Nat) (x1 : Manager), p0.managers[i1]? = some x1 → i1 < List.length p1.managers) ∧ (∀ (i1 : Nat) (x1 : Manager), p0.managers[i1]? = some x1 → Q1gq x1.fields (List.getD p1.managers i1 (Manager.mk eB [])).fields) ∧ True
def Qog (p0 : Meta) (_p1 : Meta) (i1 : Nat) : List PV :=
  [.un, .un, .bx 0 0, .bx 1 0, .un, .un, .int .i64 (i1 : Int)] ++ nuns 111 ++ [.int .i64 (i1 : Int), .bx 0 12, .sl (Manager.rows p0.managers), .int .i64 ((List.length p0.managers) : Int), .bool false]
def Qm8 (_p0 : Meta) (_p1 : Meta) (_i1 : Nat) : List (Nat × List PV) :=
  []
theorem Q154 (p0 : Meta) (p1 : Meta) (_H : Q9o p0 p1) (i1 : Nat) (hc1 : (decide ((i1 : Int) < ((List.length p0.managers) : Int))) = false) : Q9f p0 p1 (Q6w p0 p1 i1) (.k0) := by
 exact ⟨(envF (Qog p0 p1 i1)), (zoF (Qm8 p0 p1 i1)), Qh VOK.nil (x := ((.exit 2), Qd3 p0 p1 (envF (Qog p0 p1 i1)) (zoF (Qm8 p0 p1 i1)))) [hP 3 (Qf (Manager.rows p0.managers) (List.length p0.managers) (Manager.Q0 p0.managers)), hB 0 hc1] [] (by kernel_rfl)⟩
theorem Q13x (p0 : Meta) (p1 : Meta) (H : Q9o p0 p1) (x1 : Manager) (i1 : Nat) (hx1 : p0.managers[i1]? = some x1) (hi1 : i1 < List.length p0.managers) (hc1 : (decide ((i1 : Int) < ((List.length p0.managers) : Int))) = true) (h0 : (sEq x1.name (List.getD p1.managers i1 (Manager.mk eB [])).name) = true) (h1 : (Qa5 x1.fields (List.getD p1.managers i1 (Manager.mk eB [])).fields) = true) {r : Rs} (hr : Q6 G (Q6w p0 p1 (i1 + 1)) r) : Q6 G (Q6w p0 p1 i1) r := by
 have hB0 := H.1
 exact Qm VOK.nil (y := (Qv0 p0 p1 (i1 + 1), Qxv p0 p1 (i1 + 1))) [hP 3 (Qf (Manager.rows p0.managers) (List.length p0.managers) (Manager.Q0 p0.managers)), hB 0 hc1, hP 3 (Q1k 2 (Manager.rows p0.managers) i1 _ (Manager.Qb hx1) rfl), hP 5 (Q1k 2 (Manager.rows p1.managers) i1 _ (Manager.Qb (Q21 p1.managers i1 (Manager.mk eB []) ((H.2.1 i1 x1 hx1)))) rfl), hP 2 (dec (!(sEq x1.name (List.getD p1.managers i1 (Manager.mk eB [])).name)) false (by rw [h0]; rfl)), hP 4 (Q1k 2 (Manager.rows p0.managers) i1 _ (Manager.Qb hx1) rfl), hP 5 (Q1k 2 (Manager.rows p1.managers) i1 _ (Manager.Qb (Q21 p1.managers i1 (Manager.mk eB []) ((H.2.1 i1 x1 hx1)))) rfl), hP 6 (Q29 i1 (by omega))] [aB (Qy5 x1.fields (List.getD p1.managers i1 (Manager.mk eB [])).fields (H.2.2.1 i1 x1 hx1)) h1] (by kernel_rfl) hr
def Qor (p0 : Meta) (p1 : Meta) (i1 : Nat) (x1 : Manager) : List PV :=
  [.un, .un, .bx 0 0, .bx 1 0, .un, .un, .int .i64 (i1 : Int)] ++ nuns 111 ++ [.int .i64 (i1 : Int), .bx 0 12, .sl (Manager.rows p0.managers), .int .i64 ((List.length p0.managers) : Int), .bool true, .un, .un, .bx 0 12, .sl (Manager.rows p0.managers), .int .i64 (i1 : Int), .rf [.str x1.name, .sl (Qe x1.fields)], .rf [.str x1.name, .sl (Qe x1.fields)], .str x1.name, .bx 1 12, .sl (Manager.rows p1.managers), .int .i64 (i1 : Int), .rf [.str (List.getD p1.managers i1 (Manager.mk eB [])).name, .sl (Qe (List.getD p1.managers i1 (Manager.mk eB [])).fields)], .rf [.str (List.getD p1.managers i1 (Manager.mk eB [])).name, .sl (Qe (List.getD p1.managers i1 (Manager.mk eB [])).fields)], .str (List.getD p1.managers i1 (Manager.mk eB [])).name, .bool false, .bool false, .bx 0 12, .sl (Manager.rows p0.managers), .int .i64 (i1 : Int), .rf [.str x1.name, .sl (Qe x1.fields)], .rf [.sl (Qe x1.fields)], .sl (Qe x1.fields), .bx 1 12, .sl (Manager.rows p1.managers), .int .i64 (i1 : Int), .rf [.str (List.getD p1.managers i1 (Manager.mk eB [])).name, .sl (Qe (List.getD p1.managers i1 (Manager.mk eB [])).fields)], .rf [.sl (Qe (List.getD p1.managers i1 (Manager.mk eB [])).fields)], .sl (Qe (List.getD p1.managers i1 (Manager.mk eB [])).fields), .bool false, .bool true, .bool true]
def Qi6 (p0 : Meta) (p1 : Meta) (_i1 : Nat) (_x1 : Manager) : List (Nat × List PV) :=
  [(0, [.str p0.kind, .str p0.namespace_, .str p0.name, .int .i64 p0.uid, .int .i64 p0.version, .int .i64 p0.generation, .int .i64 p0.created, .bool p0.deleting, .int .i64 p0.deleteAt, .sl (Label.rows p0.labels), .sl (Owner.rows p0.owners), .sl (Qe p0.finalizers), .sl (Manager.rows p0.managers)]), (1, [.str p1.kind, .str p1.namespace_, .str p1.name, .int .i64 p1.uid, .int .i64 p1.version, .int .i64 p1.generation, .int .i64 p1.created, .bool p1.deleting, .int .i64 p1.deleteAt, .sl (Label.rows p1.labels), .sl (Owner.rows p1.owners), .sl (Qe p1.finalizers), .sl (Manager.rows p1.managers)])]
theorem Q13q (p0 : Meta) (p1 : Meta) (H : Q9o p0 p1) (x1 : Manager) (i1 : Nat) (hx1 : p0.managers[i1]? = some x1) (_hi1 : i1 < List.length p0.managers) (hc1 : (decide ((i1 : Int) < ((List.length p0.managers) : Int))) = true) (h0 : (sEq x1.name (List.getD p1.managers i1 (Manager.mk eB [])).name) = true) (h1 : (Qa5 x1.fields (List.getD p1.managers i1 (Manager.mk eB [])).fields) = false) : Q9f p0 p1 (Q6w p0 p1 i1) (.k1) := by
 exact ⟨(envF (Qor p0 p1 i1 x1)), (zoF (Qi6 p0 p1 i1 x1)), Qh VOK.nil (x := (.ret, Q9l p0 p1 (envF (Qor p0 p1 i1 x1)) (zoF (Qi6 p0 p1 i1 x1)))) [hP 3 (Qf (Manager.rows p0.managers) (List.length p0.managers) (Manager.Q0 p0.managers)), hB 0 hc1, hP 3 (Q1k 2 (Manager.rows p0.managers) i1 _ (Manager.Qb hx1) rfl), hP 5 (Q1k 2 (Manager.rows p1.managers) i1 _ (Manager.Qb (Q21 p1.managers i1 (Manager.mk eB []) ((H.2.1 i1 x1 hx1)))) rfl), hP 2 (dec (!(sEq x1.name (List.getD p1.managers i1 (Manager.mk eB [])).name)) false (by rw [h0]; rfl)), hP 4 (Q1k 2 (Manager.rows p0.managers) i1 _ (Manager.Qb hx1) rfl), hP 5 (Q1k 2 (Manager.rows p1.managers) i1 _ (Manager.Qb (Q21 p1.managers i1 (Manager.mk eB []) ((H.2.1 i1 x1 hx1)))) rfl)] [aB (Qy5 x1.fields (List.getD p1.managers i1 (Manager.mk eB [])).fields (H.2.2.1 i1 x1 hx1)) h1] (by kernel_rfl)⟩
def Qqz (p0 : Meta) (p1 : Meta) (i1 : Nat) (x1 : Manager) : List PV :=
  [.un, .un, .bx 0 0, .bx 1 0, .un, .un, .int .i64 (i1 : Int)] ++ nuns 111 ++ [.int .i64 (i1 : Int), .bx 0 12, .sl (Manager.rows p0.managers), .int .i64 ((List.length p0.managers) : Int), .bool true, .un, .un, .bx 0 12, .sl (Manager.rows p0.managers), .int .i64 (i1 : Int), .rf [.str x1.name, .sl (Qe x1.fields)], .rf [.str x1.name, .sl (Qe x1.fields)], .str x1.name, .bx 1 12, .sl (Manager.rows p1.managers), .int .i64 (i1 : Int), .rf [.str (List.getD p1.managers i1 (Manager.mk eB [])).name, .sl (Qe (List.getD p1.managers i1 (Manager.mk eB [])).fields)], .rf [.str (List.getD p1.managers i1 (Manager.mk eB [])).name, .sl (Qe (List.getD p1.managers i1 (Manager.mk eB [])).fields)], .str (List.getD p1.managers i1 (Manager.mk eB [])).name, .bool true, .bool true, .tup [], .tup [], .tup [], .tup [], .tup [], .tup [], .tup [], .tup [], .tup [], .tup [], .tup [], .tup [], .tup [], .tup [], .bool true]
def Qmq (p0 : Meta) (p1 : Meta) (_i1 : Nat) (_x1 : Manager) : List (Nat × List PV) :=
  [(0, [.str p0.kind, .str p0.namespace_, .str p0.name, .int .i64 p0.uid, .int .i64 p0.version, .int .i64 p0.generation, .int .i64 p0.created, .bool p0.deleting, .int .i64 p0.deleteAt, .sl (Label.rows p0.labels), .sl (Owner.rows p0.owners), .sl (Qe p0.finalizers), .sl (Manager.rows p0.managers)]), (1, [.str p1.kind, .str p1.namespace_, .str p1.name, .int .i64 p1.uid, .int .i64 p1.version, .int .i64 p1.generation, .int .i64 p1.created, .bool p1.deleting, .int .i64 p1.deleteAt, .sl (Label.rows p1.labels), .sl (Owner.rows p1.owners), .sl (Qe p1.finalizers), .sl (Manager.rows p1.managers)])]
theorem Q175 (p0 : Meta) (p1 : Meta) (H : Q9o p0 p1) (x1 : Manager) (i1 : Nat) (hx1 : p0.managers[i1]? = some x1) (_hi1 : i1 < List.length p0.managers) (hc1 : (decide ((i1 : Int) < ((List.length p0.managers) : Int))) = true) (h0 : (sEq x1.name (List.getD p1.managers i1 (Manager.mk eB [])).name) = false) : Q9f p0 p1 (Q6w p0 p1 i1) (.k1) := by
 exact ⟨(envF (Qqz p0 p1 i1 x1)), (zoF (Qmq p0 p1 i1 x1)), Qh VOK.nil (x := (.ret, Q9l p0 p1 (envF (Qqz p0 p1 i1 x1)) (zoF (Qmq p0 p1 i1 x1)))) [hP 3 (Qf (Manager.rows p0.managers) (List.length p0.managers) (Manager.Q0 p0.managers)), hB 0 hc1, hP 3 (Q1k 2 (Manager.rows p0.managers) i1 _ (Manager.Qb hx1) rfl), hP 5 (Q1k 2 (Manager.rows p1.managers) i1 _ (Manager.Qb (Q21 p1.managers i1 (Manager.mk eB []) ((H.2.1 i1 x1 hx1)))) rfl), hP 2 (dec (!(sEq x1.name (List.getD p1.managers i1 (Manager.mk eB [])).name)) true (by rw [h0]; rfl))] [] (by kernel_rfl)⟩
theorem Qxg (p0 : Meta) (p1 : Meta) (H : Q9o p0 p1) : ∀ (r1 : List Manager) (i1 : Nat), List.drop i1 p0.managers = r1 → Q9f p0 p1 (Q6w p0 p1 i1) (Q62 p0 p1 r1 i1)
 | [], i1, hd => by
  have hc1 : (decide ((i1 : Int) < ((List.length p0.managers) : Int))) = false := by have := Q1g hd; simp; omega
  rw [Q62]
  exact Q154 p0 p1 H i1 hc1
 | x1 :: r1, i1, hd => by
  obtain ⟨hx1, hi1, hd'⟩ := Q12 hd
  have hc1 : (decide ((i1 : Int) < ((List.length p0.managers) : Int))) = true := by simp; omega
  rw [Q62]
  cases h0 : (sEq x1.name (List.getD p1.managers i1 (Manager.mk eB [])).name) with
  | true =>
   cases h1 : (Qa5 x1.fields (List.getD p1.managers i1 (Manager.mk eB [])).fields) with
   | true =>
    exact Qtf p0 p1 (fun r hr => Q13x p0 p1 H x1 i1 hx1 hi1 hc1 h0 h1 hr) _ (Qxg p0 p1 H r1 (i1 + 1) hd')
   | false =>
    exact Q13q p0 p1 H x1 i1 hx1 hi1 hc1 h0 h1
  | false =>
   exact Q175 p0 p1 H x1 i1 hx1 hi1 hc1 h0
def Q179 (p0 : Meta) (p1 : Meta) : Bool :=
 bif (sEq p0.kind p1.kind) then
  bif (sEq p0.namespace_ p1.namespace_) then
   bif (sEq p0.name p1.name) then
    bif (p0.uid == p1.uid) then
     bif (p0.version == p1.version) then
      bif (p0.generation == p1.generation) then
       bif (p0.created == p1.created) then
        bif (p0.deleting == p1.deleting) then
         bif (p0.deleteAt == p1.deleteAt) then
          bif (Qcw p0.labels p1.labels) then
           bif (Qa5 p0.finalizers p1.finalizers) then
            bif (((List.length p0.owners) : Int) == ((List.length p1.owners) : Int)) then
             bif (((List.length p0.managers) : Int) == ((List.length p1.managers) : Int)) then
              (match (Q66 p0 p1 p0.owners 0) with
              | .k0 => (match (Q62 p0 p1 p0.managers 0) with
               | .k0 => true
               | .k1 => false)
              | .k1 => false)
             else
              false
            else
             false
           else
            false
          else
           false
         else
          false
        else
         false
       else
        false
      else
       false
     else
      false
    else
     false
   else
    false
  else
   false
 else
  false
def Q94 (p0 : Meta) (p1 : Meta) : En := .call 58 [.agg (Meta.cells p0), .agg (Meta.cells p1)] []
def Q1jm (p0 : Meta) (p1 : Meta) : Rs := .ret (.bool (Q179 p0 p1)) []
def Q7e (p0 : Meta) (p1 : Meta) : Prop := (Q1jq p0.labels p1.labels) ∧ (Q1gq p0.finalizers p1.finalizers) ∧ ((((List.length p0.owners) : Int) == ((List.length p1.owners) : Int)) = true → (((List.length p0.managers) : Int) == ((List.length p1.managers) : Int)) = true → Qb9 p0 p1) ∧ ((((List.length p0.owners) : Int) == ((List.length p1.owners) : Int)) = true → (((List.length p0.managers) : Int) == ((List.length p1.managers) : Int)) = true → Q9o p0 p1) ∧ True
theorem Q1hk (p0 : Meta) (p1 : Meta) (H : Q7e p0 p1) (h0 : (sEq p0.kind p1.kind) = true) (h1 : (sEq p0.namespace_ p1.namespace_) = true) (h2 : (sEq p0.name p1.name) = true) (h3 : (p0.uid == p1.uid) = true) (h4 : (p0.version == p1.version) = true) (h5 : (p0.generation == p1.generation) = true) (h6 : (p0.created == p1.created) = true) (h7 : (p0.deleting == p1.deleting) = true) (h8 : (p0.deleteAt == p1.deleteAt) = true) (h9 : (Qcw p0.labels p1.labels) = true) (h10 : (Qa5 p0.finalizers p1.finalizers) = true) (h11 : (((List.length p0.owners) : Int) == ((List.length p1.owners) : Int)) = true) (h12 : (((List.length p0.managers) : Int) == ((List.length p1.managers) : Int)) = true) (z13 : Nat → PV) (zo13 : Nat → List PV) (hl13 : Q6 G (Q6u p0 p1 0) (.st (.exit 0) (Q9n p0 p1 z13 zo13))) (z14 : Nat → PV) (zo14 : Nat → List PV) (hl14 : Q6 G (Q6w p0 p1 0) (.st (.exit 2) (Qd3 p0 p1 z14 zo14))) : Q6 G (Q94 p0 p1) (.ret (.bool (true)) []) := by
 exact Q8 (fn := Ir.K2j) rfl VOK.nil [hP 7 (dec (!(sEq p0.kind p1.kind)) false (by rw [h0]; rfl)), hP 5 (dec (!(sEq p0.namespace_ p1.namespace_)) false (by rw [h1]; rfl)), hP 6 (dec (!(sEq p0.name p1.name)) false (by rw [h2]; rfl)), hP 6 (dec (!(p0.uid == p1.uid)) false (by rw [h3]; rfl)), hP 6 (dec (!(p0.version == p1.version)) false (by rw [h4]; rfl)), hP 6 (dec (!(p0.generation == p1.generation)) false (by rw [h5]; rfl)), hP 6 (dec (!(p0.created == p1.created)) false (by rw [h6]; rfl)), hP 6 (dec (!(p0.deleting == p1.deleting)) false (by rw [h7]; rfl)), hP 6 (dec (!(p0.deleteAt == p1.deleteAt)) false (by rw [h8]; rfl)), hP 18 (Qf (Owner.rows p0.owners) (List.length p0.owners) (Owner.Q0 p0.owners)), hP 2 (Qf (Owner.rows p1.owners) (List.length p1.owners) (Owner.Q0 p1.owners)), hP 0 (dec (!(((List.length p0.owners) : Int) == ((List.length p1.owners) : Int))) false (by rw [h11]; rfl)), hP 4 (Qf (Manager.rows p0.managers) (List.length p0.managers) (Manager.Q0 p0.managers)), hP 2 (Qf (Manager.rows p1.managers) (List.length p1.managers) (Manager.Q0 p1.managers)), hP 0 (dec (!(((List.length p0.managers) : Int) == ((List.length p1.managers) : Int))) false (by rw [h12]; rfl))] [aB (Qzh p0.labels p1.labels H.1) h9, aB (Qy5 p0.finalizers p1.finalizers H.2.1) h10, aN hl13, aN hl14] (by kernel_rfl)
theorem Q1hq (p0 : Meta) (p1 : Meta) (H : Q7e p0 p1) (h0 : (sEq p0.kind p1.kind) = true) (h1 : (sEq p0.namespace_ p1.namespace_) = true) (h2 : (sEq p0.name p1.name) = true) (h3 : (p0.uid == p1.uid) = true) (h4 : (p0.version == p1.version) = true) (h5 : (p0.generation == p1.generation) = true) (h6 : (p0.created == p1.created) = true) (h7 : (p0.deleting == p1.deleting) = true) (h8 : (p0.deleteAt == p1.deleteAt) = true) (h9 : (Qcw p0.labels p1.labels) = true) (h10 : (Qa5 p0.finalizers p1.finalizers) = true) (h11 : (((List.length p0.owners) : Int) == ((List.length p1.owners) : Int)) = true) (h12 : (((List.length p0.managers) : Int) == ((List.length p1.managers) : Int)) = true) (z13 : Nat → PV) (zo13 : Nat → List PV) (hl13 : Q6 G (Q6u p0 p1 0) (.st (.exit 0) (Q9n p0 p1 z13 zo13))) (z14 : Nat → PV) (zo14 : Nat → List PV) (hl14 : Q6 G (Q6w p0 p1 0) (.st .ret (Q9l p0 p1 z14 zo14))) : Q6 G (Q94 p0 p1) (.ret (.bool (false)) []) := by
 exact Q8 (fn := Ir.K2j) rfl VOK.nil [hP 7 (dec (!(sEq p0.kind p1.kind)) false (by rw [h0]; rfl)), hP 5 (dec (!(sEq p0.namespace_ p1.namespace_)) false (by rw [h1]; rfl)), hP 6 (dec (!(sEq p0.name p1.name)) false (by rw [h2]; rfl)), hP 6 (dec (!(p0.uid == p1.uid)) false (by rw [h3]; rfl)), hP 6 (dec (!(p0.version == p1.version)) false (by rw [h4]; rfl)), hP 6 (dec (!(p0.generation == p1.generation)) false (by rw [h5]; rfl)), hP 6 (dec (!(p0.created == p1.created)) false (by rw [h6]; rfl)), hP 6 (dec (!(p0.deleting == p1.deleting)) false (by rw [h7]; rfl)), hP 6 (dec (!(p0.deleteAt == p1.deleteAt)) false (by rw [h8]; rfl)), hP 18 (Qf (Owner.rows p0.owners) (List.length p0.owners) (Owner.Q0 p0.owners)), hP 2 (Qf (Owner.rows p1.owners) (List.length p1.owners) (Owner.Q0 p1.owners)), hP 0 (dec (!(((List.length p0.owners) : Int) == ((List.length p1.owners) : Int))) false (by rw [h11]; rfl)), hP 4 (Qf (Manager.rows p0.managers) (List.length p0.managers) (Manager.Q0 p0.managers)), hP 2 (Qf (Manager.rows p1.managers) (List.length p1.managers) (Manager.Q0 p1.managers)), hP 0 (dec (!(((List.length p0.managers) : Int) == ((List.length p1.managers) : Int))) false (by rw [h12]; rfl))] [aB (Qzh p0.labels p1.labels H.1) h9, aB (Qy5 p0.finalizers p1.finalizers H.2.1) h10, aN hl13, aN hl14] (by kernel_rfl)
theorem Q1fy (p0 : Meta) (p1 : Meta) (H : Q7e p0 p1) (h0 : (sEq p0.kind p1.kind) = true) (h1 : (sEq p0.namespace_ p1.namespace_) = true) (h2 : (sEq p0.name p1.name) = true) (h3 : (p0.uid == p1.uid) = true) (h4 : (p0.version == p1.version) = true) (h5 : (p0.generation == p1.generation) = true) (h6 : (p0.created == p1.created) = true) (h7 : (p0.deleting == p1.deleting) = true) (h8 : (p0.deleteAt == p1.deleteAt) = true) (h9 : (Qcw p0.labels p1.labels) = true) (h10 : (Qa5 p0.finalizers p1.finalizers) = true) (h11 : (((List.length p0.owners) : Int) == ((List.length p1.owners) : Int)) = true) (h12 : (((List.length p0.managers) : Int) == ((List.length p1.managers) : Int)) = true) (z13 : Nat → PV) (zo13 : Nat → List PV) (hl13 : Q6 G (Q6u p0 p1 0) (.st .ret (Qdc p0 p1 z13 zo13))) : Q6 G (Q94 p0 p1) (.ret (.bool (false)) []) := by
 exact Q8 (fn := Ir.K2j) rfl VOK.nil [hP 7 (dec (!(sEq p0.kind p1.kind)) false (by rw [h0]; rfl)), hP 5 (dec (!(sEq p0.namespace_ p1.namespace_)) false (by rw [h1]; rfl)), hP 6 (dec (!(sEq p0.name p1.name)) false (by rw [h2]; rfl)), hP 6 (dec (!(p0.uid == p1.uid)) false (by rw [h3]; rfl)), hP 6 (dec (!(p0.version == p1.version)) false (by rw [h4]; rfl)), hP 6 (dec (!(p0.generation == p1.generation)) false (by rw [h5]; rfl)), hP 6 (dec (!(p0.created == p1.created)) false (by rw [h6]; rfl)), hP 6 (dec (!(p0.deleting == p1.deleting)) false (by rw [h7]; rfl)), hP 6 (dec (!(p0.deleteAt == p1.deleteAt)) false (by rw [h8]; rfl)), hP 18 (Qf (Owner.rows p0.owners) (List.length p0.owners) (Owner.Q0 p0.owners)), hP 2 (Qf (Owner.rows p1.owners) (List.length p1.owners) (Owner.Q0 p1.owners)), hP 0 (dec (!(((List.length p0.owners) : Int) == ((List.length p1.owners) : Int))) false (by rw [h11]; rfl)), hP 4 (Qf (Manager.rows p0.managers) (List.length p0.managers) (Manager.Q0 p0.managers)), hP 2 (Qf (Manager.rows p1.managers) (List.length p1.managers) (Manager.Q0 p1.managers)), hP 0 (dec (!(((List.length p0.managers) : Int) == ((List.length p1.managers) : Int))) false (by rw [h12]; rfl))] [aB (Qzh p0.labels p1.labels H.1) h9, aB (Qy5 p0.finalizers p1.finalizers H.2.1) h10, aN hl13] (by kernel_rfl)
theorem Q1g1 (p0 : Meta) (p1 : Meta) (H : Q7e p0 p1) (h0 : (sEq p0.kind p1.kind) = true) (h1 : (sEq p0.namespace_ p1.namespace_) = true) (h2 : (sEq p0.name p1.name) = true) (h3 : (p0.uid == p1.uid) = true) (h4 : (p0.version == p1.version) = true) (h5 : (p0.generation == p1.generation) = true) (h6 : (p0.created == p1.created) = true) (h7 : (p0.deleting == p1.deleting) = true) (h8 : (p0.deleteAt == p1.deleteAt) = true) (h9 : (Qcw p0.labels p1.labels) = true) (h10 : (Qa5 p0.finalizers p1.finalizers) = true) (h11 : (((List.length p0.owners) : Int) == ((List.length p1.owners) : Int)) = true) (h12 : (((List.length p0.managers) : Int) == ((List.length p1.managers) : Int)) = false) : Q6 G (Q94 p0 p1) (.ret (.bool (false)) []) := by
 exact Q8 (fn := Ir.K2j) rfl VOK.nil [hP 7 (dec (!(sEq p0.kind p1.kind)) false (by rw [h0]; rfl)), hP 5 (dec (!(sEq p0.namespace_ p1.namespace_)) false (by rw [h1]; rfl)), hP 6 (dec (!(sEq p0.name p1.name)) false (by rw [h2]; rfl)), hP 6 (dec (!(p0.uid == p1.uid)) false (by rw [h3]; rfl)), hP 6 (dec (!(p0.version == p1.version)) false (by rw [h4]; rfl)), hP 6 (dec (!(p0.generation == p1.generation)) false (by rw [h5]; rfl)), hP 6 (dec (!(p0.created == p1.created)) false (by rw [h6]; rfl)), hP 6 (dec (!(p0.deleting == p1.deleting)) false (by rw [h7]; rfl)), hP 6 (dec (!(p0.deleteAt == p1.deleteAt)) false (by rw [h8]; rfl)), hP 18 (Qf (Owner.rows p0.owners) (List.length p0.owners) (Owner.Q0 p0.owners)), hP 2 (Qf (Owner.rows p1.owners) (List.length p1.owners) (Owner.Q0 p1.owners)), hP 0 (dec (!(((List.length p0.owners) : Int) == ((List.length p1.owners) : Int))) false (by rw [h11]; rfl)), hP 4 (Qf (Manager.rows p0.managers) (List.length p0.managers) (Manager.Q0 p0.managers)), hP 2 (Qf (Manager.rows p1.managers) (List.length p1.managers) (Manager.Q0 p1.managers)), hP 0 (dec (!(((List.length p0.managers) : Int) == ((List.length p1.managers) : Int))) true (by rw [h12]; rfl))] [aB (Qzh p0.labels p1.labels H.1) h9, aB (Qy5 p0.finalizers p1.finalizers H.2.1) h10] (by kernel_rfl)
theorem Q1gn (p0 : Meta) (p1 : Meta) (H : Q7e p0 p1) (h0 : (sEq p0.kind p1.kind) = true) (h1 : (sEq p0.namespace_ p1.namespace_) = true) (h2 : (sEq p0.name p1.name) = true) (h3 : (p0.uid == p1.uid) = true) (h4 : (p0.version == p1.version) = true) (h5 : (p0.generation == p1.generation) = true) (h6 : (p0.created == p1.created) = true) (h7 : (p0.deleting == p1.deleting) = true) (h8 : (p0.deleteAt == p1.deleteAt) = true) (h9 : (Qcw p0.labels p1.labels) = true) (h10 : (Qa5 p0.finalizers p1.finalizers) = true) (h11 : (((List.length p0.owners) : Int) == ((List.length p1.owners) : Int)) = false) : Q6 G (Q94 p0 p1) (.ret (.bool (false)) []) := by
 exact Q8 (fn := Ir.K2j) rfl VOK.nil [hP 7 (dec (!(sEq p0.kind p1.kind)) false (by rw [h0]; rfl)), hP 5 (dec (!(sEq p0.namespace_ p1.namespace_)) false (by rw [h1]; rfl)), hP 6 (dec (!(sEq p0.name p1.name)) false (by rw [h2]; rfl)), hP 6 (dec (!(p0.uid == p1.uid)) false (by rw [h3]; rfl)), hP 6 (dec (!(p0.version == p1.version)) false (by rw [h4]; rfl)), hP 6 (dec (!(p0.generation == p1.generation)) false (by rw [h5]; rfl)), hP 6 (dec (!(p0.created == p1.created)) false (by rw [h6]; rfl)), hP 6 (dec (!(p0.deleting == p1.deleting)) false (by rw [h7]; rfl)), hP 6 (dec (!(p0.deleteAt == p1.deleteAt)) false (by rw [h8]; rfl)), hP 18 (Qf (Owner.rows p0.owners) (List.length p0.owners) (Owner.Q0 p0.owners)), hP 2 (Qf (Owner.rows p1.owners) (List.length p1.owners) (Owner.Q0 p1.owners)), hP 0 (dec (!(((List.length p0.owners) : Int) == ((List.length p1.owners) : Int))) true (by rw [h11]; rfl))] [aB (Qzh p0.labels p1.labels H.1) h9, aB (Qy5 p0.finalizers p1.finalizers H.2.1) h10] (by kernel_rfl)
theorem Q1fo (p0 : Meta) (p1 : Meta) (H : Q7e p0 p1) (h0 : (sEq p0.kind p1.kind) = true) (h1 : (sEq p0.namespace_ p1.namespace_) = true) (h2 : (sEq p0.name p1.name) = true) (h3 : (p0.uid == p1.uid) = true) (h4 : (p0.version == p1.version) = true) (h5 : (p0.generation == p1.generation) = true) (h6 : (p0.created == p1.created) = true) (h7 : (p0.deleting == p1.deleting) = true) (h8 : (p0.deleteAt == p1.deleteAt) = true) (h9 : (Qcw p0.labels p1.labels) = true) (h10 : (Qa5 p0.finalizers p1.finalizers) = false) : Q6 G (Q94 p0 p1) (.ret (.bool (false)) []) := by
 exact Q8 (fn := Ir.K2j) rfl VOK.nil [hP 7 (dec (!(sEq p0.kind p1.kind)) false (by rw [h0]; rfl)), hP 5 (dec (!(sEq p0.namespace_ p1.namespace_)) false (by rw [h1]; rfl)), hP 6 (dec (!(sEq p0.name p1.name)) false (by rw [h2]; rfl)), hP 6 (dec (!(p0.uid == p1.uid)) false (by rw [h3]; rfl)), hP 6 (dec (!(p0.version == p1.version)) false (by rw [h4]; rfl)), hP 6 (dec (!(p0.generation == p1.generation)) false (by rw [h5]; rfl)), hP 6 (dec (!(p0.created == p1.created)) false (by rw [h6]; rfl)), hP 6 (dec (!(p0.deleting == p1.deleting)) false (by rw [h7]; rfl)), hP 6 (dec (!(p0.deleteAt == p1.deleteAt)) false (by rw [h8]; rfl))] [aB (Qzh p0.labels p1.labels H.1) h9, aB (Qy5 p0.finalizers p1.finalizers H.2.1) h10] (by kernel_rfl)
theorem Q1g7 (p0 : Meta) (p1 : Meta) (H : Q7e p0 p1) (h0 : (sEq p0.kind p1.kind) = true) (h1 : (sEq p0.namespace_ p1.namespace_) = true) (h2 : (sEq p0.name p1.name) = true) (h3 : (p0.uid == p1.uid) = true) (h4 : (p0.version == p1.version) = true) (h5 : (p0.generation == p1.generation) = true) (h6 : (p0.created == p1.created) = true) (h7 : (p0.deleting == p1.deleting) = true) (h8 : (p0.deleteAt == p1.deleteAt) = true) (h9 : (Qcw p0.labels p1.labels) = false) : Q6 G (Q94 p0 p1) (.ret (.bool (false)) []) := by
 exact Q8 (fn := Ir.K2j) rfl VOK.nil [hP 7 (dec (!(sEq p0.kind p1.kind)) false (by rw [h0]; rfl)), hP 5 (dec (!(sEq p0.namespace_ p1.namespace_)) false (by rw [h1]; rfl)), hP 6 (dec (!(sEq p0.name p1.name)) false (by rw [h2]; rfl)), hP 6 (dec (!(p0.uid == p1.uid)) false (by rw [h3]; rfl)), hP 6 (dec (!(p0.version == p1.version)) false (by rw [h4]; rfl)), hP 6 (dec (!(p0.generation == p1.generation)) false (by rw [h5]; rfl)), hP 6 (dec (!(p0.created == p1.created)) false (by rw [h6]; rfl)), hP 6 (dec (!(p0.deleting == p1.deleting)) false (by rw [h7]; rfl)), hP 6 (dec (!(p0.deleteAt == p1.deleteAt)) false (by rw [h8]; rfl))] [aB (Qzh p0.labels p1.labels H.1) h9] (by kernel_rfl)
theorem Q1gt (p0 : Meta) (p1 : Meta) (_H : Q7e p0 p1) (h0 : (sEq p0.kind p1.kind) = true) (h1 : (sEq p0.namespace_ p1.namespace_) = true) (h2 : (sEq p0.name p1.name) = true) (h3 : (p0.uid == p1.uid) = true) (h4 : (p0.version == p1.version) = true) (h5 : (p0.generation == p1.generation) = true) (h6 : (p0.created == p1.created) = true) (h7 : (p0.deleting == p1.deleting) = true) (h8 : (p0.deleteAt == p1.deleteAt) = false) : Q6 G (Q94 p0 p1) (.ret (.bool (false)) []) := by
 exact Q8 (fn := Ir.K2j) rfl VOK.nil [hP 7 (dec (!(sEq p0.kind p1.kind)) false (by rw [h0]; rfl)), hP 5 (dec (!(sEq p0.namespace_ p1.namespace_)) false (by rw [h1]; rfl)), hP 6 (dec (!(sEq p0.name p1.name)) false (by rw [h2]; rfl)), hP 6 (dec (!(p0.uid == p1.uid)) false (by rw [h3]; rfl)), hP 6 (dec (!(p0.version == p1.version)) false (by rw [h4]; rfl)), hP 6 (dec (!(p0.generation == p1.generation)) false (by rw [h5]; rfl)), hP 6 (dec (!(p0.created == p1.created)) false (by rw [h6]; rfl)), hP 6 (dec (!(p0.deleting == p1.deleting)) false (by rw [h7]; rfl)), hP 6 (dec (!(p0.deleteAt == p1.deleteAt)) true (by rw [h8]; rfl))] [] (by kernel_rfl)
theorem Q1hn (p0 : Meta) (p1 : Meta) (_H : Q7e p0 p1) (h0 : (sEq p0.kind p1.kind) = true) (h1 : (sEq p0.namespace_ p1.namespace_) = true) (h2 : (sEq p0.name p1.name) = true) (h3 : (p0.uid == p1.uid) = true) (h4 : (p0.version == p1.version) = true) (h5 : (p0.generation == p1.generation) = true) (h6 : (p0.created == p1.created) = true) (h7 : (p0.deleting == p1.deleting) = false) : Q6 G (Q94 p0 p1) (.ret (.bool (false)) []) := by
 exact Q8 (fn := Ir.K2j) rfl VOK.nil [hP 7 (dec (!(sEq p0.kind p1.kind)) false (by rw [h0]; rfl)), hP 5 (dec (!(sEq p0.namespace_ p1.namespace_)) false (by rw [h1]; rfl)), hP 6 (dec (!(sEq p0.name p1.name)) false (by rw [h2]; rfl)), hP 6 (dec (!(p0.uid == p1.uid)) false (by rw [h3]; rfl)), hP 6 (dec (!(p0.version == p1.version)) false (by rw [h4]; rfl)), hP 6 (dec (!(p0.generation == p1.generation)) false (by rw [h5]; rfl)), hP 6 (dec (!(p0.created == p1.created)) false (by rw [h6]; rfl)), hP 6 (dec (!(p0.deleting == p1.deleting)) true (by rw [h7]; rfl))] [] (by kernel_rfl)
theorem Q1gw (p0 : Meta) (p1 : Meta) (_H : Q7e p0 p1) (h0 : (sEq p0.kind p1.kind) = true) (h1 : (sEq p0.namespace_ p1.namespace_) = true) (h2 : (sEq p0.name p1.name) = true) (h3 : (p0.uid == p1.uid) = true) (h4 : (p0.version == p1.version) = true) (h5 : (p0.generation == p1.generation) = true) (h6 : (p0.created == p1.created) = false) : Q6 G (Q94 p0 p1) (.ret (.bool (false)) []) := by
 exact Q8 (fn := Ir.K2j) rfl VOK.nil [hP 7 (dec (!(sEq p0.kind p1.kind)) false (by rw [h0]; rfl)), hP 5 (dec (!(sEq p0.namespace_ p1.namespace_)) false (by rw [h1]; rfl)), hP 6 (dec (!(sEq p0.name p1.name)) false (by rw [h2]; rfl)), hP 6 (dec (!(p0.uid == p1.uid)) false (by rw [h3]; rfl)), hP 6 (dec (!(p0.version == p1.version)) false (by rw [h4]; rfl)), hP 6 (dec (!(p0.generation == p1.generation)) false (by rw [h5]; rfl)), hP 6 (dec (!(p0.created == p1.created)) true (by rw [h6]; rfl))] [] (by kernel_rfl)
theorem Q1bo (p0 : Meta) (p1 : Meta) (_H : Q7e p0 p1) (h0 : (sEq p0.kind p1.kind) = true) (h1 : (sEq p0.namespace_ p1.namespace_) = true) (h2 : (sEq p0.name p1.name) = true) (h3 : (p0.uid == p1.uid) = true) (h4 : (p0.version == p1.version) = true) (h5 : (p0.generation == p1.generation) = false) : Q6 G (Q94 p0 p1) (.ret (.bool (false)) []) := by
 exact Q8 (fn := Ir.K2j) rfl VOK.nil [hP 7 (dec (!(sEq p0.kind p1.kind)) false (by rw [h0]; rfl)), hP 5 (dec (!(sEq p0.namespace_ p1.namespace_)) false (by rw [h1]; rfl)), hP 6 (dec (!(sEq p0.name p1.name)) false (by rw [h2]; rfl)), hP 6 (dec (!(p0.uid == p1.uid)) false (by rw [h3]; rfl)), hP 6 (dec (!(p0.version == p1.version)) false (by rw [h4]; rfl)), hP 6 (dec (!(p0.generation == p1.generation)) true (by rw [h5]; rfl))] [] (by kernel_rfl)
theorem Q1cr (p0 : Meta) (p1 : Meta) (_H : Q7e p0 p1) (h0 : (sEq p0.kind p1.kind) = true) (h1 : (sEq p0.namespace_ p1.namespace_) = true) (h2 : (sEq p0.name p1.name) = true) (h3 : (p0.uid == p1.uid) = true) (h4 : (p0.version == p1.version) = false) : Q6 G (Q94 p0 p1) (.ret (.bool (false)) []) := by
 exact Q8 (fn := Ir.K2j) rfl VOK.nil [hP 7 (dec (!(sEq p0.kind p1.kind)) false (by rw [h0]; rfl)), hP 5 (dec (!(sEq p0.namespace_ p1.namespace_)) false (by rw [h1]; rfl)), hP 6 (dec (!(sEq p0.name p1.name)) false (by rw [h2]; rfl)), hP 6 (dec (!(p0.uid == p1.uid)) false (by rw [h3]; rfl)), hP 6 (dec (!(p0.version == p1.version)) true (by rw [h4]; rfl))] [] (by kernel_rfl)
theorem Q1dx (p0 : Meta) (p1 : Meta) (_H : Q7e p0 p1) (h0 : (sEq p0.kind p1.kind) = true) (h1 : (sEq p0.namespace_ p1.namespace_) = true) (h2 : (sEq p0.name p1.name) = true) (h3 : (p0.uid == p1.uid) = false) : Q6 G (Q94 p0 p1) (.ret (.bool (false)) []) := by
 exact Q8 (fn := Ir.K2j) rfl VOK.nil [hP 7 (dec (!(sEq p0.kind p1.kind)) false (by rw [h0]; rfl)), hP 5 (dec (!(sEq p0.namespace_ p1.namespace_)) false (by rw [h1]; rfl)), hP 6 (dec (!(sEq p0.name p1.name)) false (by rw [h2]; rfl)), hP 6 (dec (!(p0.uid == p1.uid)) true (by rw [h3]; rfl))] [] (by kernel_rfl)
theorem Q1dt (p0 : Meta) (p1 : Meta) (_H : Q7e p0 p1) (h0 : (sEq p0.kind p1.kind) = true) (h1 : (sEq p0.namespace_ p1.namespace_) = true) (h2 : (sEq p0.name p1.name) = false) : Q6 G (Q94 p0 p1) (.ret (.bool (false)) []) := by
 exact Q8 (fn := Ir.K2j) rfl VOK.nil [hP 7 (dec (!(sEq p0.kind p1.kind)) false (by rw [h0]; rfl)), hP 5 (dec (!(sEq p0.namespace_ p1.namespace_)) false (by rw [h1]; rfl)), hP 6 (dec (!(sEq p0.name p1.name)) true (by rw [h2]; rfl))] [] (by kernel_rfl)
theorem Q1ch (p0 : Meta) (p1 : Meta) (_H : Q7e p0 p1) (h0 : (sEq p0.kind p1.kind) = true) (h1 : (sEq p0.namespace_ p1.namespace_) = false) : Q6 G (Q94 p0 p1) (.ret (.bool (false)) []) := by
 exact Q8 (fn := Ir.K2j) rfl VOK.nil [hP 7 (dec (!(sEq p0.kind p1.kind)) false (by rw [h0]; rfl)), hP 5 (dec (!(sEq p0.namespace_ p1.namespace_)) true (by rw [h1]; rfl))] [] (by kernel_rfl)
theorem Q1dq (p0 : Meta) (p1 : Meta) (_H : Q7e p0 p1) (h0 : (sEq p0.kind p1.kind) = false) : Q6 G (Q94 p0 p1) (.ret (.bool (false)) []) := by
 exact Q8 (fn := Ir.K2j) rfl VOK.nil [hP 7 (dec (!(sEq p0.kind p1.kind)) true (by rw [h0]; rfl))] [] (by kernel_rfl)
theorem Q1fz (p0 : Meta) (p1 : Meta) (H : Q7e p0 p1) : Q6 G (Q94 p0 p1) (Q1jm p0 p1) := by
 unfold Q1jm Q179
 cases h0 : (sEq p0.kind p1.kind) with
 | true =>
  cases h1 : (sEq p0.namespace_ p1.namespace_) with
  | true =>
   cases h2 : (sEq p0.name p1.name) with
   | true =>
    cases h3 : (p0.uid == p1.uid) with
    | true =>
     cases h4 : (p0.version == p1.version) with
     | true =>
      cases h5 : (p0.generation == p1.generation) with
      | true =>
       cases h6 : (p0.created == p1.created) with
       | true =>
        cases h7 : (p0.deleting == p1.deleting) with
        | true =>
         cases h8 : (p0.deleteAt == p1.deleteAt) with
         | true =>
          cases h9 : (Qcw p0.labels p1.labels) with
          | true =>
           cases h10 : (Qa5 p0.finalizers p1.finalizers) with
           | true =>
            cases h11 : (((List.length p0.owners) : Int) == ((List.length p1.owners) : Int)) with
            | true =>
             cases h12 : (((List.length p0.managers) : Int) == ((List.length p1.managers) : Int)) with
             | true =>
              have hl13 := Qxi p0 p1 (H.2.2.1 h11 h12) p0.owners 0 (by simp)
              cases hr13 : (Q66 p0 p1 p0.owners 0) with
              | k0 =>
               rw [hr13] at hl13
               obtain ⟨z13, zo13, hl13⟩ := hl13
               try dsimp only
               have hl14 := Qxg p0 p1 (H.2.2.2.1 h11 h12) p0.managers 0 (by simp)
               cases hr14 : (Q62 p0 p1 p0.managers 0) with
               | k0 =>
                rw [hr14] at hl14
                obtain ⟨z14, zo14, hl14⟩ := hl14
                exact Q1hk p0 p1 H h0 h1 h2 h3 h4 h5 h6 h7 h8 h9 h10 h11 h12 z13 zo13 hl13 z14 zo14 hl14
               | k1 =>
                rw [hr14] at hl14
                obtain ⟨z14, zo14, hl14⟩ := hl14
                exact Q1hq p0 p1 H h0 h1 h2 h3 h4 h5 h6 h7 h8 h9 h10 h11 h12 z13 zo13 hl13 z14 zo14 hl14
              | k1 =>
               rw [hr13] at hl13
               obtain ⟨z13, zo13, hl13⟩ := hl13
               exact Q1fy p0 p1 H h0 h1 h2 h3 h4 h5 h6 h7 h8 h9 h10 h11 h12 z13 zo13 hl13
             | false =>
              exact Q1g1 p0 p1 H h0 h1 h2 h3 h4 h5 h6 h7 h8 h9 h10 h11 h12
            | false =>
             exact Q1gn p0 p1 H h0 h1 h2 h3 h4 h5 h6 h7 h8 h9 h10 h11
           | false =>
            exact Q1fo p0 p1 H h0 h1 h2 h3 h4 h5 h6 h7 h8 h9 h10
          | false =>
           exact Q1g7 p0 p1 H h0 h1 h2 h3 h4 h5 h6 h7 h8 h9
         | false =>
          exact Q1gt p0 p1 H h0 h1 h2 h3 h4 h5 h6 h7 h8
        | false =>
         exact Q1hn p0 p1 H h0 h1 h2 h3 h4 h5 h6 h7
       | false =>
        exact Q1gw p0 p1 H h0 h1 h2 h3 h4 h5 h6
      | false =>
       exact Q1bo p0 p1 H h0 h1 h2 h3 h4 h5
     | false =>
      exact Q1cr p0 p1 H h0 h1 h2 h3 h4
    | false =>
     exact Q1dx p0 p1 H h0 h1 h2 h3
   | false =>
    exact Q1dt p0 p1 H h0 h1 h2
  | false =>
   exact Q1ch p0 p1 H h0 h1
 | false =>
  exact Q1dq p0 p1 H h0
def Q1bb (p0 : Object) (p1 : Object) : Bool :=
 bif (Q179 p0.meta_ p1.meta_) then
  bif (Q5f p0.spec p1.spec) then
   (Q5f p0.status p1.status)
  else
   false
 else
  false
def Q1ll (p0 : Object) (p1 : Object) : En := .call 24 [.agg (Object.cells p0), .agg (Object.cells p1)] []
def Q1is (p0 : Object) (p1 : Object) : Rs := .ret (.bool (Q1bb p0 p1)) []
def Q1bn (p0 : Object) (p1 : Object) : Prop := (Q7e p0.meta_ p1.meta_) ∧ (Q7c p0.spec) ∧ (Q7c p0.status) ∧ True
theorem Q1mn (p0 : Object) (p1 : Object) (H : Q1bn p0 p1) : Q6 G (Q1ll p0 p1) (Q1is p0 p1) := by
 unfold Q1is Q1bb
 cases h0 : (Q179 p0.meta_ p1.meta_) with
 | true =>
  cases h1 : (Q5f p0.spec p1.spec) with
  | true =>
   exact Q8 (fn := Ir.K2l) rfl VOK.nil [] [aB (Q1fz p0.meta_ p1.meta_ H.1) h0, aB (Qz8 p0.spec p1.spec H.2.1) h1, aN (Qz8 p0.status p1.status H.2.2.1)] (by kernel_rfl)
  | false =>
   exact Q8 (fn := Ir.K2l) rfl VOK.nil [] [aB (Q1fz p0.meta_ p1.meta_ H.1) h0, aB (Qz8 p0.spec p1.spec H.2.1) h1] (by kernel_rfl)
 | false =>
  exact Q8 (fn := Ir.K2l) rfl VOK.nil [] [aB (Q1fz p0.meta_ p1.meta_ H.1) h0] (by kernel_rfl)
inductive Q1a8 where
  | k0
  | k1
def Qdf (p0 : Meta) : List Label → Nat → Q1a8
 | [], _i0 =>
  (.k0)
 | x0 :: r0, i0 =>
  bif (decide (400 < (w64 ((ByteArray.size x0.key : Int) + (ByteArray.size x0.value : Int))))) then
   (.k1)
  else
   Qdf p0 r0 (i0 + 1)
def Q11f (p0 : Meta) (i0 : Nat) : List PV :=
  [.un, .bx 0 0] ++ nuns 48 ++ [.sl (Label.rows p0.labels), .int .i64 ((List.length p0.labels) : Int), .int .i64 (i0 : Int)] ++ nuns 68
def Q10j (p0 : Meta) (_i0 : Nat) : List Ob :=
  [⟨13, 0, true, [.str p0.kind, .str p0.namespace_, .str p0.name, .int .i64 p0.uid, .int .i64 p0.version, .int .i64 p0.generation, .int .i64 p0.created, .bool p0.deleting, .int .i64 p0.deleteAt, .sl (Label.rows p0.labels), .sl (Owner.rows p0.owners), .sl (Qe p0.finalizers), .sl (Manager.rows p0.managers)]⟩]
def Q6p (p0 : Meta) (i0 : Nat) : En := .loop 0 Ir.Qp8 Ir.Q1jo (Q11f p0 i0) (Q10j p0 i0)
def Q6i (p0 : Meta) (z : Nat → PV) (_zo : Nat → List PV) : St :=
  ⟨[z 0, .bx 0 0] ++ zr z 2 119, [(0, ⟨13, 0, true, [.str p0.kind, .str p0.namespace_, .str p0.name, .int .i64 p0.uid, .int .i64 p0.version, .int .i64 p0.generation, .int .i64 p0.created, .bool p0.deleting, .int .i64 p0.deleteAt, .sl (Label.rows p0.labels), .sl (Owner.rows p0.owners), .sl (Qe p0.finalizers), .sl (Manager.rows p0.managers)]⟩)], 65⟩
def Qho (_p0 : Meta) (z : Nat → PV) (zo : Nat → List PV) : St :=
  ⟨[z 0, z 1, .bool false] ++ zr z 3 118, [(0, ⟨13, 0, true, zo 0⟩), (193, ⟨2, 0, true, zo 193⟩)], 897⟩
def Ql1 (p0 : Meta) (e : En) : Q1a8 → Prop
  | .k0 => ∃ z zo, Q6 G e (.st (.exit 0) (Q6i p0 z zo))
  | .k1 => ∃ z zo, Q6 G e (.st .ret (Qho p0 z zo))
theorem Qx0 (p0 : Meta) {e e' : En} (h : ∀ r, Q6 G e r → Q6 G e' r) : ∀ q, Ql1 p0 e q → Ql1 p0 e' q
  | .k0, ⟨z, zo, hz⟩ => ⟨z, zo, h _ hz⟩
  | .k1, ⟨z, zo, hz⟩ => ⟨z, zo, h _ hz⟩
def Qla (p0 : Meta) : Prop := (List.length p0.labels ≤ 4611686018427387904) ∧ True
def Qw9 (p0 : Meta) (i0 : Nat) : List PV :=
  nuns 50 ++ [.sl (Label.rows p0.labels), .int .i64 ((List.length p0.labels) : Int), .int .i64 (i0 : Int), .bool false]
def Qnd (_p0 : Meta) (_i0 : Nat) : List (Nat × List PV) :=
  []
theorem Q1b1 (p0 : Meta) (_H : Qla p0) (i0 : Nat) (hc0 : (decide ((i0 : Int) < ((List.length p0.labels) : Int))) = false) : Ql1 p0 (Q6p p0 i0) (.k0) := by
 exact ⟨(envF (Qw9 p0 i0)), (zoF (Qnd p0 i0)), Qh VOK.nil (x := ((.exit 0), Q6i p0 (envF (Qw9 p0 i0)) (zoF (Qnd p0 i0)))) [hB 0 hc0] [] (by kernel_rfl)⟩
def Qvg (p0 : Meta) (i0 : Nat) (x0 : Label) : List PV :=
  [.un, .bx 0 0, .un, .un, .bx 193 0] ++ nuns 45 ++ [.sl (Label.rows p0.labels), .int .i64 ((List.length p0.labels) : Int), .int .i64 (i0 : Int), .bool true, .rf [.str x0.key, .str x0.value], .agg [.str x0.key, .str x0.value], .bx 193 0, .str x0.key, .int .i64 (ByteArray.size x0.key : Int), .bx 193 1, .str x0.value, .int .i64 (ByteArray.size x0.value : Int), .int .i64 (w64 ((ByteArray.size x0.key : Int) + (ByteArray.size x0.value : Int))), .bool true]
def Qpz (p0 : Meta) (_i0 : Nat) (x0 : Label) : List (Nat × List PV) :=
  [(0, [.str p0.kind, .str p0.namespace_, .str p0.name, .int .i64 p0.uid, .int .i64 p0.version, .int .i64 p0.generation, .int .i64 p0.created, .bool p0.deleting, .int .i64 p0.deleteAt, .sl (Label.rows p0.labels), .sl (Owner.rows p0.owners), .sl (Qe p0.finalizers), .sl (Manager.rows p0.managers)]), (193, [.str x0.key, .str x0.value])]
theorem Q18l (p0 : Meta) (_H : Qla p0) (x0 : Label) (i0 : Nat) (hx0 : p0.labels[i0]? = some x0) (_hi0 : i0 < List.length p0.labels) (hc0 : (decide ((i0 : Int) < ((List.length p0.labels) : Int))) = true) (h0 : (decide (400 < (w64 ((ByteArray.size x0.key : Int) + (ByteArray.size x0.value : Int))))) = true) : Ql1 p0 (Q6p p0 i0) (.k1) := by
 exact ⟨(envF (Qvg p0 i0 x0)), (zoF (Qpz p0 i0 x0)), Qh VOK.nil (x := (.ret, Qho p0 (envF (Qvg p0 i0 x0)) (zoF (Qpz p0 i0 x0)))) [hB 0 hc0, hP 0 (Q1k 2 (Label.rows p0.labels) i0 _ (Label.Qb hx0) rfl), hB 10 h0] [] (by kernel_rfl)⟩
theorem Q1a0 (p0 : Meta) (H : Qla p0) (x0 : Label) (i0 : Nat) (hx0 : p0.labels[i0]? = some x0) (hi0 : i0 < List.length p0.labels) (hc0 : (decide ((i0 : Int) < ((List.length p0.labels) : Int))) = true) (h0 : (decide (400 < (w64 ((ByteArray.size x0.key : Int) + (ByteArray.size x0.value : Int))))) = false) {r : Rs} (hr : Q6 G (Q6p p0 (i0 + 1)) r) : Q6 G (Q6p p0 i0) r := by
 have hB0 := H.1; have e0 := of_decide_eq_false h0
 exact Qm VOK.nil (y := (Q11f p0 (i0 + 1), Q10j p0 (i0 + 1))) [hB 0 hc0, hP 0 (Q1k 2 (Label.rows p0.labels) i0 _ (Label.Qb hx0) rfl), hB 10 h0, hP 0 (Q29 i0 (by omega))] [] (by kernel_rfl) hr
theorem Q131 (p0 : Meta) (H : Qla p0) : ∀ (r0 : List Label) (i0 : Nat), List.drop i0 p0.labels = r0 → Ql1 p0 (Q6p p0 i0) (Qdf p0 r0 i0)
 | [], i0, hd => by
  have hc0 : (decide ((i0 : Int) < ((List.length p0.labels) : Int))) = false := by have := Q1g hd; simp; omega
  rw [Qdf]
  exact Q1b1 p0 H i0 hc0
 | x0 :: r0, i0, hd => by
  obtain ⟨hx0, hi0, hd'⟩ := Q12 hd
  have hc0 : (decide ((i0 : Int) < ((List.length p0.labels) : Int))) = true := by simp; omega
  rw [Qdf]
  cases h0 : (decide (400 < (w64 ((ByteArray.size x0.key : Int) + (ByteArray.size x0.value : Int))))) with
  | true =>
   exact Q18l p0 H x0 i0 hx0 hi0 hc0 h0
  | false =>
   exact Qx0 p0 (fun r hr => Q1a0 p0 H x0 i0 hx0 hi0 hc0 h0 hr) _ (Q131 p0 H r0 (i0 + 1) hd')
inductive Q18g where
  | k0
  | k1
def Qdl (p0 : Meta) : List Owner → Nat → Q18g
 | [], _i1 =>
  (.k0)
 | x1 :: r1, i1 =>
  bif (decide (400 < (w64 ((ByteArray.size x1.kind : Int) + (ByteArray.size x1.name : Int))))) then
   (.k1)
  else
   Qdl p0 r1 (i1 + 1)
def Q12g (p0 : Meta) (i1 : Nat) : List PV :=
  [.un, .bx 0 0] ++ nuns 64 ++ [.sl (Owner.rows p0.owners), .int .i64 ((List.length p0.owners) : Int), .int .i64 (i1 : Int)] ++ nuns 52
def Q124 (p0 : Meta) (_i1 : Nat) : List Ob :=
  [⟨13, 0, true, [.str p0.kind, .str p0.namespace_, .str p0.name, .int .i64 p0.uid, .int .i64 p0.version, .int .i64 p0.generation, .int .i64 p0.created, .bool p0.deleting, .int .i64 p0.deleteAt, .sl (Label.rows p0.labels), .sl (Owner.rows p0.owners), .sl (Qe p0.finalizers), .sl (Manager.rows p0.managers)]⟩]
def Q7g (p0 : Meta) (i1 : Nat) : En := .loop 0 Ir.Qnz Ir.Q1kp (Q12g p0 i1) (Q124 p0 i1)
def Q7t (p0 : Meta) (z : Nat → PV) (_zo : Nat → List PV) : St :=
  ⟨[z 0, .bx 0 0] ++ zr z 2 119, [(0, ⟨13, 0, true, [.str p0.kind, .str p0.namespace_, .str p0.name, .int .i64 p0.uid, .int .i64 p0.version, .int .i64 p0.generation, .int .i64 p0.created, .bool p0.deleting, .int .i64 p0.deleteAt, .sl (Label.rows p0.labels), .sl (Owner.rows p0.owners), .sl (Qe p0.finalizers), .sl (Manager.rows p0.managers)]⟩)], 65⟩
def Qkb (_p0 : Meta) (z : Nat → PV) (zo : Nat → List PV) : St :=
  ⟨[z 0, z 1, .bool false] ++ zr z 3 118, [(0, ⟨13, 0, true, zo 0⟩), (193, ⟨5, 0, true, zo 193⟩)], 897⟩
def Qke (p0 : Meta) (e : En) : Q18g → Prop
  | .k0 => ∃ z zo, Q6 G e (.st (.exit 2) (Q7t p0 z zo))
  | .k1 => ∃ z zo, Q6 G e (.st .ret (Qkb p0 z zo))
theorem Qyi (p0 : Meta) {e e' : En} (h : ∀ r, Q6 G e r → Q6 G e' r) : ∀ q, Qke p0 e q → Qke p0 e' q
  | .k0, ⟨z, zo, hz⟩ => ⟨z, zo, h _ hz⟩
  | .k1, ⟨z, zo, hz⟩ => ⟨z, zo, h _ hz⟩
def Qlg (p0 : Meta) : Prop := (List.length p0.owners ≤ 4611686018427387904) ∧ True
def Qwf (p0 : Meta) (i1 : Nat) : List PV :=
  nuns 66 ++ [.sl (Owner.rows p0.owners), .int .i64 ((List.length p0.owners) : Int), .int .i64 (i1 : Int), .bool false]
def Qoi (_p0 : Meta) (_i1 : Nat) : List (Nat × List PV) :=
  []
theorem Q1b3 (p0 : Meta) (_H : Qlg p0) (i1 : Nat) (hc1 : (decide ((i1 : Int) < ((List.length p0.owners) : Int))) = false) : Qke p0 (Q7g p0 i1) (.k0) := by
 exact ⟨(envF (Qwf p0 i1)), (zoF (Qoi p0 i1)), Qh VOK.nil (x := ((.exit 2), Q7t p0 (envF (Qwf p0 i1)) (zoF (Qoi p0 i1)))) [hB 0 hc1] [] (by kernel_rfl)⟩
def Qym (p0 : Meta) (i1 : Nat) (x1 : Owner) : List PV :=
  [.un, .bx 0 0, .un, .un, .un, .un, .bx 193 0] ++ nuns 59 ++ [.sl (Owner.rows p0.owners), .int .i64 ((List.length p0.owners) : Int), .int .i64 (i1 : Int), .bool true, .rf [.str x1.kind, .str x1.name, .int .i64 x1.uid, .bool x1.controller, .bool x1.block], .agg [.str x1.kind, .str x1.name, .int .i64 x1.uid, .bool x1.controller, .bool x1.block], .bx 193 0, .str x1.kind, .int .i64 (ByteArray.size x1.kind : Int), .bx 193 1, .str x1.name, .int .i64 (ByteArray.size x1.name : Int), .int .i64 (w64 ((ByteArray.size x1.kind : Int) + (ByteArray.size x1.name : Int))), .bool true]
def Qnp (p0 : Meta) (_i1 : Nat) (x1 : Owner) : List (Nat × List PV) :=
  [(0, [.str p0.kind, .str p0.namespace_, .str p0.name, .int .i64 p0.uid, .int .i64 p0.version, .int .i64 p0.generation, .int .i64 p0.created, .bool p0.deleting, .int .i64 p0.deleteAt, .sl (Label.rows p0.labels), .sl (Owner.rows p0.owners), .sl (Qe p0.finalizers), .sl (Manager.rows p0.managers)]), (193, [.str x1.kind, .str x1.name, .int .i64 x1.uid, .bool x1.controller, .bool x1.block])]
theorem Q198 (p0 : Meta) (_H : Qlg p0) (x1 : Owner) (i1 : Nat) (hx1 : p0.owners[i1]? = some x1) (_hi1 : i1 < List.length p0.owners) (hc1 : (decide ((i1 : Int) < ((List.length p0.owners) : Int))) = true) (h0 : (decide (400 < (w64 ((ByteArray.size x1.kind : Int) + (ByteArray.size x1.name : Int))))) = true) : Qke p0 (Q7g p0 i1) (.k1) := by
 exact ⟨(envF (Qym p0 i1 x1)), (zoF (Qnp p0 i1 x1)), Qh VOK.nil (x := (.ret, Qkb p0 (envF (Qym p0 i1 x1)) (zoF (Qnp p0 i1 x1)))) [hB 0 hc1, hP 0 (Q1k 5 (Owner.rows p0.owners) i1 _ (Owner.Qb hx1) rfl), hB 10 h0] [] (by kernel_rfl)⟩
theorem Q190 (p0 : Meta) (H : Qlg p0) (x1 : Owner) (i1 : Nat) (hx1 : p0.owners[i1]? = some x1) (hi1 : i1 < List.length p0.owners) (hc1 : (decide ((i1 : Int) < ((List.length p0.owners) : Int))) = true) (h0 : (decide (400 < (w64 ((ByteArray.size x1.kind : Int) + (ByteArray.size x1.name : Int))))) = false) {r : Rs} (hr : Q6 G (Q7g p0 (i1 + 1)) r) : Q6 G (Q7g p0 i1) r := by
 have hB0 := H.1; have e0 := of_decide_eq_false h0
 exact Qm VOK.nil (y := (Q12g p0 (i1 + 1), Q124 p0 (i1 + 1))) [hB 0 hc1, hP 0 (Q1k 5 (Owner.rows p0.owners) i1 _ (Owner.Qb hx1) rfl), hB 10 h0, hP 0 (Q29 i1 (by omega))] [] (by kernel_rfl) hr
theorem Q10c (p0 : Meta) (H : Qlg p0) : ∀ (r1 : List Owner) (i1 : Nat), List.drop i1 p0.owners = r1 → Qke p0 (Q7g p0 i1) (Qdl p0 r1 i1)
 | [], i1, hd => by
  have hc1 : (decide ((i1 : Int) < ((List.length p0.owners) : Int))) = false := by have := Q1g hd; simp; omega
  rw [Qdl]
  exact Q1b3 p0 H i1 hc1
 | x1 :: r1, i1, hd => by
  obtain ⟨hx1, hi1, hd'⟩ := Q12 hd
  have hc1 : (decide ((i1 : Int) < ((List.length p0.owners) : Int))) = true := by simp; omega
  rw [Qdl]
  cases h0 : (decide (400 < (w64 ((ByteArray.size x1.kind : Int) + (ByteArray.size x1.name : Int))))) with
  | true =>
   exact Q198 p0 H x1 i1 hx1 hi1 hc1 h0
  | false =>
   exact Qyi p0 (fun r hr => Q190 p0 H x1 i1 hx1 hi1 hc1 h0 hr) _ (Q10c p0 H r1 (i1 + 1) hd')
inductive Q19y where
  | k0
  | k1
def Qd4 (p0 : Meta) : List ByteArray → Nat → Q19y
 | [], _i2 =>
  (.k0)
 | x2 :: r2, i2 =>
  bif (decide (400 < (ByteArray.size x2 : Int))) then
   (.k1)
  else
   Qd4 p0 r2 (i2 + 1)
def Q10r (p0 : Meta) (i2 : Nat) : List PV :=
  [.un, .bx 0 0] ++ nuns 80 ++ [.sl (Qe p0.finalizers), .int .i64 ((List.length p0.finalizers) : Int), .int .i64 (i2 : Int)] ++ nuns 36
def Q11r (p0 : Meta) (_i2 : Nat) : List Ob :=
  [⟨13, 0, true, [.str p0.kind, .str p0.namespace_, .str p0.name, .int .i64 p0.uid, .int .i64 p0.version, .int .i64 p0.generation, .int .i64 p0.created, .bool p0.deleting, .int .i64 p0.deleteAt, .sl (Label.rows p0.labels), .sl (Owner.rows p0.owners), .sl (Qe p0.finalizers), .sl (Manager.rows p0.managers)]⟩]
def Q84 (p0 : Meta) (i2 : Nat) : En := .loop 0 Ir.Qn7 Ir.Q1i8 (Q10r p0 i2) (Q11r p0 i2)
def Q9d (p0 : Meta) (z : Nat → PV) (_zo : Nat → List PV) : St :=
  ⟨[z 0, .bx 0 0] ++ zr z 2 119, [(0, ⟨13, 0, true, [.str p0.kind, .str p0.namespace_, .str p0.name, .int .i64 p0.uid, .int .i64 p0.version, .int .i64 p0.generation, .int .i64 p0.created, .bool p0.deleting, .int .i64 p0.deleteAt, .sl (Label.rows p0.labels), .sl (Owner.rows p0.owners), .sl (Qe p0.finalizers), .sl (Manager.rows p0.managers)]⟩)], 65⟩
def Qhe (_p0 : Meta) (z : Nat → PV) (zo : Nat → List PV) : St :=
  ⟨[z 0, z 1, .bool false] ++ zr z 3 118, [(0, ⟨13, 0, true, zo 0⟩)], 513⟩
def Qjd (p0 : Meta) (e : En) : Q19y → Prop
  | .k0 => ∃ z zo, Q6 G e (.st (.exit 4) (Q9d p0 z zo))
  | .k1 => ∃ z zo, Q6 G e (.st .ret (Qhe p0 z zo))
theorem Qvs (p0 : Meta) {e e' : En} (h : ∀ r, Q6 G e r → Q6 G e' r) : ∀ q, Qjd p0 e q → Qjd p0 e' q
  | .k0, ⟨z, zo, hz⟩ => ⟨z, zo, h _ hz⟩
  | .k1, ⟨z, zo, hz⟩ => ⟨z, zo, h _ hz⟩
def Qjy (p0 : Meta) : Prop := (List.length p0.finalizers ≤ 4611686018427387904) ∧ True
def Qxn (p0 : Meta) (i2 : Nat) : List PV :=
  nuns 82 ++ [.sl (Qe p0.finalizers), .int .i64 ((List.length p0.finalizers) : Int), .int .i64 (i2 : Int), .bool false]
def Qq3 (_p0 : Meta) (_i2 : Nat) : List (Nat × List PV) :=
  []
theorem Q1b8 (p0 : Meta) (_H : Qjy p0) (i2 : Nat) (hc2 : (decide ((i2 : Int) < ((List.length p0.finalizers) : Int))) = false) : Qjd p0 (Q84 p0 i2) (.k0) := by
 exact ⟨(envF (Qxn p0 i2)), (zoF (Qq3 p0 i2)), Qh VOK.nil (x := ((.exit 4), Q9d p0 (envF (Qxn p0 i2)) (zoF (Qq3 p0 i2)))) [hB 0 hc2] [] (by kernel_rfl)⟩
def Qye (p0 : Meta) (i2 : Nat) (x2 : BA) : List PV :=
  [.un, .bx 0 0] ++ nuns 6 ++ [.str x2] ++ nuns 73 ++ [.sl (Qe p0.finalizers), .int .i64 ((List.length p0.finalizers) : Int), .int .i64 (i2 : Int), .bool true, .rf [.str x2], .str x2, .str x2, .int .i64 (ByteArray.size x2 : Int), .bool true]
def Qpb (p0 : Meta) (_i2 : Nat) (_x2 : BA) : List (Nat × List PV) :=
  [(0, [.str p0.kind, .str p0.namespace_, .str p0.name, .int .i64 p0.uid, .int .i64 p0.version, .int .i64 p0.generation, .int .i64 p0.created, .bool p0.deleting, .int .i64 p0.deleteAt, .sl (Label.rows p0.labels), .sl (Owner.rows p0.owners), .sl (Qe p0.finalizers), .sl (Manager.rows p0.managers)])]
theorem Q18p (p0 : Meta) (_H : Qjy p0) (x2 : BA) (i2 : Nat) (hx2 : p0.finalizers[i2]? = some x2) (_hi2 : i2 < List.length p0.finalizers) (hc2 : (decide ((i2 : Int) < ((List.length p0.finalizers) : Int))) = true) (h0 : (decide (400 < (ByteArray.size x2 : Int))) = true) : Qjd p0 (Q84 p0 i2) (.k1) := by
 exact ⟨(envF (Qye p0 i2 x2)), (zoF (Qpb p0 i2 x2)), Qh VOK.nil (x := (.ret, Qhe p0 (envF (Qye p0 i2 x2)) (zoF (Qpb p0 i2 x2)))) [hB 0 hc2, hP 0 (Q1k 1 (Qe p0.finalizers) i2 _ (Q3t hx2) rfl), hB 4 h0] [] (by kernel_rfl)⟩
theorem Q1aq (p0 : Meta) (H : Qjy p0) (x2 : BA) (i2 : Nat) (hx2 : p0.finalizers[i2]? = some x2) (hi2 : i2 < List.length p0.finalizers) (hc2 : (decide ((i2 : Int) < ((List.length p0.finalizers) : Int))) = true) (h0 : (decide (400 < (ByteArray.size x2 : Int))) = false) {r : Rs} (hr : Q6 G (Q84 p0 (i2 + 1)) r) : Q6 G (Q84 p0 i2) r := by
 have hB0 := H.1; have e0 := of_decide_eq_false h0
 exact Qm VOK.nil (y := (Q10r p0 (i2 + 1), Q11r p0 (i2 + 1))) [hB 0 hc2, hP 0 (Q1k 1 (Qe p0.finalizers) i2 _ (Q3t hx2) rfl), hB 4 h0, hP 0 (Q29 i2 (by omega))] [] (by kernel_rfl) hr
theorem Q10o (p0 : Meta) (H : Qjy p0) : ∀ (r2 : List ByteArray) (i2 : Nat), List.drop i2 p0.finalizers = r2 → Qjd p0 (Q84 p0 i2) (Qd4 p0 r2 i2)
 | [], i2, hd => by
  have hc2 : (decide ((i2 : Int) < ((List.length p0.finalizers) : Int))) = false := by have := Q1g hd; simp; omega
  rw [Qd4]
  exact Q1b8 p0 H i2 hc2
 | x2 :: r2, i2, hd => by
  obtain ⟨hx2, hi2, hd'⟩ := Q12 hd
  have hc2 : (decide ((i2 : Int) < ((List.length p0.finalizers) : Int))) = true := by simp; omega
  rw [Qd4]
  cases h0 : (decide (400 < (ByteArray.size x2 : Int))) with
  | true =>
   exact Q18p p0 H x2 i2 hx2 hi2 hc2 h0
  | false =>
   exact Qvs p0 (fun r hr => Q1aq p0 H x2 i2 hx2 hi2 hc2 h0 hr) _ (Q10o p0 H r2 (i2 + 1) hd')
inductive Q18i where
  | k0
  | k1
def Qdr (p0 : Meta) (i3 : Nat) (x3 : Manager) : List ByteArray → Nat → Q18i
 | [], _i4 =>
  (.k0)
 | x4 :: r4, i4 =>
  bif (decide (2000 < (ByteArray.size x4 : Int))) then
   (.k1)
  else
   Qdr p0 i3 x3 r4 (i4 + 1)
def Q12q (p0 : Meta) (i3 : Nat) (x3 : Manager) (i4 : Nat) : List PV :=
  nuns 93 ++ [.sl (Manager.rows p0.managers), .int .i64 ((List.length p0.managers) : Int), .int .i64 (i3 : Int)] ++ nuns 14 ++ [.sl (Qe x3.fields), .int .i64 ((List.length x3.fields) : Int), .int .i64 (i4 : Int)] ++ nuns 8
def Q12i (_p0 : Meta) (_i3 : Nat) (_x3 : Manager) (_i4 : Nat) : List Ob :=
  []
def Qb2 (p0 : Meta) (i3 : Nat) (x3 : Manager) (i4 : Nat) : En := .loop 0 Ir.Qov Ir.Q1jv (Q12q p0 i3 x3 i4) (Q12i p0 i3 x3 i4)
def Qls (p0 : Meta) (i3 : Nat) (_x3 : Manager) (z : Nat → PV) (_zo : Nat → List PV) : St :=
  ⟨zr z 0 93 ++ [.sl (Manager.rows p0.managers), .int .i64 ((List.length p0.managers) : Int), .int .i64 (i3 : Int)] ++ zr z 96 25, [], 64⟩
def Qil (_p0 : Meta) (_i3 : Nat) (_x3 : Manager) (z : Nat → PV) (_zo : Nat → List PV) : St :=
  ⟨[z 0, z 1, .bool false] ++ zr z 3 118, [], 512⟩
def Qi7 (p0 : Meta) (i3 : Nat) (x3 : Manager) (e : En) : Q18i → Prop
  | .k0 => ∃ z zo, Q6 G e (.st (.exit 8) (Qls p0 i3 x3 z zo))
  | .k1 => ∃ z zo, Q6 G e (.st .ret (Qil p0 i3 x3 z zo))
theorem Qu9 (p0 : Meta) (i3 : Nat) (x3 : Manager) {e e' : En} (h : ∀ r, Q6 G e r → Q6 G e' r) : ∀ q, Qi7 p0 i3 x3 e q → Qi7 p0 i3 x3 e' q
  | .k0, ⟨z, zo, hz⟩ => ⟨z, zo, h _ hz⟩
  | .k1, ⟨z, zo, hz⟩ => ⟨z, zo, h _ hz⟩
def Qhh (_p0 : Meta) (_i3 : Nat) (x3 : Manager) : Prop := (List.length x3.fields ≤ 4611686018427387904) ∧ True
def Quu (_p0 : Meta) (_i3 : Nat) (x3 : Manager) (i4 : Nat) : List PV :=
  nuns 110 ++ [.sl (Qe x3.fields), .int .i64 ((List.length x3.fields) : Int), .int .i64 (i4 : Int), .bool false]
def Qnj (_p0 : Meta) (_i3 : Nat) (_x3 : Manager) (_i4 : Nat) : List (Nat × List PV) :=
  []
theorem Q1ab (p0 : Meta) (i3 : Nat) (x3 : Manager) (_H : Qhh p0 i3 x3) (i4 : Nat) (hc4 : (decide ((i4 : Int) < ((List.length x3.fields) : Int))) = false) : Qi7 p0 i3 x3 (Qb2 p0 i3 x3 i4) (.k0) := by
 exact ⟨(envF (Quu p0 i3 x3 i4)), (zoF (Qnj p0 i3 x3 i4)), Qh VOK.nil (x := ((.exit 8), Qls p0 i3 x3 (envF (Quu p0 i3 x3 i4)) (zoF (Qnj p0 i3 x3 i4)))) [hB 0 hc4] [] (by kernel_rfl)⟩
def Qy0 (p0 : Meta) (i3 : Nat) (x3 : Manager) (i4 : Nat) (x4 : BA) : List PV :=
  nuns 12 ++ [.str x4] ++ nuns 80 ++ [.sl (Manager.rows p0.managers), .int .i64 ((List.length p0.managers) : Int), .int .i64 (i3 : Int)] ++ nuns 14 ++ [.sl (Qe x3.fields), .int .i64 ((List.length x3.fields) : Int), .int .i64 (i4 : Int), .bool true, .rf [.str x4], .str x4, .str x4, .int .i64 (ByteArray.size x4 : Int), .bool true]
def Qrd (_p0 : Meta) (_i3 : Nat) (_x3 : Manager) (_i4 : Nat) (_x4 : BA) : List (Nat × List PV) :=
  []
theorem Q18q (p0 : Meta) (i3 : Nat) (x3 : Manager) (_H : Qhh p0 i3 x3) (x4 : BA) (i4 : Nat) (hx4 : x3.fields[i4]? = some x4) (_hi4 : i4 < List.length x3.fields) (hc4 : (decide ((i4 : Int) < ((List.length x3.fields) : Int))) = true) (h0 : (decide (2000 < (ByteArray.size x4 : Int))) = true) : Qi7 p0 i3 x3 (Qb2 p0 i3 x3 i4) (.k1) := by
 exact ⟨(envF (Qy0 p0 i3 x3 i4 x4)), (zoF (Qrd p0 i3 x3 i4 x4)), Qh VOK.nil (x := (.ret, Qil p0 i3 x3 (envF (Qy0 p0 i3 x3 i4 x4)) (zoF (Qrd p0 i3 x3 i4 x4)))) [hB 0 hc4, hP 0 (Q1k 1 (Qe x3.fields) i4 _ (Q3t hx4) rfl), hB 4 h0] [] (by kernel_rfl)⟩
theorem Q1as (p0 : Meta) (i3 : Nat) (x3 : Manager) (H : Qhh p0 i3 x3) (x4 : BA) (i4 : Nat) (hx4 : x3.fields[i4]? = some x4) (hi4 : i4 < List.length x3.fields) (hc4 : (decide ((i4 : Int) < ((List.length x3.fields) : Int))) = true) (h0 : (decide (2000 < (ByteArray.size x4 : Int))) = false) {r : Rs} (hr : Q6 G (Qb2 p0 i3 x3 (i4 + 1)) r) : Q6 G (Qb2 p0 i3 x3 i4) r := by
 have hB0 := H.1; have e0 := of_decide_eq_false h0
 exact Qm VOK.nil (y := (Q12q p0 i3 x3 (i4 + 1), Q12i p0 i3 x3 (i4 + 1))) [hB 0 hc4, hP 0 (Q1k 1 (Qe x3.fields) i4 _ (Q3t hx4) rfl), hB 4 h0, hP 0 (Q29 i4 (by omega))] [] (by kernel_rfl) hr
theorem Q13e (p0 : Meta) (i3 : Nat) (x3 : Manager) (H : Qhh p0 i3 x3) : ∀ (r4 : List ByteArray) (i4 : Nat), List.drop i4 x3.fields = r4 → Qi7 p0 i3 x3 (Qb2 p0 i3 x3 i4) (Qdr p0 i3 x3 r4 i4)
 | [], i4, hd => by
  have hc4 : (decide ((i4 : Int) < ((List.length x3.fields) : Int))) = false := by have := Q1g hd; simp; omega
  rw [Qdr]
  exact Q1ab p0 i3 x3 H i4 hc4
 | x4 :: r4, i4, hd => by
  obtain ⟨hx4, hi4, hd'⟩ := Q12 hd
  have hc4 : (decide ((i4 : Int) < ((List.length x3.fields) : Int))) = true := by simp; omega
  rw [Qdr]
  cases h0 : (decide (2000 < (ByteArray.size x4 : Int))) with
  | true =>
   exact Q18q p0 i3 x3 H x4 i4 hx4 hi4 hc4 h0
  | false =>
   exact Qu9 p0 i3 x3 (fun r hr => Q1as p0 i3 x3 H x4 i4 hx4 hi4 hc4 h0 hr) _ (Q13e p0 i3 x3 H r4 (i4 + 1) hd')
inductive Q1b2 where
  | k0
  | k1
  | k2
def Qdm (p0 : Meta) : List Manager → Nat → Q1b2
 | [], _i3 =>
  (.k0)
 | x3 :: r3, i3 =>
  bif (decide (400 < (ByteArray.size x3.name : Int))) then
   (.k1)
  else
   bif (decide (200 < ((List.length x3.fields) : Int))) then
    (.k1)
   else
    (match (Qdr p0 i3 x3 x3.fields 0) with
    | .k0 => Qdm p0 r3 (i3 + 1)
    | .k1 => (.k2))
def Q111 (p0 : Meta) (i3 : Nat) : List PV :=
  nuns 93 ++ [.sl (Manager.rows p0.managers), .int .i64 ((List.length p0.managers) : Int), .int .i64 (i3 : Int)] ++ nuns 25
def Q11p (_p0 : Meta) (_i3 : Nat) : List Ob :=
  []
def Q79 (p0 : Meta) (i3 : Nat) : En := .loop 0 Ir.Qoa Ir.Q1iv (Q111 p0 i3) (Q11p p0 i3)
def Qjb (_p0 : Meta) (z : Nat → PV) (_zo : Nat → List PV) : St :=
  ⟨zr z 0 121, [], 64⟩
def Qbi (_p0 : Meta) (z : Nat → PV) (zo : Nat → List PV) : St :=
  ⟨[z 0, z 1, .bool false] ++ zr z 3 118, [(192, ⟨2, 0, true, zo 192⟩)], 1024⟩
def Qlj (_p0 : Meta) (z : Nat → PV) (_zo : Nat → List PV) : St :=
  ⟨[z 0, z 1, .bool false] ++ zr z 3 118, [], 512⟩
def Qal (p0 : Meta) (e : En) : Q1b2 → Prop
  | .k0 => ∃ z zo, Q6 G e (.st (.exit 6) (Qjb p0 z zo))
  | .k1 => ∃ z zo, Q6 G e (.st .ret (Qbi p0 z zo))
  | .k2 => ∃ z zo, Q6 G e (.st .ret (Qlj p0 z zo))
theorem Qwu (p0 : Meta) {e e' : En} (h : ∀ r, Q6 G e r → Q6 G e' r) : ∀ q, Qal p0 e q → Qal p0 e' q
  | .k0, ⟨z, zo, hz⟩ => ⟨z, zo, h _ hz⟩
  | .k1, ⟨z, zo, hz⟩ => ⟨z, zo, h _ hz⟩
  | .k2, ⟨z, zo, hz⟩ => ⟨z, zo, h _ hz⟩
def Qb0 (p0 : Meta) : Prop := (List.length p0.managers ≤ 4611686018427387904) ∧ (∀ (i3 : Nat) (x3 : Manager), p0.managers[i3]? = some x3 → Qhh p0 i3 x3) ∧ True
def Quk (p0 : Meta) (i3 : Nat) : List PV :=
  nuns 93 ++ [.sl (Manager.rows p0.managers), .int .i64 ((List.length p0.managers) : Int), .int .i64 (i3 : Int), .bool false]
def Qpo (_p0 : Meta) (_i3 : Nat) : List (Nat × List PV) :=
  []
theorem Q1av (p0 : Meta) (_H : Qb0 p0) (i3 : Nat) (hc3 : (decide ((i3 : Int) < ((List.length p0.managers) : Int))) = false) : Qal p0 (Q79 p0 i3) (.k0) := by
 exact ⟨(envF (Quk p0 i3)), (zoF (Qpo p0 i3)), Qh VOK.nil (x := ((.exit 6), Qjb p0 (envF (Quk p0 i3)) (zoF (Qpo p0 i3)))) [hB 0 hc3] [] (by kernel_rfl)⟩
def Qwq (p0 : Meta) (i3 : Nat) (x3 : Manager) : List PV :=
  nuns 10 ++ [.bx 192 0] ++ nuns 82 ++ [.sl (Manager.rows p0.managers), .int .i64 ((List.length p0.managers) : Int), .int .i64 (i3 : Int), .bool true, .rf [.str x3.name, .sl (Qe x3.fields)], .agg [.str x3.name, .sl (Qe x3.fields)], .bx 192 0, .str x3.name, .int .i64 (ByteArray.size x3.name : Int), .bool true, .bool true, .tup [], .tup [], .tup [], .tup [], .bool true]
def Qqa (_p0 : Meta) (_i3 : Nat) (x3 : Manager) : List (Nat × List PV) :=
  [(192, [.str x3.name, .sl (Qe x3.fields)])]
theorem Q1ax (p0 : Meta) (_H : Qb0 p0) (x3 : Manager) (i3 : Nat) (hx3 : p0.managers[i3]? = some x3) (_hi3 : i3 < List.length p0.managers) (hc3 : (decide ((i3 : Int) < ((List.length p0.managers) : Int))) = true) (h0 : (decide (400 < (ByteArray.size x3.name : Int))) = true) : Qal p0 (Q79 p0 i3) (.k1) := by
 exact ⟨(envF (Qwq p0 i3 x3)), (zoF (Qqa p0 i3 x3)), Qh VOK.nil (x := (.ret, Qbi p0 (envF (Qwq p0 i3 x3)) (zoF (Qqa p0 i3 x3)))) [hB 0 hc3, hP 0 (Q1k 2 (Manager.rows p0.managers) i3 _ (Manager.Qb hx3) rfl), hB 6 h0] [] (by kernel_rfl)⟩
def Qxb (p0 : Meta) (i3 : Nat) (x3 : Manager) : List PV :=
  nuns 10 ++ [.bx 192 0] ++ nuns 82 ++ [.sl (Manager.rows p0.managers), .int .i64 ((List.length p0.managers) : Int), .int .i64 (i3 : Int), .bool true, .rf [.str x3.name, .sl (Qe x3.fields)], .agg [.str x3.name, .sl (Qe x3.fields)], .bx 192 0, .str x3.name, .int .i64 (ByteArray.size x3.name : Int), .bool false, .bool false, .bx 192 1, .sl (Qe x3.fields), .int .i64 ((List.length x3.fields) : Int), .bool true, .bool true]
def Qrg (_p0 : Meta) (_i3 : Nat) (x3 : Manager) : List (Nat × List PV) :=
  [(192, [.str x3.name, .sl (Qe x3.fields)])]
theorem Q18s (p0 : Meta) (_H : Qb0 p0) (x3 : Manager) (i3 : Nat) (hx3 : p0.managers[i3]? = some x3) (_hi3 : i3 < List.length p0.managers) (hc3 : (decide ((i3 : Int) < ((List.length p0.managers) : Int))) = true) (h0 : (decide (400 < (ByteArray.size x3.name : Int))) = false) (h1 : (decide (200 < ((List.length x3.fields) : Int))) = true) : Qal p0 (Q79 p0 i3) (.k1) := by
 exact ⟨(envF (Qxb p0 i3 x3)), (zoF (Qrg p0 i3 x3)), Qh VOK.nil (x := (.ret, Qbi p0 (envF (Qxb p0 i3 x3)) (zoF (Qrg p0 i3 x3)))) [hB 0 hc3, hP 0 (Q1k 2 (Manager.rows p0.managers) i3 _ (Manager.Qb hx3) rfl), hB 6 h0, hP 3 (Qf (Qe x3.fields) (List.length x3.fields) (Q1c x3.fields)), hB 0 h1] [] (by kernel_rfl)⟩
theorem Q18k (p0 : Meta) (H : Qb0 p0) (x3 : Manager) (i3 : Nat) (hx3 : p0.managers[i3]? = some x3) (hi3 : i3 < List.length p0.managers) (hc3 : (decide ((i3 : Int) < ((List.length p0.managers) : Int))) = true) (h0 : (decide (400 < (ByteArray.size x3.name : Int))) = false) (h1 : (decide (200 < ((List.length x3.fields) : Int))) = false) (z2 : Nat → PV) (zo2 : Nat → List PV) (hl2 : Q6 G (Qb2 p0 i3 x3 0) (.st (.exit 8) (Qls p0 i3 x3 z2 zo2))) {r : Rs} (hr : Q6 G (Q79 p0 (i3 + 1)) r) : Q6 G (Q79 p0 i3) r := by
 have hB0 := H.1; have e0 := of_decide_eq_false h0; have e1 := of_decide_eq_false h1
 exact Qm VOK.nil (y := (Q111 p0 (i3 + 1), Q11p p0 (i3 + 1))) [hB 0 hc3, hP 0 (Q1k 2 (Manager.rows p0.managers) i3 _ (Manager.Qb hx3) rfl), hB 6 h0, hP 3 (Qf (Qe x3.fields) (List.length x3.fields) (Q1c x3.fields)), hB 0 h1, hP 3 (Qf (Qe x3.fields) (List.length x3.fields) (Q1c x3.fields)), hP 1 (Q29 i3 (by omega))] [aN hl2] (by kernel_rfl) hr
def Qxa (_p0 : Meta) (_i3 : Nat) (_x3 : Manager) (z2 : Nat → PV) (_zo2 : Nat → List PV) : List PV :=
  [(z2 0), (z2 1), .un, (z2 3), (z2 4), (z2 5), (z2 6), (z2 7), (z2 8), (z2 9), (z2 10), (z2 11), (z2 12), (z2 13), (z2 14), (z2 15), (z2 16), (z2 17), (z2 18), (z2 19), (z2 20), (z2 21), (z2 22), (z2 23), (z2 24), (z2 25), (z2 26), (z2 27), (z2 28), (z2 29), (z2 30), (z2 31), (z2 32), (z2 33), (z2 34), (z2 35), (z2 36), (z2 37), (z2 38), (z2 39), (z2 40), (z2 41), (z2 42), (z2 43), (z2 44), (z2 45), (z2 46), (z2 47), (z2 48), (z2 49), (z2 50), (z2 51), (z2 52), (z2 53), (z2 54), (z2 55), (z2 56), (z2 57), (z2 58), (z2 59), (z2 60), (z2 61), (z2 62), (z2 63), (z2 64), (z2 65), (z2 66), (z2 67), (z2 68), (z2 69), (z2 70), (z2 71), (z2 72), (z2 73), (z2 74), (z2 75), (z2 76), (z2 77), (z2 78), (z2 79), (z2 80), (z2 81), (z2 82), (z2 83), (z2 84), (z2 85), (z2 86), (z2 87), (z2 88), (z2 89), (z2 90), (z2 91), (z2 92), (z2 93), (z2 94), (z2 95), (z2 96), (z2 97), (z2 98), (z2 99), (z2 100), (z2 101), (z2 102), (z2 103), (z2 104), (z2 105), (z2 106), (z2 107), (z2 108), (z2 109), (z2 110), (z2 111), (z2 112), (z2 113), (z2 114), (z2 115), (z2 116), (z2 117), (z2 118), (z2 119), (z2 120)]
def Qq1 (_p0 : Meta) (_i3 : Nat) (_x3 : Manager) (_z2 : Nat → PV) (_zo2 : Nat → List PV) : List (Nat × List PV) :=
  []
theorem Q1bf (p0 : Meta) (_H : Qb0 p0) (x3 : Manager) (i3 : Nat) (hx3 : p0.managers[i3]? = some x3) (_hi3 : i3 < List.length p0.managers) (hc3 : (decide ((i3 : Int) < ((List.length p0.managers) : Int))) = true) (h0 : (decide (400 < (ByteArray.size x3.name : Int))) = false) (h1 : (decide (200 < ((List.length x3.fields) : Int))) = false) (z2 : Nat → PV) (zo2 : Nat → List PV) (hl2 : Q6 G (Qb2 p0 i3 x3 0) (.st .ret (Qil p0 i3 x3 z2 zo2))) : Qal p0 (Q79 p0 i3) (.k2) := by
 exact ⟨(envF (Qxa p0 i3 x3 z2 zo2)), (zoF (Qq1 p0 i3 x3 z2 zo2)), Qh VOK.nil (x := (.ret, Qlj p0 (envF (Qxa p0 i3 x3 z2 zo2)) (zoF (Qq1 p0 i3 x3 z2 zo2)))) [hB 0 hc3, hP 0 (Q1k 2 (Manager.rows p0.managers) i3 _ (Manager.Qb hx3) rfl), hB 6 h0, hP 3 (Qf (Qe x3.fields) (List.length x3.fields) (Q1c x3.fields)), hB 0 h1, hP 3 (Qf (Qe x3.fields) (List.length x3.fields) (Q1c x3.fields))] [aN hl2] (by kernel_rfl)⟩
theorem Q12y (p0 : Meta) (H : Qb0 p0) : ∀ (r3 : List Manager) (i3 : Nat), List.drop i3 p0.managers = r3 → Qal p0 (Q79 p0 i3) (Qdm p0 r3 i3)
 | [], i3, hd => by
  have hc3 : (decide ((i3 : Int) < ((List.length p0.managers) : Int))) = false := by have := Q1g hd; simp; omega
  rw [Qdm]
  exact Q1av p0 H i3 hc3
 | x3 :: r3, i3, hd => by
  obtain ⟨hx3, hi3, hd'⟩ := Q12 hd
  have hc3 : (decide ((i3 : Int) < ((List.length p0.managers) : Int))) = true := by simp; omega
  rw [Qdm]
  cases h0 : (decide (400 < (ByteArray.size x3.name : Int))) with
  | true =>
   exact Q1ax p0 H x3 i3 hx3 hi3 hc3 h0
  | false =>
   cases h1 : (decide (200 < ((List.length x3.fields) : Int))) with
   | true =>
    exact Q18s p0 H x3 i3 hx3 hi3 hc3 h0 h1
   | false =>
    have hl2 := Q13e p0 i3 x3 ((H.2.1 i3 x3 hx3)) x3.fields 0 (by simp)
    cases hr2 : (Qdr p0 i3 x3 x3.fields 0) with
    | k0 =>
     rw [hr2] at hl2
     obtain ⟨z2, zo2, hl2⟩ := hl2
     exact Qwu p0 (fun r hr => Q18k p0 H x3 i3 hx3 hi3 hc3 h0 h1 z2 zo2 hl2 hr) _ (Q12y p0 H r3 (i3 + 1) hd')
    | k1 =>
     rw [hr2] at hl2
     obtain ⟨z2, zo2, hl2⟩ := hl2
     exact Q1bf p0 H x3 i3 hx3 hi3 hc3 h0 h1 z2 zo2 hl2
def s_K5 (p0 : Meta) : Bool :=
 bif (decide (60 < ((List.length p0.labels) : Int))) then
  false
 else
  bif (decide (60 < ((List.length p0.owners) : Int))) then
   false
  else
   bif (decide (60 < ((List.length p0.finalizers) : Int))) then
    false
   else
    bif (decide (60 < ((List.length p0.managers) : Int))) then
     false
    else
     bif (decide (400 < (w64 ((w64 ((ByteArray.size p0.kind : Int) + (ByteArray.size p0.namespace_ : Int))) + (ByteArray.size p0.name : Int))))) then
      false
     else
      (match (Qdf p0 p0.labels 0) with
      | .k0 => (match (Qdl p0 p0.owners 0) with
       | .k0 => (match (Qd4 p0 p0.finalizers 0) with
        | .k0 => (match (Qdm p0 p0.managers 0) with
         | .k0 => true
         | .k1 => false
         | .k2 => false)
        | .k1 => false)
       | .k1 => false)
      | .k1 => false)
def c_K5 (p0 : Meta) : En := .call 8 [.agg (Meta.cells p0)] []
def a_K5 (p0 : Meta) : Rs := .ret (.bool (s_K5 p0)) []
def H_K5 (p0 : Meta) : Prop := (Qla p0) ∧ (Qlg p0) ∧ (Qjy p0) ∧ (Qb0 p0) ∧ True
theorem Q1jg (p0 : Meta) (_H : H_K5 p0) (h0 : (decide (60 < ((List.length p0.labels) : Int))) = true) : Q6 G (c_K5 p0) (.ret (.bool (false)) []) := by
 exact Q8 (fn := Ir.K5) rfl VOK.nil [hP 4 (Qf (Label.rows p0.labels) (List.length p0.labels) (Label.Q0 p0.labels)), hB 0 h0] [] (by kernel_rfl)
theorem Q1jr (p0 : Meta) (_H : H_K5 p0) (h0 : (decide (60 < ((List.length p0.labels) : Int))) = false) (h1 : (decide (60 < ((List.length p0.owners) : Int))) = true) : Q6 G (c_K5 p0) (.ret (.bool (false)) []) := by
 exact Q8 (fn := Ir.K5) rfl VOK.nil [hP 4 (Qf (Label.rows p0.labels) (List.length p0.labels) (Label.Q0 p0.labels)), hB 0 h0, hP 3 (Qf (Owner.rows p0.owners) (List.length p0.owners) (Owner.Q0 p0.owners)), hB 0 h1] [] (by kernel_rfl)
theorem Q1i9 (p0 : Meta) (_H : H_K5 p0) (h0 : (decide (60 < ((List.length p0.labels) : Int))) = false) (h1 : (decide (60 < ((List.length p0.owners) : Int))) = false) (h2 : (decide (60 < ((List.length p0.finalizers) : Int))) = true) : Q6 G (c_K5 p0) (.ret (.bool (false)) []) := by
 exact Q8 (fn := Ir.K5) rfl VOK.nil [hP 4 (Qf (Label.rows p0.labels) (List.length p0.labels) (Label.Q0 p0.labels)), hB 0 h0, hP 3 (Qf (Owner.rows p0.owners) (List.length p0.owners) (Owner.Q0 p0.owners)), hB 0 h1, hP 4 (Qf (Qe p0.finalizers) (List.length p0.finalizers) (Q1c p0.finalizers)), hB 0 h2] [] (by kernel_rfl)
theorem Q1k2 (p0 : Meta) (_H : H_K5 p0) (h0 : (decide (60 < ((List.length p0.labels) : Int))) = false) (h1 : (decide (60 < ((List.length p0.owners) : Int))) = false) (h2 : (decide (60 < ((List.length p0.finalizers) : Int))) = false) (h3 : (decide (60 < ((List.length p0.managers) : Int))) = true) : Q6 G (c_K5 p0) (.ret (.bool (false)) []) := by
 exact Q8 (fn := Ir.K5) rfl VOK.nil [hP 4 (Qf (Label.rows p0.labels) (List.length p0.labels) (Label.Q0 p0.labels)), hB 0 h0, hP 3 (Qf (Owner.rows p0.owners) (List.length p0.owners) (Owner.Q0 p0.owners)), hB 0 h1, hP 4 (Qf (Qe p0.finalizers) (List.length p0.finalizers) (Q1c p0.finalizers)), hB 0 h2, hP 4 (Qf (Manager.rows p0.managers) (List.length p0.managers) (Manager.Q0 p0.managers)), hB 0 h3] [] (by kernel_rfl)
theorem Q1if (p0 : Meta) (_H : H_K5 p0) (h0 : (decide (60 < ((List.length p0.labels) : Int))) = false) (h1 : (decide (60 < ((List.length p0.owners) : Int))) = false) (h2 : (decide (60 < ((List.length p0.finalizers) : Int))) = false) (h3 : (decide (60 < ((List.length p0.managers) : Int))) = false) (h4 : (decide (400 < (w64 ((w64 ((ByteArray.size p0.kind : Int) + (ByteArray.size p0.namespace_ : Int))) + (ByteArray.size p0.name : Int))))) = true) : Q6 G (c_K5 p0) (.ret (.bool (false)) []) := by
 exact Q8 (fn := Ir.K5) rfl VOK.nil [hP 4 (Qf (Label.rows p0.labels) (List.length p0.labels) (Label.Q0 p0.labels)), hB 0 h0, hP 3 (Qf (Owner.rows p0.owners) (List.length p0.owners) (Owner.Q0 p0.owners)), hB 0 h1, hP 4 (Qf (Qe p0.finalizers) (List.length p0.finalizers) (Q1c p0.finalizers)), hB 0 h2, hP 4 (Qf (Manager.rows p0.managers) (List.length p0.managers) (Manager.Q0 p0.managers)), hB 0 h3, hB 13 h4] [] (by kernel_rfl)
theorem Q1kg (p0 : Meta) (_H : H_K5 p0) (h0 : (decide (60 < ((List.length p0.labels) : Int))) = false) (h1 : (decide (60 < ((List.length p0.owners) : Int))) = false) (h2 : (decide (60 < ((List.length p0.finalizers) : Int))) = false) (h3 : (decide (60 < ((List.length p0.managers) : Int))) = false) (h4 : (decide (400 < (w64 ((w64 ((ByteArray.size p0.kind : Int) + (ByteArray.size p0.namespace_ : Int))) + (ByteArray.size p0.name : Int))))) = false) (z5 : Nat → PV) (zo5 : Nat → List PV) (hl5 : Q6 G (Q6p p0 0) (.st (.exit 0) (Q6i p0 z5 zo5))) (z6 : Nat → PV) (zo6 : Nat → List PV) (hl6 : Q6 G (Q7g p0 0) (.st (.exit 2) (Q7t p0 z6 zo6))) (z7 : Nat → PV) (zo7 : Nat → List PV) (hl7 : Q6 G (Q84 p0 0) (.st (.exit 4) (Q9d p0 z7 zo7))) (z8 : Nat → PV) (zo8 : Nat → List PV) (hl8 : Q6 G (Q79 p0 0) (.st (.exit 6) (Qjb p0 z8 zo8))) : Q6 G (c_K5 p0) (.ret (.bool (true)) []) := by
 exact Q8 (fn := Ir.K5) rfl VOK.nil [hP 4 (Qf (Label.rows p0.labels) (List.length p0.labels) (Label.Q0 p0.labels)), hB 0 h0, hP 3 (Qf (Owner.rows p0.owners) (List.length p0.owners) (Owner.Q0 p0.owners)), hB 0 h1, hP 4 (Qf (Qe p0.finalizers) (List.length p0.finalizers) (Q1c p0.finalizers)), hB 0 h2, hP 4 (Qf (Manager.rows p0.managers) (List.length p0.managers) (Manager.Q0 p0.managers)), hB 0 h3, hB 13 h4, hP 3 (Qf (Label.rows p0.labels) (List.length p0.labels) (Label.Q0 p0.labels)), hP 3 (Qf (Owner.rows p0.owners) (List.length p0.owners) (Owner.Q0 p0.owners)), hP 3 (Qf (Qe p0.finalizers) (List.length p0.finalizers) (Q1c p0.finalizers)), hP 3 (Qf (Manager.rows p0.managers) (List.length p0.managers) (Manager.Q0 p0.managers))] [aN hl5, aN hl6, aN hl7, aN hl8] (by kernel_rfl)
theorem Q1im (p0 : Meta) (_H : H_K5 p0) (h0 : (decide (60 < ((List.length p0.labels) : Int))) = false) (h1 : (decide (60 < ((List.length p0.owners) : Int))) = false) (h2 : (decide (60 < ((List.length p0.finalizers) : Int))) = false) (h3 : (decide (60 < ((List.length p0.managers) : Int))) = false) (h4 : (decide (400 < (w64 ((w64 ((ByteArray.size p0.kind : Int) + (ByteArray.size p0.namespace_ : Int))) + (ByteArray.size p0.name : Int))))) = false) (z5 : Nat → PV) (zo5 : Nat → List PV) (hl5 : Q6 G (Q6p p0 0) (.st (.exit 0) (Q6i p0 z5 zo5))) (z6 : Nat → PV) (zo6 : Nat → List PV) (hl6 : Q6 G (Q7g p0 0) (.st (.exit 2) (Q7t p0 z6 zo6))) (z7 : Nat → PV) (zo7 : Nat → List PV) (hl7 : Q6 G (Q84 p0 0) (.st (.exit 4) (Q9d p0 z7 zo7))) (z8 : Nat → PV) (zo8 : Nat → List PV) (hl8 : Q6 G (Q79 p0 0) (.st .ret (Qbi p0 z8 zo8))) : Q6 G (c_K5 p0) (.ret (.bool (false)) []) := by
 exact Q8 (fn := Ir.K5) rfl VOK.nil [hP 4 (Qf (Label.rows p0.labels) (List.length p0.labels) (Label.Q0 p0.labels)), hB 0 h0, hP 3 (Qf (Owner.rows p0.owners) (List.length p0.owners) (Owner.Q0 p0.owners)), hB 0 h1, hP 4 (Qf (Qe p0.finalizers) (List.length p0.finalizers) (Q1c p0.finalizers)), hB 0 h2, hP 4 (Qf (Manager.rows p0.managers) (List.length p0.managers) (Manager.Q0 p0.managers)), hB 0 h3, hB 13 h4, hP 3 (Qf (Label.rows p0.labels) (List.length p0.labels) (Label.Q0 p0.labels)), hP 3 (Qf (Owner.rows p0.owners) (List.length p0.owners) (Owner.Q0 p0.owners)), hP 3 (Qf (Qe p0.finalizers) (List.length p0.finalizers) (Q1c p0.finalizers)), hP 3 (Qf (Manager.rows p0.managers) (List.length p0.managers) (Manager.Q0 p0.managers))] [aN hl5, aN hl6, aN hl7, aN hl8] (by kernel_rfl)
theorem Q1k7 (p0 : Meta) (_H : H_K5 p0) (h0 : (decide (60 < ((List.length p0.labels) : Int))) = false) (h1 : (decide (60 < ((List.length p0.owners) : Int))) = false) (h2 : (decide (60 < ((List.length p0.finalizers) : Int))) = false) (h3 : (decide (60 < ((List.length p0.managers) : Int))) = false) (h4 : (decide (400 < (w64 ((w64 ((ByteArray.size p0.kind : Int) + (ByteArray.size p0.namespace_ : Int))) + (ByteArray.size p0.name : Int))))) = false) (z5 : Nat → PV) (zo5 : Nat → List PV) (hl5 : Q6 G (Q6p p0 0) (.st (.exit 0) (Q6i p0 z5 zo5))) (z6 : Nat → PV) (zo6 : Nat → List PV) (hl6 : Q6 G (Q7g p0 0) (.st (.exit 2) (Q7t p0 z6 zo6))) (z7 : Nat → PV) (zo7 : Nat → List PV) (hl7 : Q6 G (Q84 p0 0) (.st (.exit 4) (Q9d p0 z7 zo7))) (z8 : Nat → PV) (zo8 : Nat → List PV) (hl8 : Q6 G (Q79 p0 0) (.st .ret (Qlj p0 z8 zo8))) : Q6 G (c_K5 p0) (.ret (.bool (false)) []) := by
 exact Q8 (fn := Ir.K5) rfl VOK.nil [hP 4 (Qf (Label.rows p0.labels) (List.length p0.labels) (Label.Q0 p0.labels)), hB 0 h0, hP 3 (Qf (Owner.rows p0.owners) (List.length p0.owners) (Owner.Q0 p0.owners)), hB 0 h1, hP 4 (Qf (Qe p0.finalizers) (List.length p0.finalizers) (Q1c p0.finalizers)), hB 0 h2, hP 4 (Qf (Manager.rows p0.managers) (List.length p0.managers) (Manager.Q0 p0.managers)), hB 0 h3, hB 13 h4, hP 3 (Qf (Label.rows p0.labels) (List.length p0.labels) (Label.Q0 p0.labels)), hP 3 (Qf (Owner.rows p0.owners) (List.length p0.owners) (Owner.Q0 p0.owners)), hP 3 (Qf (Qe p0.finalizers) (List.length p0.finalizers) (Q1c p0.finalizers)), hP 3 (Qf (Manager.rows p0.managers) (List.length p0.managers) (Manager.Q0 p0.managers))] [aN hl5, aN hl6, aN hl7, aN hl8] (by kernel_rfl)
theorem Q1kz (p0 : Meta) (_H : H_K5 p0) (h0 : (decide (60 < ((List.length p0.labels) : Int))) = false) (h1 : (decide (60 < ((List.length p0.owners) : Int))) = false) (h2 : (decide (60 < ((List.length p0.finalizers) : Int))) = false) (h3 : (decide (60 < ((List.length p0.managers) : Int))) = false) (h4 : (decide (400 < (w64 ((w64 ((ByteArray.size p0.kind : Int) + (ByteArray.size p0.namespace_ : Int))) + (ByteArray.size p0.name : Int))))) = false) (z5 : Nat → PV) (zo5 : Nat → List PV) (hl5 : Q6 G (Q6p p0 0) (.st (.exit 0) (Q6i p0 z5 zo5))) (z6 : Nat → PV) (zo6 : Nat → List PV) (hl6 : Q6 G (Q7g p0 0) (.st (.exit 2) (Q7t p0 z6 zo6))) (z7 : Nat → PV) (zo7 : Nat → List PV) (hl7 : Q6 G (Q84 p0 0) (.st .ret (Qhe p0 z7 zo7))) : Q6 G (c_K5 p0) (.ret (.bool (false)) []) := by
 exact Q8 (fn := Ir.K5) rfl VOK.nil [hP 4 (Qf (Label.rows p0.labels) (List.length p0.labels) (Label.Q0 p0.labels)), hB 0 h0, hP 3 (Qf (Owner.rows p0.owners) (List.length p0.owners) (Owner.Q0 p0.owners)), hB 0 h1, hP 4 (Qf (Qe p0.finalizers) (List.length p0.finalizers) (Q1c p0.finalizers)), hB 0 h2, hP 4 (Qf (Manager.rows p0.managers) (List.length p0.managers) (Manager.Q0 p0.managers)), hB 0 h3, hB 13 h4, hP 3 (Qf (Label.rows p0.labels) (List.length p0.labels) (Label.Q0 p0.labels)), hP 3 (Qf (Owner.rows p0.owners) (List.length p0.owners) (Owner.Q0 p0.owners)), hP 3 (Qf (Qe p0.finalizers) (List.length p0.finalizers) (Q1c p0.finalizers))] [aN hl5, aN hl6, aN hl7] (by kernel_rfl)
theorem Q1ix (p0 : Meta) (_H : H_K5 p0) (h0 : (decide (60 < ((List.length p0.labels) : Int))) = false) (h1 : (decide (60 < ((List.length p0.owners) : Int))) = false) (h2 : (decide (60 < ((List.length p0.finalizers) : Int))) = false) (h3 : (decide (60 < ((List.length p0.managers) : Int))) = false) (h4 : (decide (400 < (w64 ((w64 ((ByteArray.size p0.kind : Int) + (ByteArray.size p0.namespace_ : Int))) + (ByteArray.size p0.name : Int))))) = false) (z5 : Nat → PV) (zo5 : Nat → List PV) (hl5 : Q6 G (Q6p p0 0) (.st (.exit 0) (Q6i p0 z5 zo5))) (z6 : Nat → PV) (zo6 : Nat → List PV) (hl6 : Q6 G (Q7g p0 0) (.st .ret (Qkb p0 z6 zo6))) : Q6 G (c_K5 p0) (.ret (.bool (false)) []) := by
 exact Q8 (fn := Ir.K5) rfl VOK.nil [hP 4 (Qf (Label.rows p0.labels) (List.length p0.labels) (Label.Q0 p0.labels)), hB 0 h0, hP 3 (Qf (Owner.rows p0.owners) (List.length p0.owners) (Owner.Q0 p0.owners)), hB 0 h1, hP 4 (Qf (Qe p0.finalizers) (List.length p0.finalizers) (Q1c p0.finalizers)), hB 0 h2, hP 4 (Qf (Manager.rows p0.managers) (List.length p0.managers) (Manager.Q0 p0.managers)), hB 0 h3, hB 13 h4, hP 3 (Qf (Label.rows p0.labels) (List.length p0.labels) (Label.Q0 p0.labels)), hP 3 (Qf (Owner.rows p0.owners) (List.length p0.owners) (Owner.Q0 p0.owners))] [aN hl5, aN hl6] (by kernel_rfl)
theorem Q1hs (p0 : Meta) (_H : H_K5 p0) (h0 : (decide (60 < ((List.length p0.labels) : Int))) = false) (h1 : (decide (60 < ((List.length p0.owners) : Int))) = false) (h2 : (decide (60 < ((List.length p0.finalizers) : Int))) = false) (h3 : (decide (60 < ((List.length p0.managers) : Int))) = false) (h4 : (decide (400 < (w64 ((w64 ((ByteArray.size p0.kind : Int) + (ByteArray.size p0.namespace_ : Int))) + (ByteArray.size p0.name : Int))))) = false) (z5 : Nat → PV) (zo5 : Nat → List PV) (hl5 : Q6 G (Q6p p0 0) (.st .ret (Qho p0 z5 zo5))) : Q6 G (c_K5 p0) (.ret (.bool (false)) []) := by
 exact Q8 (fn := Ir.K5) rfl VOK.nil [hP 4 (Qf (Label.rows p0.labels) (List.length p0.labels) (Label.Q0 p0.labels)), hB 0 h0, hP 3 (Qf (Owner.rows p0.owners) (List.length p0.owners) (Owner.Q0 p0.owners)), hB 0 h1, hP 4 (Qf (Qe p0.finalizers) (List.length p0.finalizers) (Q1c p0.finalizers)), hB 0 h2, hP 4 (Qf (Manager.rows p0.managers) (List.length p0.managers) (Manager.Q0 p0.managers)), hB 0 h3, hB 13 h4, hP 3 (Qf (Label.rows p0.labels) (List.length p0.labels) (Label.Q0 p0.labels))] [aN hl5] (by kernel_rfl)
theorem t_K5 (p0 : Meta) (H : H_K5 p0) : Q6 G (c_K5 p0) (a_K5 p0) := by
 unfold a_K5 s_K5
 cases h0 : (decide (60 < ((List.length p0.labels) : Int))) with
 | true =>
  exact Q1jg p0 H h0
 | false =>
  cases h1 : (decide (60 < ((List.length p0.owners) : Int))) with
  | true =>
   exact Q1jr p0 H h0 h1
  | false =>
   cases h2 : (decide (60 < ((List.length p0.finalizers) : Int))) with
   | true =>
    exact Q1i9 p0 H h0 h1 h2
   | false =>
    cases h3 : (decide (60 < ((List.length p0.managers) : Int))) with
    | true =>
     exact Q1k2 p0 H h0 h1 h2 h3
    | false =>
     cases h4 : (decide (400 < (w64 ((w64 ((ByteArray.size p0.kind : Int) + (ByteArray.size p0.namespace_ : Int))) + (ByteArray.size p0.name : Int))))) with
     | true =>
      exact Q1if p0 H h0 h1 h2 h3 h4
     | false =>
      have hl5 := Q131 p0 (H.1) p0.labels 0 (by simp)
      cases hr5 : (Qdf p0 p0.labels 0) with
      | k0 =>
       rw [hr5] at hl5
       obtain ⟨z5, zo5, hl5⟩ := hl5
       try dsimp only
       have hl6 := Q10c p0 (H.2.1) p0.owners 0 (by simp)
       cases hr6 : (Qdl p0 p0.owners 0) with
       | k0 =>
        rw [hr6] at hl6
        obtain ⟨z6, zo6, hl6⟩ := hl6
        try dsimp only
        have hl7 := Q10o p0 (H.2.2.1) p0.finalizers 0 (by simp)
        cases hr7 : (Qd4 p0 p0.finalizers 0) with
        | k0 =>
         rw [hr7] at hl7
         obtain ⟨z7, zo7, hl7⟩ := hl7
         try dsimp only
         have hl8 := Q12y p0 (H.2.2.2.1) p0.managers 0 (by simp)
         cases hr8 : (Qdm p0 p0.managers 0) with
         | k0 =>
          rw [hr8] at hl8
          obtain ⟨z8, zo8, hl8⟩ := hl8
          exact Q1kg p0 H h0 h1 h2 h3 h4 z5 zo5 hl5 z6 zo6 hl6 z7 zo7 hl7 z8 zo8 hl8
         | k1 =>
          rw [hr8] at hl8
          obtain ⟨z8, zo8, hl8⟩ := hl8
          exact Q1im p0 H h0 h1 h2 h3 h4 z5 zo5 hl5 z6 zo6 hl6 z7 zo7 hl7 z8 zo8 hl8
         | k2 =>
          rw [hr8] at hl8
          obtain ⟨z8, zo8, hl8⟩ := hl8
          exact Q1k7 p0 H h0 h1 h2 h3 h4 z5 zo5 hl5 z6 zo6 hl6 z7 zo7 hl7 z8 zo8 hl8
        | k1 =>
         rw [hr7] at hl7
         obtain ⟨z7, zo7, hl7⟩ := hl7
         exact Q1kz p0 H h0 h1 h2 h3 h4 z5 zo5 hl5 z6 zo6 hl6 z7 zo7 hl7
       | k1 =>
        rw [hr6] at hl6
        obtain ⟨z6, zo6, hl6⟩ := hl6
        exact Q1ix p0 H h0 h1 h2 h3 h4 z5 zo5 hl5 z6 zo6 hl6
      | k1 =>
       rw [hr5] at hl5
       obtain ⟨z5, zo5, hl5⟩ := hl5
       exact Q1hs p0 H h0 h1 h2 h3 h4 z5 zo5 hl5
end Go.Proofs.YtiflaadeikaghaaGreat
end

section
/- The chapter's examples (printed by a program). -/
namespace Go.Proofs.YtiflaadeikaghaaGreat
open Go.Pv
theorem t_K7 : Q6 G (.call 10 [] []) (.ret (.bool true) []) := ⟨400, by kernel_rfl⟩
end Go.Proofs.YtiflaadeikaghaaGreat
end

section
/- What the laws ask of their arguments (printed by a program). -/
namespace Go.Proofs.YtiflaadeikaghaaGreat
open Go.Pv
def s_K6 (p0 : Pod) : Bool :=
 bif (s_K5 p0.meta_) then
  bif (Q17y (Q8c p0).spec 20000) then
   (Q17y (Q8c p0).status 20000)
  else
   false
 else
  false
def c_K6 (p0 : Pod) : En := .call 20 [.agg (Pod.cells p0)] []
def a_K6 (p0 : Pod) : Rs := .ret (.bool (s_K6 p0)) []
def H_K6 (p0 : Pod) : Prop := (Q18w p0) ∧ (H_K5 p0.meta_) ∧ ((s_K5 p0.meta_) = true → Q17c (Q8c p0).spec 20000) ∧ ((s_K5 p0.meta_) = true → (Q17y (Q8c p0).spec 20000) = true → Q17c (Q8c p0).status 20000) ∧ True
theorem t_K6 (p0 : Pod) (H : H_K6 p0) : Q6 G (c_K6 p0) (a_K6 p0) := by
 unfold a_K6 s_K6
 cases h0 : (s_K5 p0.meta_) with
 | true =>
  cases h1 : (Q17y (Q8c p0).spec 20000) with
  | true =>
   exact Q8 (fn := Ir.K6) rfl VOK.nil [] [aN (Q19d p0 (H.1)), aB (t_K5 p0.meta_ (H.2.1)) h0, aB (Q1gg (Q8c p0).spec 20000 (H.2.2.1 h0)) h1, aN (Q1gg (Q8c p0).status 20000 (H.2.2.2.1 h0 h1))] (by kernel_rfl)
  | false =>
   exact Q8 (fn := Ir.K6) rfl VOK.nil [] [aN (Q19d p0 (H.1)), aB (t_K5 p0.meta_ (H.2.1)) h0, aB (Q1gg (Q8c p0).spec 20000 (H.2.2.1 h0)) h1] (by kernel_rfl)
 | false =>
  exact Q8 (fn := Ir.K6) rfl VOK.nil [] [aN (Q19d p0 (H.1)), aB (t_K5 p0.meta_ (H.2.1)) h0] (by kernel_rfl)
def Qa3 (p0 : Pod) (p1 : Pod) : Bool :=
 bif (sEq p0.meta_.kind p1.meta_.kind) then
  (Q1bb (Q8c p0) (Q8c p1))
 else
  false
def Q1oc (p0 : Pod) (p1 : Pod) : En := .call 17 [.agg (Pod.cells p0), .agg (Pod.cells p1)] []
def Q1j4 (p0 : Pod) (p1 : Pod) : Rs := .ret (.bool (Qa3 p0 p1)) []
def Q1az (p0 : Pod) (p1 : Pod) : Prop := (Q18w p0) ∧ (Q18w p1) ∧ (Q1bn (Q8c p0) (Q8c p1)) ∧ True
theorem Q157 (p0 : Pod) (p1 : Pod) (H : Q1az p0 p1) : Q6 G (Q1oc p0 p1) (Q1j4 p0 p1) := by
 unfold Q1j4 Qa3
 cases h0 : (sEq p0.meta_.kind p1.meta_.kind) with
 | true =>
  exact Q8 (fn := Ir.K2m) rfl VOK.nil [hB 9 h0] [aN (Q19d p0 H.1), aN (Q19d p1 H.2.1), aN (Q1mn (Q8c p0) (Q8c p1) H.2.2.1)] (by kernel_rfl)
 | false =>
  exact Q8 (fn := Ir.K2m) rfl VOK.nil [hB 9 h0] [] (by kernel_rfl)
def s_K8 (p0 : Val) (p1 : Int) : Val :=
 (Val.mk p0.kind p0.n p0.s p0.list (([] ++ (List.take (Int.toNat p1) p0.fields)) ++ (List.drop (Int.toNat (p1 + 1)) p0.fields)))
def c_K8 (p0 : Val) (p1 : Int) : En := .call 22 [.agg (Val.cells p0), .int .i64 p1] []
def a_K8 (p0 : Val) (p1 : Int) : Rs := .ret (.agg (Val.cells (s_K8 p0 p1))) []
def H_K8 (p0 : Val) (p1 : Int) : Prop := (0 ≤ p1) ∧ (p1 ≤ (List.length p0.fields : Int)) ∧ ((0 + List.length (List.take (Int.toNat p1) p0.fields)) * 96 ≤ 140737488355328) ∧ (-9223372036854775808 ≤ (p1 + 1) ∧ (p1 + 1) ≤ 9223372036854775807) ∧ (0 ≤ (p1 + 1)) ∧ ((p1 + 1) ≤ (List.length p0.fields : Int)) ∧ (((List.length ([] ++ (List.take (Int.toNat p1) p0.fields))) + List.length (List.drop (Int.toNat (p1 + 1)) p0.fields)) * 96 ≤ 140737488355328) ∧ True
theorem t_K8 (p0 : Val) (p1 : Int) (H : H_K8 p0 p1) : Q6 G (c_K8 p0 p1) (a_K8 p0 p1) := by
 unfold a_K8 s_K8
 exact Q8 (fn := Ir.K8) rfl VOK.nil [hP 6 (Q1gb 6 (Fld.rows p0.fields) _ p1 (Fld.Qd p0.fields) (H.1) (by rw [Fld.Q0]; exact (H.2.1)) (Fld.Q2t p0.fields (Int.toNat p1))), hV 0 [(448, Fld.rows ([] ++ (List.take (Int.toNat p1) p0.fields)))] (Qa9 128 448 6 96 0 [] (Fld.rows []) (Fld.rows (List.take (Int.toNat p1) p0.fields)) (Fld.rows ([] ++ (List.take (Int.toNat p1) p0.fields))) 0 (List.length ([] ++ (List.take (Int.toNat p1) p0.fields))) rfl (Fld.Q0 []).symm (Fld.Q0 ([] ++ (List.take (Int.toNat p1) p0.fields))).symm (Fld.Q2k [] (List.take (Int.toNat p1) p0.fields)) (Fld.Qd []) (Fld.Qd (List.take (Int.toNat p1) p0.fields)) (by rw [Fld.Q0]; exact (H.2.2.1))), hS 0 true (Fld.Q7 ([] ++ (List.take (Int.toNat p1) p0.fields)) 6 rfl), hP 5 (w_ok (p1 + 1) (H.2.2.2.1)), hP 0 (Q1i0 6 (Fld.rows p0.fields) _ (p1 + 1) (Fld.Qd p0.fields) (H.2.2.2.2.1) (by rw [Fld.Q0]; exact (H.2.2.2.2.2.1)) (Fld.Q2u p0.fields (Int.toNat (p1 + 1)))), hV 0 [(960, Fld.rows (([] ++ (List.take (Int.toNat p1) p0.fields)) ++ (List.drop (Int.toNat (p1 + 1)) p0.fields)))] (Qa9 448 960 6 96 0 ((Fld.rows ([] ++ (List.take (Int.toNat p1) p0.fields))).flatten) (Fld.rows ([] ++ (List.take (Int.toNat p1) p0.fields))) (Fld.rows (List.drop (Int.toNat (p1 + 1)) p0.fields)) (Fld.rows (([] ++ (List.take (Int.toNat p1) p0.fields)) ++ (List.drop (Int.toNat (p1 + 1)) p0.fields))) (List.length ([] ++ (List.take (Int.toNat p1) p0.fields))) (List.length (([] ++ (List.take (Int.toNat p1) p0.fields)) ++ (List.drop (Int.toNat (p1 + 1)) p0.fields))) rfl (Fld.Q0 ([] ++ (List.take (Int.toNat p1) p0.fields))).symm (Fld.Q0 (([] ++ (List.take (Int.toNat p1) p0.fields)) ++ (List.drop (Int.toNat (p1 + 1)) p0.fields))).symm (Fld.Q2k ([] ++ (List.take (Int.toNat p1) p0.fields)) (List.drop (Int.toNat (p1 + 1)) p0.fields)) (Fld.Qd ([] ++ (List.take (Int.toNat p1) p0.fields))) (Fld.Qd (List.drop (Int.toNat (p1 + 1)) p0.fields)) (by rw [Fld.Q0]; exact (H.2.2.2.2.2.2.1))), hS 0 true (Fld.Q7 (([] ++ (List.take (Int.toNat p1) p0.fields)) ++ (List.drop (Int.toNat (p1 + 1)) p0.fields)) 6 rfl), hQ (Fld.Q0 (([] ++ (List.take (Int.toNat p1) p0.fields)) ++ (List.drop (Int.toNat (p1 + 1)) p0.fields))).symm] [] (by kernel_rfl)
def Q12d : Ty := .st [.str, .str]
def Qtk (x : Label) : Prop := okS x.key ∧ okS x.value
theorem Q16r {c : List PV} (h : Of Γ Q12d c) : ∃ x : Label, c = x.cells ∧ Qtk x := by
  have g0 := h.st1
  obtain ⟨a0, b0, rfl, h0, g1⟩ := g0.Q13
  obtain ⟨x0, rfl, k0⟩ := h0.str1
  obtain ⟨a1, b1, rfl, h1, g2⟩ := g1.Q13
  obtain ⟨x1, rfl, k1⟩ := h1.str1
  have e := g2.empty
  subst e
  exact ⟨⟨x0, x1⟩, rfl, ⟨k0, k1⟩⟩
def Q118 : Ty := .st [.str, .str, .int .i64, .bool, .bool]
def Qt1 (x : Owner) : Prop := okS x.kind ∧ okS x.name ∧ Q3s x.uid ∧ (fun _ : Bool => True) x.controller ∧ (fun _ : Bool => True) x.block
theorem Q16a {c : List PV} (h : Of Γ Q118 c) : ∃ x : Owner, c = x.cells ∧ Qt1 x := by
  have g0 := h.st1
  obtain ⟨a0, b0, rfl, h0, g1⟩ := g0.Q13
  obtain ⟨x0, rfl, k0⟩ := h0.str1
  obtain ⟨a1, b1, rfl, h1, g2⟩ := g1.Q13
  obtain ⟨x1, rfl, k1⟩ := h1.str1
  obtain ⟨a2, b2, rfl, h2, g3⟩ := g2.Q13
  obtain ⟨x2, rfl, k2⟩ := h2.i64
  obtain ⟨a3, b3, rfl, h3, g4⟩ := g3.Q13
  obtain ⟨x3, rfl, k3⟩ := h3.bool2
  obtain ⟨a4, b4, rfl, h4, g5⟩ := g4.Q13
  obtain ⟨x4, rfl, k4⟩ := h4.bool2
  have e := g5.empty
  subst e
  exact ⟨⟨x0, x1, x2, x3, x4⟩, rfl, ⟨k0, k1, k2, k3, k4⟩⟩
def Qrk : Ty := .st [.str, .sl 16 .str]
def Qdi (x : Manager) : Prop := okS x.name ∧ (okL 16 okS) x.fields
theorem Que {c : List PV} (h : Of Γ Qrk c) : ∃ x : Manager, c = x.cells ∧ Qdi x := by
  have g0 := h.st1
  obtain ⟨a0, b0, rfl, h0, g1⟩ := g0.Q13
  obtain ⟨x0, rfl, k0⟩ := h0.str1
  obtain ⟨a1, b1, rfl, h1, g2⟩ := g1.Q13
  obtain ⟨x1, rfl, k1⟩ := (h1.sl1 (f := (fun s : ByteArray => [.str s])) (ok := okS) fun r hr => hr.str1)
  have e := g2.empty
  subst e
  exact ⟨⟨x0, x1⟩, rfl, ⟨k0, k1⟩⟩
def Q1a3 : Ty := .st [.str, .str, .str, .int .i64, .int .i64, .int .i64, .int .i64, .bool, .int .i64, .sl 32 Q12d, .sl 48 Q118, .sl 16 .str, .sl 40 Qrk]
def Qao (x : Meta) : Prop := okS x.kind ∧ okS x.namespace_ ∧ okS x.name ∧ Q3s x.uid ∧ Q3s x.version ∧ Q3s x.generation ∧ Q3s x.created ∧ (fun _ : Bool => True) x.deleting ∧ Q3s x.deleteAt ∧ (okL 32 Qtk) x.labels ∧ (okL 48 Qt1) x.owners ∧ (okL 16 okS) x.finalizers ∧ (okL 40 Qdi) x.managers
theorem Q1bg {c : List PV} (h : Of Γ Q1a3 c) : ∃ x : Meta, c = x.cells ∧ Qao x := by
  have g0 := h.st1
  obtain ⟨a0, b0, rfl, h0, g1⟩ := g0.Q13
  obtain ⟨x0, rfl, k0⟩ := h0.str1
  obtain ⟨a1, b1, rfl, h1, g2⟩ := g1.Q13
  obtain ⟨x1, rfl, k1⟩ := h1.str1
  obtain ⟨a2, b2, rfl, h2, g3⟩ := g2.Q13
  obtain ⟨x2, rfl, k2⟩ := h2.str1
  obtain ⟨a3, b3, rfl, h3, g4⟩ := g3.Q13
  obtain ⟨x3, rfl, k3⟩ := h3.i64
  obtain ⟨a4, b4, rfl, h4, g5⟩ := g4.Q13
  obtain ⟨x4, rfl, k4⟩ := h4.i64
  obtain ⟨a5, b5, rfl, h5, g6⟩ := g5.Q13
  obtain ⟨x5, rfl, k5⟩ := h5.i64
  obtain ⟨a6, b6, rfl, h6, g7⟩ := g6.Q13
  obtain ⟨x6, rfl, k6⟩ := h6.i64
  obtain ⟨a7, b7, rfl, h7, g8⟩ := g7.Q13
  obtain ⟨x7, rfl, k7⟩ := h7.bool2
  obtain ⟨a8, b8, rfl, h8, g9⟩ := g8.Q13
  obtain ⟨x8, rfl, k8⟩ := h8.i64
  obtain ⟨a9, b9, rfl, h9, g10⟩ := g9.Q13
  obtain ⟨x9, rfl, k9⟩ := (h9.sl1 (f := Label.cells) (ok := Qtk) fun r hr => (Q16r hr))
  obtain ⟨a10, b10, rfl, h10, g11⟩ := g10.Q13
  obtain ⟨x10, rfl, k10⟩ := (h10.sl1 (f := Owner.cells) (ok := Qt1) fun r hr => (Q16a hr))
  obtain ⟨a11, b11, rfl, h11, g12⟩ := g11.Q13
  obtain ⟨x11, rfl, k11⟩ := (h11.sl1 (f := (fun s : ByteArray => [.str s])) (ok := okS) fun r hr => hr.str1)
  obtain ⟨a12, b12, rfl, h12, g13⟩ := g12.Q13
  obtain ⟨x12, rfl, k12⟩ := (h12.sl1 (f := Manager.cells) (ok := Qdi) fun r hr => (Que hr))
  have e := g13.empty
  subst e
  exact ⟨⟨x0, x1, x2, x3, x4, x5, x6, x7, x8, x9, x10, x11, x12⟩, rfl, ⟨k0, k1, k2, k3, k4, k5, k6, k7, k8, k9, k10, k11, k12⟩⟩
def Q9e : Ty := .st [.int .i64, .int .i64, .int .i64]
def Q9c (x : Resources) : Prop := Q3s x.cPU ∧ Q3s x.memory ∧ Q3s x.disk
theorem Qaa {c : List PV} (h : Of Γ Q9e c) : ∃ x : Resources, c = x.cells ∧ Q9c x := by
  have g0 := h.st1
  obtain ⟨a0, b0, rfl, h0, g1⟩ := g0.Q13
  obtain ⟨x0, rfl, k0⟩ := h0.i64
  obtain ⟨a1, b1, rfl, h1, g2⟩ := g1.Q13
  obtain ⟨x1, rfl, k1⟩ := h1.i64
  obtain ⟨a2, b2, rfl, h2, g3⟩ := g2.Q13
  obtain ⟨x2, rfl, k2⟩ := h2.i64
  have e := g3.empty
  subst e
  exact ⟨⟨x0, x1, x2⟩, rfl, ⟨k0, k1, k2⟩⟩
def Qgr : Ty := .st [.int .i64, .int .i64, .int .i64, .int .i64]
def Q82 (x : Probe) : Prop := Q3s x.delay ∧ Q3s x.period ∧ Q3s x.success ∧ Q3s x.failure
theorem Qdd {c : List PV} (h : Of Γ Qgr c) : ∃ x : Probe, c = x.cells ∧ Q82 x := by
  have g0 := h.st1
  obtain ⟨a0, b0, rfl, h0, g1⟩ := g0.Q13
  obtain ⟨x0, rfl, k0⟩ := h0.i64
  obtain ⟨a1, b1, rfl, h1, g2⟩ := g1.Q13
  obtain ⟨x1, rfl, k1⟩ := h1.i64
  obtain ⟨a2, b2, rfl, h2, g3⟩ := g2.Q13
  obtain ⟨x2, rfl, k2⟩ := h2.i64
  obtain ⟨a3, b3, rfl, h3, g4⟩ := g3.Q13
  obtain ⟨x3, rfl, k3⟩ := h3.i64
  have e := g4.empty
  subst e
  exact ⟨⟨x0, x1, x2, x3⟩, rfl, ⟨k0, k1, k2, k3⟩⟩
def Qe0 : Ty := .st [.str, .str, Q9e, Q9e, .sl 32 Qgr, .sl 32 Qgr, .sl 32 Qgr]
def Q96 (x : Container) : Prop := okS x.name ∧ okS x.image ∧ Q9c x.request ∧ Q9c x.limit ∧ (okL 32 Q82) x.live ∧ (okL 32 Q82) x.ready ∧ (okL 32 Q82) x.startup
theorem Qmy {c : List PV} (h : Of Γ Qe0 c) : ∃ x : Container, c = x.cells ∧ Q96 x := by
  have g0 := h.st1
  obtain ⟨a0, b0, rfl, h0, g1⟩ := g0.Q13
  obtain ⟨x0, rfl, k0⟩ := h0.str1
  obtain ⟨a1, b1, rfl, h1, g2⟩ := g1.Q13
  obtain ⟨x1, rfl, k1⟩ := h1.str1
  obtain ⟨a2, b2, rfl, h2, g3⟩ := g2.Q13
  obtain ⟨x2, rfl, k2⟩ := (Qaa h2)
  obtain ⟨a3, b3, rfl, h3, g4⟩ := g3.Q13
  obtain ⟨x3, rfl, k3⟩ := (Qaa h3)
  obtain ⟨a4, b4, rfl, h4, g5⟩ := g4.Q13
  obtain ⟨x4, rfl, k4⟩ := (h4.sl1 (f := Probe.cells) (ok := Q82) fun r hr => (Qdd hr))
  obtain ⟨a5, b5, rfl, h5, g6⟩ := g5.Q13
  obtain ⟨x5, rfl, k5⟩ := (h5.sl1 (f := Probe.cells) (ok := Q82) fun r hr => (Qdd hr))
  obtain ⟨a6, b6, rfl, h6, g7⟩ := g6.Q13
  obtain ⟨x6, rfl, k6⟩ := (h6.sl1 (f := Probe.cells) (ok := Q82) fun r hr => (Qdd hr))
  have e := g7.empty
  subst e
  exact ⟨⟨x0, x1, x2, x3, x4, x5, x6⟩, rfl, ⟨k0, k1, k2, k3, k4, k5, k6⟩⟩
def Q4j : Ty := .st [.str, .int .i64, .sl 16 .str]
def Q30 (x : Requirement) : Prop := okS x.key ∧ Q3s x.op ∧ (okL 16 okS) x.values
theorem Q4n {c : List PV} (h : Of Γ Q4j c) : ∃ x : Requirement, c = x.cells ∧ Q30 x := by
  have g0 := h.st1
  obtain ⟨a0, b0, rfl, h0, g1⟩ := g0.Q13
  obtain ⟨x0, rfl, k0⟩ := h0.str1
  obtain ⟨a1, b1, rfl, h1, g2⟩ := g1.Q13
  obtain ⟨x1, rfl, k1⟩ := h1.i64
  obtain ⟨a2, b2, rfl, h2, g3⟩ := g2.Q13
  obtain ⟨x2, rfl, k2⟩ := (h2.sl1 (f := (fun s : ByteArray => [.str s])) (ok := okS) fun r hr => hr.str1)
  have e := g3.empty
  subst e
  exact ⟨⟨x0, x1, x2⟩, rfl, ⟨k0, k1, k2⟩⟩
def Qib : Ty := .st [.bool, .sl 48 Q4j, .int .i64]
def Qau (x : NodeTerm) : Prop := (fun _ : Bool => True) x.required ∧ (okL 48 Q30) x.selector ∧ Q3s x.weight
theorem Qtq {c : List PV} (h : Of Γ Qib c) : ∃ x : NodeTerm, c = x.cells ∧ Qau x := by
  have g0 := h.st1
  obtain ⟨a0, b0, rfl, h0, g1⟩ := g0.Q13
  obtain ⟨x0, rfl, k0⟩ := h0.bool2
  obtain ⟨a1, b1, rfl, h1, g2⟩ := g1.Q13
  obtain ⟨x1, rfl, k1⟩ := (h1.sl1 (f := Requirement.cells) (ok := Q30) fun r hr => (Q4n hr))
  obtain ⟨a2, b2, rfl, h2, g3⟩ := g2.Q13
  obtain ⟨x2, rfl, k2⟩ := h2.i64
  have e := g3.empty
  subst e
  exact ⟨⟨x0, x1, x2⟩, rfl, ⟨k0, k1, k2⟩⟩
def Qou : Ty := .st [.bool, .bool, .sl 48 Q4j, .str, .int .i64]
def Qd7 (x : PodTerm) : Prop := (fun _ : Bool => True) x.required ∧ (fun _ : Bool => True) x.anti ∧ (okL 48 Q30) x.selector ∧ okS x.topology ∧ Q3s x.weight
theorem Qwd {c : List PV} (h : Of Γ Qou c) : ∃ x : PodTerm, c = x.cells ∧ Qd7 x := by
  have g0 := h.st1
  obtain ⟨a0, b0, rfl, h0, g1⟩ := g0.Q13
  obtain ⟨x0, rfl, k0⟩ := h0.bool2
  obtain ⟨a1, b1, rfl, h1, g2⟩ := g1.Q13
  obtain ⟨x1, rfl, k1⟩ := h1.bool2
  obtain ⟨a2, b2, rfl, h2, g3⟩ := g2.Q13
  obtain ⟨x2, rfl, k2⟩ := (h2.sl1 (f := Requirement.cells) (ok := Q30) fun r hr => (Q4n hr))
  obtain ⟨a3, b3, rfl, h3, g4⟩ := g3.Q13
  obtain ⟨x3, rfl, k3⟩ := h3.str1
  obtain ⟨a4, b4, rfl, h4, g5⟩ := g4.Q13
  obtain ⟨x4, rfl, k4⟩ := h4.i64
  have e := g5.empty
  subst e
  exact ⟨⟨x0, x1, x2, x3, x4⟩, rfl, ⟨k0, k1, k2, k3, k4⟩⟩
def Qbc : Ty := .st [.int .i64, .str, .sl 48 Q4j, .bool]
def Q83 (x : SpreadRule) : Prop := Q3s x.maxSkew ∧ okS x.topology ∧ (okL 48 Q30) x.selector ∧ (fun _ : Bool => True) x.required
theorem Qj2 {c : List PV} (h : Of Γ Qbc c) : ∃ x : SpreadRule, c = x.cells ∧ Q83 x := by
  have g0 := h.st1
  obtain ⟨a0, b0, rfl, h0, g1⟩ := g0.Q13
  obtain ⟨x0, rfl, k0⟩ := h0.i64
  obtain ⟨a1, b1, rfl, h1, g2⟩ := g1.Q13
  obtain ⟨x1, rfl, k1⟩ := h1.str1
  obtain ⟨a2, b2, rfl, h2, g3⟩ := g2.Q13
  obtain ⟨x2, rfl, k2⟩ := (h2.sl1 (f := Requirement.cells) (ok := Q30) fun r hr => (Q4n hr))
  obtain ⟨a3, b3, rfl, h3, g4⟩ := g3.Q13
  obtain ⟨x3, rfl, k3⟩ := h3.bool2
  have e := g4.empty
  subst e
  exact ⟨⟨x0, x1, x2, x3⟩, rfl, ⟨k0, k1, k2, k3⟩⟩
def Qba : Ty := .st [.str, .str, .bool, .int .i64, .int .i64]
def Q8b (x : Toleration) : Prop := okS x.key ∧ okS x.value ∧ (fun _ : Bool => True) x.exists_ ∧ Q3s x.effect ∧ Q3s x.seconds
theorem Qj0 {c : List PV} (h : Of Γ Qba c) : ∃ x : Toleration, c = x.cells ∧ Q8b x := by
  have g0 := h.st1
  obtain ⟨a0, b0, rfl, h0, g1⟩ := g0.Q13
  obtain ⟨x0, rfl, k0⟩ := h0.str1
  obtain ⟨a1, b1, rfl, h1, g2⟩ := g1.Q13
  obtain ⟨x1, rfl, k1⟩ := h1.str1
  obtain ⟨a2, b2, rfl, h2, g3⟩ := g2.Q13
  obtain ⟨x2, rfl, k2⟩ := h2.bool2
  obtain ⟨a3, b3, rfl, h3, g4⟩ := g3.Q13
  obtain ⟨x3, rfl, k3⟩ := h3.i64
  obtain ⟨a4, b4, rfl, h4, g5⟩ := g4.Q13
  obtain ⟨x4, rfl, k4⟩ := h4.i64
  have e := g5.empty
  subst e
  exact ⟨⟨x0, x1, x2, x3, x4⟩, rfl, ⟨k0, k1, k2, k3, k4⟩⟩
def Qqr : Ty := .st [.str, .int .i64, .int .i64, .int .i64, .sl 152 Qe0, .sl 48 Q4j, .sl 40 Qib, .sl 56 Qou, .sl 56 Qbc, .sl 56 Qba]
def Qql (x : PodSpec) : Prop := okS x.node ∧ Q3s x.priority ∧ Q3s x.restart ∧ Q3s x.grace ∧ (okL 152 Q96) x.containers ∧ (okL 48 Q30) x.nodeSelector ∧ (okL 40 Qau) x.nodeTerms ∧ (okL 56 Qd7) x.podTerms ∧ (okL 56 Q83) x.spread ∧ (okL 56 Q8b) x.tolerations
theorem Qx6 {c : List PV} (h : Of Γ Qqr c) : ∃ x : PodSpec, c = x.cells ∧ Qql x := by
  have g0 := h.st1
  obtain ⟨a0, b0, rfl, h0, g1⟩ := g0.Q13
  obtain ⟨x0, rfl, k0⟩ := h0.str1
  obtain ⟨a1, b1, rfl, h1, g2⟩ := g1.Q13
  obtain ⟨x1, rfl, k1⟩ := h1.i64
  obtain ⟨a2, b2, rfl, h2, g3⟩ := g2.Q13
  obtain ⟨x2, rfl, k2⟩ := h2.i64
  obtain ⟨a3, b3, rfl, h3, g4⟩ := g3.Q13
  obtain ⟨x3, rfl, k3⟩ := h3.i64
  obtain ⟨a4, b4, rfl, h4, g5⟩ := g4.Q13
  obtain ⟨x4, rfl, k4⟩ := (h4.sl1 (f := Container.cells) (ok := Q96) fun r hr => (Qmy hr))
  obtain ⟨a5, b5, rfl, h5, g6⟩ := g5.Q13
  obtain ⟨x5, rfl, k5⟩ := (h5.sl1 (f := Requirement.cells) (ok := Q30) fun r hr => (Q4n hr))
  obtain ⟨a6, b6, rfl, h6, g7⟩ := g6.Q13
  obtain ⟨x6, rfl, k6⟩ := (h6.sl1 (f := NodeTerm.cells) (ok := Qau) fun r hr => (Qtq hr))
  obtain ⟨a7, b7, rfl, h7, g8⟩ := g7.Q13
  obtain ⟨x7, rfl, k7⟩ := (h7.sl1 (f := PodTerm.cells) (ok := Qd7) fun r hr => (Qwd hr))
  obtain ⟨a8, b8, rfl, h8, g9⟩ := g8.Q13
  obtain ⟨x8, rfl, k8⟩ := (h8.sl1 (f := SpreadRule.cells) (ok := Q83) fun r hr => (Qj2 hr))
  obtain ⟨a9, b9, rfl, h9, g10⟩ := g9.Q13
  obtain ⟨x9, rfl, k9⟩ := (h9.sl1 (f := Toleration.cells) (ok := Q8b) fun r hr => (Qj0 hr))
  have e := g10.empty
  subst e
  exact ⟨⟨x0, x1, x2, x3, x4, x5, x6, x7, x8, x9⟩, rfl, ⟨k0, k1, k2, k3, k4, k5, k6, k7, k8, k9⟩⟩
def Q6x : Ty := .st [.str, .int .i64, .int .i64, .int .i64, .int .i64, .bool, .bool]
def Q5c (x : ContainerStatus) : Prop := okS x.name ∧ Q3s x.state ∧ Q3s x.restarts ∧ Q3s x.exitCode ∧ Q3s x.since ∧ (fun _ : Bool => True) x.ready ∧ (fun _ : Bool => True) x.started
theorem Qa4 {c : List PV} (h : Of Γ Q6x c) : ∃ x : ContainerStatus, c = x.cells ∧ Q5c x := by
  have g0 := h.st1
  obtain ⟨a0, b0, rfl, h0, g1⟩ := g0.Q13
  obtain ⟨x0, rfl, k0⟩ := h0.str1
  obtain ⟨a1, b1, rfl, h1, g2⟩ := g1.Q13
  obtain ⟨x1, rfl, k1⟩ := h1.i64
  obtain ⟨a2, b2, rfl, h2, g3⟩ := g2.Q13
  obtain ⟨x2, rfl, k2⟩ := h2.i64
  obtain ⟨a3, b3, rfl, h3, g4⟩ := g3.Q13
  obtain ⟨x3, rfl, k3⟩ := h3.i64
  obtain ⟨a4, b4, rfl, h4, g5⟩ := g4.Q13
  obtain ⟨x4, rfl, k4⟩ := h4.i64
  obtain ⟨a5, b5, rfl, h5, g6⟩ := g5.Q13
  obtain ⟨x5, rfl, k5⟩ := h5.bool2
  obtain ⟨a6, b6, rfl, h6, g7⟩ := g6.Q13
  obtain ⟨x6, rfl, k6⟩ := h6.bool2
  have e := g7.empty
  subst e
  exact ⟨⟨x0, x1, x2, x3, x4, x5, x6⟩, rfl, ⟨k0, k1, k2, k3, k4, k5, k6⟩⟩
def Qeb : Ty := .st [.int .i64, .bool, .int .i64, .int .i64, .int .i64, .sl 56 Q6x, .int .i64, .str, .str]
def Qdz (x : PodStatus) : Prop := Q3s x.phase ∧ (fun _ : Bool => True) x.ready ∧ Q3s x.readySince ∧ Q3s x.started ∧ Q3s x.finished ∧ (okL 56 Q5c) x.containers ∧ Q3s x.address ∧ okS x.nominated ∧ okS x.reason
theorem Qmx {c : List PV} (h : Of Γ Qeb c) : ∃ x : PodStatus, c = x.cells ∧ Qdz x := by
  have g0 := h.st1
  obtain ⟨a0, b0, rfl, h0, g1⟩ := g0.Q13
  obtain ⟨x0, rfl, k0⟩ := h0.i64
  obtain ⟨a1, b1, rfl, h1, g2⟩ := g1.Q13
  obtain ⟨x1, rfl, k1⟩ := h1.bool2
  obtain ⟨a2, b2, rfl, h2, g3⟩ := g2.Q13
  obtain ⟨x2, rfl, k2⟩ := h2.i64
  obtain ⟨a3, b3, rfl, h3, g4⟩ := g3.Q13
  obtain ⟨x3, rfl, k3⟩ := h3.i64
  obtain ⟨a4, b4, rfl, h4, g5⟩ := g4.Q13
  obtain ⟨x4, rfl, k4⟩ := h4.i64
  obtain ⟨a5, b5, rfl, h5, g6⟩ := g5.Q13
  obtain ⟨x5, rfl, k5⟩ := (h5.sl1 (f := ContainerStatus.cells) (ok := Q5c) fun r hr => (Qa4 hr))
  obtain ⟨a6, b6, rfl, h6, g7⟩ := g6.Q13
  obtain ⟨x6, rfl, k6⟩ := h6.i64
  obtain ⟨a7, b7, rfl, h7, g8⟩ := g7.Q13
  obtain ⟨x7, rfl, k7⟩ := h7.str1
  obtain ⟨a8, b8, rfl, h8, g9⟩ := g8.Q13
  obtain ⟨x8, rfl, k8⟩ := h8.str1
  have e := g9.empty
  subst e
  exact ⟨⟨x0, x1, x2, x3, x4, x5, x6, x7, x8⟩, rfl, ⟨k0, k1, k2, k3, k4, k5, k6, k7, k8⟩⟩
def Q1ee : Ty := .st [Q1a3, Qqr, Qeb]
def Q1an (x : Pod) : Prop := Qao x.meta_ ∧ Qql x.spec ∧ Qdz x.status
theorem Q1c1 {c : List PV} (h : Of Γ Q1ee c) : ∃ x : Pod, c = x.cells ∧ Q1an x := by
  have g0 := h.st1
  obtain ⟨a0, b0, rfl, h0, g1⟩ := g0.Q13
  obtain ⟨x0, rfl, k0⟩ := (Q1bg h0)
  obtain ⟨a1, b1, rfl, h1, g2⟩ := g1.Q13
  obtain ⟨x1, rfl, k1⟩ := (Qx6 h1)
  obtain ⟨a2, b2, rfl, h2, g3⟩ := g2.Q13
  obtain ⟨x2, rfl, k2⟩ := (Qmx h2)
  have e := g3.empty
  subst e
  exact ⟨⟨x0, x1, x2⟩, rfl, ⟨k0, k1, k2⟩⟩
def Q8v (_N : Nat) (_x : Probe) : Prop := True
theorem Qam {N : Nat} {x : Probe} (_h : CapL N x.cells) : Q8v N x := trivial
theorem Probe.Q38 {N : Nat} (_ : N ≤ sB) {x : Probe} (_ : Q8v N x) : Probe.sm x := trivial
def Q68 (_N : Nat) (_x : Resources) : Prop := True
theorem Q8z {N : Nat} {x : Resources} (_h : CapL N x.cells) : Q68 N x := trivial
theorem Resources.Q38 {N : Nat} (_ : N ≤ sB) {x : Resources} (_ : Q68 N x) : Resources.sm x := trivial
def Q81 (N : Nat) (x : Container) : Prop := (fun s : ByteArray => s.size ≤ N) x.name ∧ (fun s : ByteArray => s.size ≤ N) x.image ∧ (Q68 N) x.request ∧ (Q68 N) x.limit ∧ (fun l : List Probe => l.length ≤ N ∧ ∀ x ∈ l, (Q8v N) x) x.live ∧ (fun l : List Probe => l.length ≤ N ∧ ∀ x ∈ l, (Q8v N) x) x.ready ∧ (fun l : List Probe => l.length ≤ N ∧ ∀ x ∈ l, (Q8v N) x) x.startup
theorem Qjf {N : Nat} {x : Container} (h : CapL N x.cells) : Q81 N x := ⟨(let g : CapL N [.str x.name] := fun p hp => h p (by simp only [List.mem_cons, List.not_mem_nil, or_false] at hp; rcases hp with rfl <;> simp [Container.cells]); (g _ List.mem_cons_self).strI), (let g : CapL N [.str x.image] := fun p hp => h p (by simp only [List.mem_cons, List.not_mem_nil, or_false] at hp; rcases hp with rfl <;> simp [Container.cells]); (g _ List.mem_cons_self).strI), (let g : CapL N [.int .i64 x.request.cPU, .int .i64 x.request.memory, .int .i64 x.request.disk] := fun p hp => h p (by simp only [List.mem_cons, List.not_mem_nil, or_false] at hp; rcases hp with rfl | rfl | rfl <;> simp [Container.cells]); (Q8z g)), (let g : CapL N [.int .i64 x.limit.cPU, .int .i64 x.limit.memory, .int .i64 x.limit.disk] := fun p hp => h p (by simp only [List.mem_cons, List.not_mem_nil, or_false] at hp; rcases hp with rfl | rfl | rfl <;> simp [Container.cells]); (Q8z g)), (let g : CapL N [.sl (Probe.rows x.live)] := fun p hp => h p (by simp only [List.mem_cons, List.not_mem_nil, or_false] at hp; rcases hp with rfl <;> simp [Container.cells]); (let r := Cap.Q7w (f := Probe.cells) (g _ List.mem_cons_self); ⟨r.1, fun x hx => (Qam (r.2 x hx))⟩)), (let g : CapL N [.sl (Probe.rows x.ready)] := fun p hp => h p (by simp only [List.mem_cons, List.not_mem_nil, or_false] at hp; rcases hp with rfl <;> simp [Container.cells]); (let r := Cap.Q7w (f := Probe.cells) (g _ List.mem_cons_self); ⟨r.1, fun x hx => (Qam (r.2 x hx))⟩)), (let g : CapL N [.sl (Probe.rows x.startup)] := fun p hp => h p (by simp only [List.mem_cons, List.not_mem_nil, or_false] at hp; rcases hp with rfl <;> simp [Container.cells]); (let r := Cap.Q7w (f := Probe.cells) (g _ List.mem_cons_self); ⟨r.1, fun x hx => (Qam (r.2 x hx))⟩))⟩
theorem Container.Q38 {N : Nat} (hN : N ≤ sB) {x : Container} (c : Q81 N x) : Container.sm x := ⟨Resources.Q38 hN c.2.2.1, Resources.Q38 hN c.2.2.2.1, ⟨Nat.le_trans c.2.2.2.2.1.1 hN, fun _ hx => Probe.Q38 hN (c.2.2.2.2.1.2 _ hx)⟩, ⟨Nat.le_trans c.2.2.2.2.2.1.1 hN, fun _ hx => Probe.Q38 hN (c.2.2.2.2.2.1.2 _ hx)⟩, ⟨Nat.le_trans c.2.2.2.2.2.2.1 hN, fun _ hx => Probe.Q38 hN (c.2.2.2.2.2.2.2 _ hx)⟩, trivial⟩
def Q3m (N : Nat) (x : Requirement) : Prop := (fun s : ByteArray => s.size ≤ N) x.key ∧ (fun l : List ByteArray => l.length ≤ N ∧ ∀ x ∈ l, (fun s : ByteArray => s.size ≤ N) x) x.values
theorem Q43 {N : Nat} {x : Requirement} (h : CapL N x.cells) : Q3m N x := ⟨(let g : CapL N [.str x.key] := fun p hp => h p (by simp only [List.mem_cons, List.not_mem_nil, or_false] at hp; rcases hp with rfl <;> simp [Requirement.cells]); (g _ List.mem_cons_self).strI), (let g : CapL N [.sl (Qe x.values)] := fun p hp => h p (by simp only [List.mem_cons, List.not_mem_nil, or_false] at hp; rcases hp with rfl <;> simp [Requirement.cells]); (let r := Cap.Q7w (f := (fun s : ByteArray => [.str s])) (g _ List.mem_cons_self); ⟨r.1, fun x hx => ((r.2 x hx) _ List.mem_cons_self).strI⟩))⟩
theorem Requirement.Q38 {N : Nat} (hN : N ≤ sB) {x : Requirement} (c : Q3m N x) : Requirement.sm x := ⟨⟨Nat.le_trans c.2.1 hN, fun _ _hx => trivial⟩, trivial⟩
def Q8o (N : Nat) (x : NodeTerm) : Prop := (fun l : List Requirement => l.length ≤ N ∧ ∀ x ∈ l, (Q3m N) x) x.selector
theorem Qn1 {N : Nat} {x : NodeTerm} (h : CapL N x.cells) : Q8o N x := (let g : CapL N [.sl (Requirement.rows x.selector)] := fun p hp => h p (by simp only [List.mem_cons, List.not_mem_nil, or_false] at hp; rcases hp with rfl <;> simp [NodeTerm.cells]); (let r := Cap.Q7w (f := Requirement.cells) (g _ List.mem_cons_self); ⟨r.1, fun x hx => (Q43 (r.2 x hx))⟩))
theorem NodeTerm.Q38 {N : Nat} (hN : N ≤ sB) {x : NodeTerm} (c : Q8o N x) : NodeTerm.sm x := ⟨⟨Nat.le_trans c.1 hN, fun _ hx => Requirement.Q38 hN (c.2 _ hx)⟩, trivial⟩
def Qaz (N : Nat) (x : PodTerm) : Prop := (fun l : List Requirement => l.length ≤ N ∧ ∀ x ∈ l, (Q3m N) x) x.selector ∧ (fun s : ByteArray => s.size ≤ N) x.topology
theorem Qt6 {N : Nat} {x : PodTerm} (h : CapL N x.cells) : Qaz N x := ⟨(let g : CapL N [.sl (Requirement.rows x.selector)] := fun p hp => h p (by simp only [List.mem_cons, List.not_mem_nil, or_false] at hp; rcases hp with rfl <;> simp [PodTerm.cells]); (let r := Cap.Q7w (f := Requirement.cells) (g _ List.mem_cons_self); ⟨r.1, fun x hx => (Q43 (r.2 x hx))⟩)), (let g : CapL N [.str x.topology] := fun p hp => h p (by simp only [List.mem_cons, List.not_mem_nil, or_false] at hp; rcases hp with rfl <;> simp [PodTerm.cells]); (g _ List.mem_cons_self).strI)⟩
theorem PodTerm.Q38 {N : Nat} (hN : N ≤ sB) {x : PodTerm} (c : Qaz N x) : PodTerm.sm x := ⟨⟨Nat.le_trans c.1.1 hN, fun _ hx => Requirement.Q38 hN (c.1.2 _ hx)⟩, trivial⟩
def Q7b (N : Nat) (x : SpreadRule) : Prop := (fun s : ByteArray => s.size ≤ N) x.topology ∧ (fun l : List Requirement => l.length ≤ N ∧ ∀ x ∈ l, (Q3m N) x) x.selector
theorem Qeo {N : Nat} {x : SpreadRule} (h : CapL N x.cells) : Q7b N x := ⟨(let g : CapL N [.str x.topology] := fun p hp => h p (by simp only [List.mem_cons, List.not_mem_nil, or_false] at hp; rcases hp with rfl <;> simp [SpreadRule.cells]); (g _ List.mem_cons_self).strI), (let g : CapL N [.sl (Requirement.rows x.selector)] := fun p hp => h p (by simp only [List.mem_cons, List.not_mem_nil, or_false] at hp; rcases hp with rfl <;> simp [SpreadRule.cells]); (let r := Cap.Q7w (f := Requirement.cells) (g _ List.mem_cons_self); ⟨r.1, fun x hx => (Q43 (r.2 x hx))⟩))⟩
theorem SpreadRule.Q38 {N : Nat} (hN : N ≤ sB) {x : SpreadRule} (c : Q7b N x) : SpreadRule.sm x := ⟨⟨Nat.le_trans c.2.1 hN, fun _ hx => Requirement.Q38 hN (c.2.2 _ hx)⟩, trivial⟩
def Q7j (N : Nat) (x : Toleration) : Prop := (fun s : ByteArray => s.size ≤ N) x.key ∧ (fun s : ByteArray => s.size ≤ N) x.value
theorem Qej {N : Nat} {x : Toleration} (h : CapL N x.cells) : Q7j N x := ⟨(let g : CapL N [.str x.key] := fun p hp => h p (by simp only [List.mem_cons, List.not_mem_nil, or_false] at hp; rcases hp with rfl <;> simp [Toleration.cells]); (g _ List.mem_cons_self).strI), (let g : CapL N [.str x.value] := fun p hp => h p (by simp only [List.mem_cons, List.not_mem_nil, or_false] at hp; rcases hp with rfl <;> simp [Toleration.cells]); (g _ List.mem_cons_self).strI)⟩
theorem Toleration.Q38 {N : Nat} (_ : N ≤ sB) {x : Toleration} (_ : Q7j N x) : Toleration.sm x := trivial
def Q7z (N : Nat) (x : PodSpec) : Prop := (fun s : ByteArray => s.size ≤ N) x.node ∧ (fun l : List Container => l.length ≤ N ∧ ∀ x ∈ l, (Q81 N) x) x.containers ∧ (fun l : List Requirement => l.length ≤ N ∧ ∀ x ∈ l, (Q3m N) x) x.nodeSelector ∧ (fun l : List NodeTerm => l.length ≤ N ∧ ∀ x ∈ l, (Q8o N) x) x.nodeTerms ∧ (fun l : List PodTerm => l.length ≤ N ∧ ∀ x ∈ l, (Qaz N) x) x.podTerms ∧ (fun l : List SpreadRule => l.length ≤ N ∧ ∀ x ∈ l, (Q7b N) x) x.spread ∧ (fun l : List Toleration => l.length ≤ N ∧ ∀ x ∈ l, (Q7j N) x) x.tolerations
theorem Qsg {N : Nat} {x : PodSpec} (h : CapL N x.cells) : Q7z N x := ⟨(let g : CapL N [.str x.node] := fun p hp => h p (by simp only [List.mem_cons, List.not_mem_nil, or_false] at hp; rcases hp with rfl <;> simp [PodSpec.cells]); (g _ List.mem_cons_self).strI), (let g : CapL N [.sl (Container.rows x.containers)] := fun p hp => h p (by simp only [List.mem_cons, List.not_mem_nil, or_false] at hp; rcases hp with rfl <;> simp [PodSpec.cells]); (let r := Cap.Q7w (f := Container.cells) (g _ List.mem_cons_self); ⟨r.1, fun x hx => (Qjf (r.2 x hx))⟩)), (let g : CapL N [.sl (Requirement.rows x.nodeSelector)] := fun p hp => h p (by simp only [List.mem_cons, List.not_mem_nil, or_false] at hp; rcases hp with rfl <;> simp [PodSpec.cells]); (let r := Cap.Q7w (f := Requirement.cells) (g _ List.mem_cons_self); ⟨r.1, fun x hx => (Q43 (r.2 x hx))⟩)), (let g : CapL N [.sl (NodeTerm.rows x.nodeTerms)] := fun p hp => h p (by simp only [List.mem_cons, List.not_mem_nil, or_false] at hp; rcases hp with rfl <;> simp [PodSpec.cells]); (let r := Cap.Q7w (f := NodeTerm.cells) (g _ List.mem_cons_self); ⟨r.1, fun x hx => (Qn1 (r.2 x hx))⟩)), (let g : CapL N [.sl (PodTerm.rows x.podTerms)] := fun p hp => h p (by simp only [List.mem_cons, List.not_mem_nil, or_false] at hp; rcases hp with rfl <;> simp [PodSpec.cells]); (let r := Cap.Q7w (f := PodTerm.cells) (g _ List.mem_cons_self); ⟨r.1, fun x hx => (Qt6 (r.2 x hx))⟩)), (let g : CapL N [.sl (SpreadRule.rows x.spread)] := fun p hp => h p (by simp only [List.mem_cons, List.not_mem_nil, or_false] at hp; rcases hp with rfl <;> simp [PodSpec.cells]); (let r := Cap.Q7w (f := SpreadRule.cells) (g _ List.mem_cons_self); ⟨r.1, fun x hx => (Qeo (r.2 x hx))⟩)), (let g : CapL N [.sl (Toleration.rows x.tolerations)] := fun p hp => h p (by simp only [List.mem_cons, List.not_mem_nil, or_false] at hp; rcases hp with rfl <;> simp [PodSpec.cells]); (let r := Cap.Q7w (f := Toleration.cells) (g _ List.mem_cons_self); ⟨r.1, fun x hx => (Qej (r.2 x hx))⟩))⟩
theorem PodSpec.Q38 {N : Nat} (hN : N ≤ sB) {x : PodSpec} (c : Q7z N x) : PodSpec.sm x := ⟨⟨Nat.le_trans c.2.1.1 hN, fun _ hx => Container.Q38 hN (c.2.1.2 _ hx)⟩, ⟨Nat.le_trans c.2.2.1.1 hN, fun _ hx => Requirement.Q38 hN (c.2.2.1.2 _ hx)⟩, ⟨Nat.le_trans c.2.2.2.1.1 hN, fun _ hx => NodeTerm.Q38 hN (c.2.2.2.1.2 _ hx)⟩, ⟨Nat.le_trans c.2.2.2.2.1.1 hN, fun _ hx => PodTerm.Q38 hN (c.2.2.2.2.1.2 _ hx)⟩, ⟨Nat.le_trans c.2.2.2.2.2.1.1 hN, fun _ hx => SpreadRule.Q38 hN (c.2.2.2.2.2.1.2 _ hx)⟩, ⟨Nat.le_trans c.2.2.2.2.2.2.1 hN, fun _ hx => Toleration.Q38 hN (c.2.2.2.2.2.2.2 _ hx)⟩, trivial⟩
def Q53 (N : Nat) (x : ContainerStatus) : Prop := (fun s : ByteArray => s.size ≤ N) x.name
theorem Q8q {N : Nat} {x : ContainerStatus} (h : CapL N x.cells) : Q53 N x := (let g : CapL N [.str x.name] := fun p hp => h p (by simp only [List.mem_cons, List.not_mem_nil, or_false] at hp; rcases hp with rfl <;> simp [ContainerStatus.cells]); (g _ List.mem_cons_self).strI)
theorem ContainerStatus.Q38 {N : Nat} (_ : N ≤ sB) {x : ContainerStatus} (_ : Q53 N x) : ContainerStatus.sm x := trivial
def Q8a (N : Nat) (x : PodStatus) : Prop := (fun l : List ContainerStatus => l.length ≤ N ∧ ∀ x ∈ l, (Q53 N) x) x.containers ∧ (fun s : ByteArray => s.size ≤ N) x.nominated ∧ (fun s : ByteArray => s.size ≤ N) x.reason
theorem Qhp {N : Nat} {x : PodStatus} (h : CapL N x.cells) : Q8a N x := ⟨(let g : CapL N [.sl (ContainerStatus.rows x.containers)] := fun p hp => h p (by simp only [List.mem_cons, List.not_mem_nil, or_false] at hp; rcases hp with rfl <;> simp [PodStatus.cells]); (let r := Cap.Q7w (f := ContainerStatus.cells) (g _ List.mem_cons_self); ⟨r.1, fun x hx => (Q8q (r.2 x hx))⟩)), (let g : CapL N [.str x.nominated] := fun p hp => h p (by simp only [List.mem_cons, List.not_mem_nil, or_false] at hp; rcases hp with rfl <;> simp [PodStatus.cells]); (g _ List.mem_cons_self).strI), (let g : CapL N [.str x.reason] := fun p hp => h p (by simp only [List.mem_cons, List.not_mem_nil, or_false] at hp; rcases hp with rfl <;> simp [PodStatus.cells]); (g _ List.mem_cons_self).strI)⟩
theorem PodStatus.Q38 {N : Nat} (hN : N ≤ sB) {x : PodStatus} (c : Q8a N x) : PodStatus.sm x := ⟨⟨Nat.le_trans c.1.1 hN, fun _ hx => ContainerStatus.Q38 hN (c.1.2 _ hx)⟩, trivial⟩
def Q19t (N : Nat) (x : Taint) : Prop := (fun s : ByteArray => s.size ≤ N) x.key ∧ (fun s : ByteArray => s.size ≤ N) x.value
theorem Taint.Q38 {N : Nat} (_ : N ≤ sB) {x : Taint} (_ : Q19t N x) : Taint.sm x := trivial
def Q18r (N : Nat) (x : Image) : Prop := (fun s : ByteArray => s.size ≤ N) x.name
theorem Image.Q38 {N : Nat} (_ : N ≤ sB) {x : Image} (_ : Q18r N x) : Image.sm x := trivial
def Qbw (N : Nat) (x : Label) : Prop := (fun s : ByteArray => s.size ≤ N) x.key ∧ (fun s : ByteArray => s.size ≤ N) x.value
theorem Q101 {N : Nat} {x : Label} (h : CapL N x.cells) : Qbw N x := ⟨(let g : CapL N [.str x.key] := fun p hp => h p (by simp only [List.mem_cons, List.not_mem_nil, or_false] at hp; rcases hp with rfl <;> simp [Label.cells]); (g _ List.mem_cons_self).strI), (let g : CapL N [.str x.value] := fun p hp => h p (by simp only [List.mem_cons, List.not_mem_nil, or_false] at hp; rcases hp with rfl <;> simp [Label.cells]); (g _ List.mem_cons_self).strI)⟩
theorem Label.Q38 {N : Nat} (_ : N ≤ sB) {x : Label} (_ : Qbw N x) : Label.sm x := trivial
def Qw6 (N : Nat) (x : Template) : Prop := (fun l : List Label => l.length ≤ N ∧ ∀ x ∈ l, (Qbw N) x) x.labels ∧ (Q7z N) x.spec
theorem Template.Q38 {N : Nat} (hN : N ≤ sB) {x : Template} (c : Qw6 N x) : Template.sm x := ⟨⟨Nat.le_trans c.1.1 hN, fun _ hx => Label.Q38 hN (c.1.2 _ hx)⟩, PodSpec.Q38 hN c.2, trivial⟩
def Qv5 (N : Nat) (x : Owner) : Prop := (fun s : ByteArray => s.size ≤ N) x.kind ∧ (fun s : ByteArray => s.size ≤ N) x.name
theorem Qzw {N : Nat} {x : Owner} (h : CapL N x.cells) : Qv5 N x := ⟨(let g : CapL N [.str x.kind] := fun p hp => h p (by simp only [List.mem_cons, List.not_mem_nil, or_false] at hp; rcases hp with rfl <;> simp [Owner.cells]); (g _ List.mem_cons_self).strI), (let g : CapL N [.str x.name] := fun p hp => h p (by simp only [List.mem_cons, List.not_mem_nil, or_false] at hp; rcases hp with rfl <;> simp [Owner.cells]); (g _ List.mem_cons_self).strI)⟩
def Qml (N : Nat) (x : Manager) : Prop := (fun s : ByteArray => s.size ≤ N) x.name ∧ (fun l : List ByteArray => l.length ≤ N ∧ ∀ x ∈ l, (fun s : ByteArray => s.size ≤ N) x) x.fields
theorem Qt3 {N : Nat} {x : Manager} (h : CapL N x.cells) : Qml N x := ⟨(let g : CapL N [.str x.name] := fun p hp => h p (by simp only [List.mem_cons, List.not_mem_nil, or_false] at hp; rcases hp with rfl <;> simp [Manager.cells]); (g _ List.mem_cons_self).strI), (let g : CapL N [.sl (Qe x.fields)] := fun p hp => h p (by simp only [List.mem_cons, List.not_mem_nil, or_false] at hp; rcases hp with rfl <;> simp [Manager.cells]); (let r := Cap.Q7w (f := (fun s : ByteArray => [.str s])) (g _ List.mem_cons_self); ⟨r.1, fun x hx => ((r.2 x hx) _ List.mem_cons_self).strI⟩))⟩
def Q117 (N : Nat) (x : Meta) : Prop := (fun s : ByteArray => s.size ≤ N) x.kind ∧ (fun s : ByteArray => s.size ≤ N) x.namespace_ ∧ (fun s : ByteArray => s.size ≤ N) x.name ∧ (fun l : List Label => l.length ≤ N ∧ ∀ x ∈ l, (Qbw N) x) x.labels ∧ (fun l : List Owner => l.length ≤ N ∧ ∀ x ∈ l, (Qv5 N) x) x.owners ∧ (fun l : List ByteArray => l.length ≤ N ∧ ∀ x ∈ l, (fun s : ByteArray => s.size ≤ N) x) x.finalizers ∧ (fun l : List Manager => l.length ≤ N ∧ ∀ x ∈ l, (Qml N) x) x.managers
theorem Q142 {N : Nat} {x : Meta} (h : CapL N x.cells) : Q117 N x := ⟨(let g : CapL N [.str x.kind] := fun p hp => h p (by simp only [List.mem_cons, List.not_mem_nil, or_false] at hp; rcases hp with rfl <;> simp [Meta.cells]); (g _ List.mem_cons_self).strI), (let g : CapL N [.str x.namespace_] := fun p hp => h p (by simp only [List.mem_cons, List.not_mem_nil, or_false] at hp; rcases hp with rfl <;> simp [Meta.cells]); (g _ List.mem_cons_self).strI), (let g : CapL N [.str x.name] := fun p hp => h p (by simp only [List.mem_cons, List.not_mem_nil, or_false] at hp; rcases hp with rfl <;> simp [Meta.cells]); (g _ List.mem_cons_self).strI), (let g : CapL N [.sl (Label.rows x.labels)] := fun p hp => h p (by simp only [List.mem_cons, List.not_mem_nil, or_false] at hp; rcases hp with rfl <;> simp [Meta.cells]); (let r := Cap.Q7w (f := Label.cells) (g _ List.mem_cons_self); ⟨r.1, fun x hx => (Q101 (r.2 x hx))⟩)), (let g : CapL N [.sl (Owner.rows x.owners)] := fun p hp => h p (by simp only [List.mem_cons, List.not_mem_nil, or_false] at hp; rcases hp with rfl <;> simp [Meta.cells]); (let r := Cap.Q7w (f := Owner.cells) (g _ List.mem_cons_self); ⟨r.1, fun x hx => (Qzw (r.2 x hx))⟩)), (let g : CapL N [.sl (Qe x.finalizers)] := fun p hp => h p (by simp only [List.mem_cons, List.not_mem_nil, or_false] at hp; rcases hp with rfl <;> simp [Meta.cells]); (let r := Cap.Q7w (f := (fun s : ByteArray => [.str s])) (g _ List.mem_cons_self); ⟨r.1, fun x hx => ((r.2 x hx) _ List.mem_cons_self).strI⟩)), (let g : CapL N [.sl (Manager.rows x.managers)] := fun p hp => h p (by simp only [List.mem_cons, List.not_mem_nil, or_false] at hp; rcases hp with rfl <;> simp [Meta.cells]); (let r := Cap.Q7w (f := Manager.cells) (g _ List.mem_cons_self); ⟨r.1, fun x hx => (Qt3 (r.2 x hx))⟩))⟩
def Qsc (N : Nat) (x : Pod) : Prop := (Q117 N) x.meta_ ∧ (Q7z N) x.spec ∧ (Q8a N) x.status
theorem Q18v {N : Nat} {x : Pod} (h : CapL N x.cells) : Qsc N x := ⟨(let g : CapL N [.str x.meta_.kind, .str x.meta_.namespace_, .str x.meta_.name, .int .i64 x.meta_.uid, .int .i64 x.meta_.version, .int .i64 x.meta_.generation, .int .i64 x.meta_.created, .bool x.meta_.deleting, .int .i64 x.meta_.deleteAt, .sl (Label.rows x.meta_.labels), .sl (Owner.rows x.meta_.owners), .sl (Qe x.meta_.finalizers), .sl (Manager.rows x.meta_.managers)] := fun p hp => h p (by simp only [List.mem_cons, List.not_mem_nil, or_false] at hp; rcases hp with rfl | rfl | rfl | rfl | rfl | rfl | rfl | rfl | rfl | rfl | rfl | rfl | rfl <;> simp [Pod.cells]); (Q142 g)), (let g : CapL N [.str x.spec.node, .int .i64 x.spec.priority, .int .i64 x.spec.restart, .int .i64 x.spec.grace, .sl (Container.rows x.spec.containers), .sl (Requirement.rows x.spec.nodeSelector), .sl (NodeTerm.rows x.spec.nodeTerms), .sl (PodTerm.rows x.spec.podTerms), .sl (SpreadRule.rows x.spec.spread), .sl (Toleration.rows x.spec.tolerations)] := fun p hp => h p (by simp only [List.mem_cons, List.not_mem_nil, or_false] at hp; rcases hp with rfl | rfl | rfl | rfl | rfl | rfl | rfl | rfl | rfl | rfl <;> simp [Pod.cells]); (Qsg g)), (let g : CapL N [.int .i64 x.status.phase, .bool x.status.ready, .int .i64 x.status.readySince, .int .i64 x.status.started, .int .i64 x.status.finished, .sl (ContainerStatus.rows x.status.containers), .int .i64 x.status.address, .str x.status.nominated, .str x.status.reason] := fun p hp => h p (by simp only [List.mem_cons, List.not_mem_nil, or_false] at hp; rcases hp with rfl | rfl | rfl | rfl | rfl | rfl | rfl | rfl | rfl <;> simp [Pod.cells]); (Qhp g))⟩
end Go.Proofs.YtiflaadeikaghaaGreat
end

