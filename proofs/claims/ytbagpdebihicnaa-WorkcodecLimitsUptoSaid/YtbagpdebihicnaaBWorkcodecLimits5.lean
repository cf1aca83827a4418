/- Texts of the claim, merged by a program; what the statement does not reach is left out. -/
import Derived.Test.YtbagpdebihicnaaBWorkcodecLimits4
import Derived.Lib.Strings
import Derived.Lib.Slices
import Derived.Lib.Walk
import Derived.Lib.Bytealg
import Derived.Test.YtbagpdebihicnaaRows

section
/- What the laws ask of their arguments (printed by a program). -/
namespace Go.Proofs.Ytbagpdebihicnaa
open Go.Pv
def Qoh : Ty := .st [.str, .str]
def Qh7 (x : Label) : Prop := okS x.key ∧ okS x.value
theorem Qqy {c : List PV} (h : Of Γ Qoh c) : ∃ x : Label, c = x.cells ∧ Qh7 x := by
  have g0 := h.st1
  obtain ⟨a0, b0, rfl, h0, g1⟩ := g0.Q18
  obtain ⟨x0, rfl, k0⟩ := h0.str1
  obtain ⟨a1, b1, rfl, h1, g2⟩ := g1.Q18
  obtain ⟨x1, rfl, k1⟩ := h1.str1
  have e := g2.empty
  subst e
  exact ⟨⟨x0, x1⟩, rfl, ⟨k0, k1⟩⟩
def Qoi : Ty := .st [.str, .str, .int .i64, .bool, .bool]
def Qhb (x : Owner) : Prop := okS x.kind ∧ okS x.name ∧ Q3p x.uid ∧ (fun _ : Bool => True) x.controller ∧ (fun _ : Bool => True) x.block
theorem Qqz {c : List PV} (h : Of Γ Qoi c) : ∃ x : Owner, c = x.cells ∧ Qhb x := by
  have g0 := h.st1
  obtain ⟨a0, b0, rfl, h0, g1⟩ := g0.Q18
  obtain ⟨x0, rfl, k0⟩ := h0.str1
  obtain ⟨a1, b1, rfl, h1, g2⟩ := g1.Q18
  obtain ⟨x1, rfl, k1⟩ := h1.str1
  obtain ⟨a2, b2, rfl, h2, g3⟩ := g2.Q18
  obtain ⟨x2, rfl, k2⟩ := h2.i64
  obtain ⟨a3, b3, rfl, h3, g4⟩ := g3.Q18
  obtain ⟨x3, rfl, k3⟩ := h3.bool2
  obtain ⟨a4, b4, rfl, h4, g5⟩ := g4.Q18
  obtain ⟨x4, rfl, k4⟩ := h4.bool2
  have e := g5.empty
  subst e
  exact ⟨⟨x0, x1, x2, x3, x4⟩, rfl, ⟨k0, k1, k2, k3, k4⟩⟩
def Qe2 : Ty := .st [.str, .sl 16 .str]
def Q89 (x : Manager) : Prop := okS x.name ∧ (okL 16 okS) x.fields
theorem Qj9 {c : List PV} (h : Of Γ Qe2 c) : ∃ x : Manager, c = x.cells ∧ Q89 x := by
  have g0 := h.st1
  obtain ⟨a0, b0, rfl, h0, g1⟩ := g0.Q18
  obtain ⟨x0, rfl, k0⟩ := h0.str1
  obtain ⟨a1, b1, rfl, h1, g2⟩ := g1.Q18
  obtain ⟨x1, rfl, k1⟩ := (h1.sl1 (f := (fun s : ByteArray => [.str s])) (ok := okS) fun r hr => hr.str1)
  have e := g2.empty
  subst e
  exact ⟨⟨x0, x1⟩, rfl, ⟨k0, k1⟩⟩
def Qmr : Ty := .st [.str, .str, .str, .int .i64, .int .i64, .int .i64, .int .i64, .bool, .int .i64, .sl 32 Qoh, .sl 48 Qoi, .sl 16 .str, .sl 40 Qe2]
def Q4r (x : Meta) : Prop := okS x.kind ∧ okS x.namespace_ ∧ okS x.name ∧ Q3p x.uid ∧ Q3p x.version ∧ Q3p x.generation ∧ Q3p x.created ∧ (fun _ : Bool => True) x.deleting ∧ Q3p x.deleteAt ∧ (okL 32 Qh7) x.labels ∧ (okL 48 Qhb) x.owners ∧ (okL 16 okS) x.finalizers ∧ (okL 40 Q89) x.managers
theorem Qja {c : List PV} (h : Of Γ Qmr c) : ∃ x : Meta, c = x.cells ∧ Q4r x := by
  have g0 := h.st1
  obtain ⟨a0, b0, rfl, h0, g1⟩ := g0.Q18
  obtain ⟨x0, rfl, k0⟩ := h0.str1
  obtain ⟨a1, b1, rfl, h1, g2⟩ := g1.Q18
  obtain ⟨x1, rfl, k1⟩ := h1.str1
  obtain ⟨a2, b2, rfl, h2, g3⟩ := g2.Q18
  obtain ⟨x2, rfl, k2⟩ := h2.str1
  obtain ⟨a3, b3, rfl, h3, g4⟩ := g3.Q18
  obtain ⟨x3, rfl, k3⟩ := h3.i64
  obtain ⟨a4, b4, rfl, h4, g5⟩ := g4.Q18
  obtain ⟨x4, rfl, k4⟩ := h4.i64
  obtain ⟨a5, b5, rfl, h5, g6⟩ := g5.Q18
  obtain ⟨x5, rfl, k5⟩ := h5.i64
  obtain ⟨a6, b6, rfl, h6, g7⟩ := g6.Q18
  obtain ⟨x6, rfl, k6⟩ := h6.i64
  obtain ⟨a7, b7, rfl, h7, g8⟩ := g7.Q18
  obtain ⟨x7, rfl, k7⟩ := h7.bool2
  obtain ⟨a8, b8, rfl, h8, g9⟩ := g8.Q18
  obtain ⟨x8, rfl, k8⟩ := h8.i64
  obtain ⟨a9, b9, rfl, h9, g10⟩ := g9.Q18
  obtain ⟨x9, rfl, k9⟩ := (h9.sl1 (f := Label.cells) (ok := Qh7) fun r hr => (Qqy hr))
  obtain ⟨a10, b10, rfl, h10, g11⟩ := g10.Q18
  obtain ⟨x10, rfl, k10⟩ := (h10.sl1 (f := Owner.cells) (ok := Qhb) fun r hr => (Qqz hr))
  obtain ⟨a11, b11, rfl, h11, g12⟩ := g11.Q18
  obtain ⟨x11, rfl, k11⟩ := (h11.sl1 (f := (fun s : ByteArray => [.str s])) (ok := okS) fun r hr => hr.str1)
  obtain ⟨a12, b12, rfl, h12, g13⟩ := g12.Q18
  obtain ⟨x12, rfl, k12⟩ := (h12.sl1 (f := Manager.cells) (ok := Q89) fun r hr => (Qj9 hr))
  have e := g13.empty
  subst e
  exact ⟨⟨x0, x1, x2, x3, x4, x5, x6, x7, x8, x9, x10, x11, x12⟩, rfl, ⟨k0, k1, k2, k3, k4, k5, k6, k7, k8, k9, k10, k11, k12⟩⟩
def Q6p : Ty := .st [.str, .int .i64, .sl 16 .str]
def Q4s (x : Requirement) : Prop := okS x.key ∧ Q3p x.op ∧ (okL 16 okS) x.values
theorem Q98 {c : List PV} (h : Of Γ Q6p c) : ∃ x : Requirement, c = x.cells ∧ Q4s x := by
  have g0 := h.st1
  obtain ⟨a0, b0, rfl, h0, g1⟩ := g0.Q18
  obtain ⟨x0, rfl, k0⟩ := h0.str1
  obtain ⟨a1, b1, rfl, h1, g2⟩ := g1.Q18
  obtain ⟨x1, rfl, k1⟩ := h1.i64
  obtain ⟨a2, b2, rfl, h2, g3⟩ := g2.Q18
  obtain ⟨x2, rfl, k2⟩ := (h2.sl1 (f := (fun s : ByteArray => [.str s])) (ok := okS) fun r hr => hr.str1)
  have e := g3.empty
  subst e
  exact ⟨⟨x0, x1, x2⟩, rfl, ⟨k0, k1, k2⟩⟩
def Qag : Ty := .st [.bool, .int .i64]
def Q5m (x : Amount) : Prop := (fun _ : Bool => True) x.percent ∧ Q3p x.n
theorem Qaf {c : List PV} (h : Of Γ Qag c) : ∃ x : Amount, c = x.cells ∧ Q5m x := by
  have g0 := h.st1
  obtain ⟨a0, b0, rfl, h0, g1⟩ := g0.Q18
  obtain ⟨x0, rfl, k0⟩ := h0.bool2
  obtain ⟨a1, b1, rfl, h1, g2⟩ := g1.Q18
  obtain ⟨x1, rfl, k1⟩ := h1.i64
  have e := g2.empty
  subst e
  exact ⟨⟨x0, x1⟩, rfl, ⟨k0, k1⟩⟩
def Qbs : Ty := .st [.str, .int .i64]
def Q6x (x : WorkItem) : Prop := okS x.key ∧ Q3p x.at_
theorem Qhw {c : List PV} (h : Of Γ Qbs c) : ∃ x : WorkItem, c = x.cells ∧ Q6x x := by
  have g0 := h.st1
  obtain ⟨a0, b0, rfl, h0, g1⟩ := g0.Q18
  obtain ⟨x0, rfl, k0⟩ := h0.str1
  obtain ⟨a1, b1, rfl, h1, g2⟩ := g1.Q18
  obtain ⟨x1, rfl, k1⟩ := h1.i64
  have e := g2.empty
  subst e
  exact ⟨⟨x0, x1⟩, rfl, ⟨k0, k1⟩⟩
def Qir : Ty := .st [Qmr, .sl 48 Q6p, .sl 16 Qag, .sl 16 Qag, .int .i64, .int .i64, .int .i64, .int .i64, .int .i64, .sl 24 Qbs]
def Qah (x : Budget) : Prop := Q4r x.meta_ ∧ (okL 48 Q4s) x.selector ∧ (okL 16 Q5m) x.minAvailable ∧ (okL 16 Q5m) x.maxUnavailable ∧ Q3p x.observed ∧ Q3p x.healthy ∧ Q3p x.desired ∧ Q3p x.expected ∧ Q3p x.allowed ∧ (okL 24 Q6x) x.disrupted
theorem Qmn {c : List PV} (h : Of Γ Qir c) : ∃ x : Budget, c = x.cells ∧ Qah x := by
  have g0 := h.st1
  obtain ⟨a0, b0, rfl, h0, g1⟩ := g0.Q18
  obtain ⟨x0, rfl, k0⟩ := (Qja h0)
  obtain ⟨a1, b1, rfl, h1, g2⟩ := g1.Q18
  obtain ⟨x1, rfl, k1⟩ := (h1.sl1 (f := Requirement.cells) (ok := Q4s) fun r hr => (Q98 hr))
  obtain ⟨a2, b2, rfl, h2, g3⟩ := g2.Q18
  obtain ⟨x2, rfl, k2⟩ := (h2.sl1 (f := Amount.cells) (ok := Q5m) fun r hr => (Qaf hr))
  obtain ⟨a3, b3, rfl, h3, g4⟩ := g3.Q18
  obtain ⟨x3, rfl, k3⟩ := (h3.sl1 (f := Amount.cells) (ok := Q5m) fun r hr => (Qaf hr))
  obtain ⟨a4, b4, rfl, h4, g5⟩ := g4.Q18
  obtain ⟨x4, rfl, k4⟩ := h4.i64
  obtain ⟨a5, b5, rfl, h5, g6⟩ := g5.Q18
  obtain ⟨x5, rfl, k5⟩ := h5.i64
  obtain ⟨a6, b6, rfl, h6, g7⟩ := g6.Q18
  obtain ⟨x6, rfl, k6⟩ := h6.i64
  obtain ⟨a7, b7, rfl, h7, g8⟩ := g7.Q18
  obtain ⟨x7, rfl, k7⟩ := h7.i64
  obtain ⟨a8, b8, rfl, h8, g9⟩ := g8.Q18
  obtain ⟨x8, rfl, k8⟩ := h8.i64
  obtain ⟨a9, b9, rfl, h9, g10⟩ := g9.Q18
  obtain ⟨x9, rfl, k9⟩ := (h9.sl1 (f := WorkItem.cells) (ok := Q6x) fun r hr => (Qhw hr))
  have e := g10.empty
  subst e
  exact ⟨⟨x0, x1, x2, x3, x4, x5, x6, x7, x8, x9⟩, rfl, ⟨k0, k1, k2, k3, k4, k5, k6, k7, k8, k9⟩⟩
def Q5r : Ty := .st [.int .i64, .int .i64, .int .i64]
def Q5q (x : Resources) : Prop := Q3p x.cPU ∧ Q3p x.memory ∧ Q3p x.disk
theorem Q6q {c : List PV} (h : Of Γ Q5r c) : ∃ x : Resources, c = x.cells ∧ Q5q x := by
  have g0 := h.st1
  obtain ⟨a0, b0, rfl, h0, g1⟩ := g0.Q18
  obtain ⟨x0, rfl, k0⟩ := h0.i64
  obtain ⟨a1, b1, rfl, h1, g2⟩ := g1.Q18
  obtain ⟨x1, rfl, k1⟩ := h1.i64
  obtain ⟨a2, b2, rfl, h2, g3⟩ := g2.Q18
  obtain ⟨x2, rfl, k2⟩ := h2.i64
  have e := g3.empty
  subst e
  exact ⟨⟨x0, x1, x2⟩, rfl, ⟨k0, k1, k2⟩⟩
def Qok : Ty := .st [Qmr, Q5r, Q5r, .int .i64, .int .i64]
def Qhv (x : Quota) : Prop := Q4r x.meta_ ∧ Q5q x.hard ∧ Q5q x.used ∧ Q3p x.pods ∧ Q3p x.has
theorem Qr0 {c : List PV} (h : Of Γ Qok c) : ∃ x : Quota, c = x.cells ∧ Qhv x := by
  have g0 := h.st1
  obtain ⟨a0, b0, rfl, h0, g1⟩ := g0.Q18
  obtain ⟨x0, rfl, k0⟩ := (Qja h0)
  obtain ⟨a1, b1, rfl, h1, g2⟩ := g1.Q18
  obtain ⟨x1, rfl, k1⟩ := (Q6q h1)
  obtain ⟨a2, b2, rfl, h2, g3⟩ := g2.Q18
  obtain ⟨x2, rfl, k2⟩ := (Q6q h2)
  obtain ⟨a3, b3, rfl, h3, g4⟩ := g3.Q18
  obtain ⟨x3, rfl, k3⟩ := h3.i64
  obtain ⟨a4, b4, rfl, h4, g5⟩ := g4.Q18
  obtain ⟨x4, rfl, k4⟩ := h4.i64
  have e := g5.empty
  subst e
  exact ⟨⟨x0, x1, x2, x3, x4⟩, rfl, ⟨k0, k1, k2, k3, k4⟩⟩
def Q41 (N : Nat) (x : Requirement) : Prop := (fun s : ByteArray => s.size ≤ N) x.key ∧ (fun l : List ByteArray => l.length ≤ N ∧ ∀ x ∈ l, (fun s : ByteArray => s.size ≤ N) x) x.values
theorem Q8h {N : Nat} {x : Requirement} (h : CapL N x.cells) : Q41 N x := ⟨(let g : CapL N [.str x.key] := fun p hp => h p (by simp only [List.mem_cons, List.not_mem_nil, or_false] at hp; rcases hp with rfl <;> simp [Requirement.cells]); (g _ List.mem_cons_self).strI), (let g : CapL N [.sl (Qg x.values)] := fun p hp => h p (by simp only [List.mem_cons, List.not_mem_nil, or_false] at hp; rcases hp with rfl <;> simp [Requirement.cells]); (let r := Cap.Qdh (f := (fun s : ByteArray => [.str s])) (g _ List.mem_cons_self); ⟨r.1, fun x hx => ((r.2 x hx) _ List.mem_cons_self).strI⟩))⟩
theorem Requirement.Q4z {N : Nat} (hN : N ≤ sB) {x : Requirement} (c : Q41 N x) : Requirement.sm x := ⟨⟨Nat.le_trans c.2.1 hN, fun _ _hx => trivial⟩, trivial⟩
def Q69 (_N : Nat) (_x : Amount) : Prop := True
theorem Q8v {N : Nat} {x : Amount} (_h : CapL N x.cells) : Q69 N x := trivial
theorem Amount.Q4z {N : Nat} (_ : N ≤ sB) {x : Amount} (_ : Q69 N x) : Amount.sm x := trivial
def Q5t (N : Nat) (x : WorkItem) : Prop := (fun s : ByteArray => s.size ≤ N) x.key
theorem Qdd {N : Nat} {x : WorkItem} (h : CapL N x.cells) : Q5t N x := (let g : CapL N [.str x.key] := fun p hp => h p (by simp only [List.mem_cons, List.not_mem_nil, or_false] at hp; rcases hp with rfl <;> simp [WorkItem.cells]); (g _ List.mem_cons_self).strI)
theorem WorkItem.Q4z {N : Nat} (_ : N ≤ sB) {x : WorkItem} (_ : Q5t N x) : WorkItem.sm x := trivial
def Q3s (_N : Nat) (_x : Resources) : Prop := True
theorem Q5p {N : Nat} {x : Resources} (_h : CapL N x.cells) : Q3s N x := trivial
theorem Resources.Q4z {N : Nat} (_ : N ≤ sB) {x : Resources} (_ : Q3s N x) : Resources.sm x := trivial
def Qj8 (N : Nat) (x : Label) : Prop := (fun s : ByteArray => s.size ≤ N) x.key ∧ (fun s : ByteArray => s.size ≤ N) x.value
theorem Qmq {N : Nat} {x : Label} (h : CapL N x.cells) : Qj8 N x := ⟨(let g : CapL N [.str x.key] := fun p hp => h p (by simp only [List.mem_cons, List.not_mem_nil, or_false] at hp; rcases hp with rfl <;> simp [Label.cells]); (g _ List.mem_cons_self).strI), (let g : CapL N [.str x.value] := fun p hp => h p (by simp only [List.mem_cons, List.not_mem_nil, or_false] at hp; rcases hp with rfl <;> simp [Label.cells]); (g _ List.mem_cons_self).strI)⟩
def Qjb (N : Nat) (x : Owner) : Prop := (fun s : ByteArray => s.size ≤ N) x.kind ∧ (fun s : ByteArray => s.size ≤ N) x.name
theorem Qms {N : Nat} {x : Owner} (h : CapL N x.cells) : Qjb N x := ⟨(let g : CapL N [.str x.kind] := fun p hp => h p (by simp only [List.mem_cons, List.not_mem_nil, or_false] at hp; rcases hp with rfl <;> simp [Owner.cells]); (g _ List.mem_cons_self).strI), (let g : CapL N [.str x.name] := fun p hp => h p (by simp only [List.mem_cons, List.not_mem_nil, or_false] at hp; rcases hp with rfl <;> simp [Owner.cells]); (g _ List.mem_cons_self).strI)⟩
def Qbi (N : Nat) (x : Manager) : Prop := (fun s : ByteArray => s.size ≤ N) x.name ∧ (fun l : List ByteArray => l.length ≤ N ∧ ∀ x ∈ l, (fun s : ByteArray => s.size ≤ N) x) x.fields
theorem Qh9 {N : Nat} {x : Manager} (h : CapL N x.cells) : Qbi N x := ⟨(let g : CapL N [.str x.name] := fun p hp => h p (by simp only [List.mem_cons, List.not_mem_nil, or_false] at hp; rcases hp with rfl <;> simp [Manager.cells]); (g _ List.mem_cons_self).strI), (let g : CapL N [.sl (Qg x.fields)] := fun p hp => h p (by simp only [List.mem_cons, List.not_mem_nil, or_false] at hp; rcases hp with rfl <;> simp [Manager.cells]); (let r := Cap.Qdh (f := (fun s : ByteArray => [.str s])) (g _ List.mem_cons_self); ⟨r.1, fun x hx => ((r.2 x hx) _ List.mem_cons_self).strI⟩))⟩
def Qha (N : Nat) (x : Meta) : Prop := (fun s : ByteArray => s.size ≤ N) x.kind ∧ (fun s : ByteArray => s.size ≤ N) x.namespace_ ∧ (fun s : ByteArray => s.size ≤ N) x.name ∧ (fun l : List Label => l.length ≤ N ∧ ∀ x ∈ l, (Qj8 N) x) x.labels ∧ (fun l : List Owner => l.length ≤ N ∧ ∀ x ∈ l, (Qjb N) x) x.owners ∧ (fun l : List ByteArray => l.length ≤ N ∧ ∀ x ∈ l, (fun s : ByteArray => s.size ≤ N) x) x.finalizers ∧ (fun l : List Manager => l.length ≤ N ∧ ∀ x ∈ l, (Qbi N) x) x.managers
theorem Qe3 {N : Nat} {x : Meta} (h : CapL N x.cells) : Qha N x := ⟨(let g : CapL N [.str x.kind] := fun p hp => h p (by simp only [List.mem_cons, List.not_mem_nil, or_false] at hp; rcases hp with rfl <;> simp [Meta.cells]); (g _ List.mem_cons_self).strI), (let g : CapL N [.str x.namespace_] := fun p hp => h p (by simp only [List.mem_cons, List.not_mem_nil, or_false] at hp; rcases hp with rfl <;> simp [Meta.cells]); (g _ List.mem_cons_self).strI), (let g : CapL N [.str x.name] := fun p hp => h p (by simp only [List.mem_cons, List.not_mem_nil, or_false] at hp; rcases hp with rfl <;> simp [Meta.cells]); (g _ List.mem_cons_self).strI), (let g : CapL N [.sl (Label.rows x.labels)] := fun p hp => h p (by simp only [List.mem_cons, List.not_mem_nil, or_false] at hp; rcases hp with rfl <;> simp [Meta.cells]); (let r := Cap.Qdh (f := Label.cells) (g _ List.mem_cons_self); ⟨r.1, fun x hx => (Qmq (r.2 x hx))⟩)), (let g : CapL N [.sl (Owner.rows x.owners)] := fun p hp => h p (by simp only [List.mem_cons, List.not_mem_nil, or_false] at hp; rcases hp with rfl <;> simp [Meta.cells]); (let r := Cap.Qdh (f := Owner.cells) (g _ List.mem_cons_self); ⟨r.1, fun x hx => (Qms (r.2 x hx))⟩)), (let g : CapL N [.sl (Qg x.finalizers)] := fun p hp => h p (by simp only [List.mem_cons, List.not_mem_nil, or_false] at hp; rcases hp with rfl <;> simp [Meta.cells]); (let r := Cap.Qdh (f := (fun s : ByteArray => [.str s])) (g _ List.mem_cons_self); ⟨r.1, fun x hx => ((r.2 x hx) _ List.mem_cons_self).strI⟩)), (let g : CapL N [.sl (Manager.rows x.managers)] := fun p hp => h p (by simp only [List.mem_cons, List.not_mem_nil, or_false] at hp; rcases hp with rfl <;> simp [Meta.cells]); (let r := Cap.Qdh (f := Manager.cells) (g _ List.mem_cons_self); ⟨r.1, fun x hx => (Qh9 (r.2 x hx))⟩))⟩
def Q6a (N : Nat) (x : Budget) : Prop := (Qha N) x.meta_ ∧ (fun l : List Requirement => l.length ≤ N ∧ ∀ x ∈ l, (Q41 N) x) x.selector ∧ (fun l : List Amount => l.length ≤ N ∧ ∀ x ∈ l, (Q69 N) x) x.minAvailable ∧ (fun l : List Amount => l.length ≤ N ∧ ∀ x ∈ l, (Q69 N) x) x.maxUnavailable ∧ (fun l : List WorkItem => l.length ≤ N ∧ ∀ x ∈ l, (Q5t N) x) x.disrupted
theorem Qiq {N : Nat} {x : Budget} (h : CapL N x.cells) : Q6a N x := ⟨(let g : CapL N [.str x.meta_.kind, .str x.meta_.namespace_, .str x.meta_.name, .int .i64 x.meta_.uid, .int .i64 x.meta_.version, .int .i64 x.meta_.generation, .int .i64 x.meta_.created, .bool x.meta_.deleting, .int .i64 x.meta_.deleteAt, .sl (Label.rows x.meta_.labels), .sl (Owner.rows x.meta_.owners), .sl (Qg x.meta_.finalizers), .sl (Manager.rows x.meta_.managers)] := fun p hp => h p (by simp only [List.mem_cons, List.not_mem_nil, or_false] at hp; rcases hp with rfl | rfl | rfl | rfl | rfl | rfl | rfl | rfl | rfl | rfl | rfl | rfl | rfl <;> simp [Budget.cells]); (Qe3 g)), (let g : CapL N [.sl (Requirement.rows x.selector)] := fun p hp => h p (by simp only [List.mem_cons, List.not_mem_nil, or_false] at hp; rcases hp with rfl <;> simp [Budget.cells]); (let r := Cap.Qdh (f := Requirement.cells) (g _ List.mem_cons_self); ⟨r.1, fun x hx => (Q8h (r.2 x hx))⟩)), (let g : CapL N [.sl (Amount.rows x.minAvailable)] := fun p hp => h p (by simp only [List.mem_cons, List.not_mem_nil, or_false] at hp; rcases hp with rfl <;> simp [Budget.cells]); (let r := Cap.Qdh (f := Amount.cells) (g _ List.mem_cons_self); ⟨r.1, fun x hx => (Q8v (r.2 x hx))⟩)), (let g : CapL N [.sl (Amount.rows x.maxUnavailable)] := fun p hp => h p (by simp only [List.mem_cons, List.not_mem_nil, or_false] at hp; rcases hp with rfl <;> simp [Budget.cells]); (let r := Cap.Qdh (f := Amount.cells) (g _ List.mem_cons_self); ⟨r.1, fun x hx => (Q8v (r.2 x hx))⟩)), (let g : CapL N [.sl (WorkItem.rows x.disrupted)] := fun p hp => h p (by simp only [List.mem_cons, List.not_mem_nil, or_false] at hp; rcases hp with rfl <;> simp [Budget.cells]); (let r := Cap.Qdh (f := WorkItem.cells) (g _ List.mem_cons_self); ⟨r.1, fun x hx => (Qdd (r.2 x hx))⟩))⟩
theorem Budget.Q4z {N : Nat} (hN : N ≤ sB) {x : Budget} (c : Q6a N x) : Budget.sm x := ⟨⟨Nat.le_trans c.2.1.1 hN, fun _ hx => Requirement.Q4z hN (c.2.1.2 _ hx)⟩, ⟨Nat.le_trans c.2.2.1.1 hN, fun _ hx => Amount.Q4z hN (c.2.2.1.2 _ hx)⟩, ⟨Nat.le_trans c.2.2.2.1.1 hN, fun _ hx => Amount.Q4z hN (c.2.2.2.1.2 _ hx)⟩, ⟨Nat.le_trans c.2.2.2.2.1 hN, fun _ hx => WorkItem.Q4z hN (c.2.2.2.2.2 _ hx)⟩, trivial⟩
def Q7l (N : Nat) (x : Quota) : Prop := (Qha N) x.meta_ ∧ (Q3s N) x.hard ∧ (Q3s N) x.used
theorem Qmt {N : Nat} {x : Quota} (h : CapL N x.cells) : Q7l N x := ⟨(let g : CapL N [.str x.meta_.kind, .str x.meta_.namespace_, .str x.meta_.name, .int .i64 x.meta_.uid, .int .i64 x.meta_.version, .int .i64 x.meta_.generation, .int .i64 x.meta_.created, .bool x.meta_.deleting, .int .i64 x.meta_.deleteAt, .sl (Label.rows x.meta_.labels), .sl (Owner.rows x.meta_.owners), .sl (Qg x.meta_.finalizers), .sl (Manager.rows x.meta_.managers)] := fun p hp => h p (by simp only [List.mem_cons, List.not_mem_nil, or_false] at hp; rcases hp with rfl | rfl | rfl | rfl | rfl | rfl | rfl | rfl | rfl | rfl | rfl | rfl | rfl <;> simp [Quota.cells]); (Qe3 g)), (let g : CapL N [.int .i64 x.hard.cPU, .int .i64 x.hard.memory, .int .i64 x.hard.disk] := fun p hp => h p (by simp only [List.mem_cons, List.not_mem_nil, or_false] at hp; rcases hp with rfl | rfl | rfl <;> simp [Quota.cells]); (Q5p g)), (let g : CapL N [.int .i64 x.used.cPU, .int .i64 x.used.memory, .int .i64 x.used.disk] := fun p hp => h p (by simp only [List.mem_cons, List.not_mem_nil, or_false] at hp; rcases hp with rfl | rfl | rfl <;> simp [Quota.cells]); (Q5p g))⟩
theorem Quota.Q4z {N : Nat} (hN : N ≤ sB) {x : Quota} (c : Q7l N x) : Quota.sm x := ⟨Resources.Q4z hN c.2.1, Resources.Q4z hN c.2.2, trivial⟩
end Go.Proofs.Ytbagpdebihicnaa
end

section
/- What the law WorkcodecLimits computes (printed by a program). -/
namespace Go.Proofs.Ytbagpdebihicnaa
open Go.Pv
def s_K0 (p0 : Budget) (p1 : Quota) : Bool :=
 bif (s_K2 (s_Kv p0)) then
  bif (s_K2 (s_Kw p1)) then
   true
  else
   true
 else
  true
def c_K0 (p0 : Budget) (p1 : Quota) : En := .call 3 [.agg (Budget.cells p0), .agg (Quota.cells p1)] []
def a_K0 (p0 : Budget) (p1 : Quota) : Rs := .ret (.bool (s_K0 p0 p1)) []
def H_K0 (p0 : Budget) (p1 : Quota) : Prop := (H_Kv p0) ∧ (H_K2 (s_Kv p0)) ∧ ((s_K2 (s_Kv p0)) = true → H_K2 (s_Kw p1)) ∧ ((s_K2 (s_Kv p0)) = true → (s_K2 (s_Kw p1)) = true → Qwk p0) ∧ ((s_K2 (s_Kv p0)) = true → (s_K2 (s_Kw p1)) = true → Qwm (Qih p0)) ∧ ((s_K2 (s_Kv p0)) = true → (s_K2 (s_Kw p1)) = true → Qvi (Qih p0) = ((Budget.at p0), 0)) ∧ ((s_K2 (s_Kv p0)) = true → (s_K2 (s_Kw p1)) = true → Qwl p1) ∧ ((s_K2 (s_Kv p0)) = true → (s_K2 (s_Kw p1)) = true → Qwn (Qii p1)) ∧ ((s_K2 (s_Kv p0)) = true → (s_K2 (s_Kw p1)) = true → Qvj (Qii p1) = ((Quota.at p1), 0)) ∧ ((s_K2 (s_Kv p0)) = true → (s_K2 (s_Kw p1)) = true → (Qih p0) = (s_Kv p0)) ∧ ((s_K2 (s_Kv p0)) = true → (s_K2 (s_Kw p1)) = true → H_Kd (Qih p0)) ∧ ((s_K2 (s_Kv p0)) = true → (s_K2 (s_Kw p1)) = true → (Qii p1) = (s_Kw p1)) ∧ ((s_K2 (s_Kv p0)) = true → (s_K2 (s_Kw p1)) = true → H_Kd (Qii p1)) ∧ ((s_K2 (s_Kv p0)) = true → (s_K2 (s_Kw p1)) = true → H_Kv (Budget.at p0)) ∧ ((s_K2 (s_Kv p0)) = true → (s_K2 (s_Kw p1)) = true → (s_Kv (Budget.at p0)) = (s_Kv p0)) ∧ ((s_K2 (s_Kv p0)) = true → (s_K2 (s_Kw p1)) = true → H_Kd (s_Kv (Budget.at p0))) ∧ ((s_K2 (s_Kv p0)) = true → (s_K2 (s_Kw p1)) = true → (s_Kw (Quota.at p1)) = (s_Kw p1)) ∧ ((s_K2 (s_Kv p0)) = true → (s_K2 (s_Kw p1)) = true → H_Kd (s_Kw (Quota.at p1))) ∧ True
theorem t_K0 (p0 : Budget) (p1 : Quota) (H : H_K0 p0 p1) : Q7 G (c_K0 p0 p1) (a_K0 p0 p1) := by
 unfold a_K0 s_K0
 cases h0 : (s_K2 (s_Kv p0)) with
 | true =>
  cases h1 : (s_K2 (s_Kw p1)) with
  | true =>
   exact Qa (fn := Ir.K0) rfl VOK.nil [] [aN (t_Kv p0 (H.1)), aN (t_Kw p1), aB (t_K2 (s_Kv p0) (H.2.1)) h0, aB (t_K2 (s_Kw p1) (H.2.2.1 h0)) h1, aN (Q12x p0 (H.2.2.2.1 h0 h1)), aN (toldOf (Q17z (Qih p0) (H.2.2.2.2.1 h0 h1)) (congrArg (fun z : Budget × Int => Rs.ret (.tup [.agg (Budget.cells z.1), .int .i64 z.2]) []) (H.2.2.2.2.2.1 h0 h1))), aN (Q12y p1 (H.2.2.2.2.2.2.1 h0 h1)), aN (toldOf (Q182 (Qii p1) (H.2.2.2.2.2.2.2.1 h0 h1)) (congrArg (fun z : Quota × Int => Rs.ret (.tup [.agg (Quota.cells z.1), .int .i64 z.2]) []) (H.2.2.2.2.2.2.2.2.1 h0 h1))), aN (Q12x p0 (H.2.2.2.1 h0 h1)), aN (Q4v (c := fun y => .call 12 [.agg (Object.cells (Qih p0)), .agg (Object.cells y)] []) (H.2.2.2.2.2.2.2.2.2.1 h0 h1) (t_Kd (Qih p0) (H.2.2.2.2.2.2.2.2.2.2.1 h0 h1))), aN (Q12y p1 (H.2.2.2.2.2.2.1 h0 h1)), aN (Q4v (c := fun y => .call 12 [.agg (Object.cells (Qii p1)), .agg (Object.cells y)] []) (H.2.2.2.2.2.2.2.2.2.2.2.1 h0 h1) (t_Kd (Qii p1) (H.2.2.2.2.2.2.2.2.2.2.2.2.1 h0 h1))), aN (t_Kv (Budget.at p0) (H.2.2.2.2.2.2.2.2.2.2.2.2.2.1 h0 h1)), aN (Q4v (c := fun y => .call 12 [.agg (Object.cells (s_Kv (Budget.at p0))), .agg (Object.cells y)] []) (H.2.2.2.2.2.2.2.2.2.2.2.2.2.2.1 h0 h1) (t_Kd (s_Kv (Budget.at p0)) (H.2.2.2.2.2.2.2.2.2.2.2.2.2.2.2.1 h0 h1))), aN (t_Kw (Quota.at p1)), aN (Q4v (c := fun y => .call 12 [.agg (Object.cells (s_Kw (Quota.at p1))), .agg (Object.cells y)] []) (H.2.2.2.2.2.2.2.2.2.2.2.2.2.2.2.2.1 h0 h1) (t_Kd (s_Kw (Quota.at p1)) (H.2.2.2.2.2.2.2.2.2.2.2.2.2.2.2.2.2.1 h0 h1))), aN t_K1] (by kernel_rfl)
  | false =>
   exact Qa (fn := Ir.K0) rfl VOK.nil [] [aN (t_Kv p0 (H.1)), aN (t_Kw p1), aB (t_K2 (s_Kv p0) (H.2.1)) h0, aB (t_K2 (s_Kw p1) (H.2.2.1 h0)) h1, aN t_K1] (by kernel_rfl)
 | false =>
  exact Qa (fn := Ir.K0) rfl VOK.nil [] [aN (t_Kv p0 (H.1)), aN (t_Kw p1), aB (t_K2 (s_Kv p0) (H.2.1)) h0, aN t_K1] (by kernel_rfl)
def tysWorkcodecLimits : List Ty := [Qir, Qok]
theorem pureWorkcodecLimits {N : Nat} (hp : ∀ (p0 : Budget) (p1 : Quota), Qah p0 → Qhv p1 → (Q6a N) p0 → (Q7l N) p1 → H_K0 p0 p1 ∧ s_K0 p0 p1 = true) : ∀ qs, Qsp Γ N tysWorkcodecLimits qs → ∃ n, runs G n (.call 3 qs []) = some (.ret (.bool true) []) := by
  intro qs h
  cases qs with
  | nil => cases h
  | cons q0 qs =>
  obtain ⟨h0, h⟩ := h
  cases qs with
  | nil => cases h
  | cons q1 qs =>
  obtain ⟨h1, h⟩ := h
  cases qs with
  | cons _ _ => cases h
  | nil =>
  obtain ⟨c0, rfl, g0, b0⟩ := h0.agg rfl
  obtain ⟨p0, rfl, k0⟩ := (Qmn g0)
  obtain ⟨c1, rfl, g1, b1⟩ := h1.agg rfl
  obtain ⟨p1, rfl, k1⟩ := (Qr0 g1)
  have e := hp p0 p1 k0 k1 (Qiq b0) (Qmt b1)
  have t := t_K0 p0 p1 e.1
  unfold a_K0 at t
  rw [e.2] at t
  exact t
end Go.Proofs.Ytbagpdebihicnaa
end

section
/- What is small by the reference's count; what is demanded of metadata and objects (printed by a program). -/
namespace Go.Proofs.Ytbagpdebihicnaa
open Go.Pv
def cv : Qmu → Int
  | .k0 y => y
  | .k1 => -1
theorem Qp2 (p : Val) (d : Int) (l : List Val) (i : Nat) {a : Int} (h : ¬ 0 ≤ a) : Q2c p d l i a = a := by
  cases l with
  | nil => rw [Q2c]
  | cons x l => rw [Q2c, show decide (0 ≤ a) = false by simpa using h, cond_false]
theorem Qi3 (p : Val) (d : Int) (l : List Fld) (i : Nat) {a : Int} (h : ¬ 0 ≤ a) : cv (Q2v p d l i a) = a := by
  cases l with
  | nil => rw [Q2v]; rfl
  | cons x l => rw [Q2v, show decide (0 ≤ a) = false by simpa using h, cond_false]; rfl
def Qyy (v : Val) : Prop := ∀ n d, n ≤ 1000 → 0 ≤ s_Ka v n d → Val.Sm 1000 v ∧ s_Ka v n d + 1 ≤ n
theorem Qp3 (p : Val) (d : Int) : ∀ (l : List Val) (i : Nat) (a : Int), a ≤ 1000 → (∀ x ∈ l, Qyy x) → 0 ≤ Q2c p d l i a → (∀ x ∈ l, Val.Sm 1000 x) ∧ Q2c p d l i a + (l.length : Int) ≤ a
  | [], i, a, _, _, _ => by
    rw [Q2c]
    exact ⟨fun _ h => (by cases h), by simp⟩
  | x :: l, i, a, ha, hx, h => by
    by_cases c : 0 ≤ a
    · rw [Q2c, show decide (0 ≤ a) = true by simpa using c, cond_true] at h ⊢
      have k : 0 ≤ s_Ka x a (w64 (d - 1)) := by
        apply Decidable.byContradiction
        intro hn
        rw [Qp2 p d l _ hn] at h
        exact hn h
      have h1 := hx x List.mem_cons_self a _ ha k
      have h2 := Qp3 p d l (i + 1) _ (by omega) (fun y hy => hx y (List.mem_cons_of_mem _ hy)) h
      refine ⟨List.forall_mem_cons.2 ⟨h1.1, h2.1⟩, ?_⟩
      have := h1.2
      have := h2.2
      rw [List.length_cons]
      omega
    · rw [Qp2 p d _ i c] at h
      exact absurd h c
theorem Qp4 (p : Val) (d : Int) : ∀ (l : List Fld) (i : Nat) (a : Int), a ≤ 1000 → (∀ x ∈ l, Qyy x.v) → 0 ≤ cv (Q2v p d l i a) → (∀ x ∈ l, Val.Sm 1000 x.v) ∧ cv (Q2v p d l i a) + (l.length : Int) ≤ a
  | [], i, a, _, _, _ => by
    rw [Q2v]
    exact ⟨fun _ h => (by cases h), by simp [cv]⟩
  | x :: l, i, a, ha, hx, h => by
    by_cases c : 0 ≤ a
    · rw [Q2v, show decide (0 ≤ a) = true by simpa using c, cond_true] at h ⊢
      cases e : decide (1000 < (ByteArray.size x.name : Int)) with
      | true =>
        rw [e] at h
        exact absurd (show (0 : Int) ≤ -1 from h) (by decide)
      | false =>
        rw [e, cond_false] at h
        rw [cond_false]
        have k : 0 ≤ s_Ka x.v a (w64 (d - 1)) := by
          apply Decidable.byContradiction
          intro hn
          rw [Qi3 p d l _ hn] at h
          exact hn h
        have h1 := hx x List.mem_cons_self a _ ha k
        have h2 := Qp4 p d l (i + 1) _ (by omega) (fun y hy => hx y (List.mem_cons_of_mem _ hy)) h
        refine ⟨List.forall_mem_cons.2 ⟨h1.1, h2.1⟩, ?_⟩
        have := h1.2
        have := h2.2
        rw [List.length_cons]
        omega
    · rw [Qi3 p d _ i c] at h
      exact absurd h c
theorem Qx1 : ∀ v, Qyy v := vind fun v h1 h2 n d hn h => by
  rw [s_Ka] at h ⊢
  cases c1 : decide (n ≤ 0) with
  | true => rw [c1] at h; exact absurd (show (0 : Int) ≤ -1 from h) (by decide)
  | false =>
    cases c2 : decide (d ≤ 0) with
    | true => rw [c1, c2] at h; exact absurd (show (0 : Int) ≤ -1 from h) (by decide)
    | false =>
      cases c3 : decide (1000 < (ByteArray.size v.s : Int)) with
      | true => rw [c1, c2, c3] at h; exact absurd (show (0 : Int) ≤ -1 from h) (by decide)
      | false =>
        have e1 := of_decide_eq_false c1
        rw [c1, c2, c3, cond_false, cond_false, cond_false, Qml (by omega)] at h
        rw [cond_false, cond_false, cond_false, Qml (by omega)]
        change 0 ≤ cv (Q2v v d v.fields 0 (Q2c v d v.list 0 (n - 1))) at h
        change _ ∧ cv (Q2v v d v.fields 0 (Q2c v d v.list 0 (n - 1))) + 1 ≤ n
        have k : 0 ≤ Q2c v d v.list 0 (n - 1) := by
          apply Decidable.byContradiction
          intro hn
          rw [Qi3 v d _ _ hn] at h
          exact hn h
        have g0 := Qp3 v d v.list 0 (n - 1) (by omega) h1 k
        have g1 := Qp4 v d v.fields 0 _ (by have := g0.2; omega) h2 h
        have := g0.2
        have := g1.2
        exact ⟨.mk _ (by omega) (by omega) g0.1 g1.1, by omega⟩
theorem Qql {v : Val} {n : Int} (hn : n ≤ 1000) (h : s_K9 v n = true) : Val.Sm 1000 v := (Qx1 v n n hn (of_decide_eq_true h)).1
theorem Qpq {o : Object} (h : s_K2 o = true) : Val.Sm 1000 o.spec ∧ Val.Sm 1000 o.status := by
  unfold s_K2 at h
  cases c1 : decide (40 < ((List.length o.meta_.labels) : Int)) with
  | true => rw [c1] at h; cases h
  | false =>
    cases c2 : decide (40 < ((List.length o.meta_.owners) : Int)) with
    | true => rw [c1, c2] at h; cases h
    | false =>
      cases c3 : decide (40 < ((List.length o.meta_.finalizers) : Int)) with
      | true => rw [c1, c2, c3] at h; cases h
      | false =>
        cases c4 : decide (40 < ((List.length o.meta_.managers) : Int)) with
        | true => rw [c1, c2, c3, c4] at h; cases h
        | false =>
          rw [c1, c2, c3, c4, cond_false, cond_false, cond_false, cond_false] at h
          cases c5 : Q71 o o.meta_.managers 0 with
          | k1 => rw [c5] at h; cases h
          | k0 =>
            rw [c5] at h
            cases c6 : s_K9 o.spec 900 with
            | false =>
              simp only [c6, cond_false] at h
              cases h
            | true =>
              simp only [c6, cond_true] at h
              exact ⟨Qql (by decide) c6, Qql (by decide) h⟩
theorem Qre {m : Meta} (k : Q4r m) : Qgx m ∧ H_Kg m ∧ m.managers.length ≤ 4611686018427387904 := by
  obtain ⟨k1, k2, k3, _, _, _, _, _, _, kl, ko, kf, km⟩ := k
  have hl := kl.1
  have ho := ko.1
  have hf := kf.1
  have hm := km.1
  unfold okS at k1 k2 k3
  have hx : ∀ x ∈ m.managers, x.fields.length * 16 ≤ 140737488351232 := fun x hx => (km.2 x hx).2.1
  have e0 : (⟨#[47]⟩ : BA).size = 1 := rfl
  refine ⟨⟨by omega, by omega, by omega, by omega, ⟨by omega, fun x h => by have := hx x h; omega, trivial⟩, trivial⟩, ⟨⟨⟨?_, ?_, ?_, ?_, trivial⟩, trivial⟩, ⟨⟨by omega, trivial⟩, trivial⟩, ⟨by omega, trivial⟩, ⟨by omega, trivial⟩, ⟨by omega, fun x h => ⟨⟨by have := hx x h; omega, trivial⟩, trivial⟩, trivial⟩, trivial⟩, by omega⟩ <;>
  · simp only [ByteArray.size_append, e0]
    omega
theorem Qyt {m : Meta} (k : Q4r m) (s : BA) (h : s.size ≤ 140737488351232) : Q4r { m with kind := s } := ⟨h, k.2⟩
theorem Qyp {o : Object} (k : Q4r o.meta_) (g : Object.sm o) : H_K2 o := ⟨⟨(Qre k).2.2, trivial⟩, ⟨g.1.mono (Nat.le_of_ble_eq_true rfl), trivial⟩, ⟨g.2.mono (Nat.le_of_ble_eq_true rfl), trivial⟩, trivial⟩
theorem Qyl {o : Object} (k : Q4r o.meta_) (g : Object.sm o) : H_Kd o := ⟨(Qre k).2.1, ⟨g.1.mono (Nat.le_of_ble_eq_true rfl), trivial⟩, ⟨g.2.mono (Nat.le_of_ble_eq_true rfl), trivial⟩, trivial⟩
structure BudgetF (x : Budget) : Prop where
  r : H_Kv x
  l : H_K2 (s_Kv x)
  f : Qwk x
  e : H_Kd (s_Kv x)
  t : Qwm (s_Kv x)
  b : s_K2 (s_Kv x) = true → Qvi (s_Kv x) = (Budget.at x, 0)
theorem Budget.facts {x : Budget} (k : Q4r x.meta_) (a : Budget.sm x) : BudgetF x := by
  have m := Qyt k Qk (Nat.le_of_ble_eq_true rfl)
  have g : Object.sm (Budget.obj x) := Budget.Qv1 a
  exact ⟨a, Qyp (o := Budget.obj x) m g, ⟨(Qre k).1, a⟩, Qyl (o := Budget.obj x) m g, ⟨(Qre m).1, g⟩, fun h => (Budget.rc (o := Budget.obj x) (Qpq h)).trans (Budget.R_at x)⟩
structure QuotaF (x : Quota) : Prop where
  r : H_Kw x
  l : H_K2 (s_Kw x)
  f : Qwl x
  e : H_Kd (s_Kw x)
  t : Qwn (s_Kw x)
  b : s_K2 (s_Kw x) = true → Qvj (s_Kw x) = (Quota.at x, 0)
theorem Quota.facts {x : Quota} (k : Q4r x.meta_) (a : Quota.sm x) : QuotaF x := by
  have m := Qyt k Qd (Nat.le_of_ble_eq_true rfl)
  have g : Object.sm (Quota.obj x) := Quota.Qv1 a
  exact ⟨a, Qyp (o := Quota.obj x) m g, ⟨(Qre k).1, a⟩, Qyl (o := Quota.obj x) m g, ⟨(Qre m).1, g⟩, fun h => (Quota.rc (o := Quota.obj x) (Qpq h)).trans (Quota.R_at x)⟩
end Go.Proofs.Ytbagpdebihicnaa
end

section
/- The law WorkcodecLimits in plain words: what was encoded is decoded to what it was. -/
namespace Go.Proofs.Ytbagpdebihicnaa
open Go.Pv
theorem lawLimits (p0 : Budget) (p1 : Quota) (k0 : Qah p0) (k1 : Qhv p1) (c0 : Q6a 1048576 p0) (c1 : Q7l 1048576 p1) : H_K0 p0 p1 ∧ s_K0 p0 p1 = true := by
  have f0 := Budget.facts k0.1 (Budget.Q4z (Nat.le_of_ble_eq_true rfl) c0)
  have f1 := Quota.facts k1.1 (Quota.Q4z (Nat.le_of_ble_eq_true rfl) c1)
  refine ⟨?_, ?_⟩
  · unfold H_K0
    repeat' with_reducible apply And.intro
    all_goals first | exact True.intro | (intros; first | rfl | exact f0.r | exact f0.l | exact f0.f | exact f0.e | exact f0.t | exact f0.b (by assumption) | exact f1.r | exact f1.l | exact f1.f | exact f1.e | exact f1.t | exact f1.b (by assumption))
  · unfold s_K0
    cases s_K2 (s_Kv p0) <;> cases s_K2 (s_Kw p1)
    all_goals rfl
end Go.Proofs.Ytbagpdebihicnaa
end

section
/- The library's comparison of two strings, walked: it answers as the evaluator's cmpL. -/
namespace Go.Proofs.Ytbagpdebihicnaa
open Go.Pv
theorem cmpL_eq : ∀ (a b : List UInt8), cmpL a b = Lib.compareBytes a b
  | [], [] => rfl
  | [], _ :: _ => rfl
  | _ :: _, [] => rfl
  | a :: x, b :: y => by
    rw [Lib.compareBytes, ← cmpL_eq x y]
    rfl
set_option maxHeartbeats 1000000 in
set_option maxRecDepth 100000 in
theorem comparing (a b : BA) (w : World) :
    Calls Try.prog 89 #[.string a, .string b] w fun e w' => e = .returned (.int .i64 (Lib.compareBytes a.data.toList b.data.toList)) ∧ w' = w := by
  go_enter Try.func89, Try.ntmps89
  go_wp2
  rw [run_callFunc_extern Try.func100 (by kernel_rfl) (by kernel_rfl) (by kernel_rfl) (e := Extern.BytealgCompare.compare) (by kernel_rfl), Lib.run_compareString]
  simp only [Result.andThen]
  rw [Oper.upon_value]
  go_wp2
  go_ret
  exact ⟨rfl, rfl⟩
theorem cmpOK : Qwj Try.prog 89 := by
  refine ⟨⟨_, Try.func89, by kernel_rfl, by kernel_rfl⟩, fun x y w => ?_⟩
  have h := comparing x y w
  rw [← cmpL_eq, ← toList_data, ← toList_data] at h
  exact h
end Go.Proofs.Ytbagpdebihicnaa
end

section
/- What is of bounded bulk holds nothing longer. -/
namespace Go.Proofs.Ytbagpdebihicnaa.bulks
open Go.Pv
theorem one_le {H : Type} (d : DataW H) : 1 ≤ Rows.uptoBulk d := by
  cases d with
  | lit l => cases l <;> simp [Rows.uptoBulk]
  | nil => simp [Rows.uptoBulk]
  | ptr d => simp [Rows.uptoBulk]
  | slice elems spare => simp [Rows.uptoBulk]
  | agg parts => simp [Rows.uptoBulk]
  | iface t d => simp [Rows.uptoBulk]
  | map entries => simp [Rows.uptoBulk]
  | held h => simp [Rows.uptoBulk]
theorem Qne {H : Type} {d : DataW H} {l : List (DataW H)} (h : d ∈ l) : Rows.uptoBulk d ≤ Rows.uptoBulkAll l := by
  induction l with
  | nil => cases h
  | cons x r ih =>
    simp only [Rows.uptoBulkAll]
    rcases List.mem_cons.1 h with e | e
    · subst e; omega
    · have := ih e; omega
theorem length_le {H : Type} (l : List (DataW H)) : l.length ≤ Rows.uptoBulkAll l := by
  induction l with
  | nil => simp [Rows.uptoBulkAll]
  | cons x r ih => have := one_le x; simp only [Rows.uptoBulkAll, List.length_cons]; omega
theorem Qt7 {H : Type} {N : Nat} : ∀ (k : Nat) (d : DataW H), Rows.uptoBulk d ≤ k → k ≤ N → CapD N d
  | 0, d, h, _ => by have := one_le d; omega
  | k + 1, d, h, hk => by
    cases d with
    | lit l => exact .lit l (fun b e => by subst e; simp only [Rows.uptoBulk] at h; omega)
    | nil => exact .nil
    | ptr d => exact .ptr d
    | slice elems spare =>
      simp only [Rows.uptoBulk] at h
      exact .slice elems spare (by have := length_le elems; omega) (fun z hz => Qt7 k z (by have := Qne hz; omega) (by omega))
    | agg parts =>
      simp only [Rows.uptoBulk] at h
      exact .agg parts (fun z hz => Qt7 k z (by have := Qne hz; omega) (by omega))
    | iface t d => exact .iface t d
    | map entries => exact .map entries
    | held x => exact .held x
theorem caps {H : Type} {ds gs : List (DataW H)} (hk : Rows.uptoSmall H (ds ++ gs) = true) : ∀ d ∈ ds, CapD 1048576 d := fun d hd =>
  Qt7 1048576 d (Nat.le_trans (Qne (List.mem_append_left _ hd)) (of_decide_eq_true hk)) (Nat.le_refl _)
end Go.Proofs.Ytbagpdebihicnaa.bulks
end

