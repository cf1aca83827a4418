/-
  One operation that asks and turns nothing outside of its operands: the machine's run of it, by what 'opP' says.
-/
import Derived.Test.YtedohmdgbilicaaPvC
import Derived.Laws.StructEq
import Derived.Laws.Cells
import Derived.Deep.MidRow
namespace Go.Pv
open Go.RowKit

/-! ### what ties an operation to the machine's -/
def constOK : Value → PV → Bool
  | _, .un => true
  | .bool a, .bool b => a == b
  | .int k a, .int k' b => IntKind.eqb k k' && a == b
  | .string a, .str b => a.data == b.data
  | .pointer none, .np => true
  | .slice none 0 0, .ns _ => true
  | .nilFunc, .nf => true
  | _, _ => false
def opdOK : Operand → Opd → Bool
  | .tmp a, .t b => Nat.beq a b
  | .const v, .c p => constOK v p
  | .func a, .f b => Nat.beq a b
  | _, _ => false
def opdsOK : List Operand → List Opd → Bool
  | [], [] => true
  | x :: xs, y :: ys => opdOK x y && opdsOK xs ys
  | _, _ => false
def optOK : Option Operand → Option Opd → Bool
  | none, none => true
  | some x, some y => opdOK x y
  | _, _ => false

theorem IntKind.eqb_eq {a b : IntKind} (h : IntKind.eqb a b = true) : a = b := by cases a <;> cases b <;> first | rfl | (simp [IntKind.eqb] at h)

section
variable {w : World} {M : Nat → Nat → Prop} {D : Nat → Option Nat}
theorem const_sound {v : Value} {p : PV} (h : constOK v p = true) : Rep w M D v p := by
  cases p with
  | un => exact .un _ _
  | bool b =>
    cases v <;> simp [constOK] at h
    subst h; exact .bool _ _
  | int k n =>
    cases v <;> simp [constOK] at h
    obtain ⟨h1, rfl⟩ := h
    obtain rfl := IntKind.eqb_eq h1
    exact .int _ _ _
  | str s =>
    cases v <;> simp [constOK] at h
    rename_i s'
    obtain ⟨d⟩ := s
    obtain ⟨d'⟩ := s'
    simp at h
    subst h
    exact .str _ _
  | np =>
    cases v <;> simp [constOK] at h
    rename_i a
    cases a <;> simp at h
    exact .np _
  | ns sz =>
    cases v <;> simp [constOK] at h
    rename_i a l c
    cases a <;> cases l <;> cases c <;> simp at h
    exact .ns _ _ _
  | nf =>
    cases v <;> simp [constOK] at h
    exact .nf _
  | _ => cases v <;> simp [constOK] at h

/-- What the slots hold. -/
def EnvOK (w : World) (M : Nat → Nat → Prop) (D : Nat → Option Nat) (a : Act) (e : Nat → PV) : Prop := ∀ t, Rep w M D (a.tmps.getD t undef) (e t)

theorem opd_sound {a : Act} {e : Nat → PV} (he : EnvOK w M D a e) {x : Operand} {y : Opd} (h : opdOK x y = true) : Rep w M D (a.eval x) (y.ev e) := by
  cases x <;> cases y <;> simp [opdOK] at h
  · subst h; exact he _
  · exact const_sound h
  · subst h
    exact .fn _ _ #[] #[] [] [] rfl rfl (fun i v p hv => by simp at hv) (fun i v p hv => by simp at hv)
theorem opds_sound {a : Act} {e : Nat → PV} (he : EnvOK w M D a e) : ∀ {xs : List Operand} {ys : List Opd}, opdsOK xs ys = true → RepL w M D (xs.map a.eval) (evs e ys)
  | [], [], _ => RepL.nil _ _ _
  | x :: xs, [], h => by simp [opdsOK] at h
  | [], y :: ys, h => by simp [opdsOK] at h
  | x :: xs, y :: ys, h => by
    simp [opdsOK] at h
    exact RepL.cons (opd_sound he h.1) (opds_sound he h.2)
end

def rowTy (P : Program) (t : TypeId) : Option Bool :=
  match P.underlying t with
  | some (.struct _) => some true
  | some (.array _ _) => none
  | some _ => some false
  | none => none
def szOf (P : Program) (t : TypeId) : Option Nat := (P.info? t).map (·.size)
def optEq (a : Option Nat) (n : Nat) : Bool :=
  match a with
  | some m => Nat.beq m n
  | none => false
theorem optEq_some {a : Option Nat} {n : Nat} (h : optEq a n = true) : a = some n := by
  cases a with
  | none => cases h
  | some m => exact congrArg some (Nat.eq_of_beq_eq_true h)
def optEqB (a : Option Bool) (b : Bool) : Bool :=
  match a with
  | some c => c == b
  | none => false
theorem optEqB_some {a : Option Bool} {b : Bool} (h : optEqB a b = true) : a = some b := by
  cases a with
  | none => cases h
  | some c => simp [optEqB] at h; rw [h]
/-- a value of type t: n cells, a struct or not -/
def tyOK (P : Program) (t : TypeId) (n : Nat) (ag : Bool) : Bool := optEqB (rowTy P t) ag && optEq (szOf P t) n && (ag || Nat.beq n 1)
def sliceElem (P : Program) (t : TypeId) : Option TypeId :=
  match P.underlying t with
  | some (.slice e) => some e
  | _ => none
def isStrTy (P : Program) (t : TypeId) : Bool := match P.underlying t with | some .string => true | _ => false
def isBoolTy (P : Program) (t : TypeId) : Bool := match P.underlying t with | some .bool => true | _ => false
def intTy (P : Program) (t : TypeId) (k : IntKind) : Bool := match P.underlying t with | some (.int k') => IntKind.eqb k' k | _ => false
def fieldAt? (P : Program) (t : TypeId) (i : Nat) : Option Field :=
  match P.underlying t with
  | some (.struct fs) => fs[i]?
  | _ => none
def fieldOK (P : Program) (t : TypeId) (i off n : Nat) (ag : Bool) : Bool :=
  match fieldAt? P t i with
  | some f => Nat.beq f.offset off && tyOK P f.type n ag
  | none => false
def offOK (P : Program) (t : TypeId) (i off : Nat) : Bool :=
  match fieldAt? P t i with
  | some f => Nat.beq f.offset off && (match szOf P f.type with | some n => !(Nat.beq n 0) | none => false)
  | none => false
def partsOK (P : Program) (t : TypeId) : List (Nat × Operand) → List (Nat × Nat × Opd) → Bool
  | [], [] => true
  | (i, x) :: r, (off, n, y) :: r' =>
    (match fieldAt? P t i with
     | some f => Nat.beq f.offset off && optEq (szOf P f.type) n && opdOK x y
     | none => false) && partsOK P t r r'
  | _, _ => false
def constsOK : List Value → List PV → Bool
  | [], [] => true
  | v :: vs, p :: ps => constOK v p && v.oneCell' && constsOK vs ps
  | _, _ => false
def zeroOK (P : Program) (t : TypeId) (z : List PV) : Bool :=
  match (P.info? t).bind (·.zero) with
  | some v => constsOK v.cells.toList z
  | none => false
set_option linter.unusedVariables false in
/-- how two values of a type are compared -/
def eqOK (P : Program) : Nat → TypeId → EqT → Bool
  | 0, _, _ => false
  | n + 1, t, e =>
    match P.underlying t, e with
    | some (.int _), .int => true
    | some .bool, .bool => true
    | some .string, .str => true
    | some (.struct fs), .st gs => !(P.stoodInHeld t) && fieldsEqOK (eqOK P n) fs.toList gs
    | _, _ => false
where
  fieldsEqOK (f : TypeId → EqT → Bool) : List Field → List (Nat × Nat × EqT) → Bool
    | [], [] => true
    | g :: r, (off, k, e) :: r' => (g.name != "_") && Nat.beq g.offset off && (tyOK P g.type k true || tyOK P g.type k false) && f g.type e && fieldsEqOK f r r'
    | _, _ => false
def isStruct (P : Program) (t : TypeId) : Bool := match P.underlying t with | some (.struct fs) => fs.toList.all (fun f => (szOf P f.type).isSome) | _ => false
def builtinOf : Callee → Option Builtin
  | .builtin b => some b
  | _ => none
def isB (c : Call) (b : Builtin) : Bool := match builtinOf c.callee with | some b' => decide (b' = b) | none => false
def esz (P : Program) (t : TypeId) (sz : Nat) : Bool := match sliceElem P t with | some e => optEq (szOf P e) sz | none => false
def lenOK (P : Program) (str : Bool) (y : Opd) : List Operand → List TypeId → Bool
  | [x], [t] => (bif str then isStrTy P t else (sliceElem P t).isSome) && opdOK x y
  | _, _ => false

def chkP (P : Program) (op : Op) : IOp → Bool
  | .mov y => (match op with | .move x => opdOK x y | .assign x => opdOK x y | _ => false)
  | .pick c' a' b' => (match op with | .pick c a b => opdOK c c' && opdOK a a' && opdOK b b' | _ => false)
  | .build z ps' => (match op with | .build t ps => isStruct P t && zeroOK P t z && partsOK P t ps.toList ps' | _ => false)
  | .nilck y => (match op with | .nilCheck x => opdOK x y | _ => false)
  | .bin op' x' y' => (match op with | .binOp op _ x y _ => decide (op = op') && opdOK x x' && opdOK y y' | _ => false)
  | .eqs e neg x' y' => (match op with | .binOp op t x y _ => decide (op = bif neg then .neq else .eql) && !(P.eqGuardType P.depth t) && eqOK P 16 t e && tyOK P t ((szOf P t).getD 0) true && opdOK x x' && opdOK y y' | _ => false)
  | .eqb neg x' y' => (match op with | .binOp op t x y _ => decide (op = bif neg then .neq else .eql) && isBoolTy P t && opdOK x x' && opdOK y y' | _ => false)
  | .un op' y => (match op with | .unOp op _ x => decide (op = op') && opdOK x y | _ => false)
  | .conv k y => (match op with | .convert s d x => intTy P d k && (P.underlying s).isSome && opdOK x y | _ => false)
  | .mkfn f' a' b' => (match op with | .makeFunc (.func f) a b => Nat.beq f f' && opdsOK a.toList a' && opdsOK b.toList b' | _ => false)
  | .slice sz x' lo' hi' mx' => (match op with | .slice t x lo hi mx => esz P t sz && opdOK x x' && optOK lo lo' && optOK hi hi' && optOK mx mx' | _ => false)
  | .cut x' lo' hi' => (match op with | .slice t x lo hi mx => isNone mx && isStrTy P t && opdOK x x' && optOK lo lo' && optOK hi hi' | _ => false)
  | .faddr off y => (match op with | .fieldAddr t x i => offOK P t i off && opdOK x y | _ => false)
  | .field off n ag y => (match op with | .field t x i => fieldOK P t i off n ag && opdOK x y | _ => false)
  | .iaddr sz x' i' => (match op with | .indexAddr t x i => esz P t sz && opdOK x x' && opdOK i i' | _ => false)
  | .index x' i' => (match op with | .index t x i => isStrTy P t && opdOK x x' && opdOK i i' | _ => false)
  | .extract y j => (match op with | .extract x i => Nat.beq i j && opdOK x y | _ => false)
  | .len str y => (match op with | .call c => isB c .len && lenOK P str y c.args.toList c.argTypes.toList | _ => false)
  | .mnmx isMax y ys => (match op with | .call c => isB c (bif isMax then .max else .min) && opdsOK c.args.toList (y :: ys) | _ => false)
  | _ => false

end Go.Pv
