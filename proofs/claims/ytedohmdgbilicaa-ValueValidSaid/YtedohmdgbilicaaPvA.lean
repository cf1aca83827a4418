/-
  What a call computes, without memory: values (PV), objects, operations, code, and the machine's oracle (X). No program is in sight here.
-/
import Derived.Calls
namespace Go.Pv

/-- A value as a tree. 'sl' and 'rf' speak of memory that nobody writes any more; 'bx' and 'ms' point into an object. -/
inductive PV where
  | un
  | bool (b : Bool)
  | int (k : IntKind) (n : Int)
  | str (s : ByteArray)
  | sl (l : List (List PV))
  | rf (c : List PV)
  | bx (id off : Nat)
  | ms (id sz off len : Nat)
  | ns (sz : Nat)
  | np
  | fn (f : Nat) (first captured : List PV)
  | nf
  | agg (c : List PV)
  | tup (c : List PV)
instance : Inhabited PV := ⟨.un⟩

/-- A variable or a row of the call's own: 'ro' cells at its head are written no more. -/
structure Ob where
  sz : Nat
  ro : Nat
  gr : Bool       -- may it be appended to?
  cells : List PV

def mapO {α β : Type} (f : α → Option β) : List α → Option (List β)
  | [] => some []
  | x :: r => (f x).bind fun y => (mapO f r).bind fun l => some (y :: l)

def look {α : Type} (h : List (Nat × α)) (id : Nat) : Option α :=
  match h with
  | [] => none
  | (k, x) :: r => bif Nat.beq k id then some x else look r id

def has (l : List Nat) (id : Nat) : Bool :=
  match l with
  | [] => false
  | k :: r => bif Nat.beq k id then true else has r id

def PV.cs : PV → List PV
  | .agg c => c
  | v => [v]
/-- Are its cells known for what they are? -/
def PV.fits : PV → Bool
  | .un => false
  | .tup _ => false
  | _ => true

/-! ### operations -/
inductive Opd where
  | t (n : Nat)
  | c (v : PV)
  | f (g : Nat)
def Opd.ev (e : Nat → PV) : Opd → PV
  | .t n => e n
  | .c v => v
  | .f g => .fn g [] []
def Opd.rd : Opd → List Nat
  | .t n => [n]
  | _ => []

/-- How two values of a type are compared. -/
inductive EqT where
  | int | bool | str
  | st (fields : List (Nat × Nat × EqT))

inductive IOp where
  | mov (x : Opd)
  | pick (c a b : Opd)
  | box (n : Nat) (x : Opd)
  | zero (z : List PV)
  | build (z : List PV) (parts : List (Nat × Nat × Opd))
  | lit (sz n : Nat) (z : List PV) (parts : List (Nat × Opd))
  | load (n : Nat) (ag : Bool) (a : Opd)
  | store (n : Nat) (a x : Opd)
  | nilck (x : Opd)
  | bin (op : BinOp) (x y : Opd)
  | eqs (t : EqT) (neg : Bool) (x y : Opd)
  | un (op : UnOp) (x : Opd)
  | conv (k : IntKind) (x : Opd)
  | mkfn (f : Nat) (first captured : List Opd)
  | mks (sz bytes : Nat) (z : List PV) (n : Opd)
  | slice (sz : Nat) (x : Opd) (lo hi mx : Option Opd)
  | cut (x : Opd) (lo hi : Option Opd)
  | faddr (off : Nat) (x : Opd)
  | field (off n : Nat) (ag : Bool) (x : Opd)
  | iaddr (sz : Nat) (x i : Opd)
  | index (x i : Opd)
  | extract (x : Opd) (i : Nat)
  | len (str : Bool) (x : Opd)
  | eqb (neg : Bool) (x y : Opd)
  | append (sz bytes : Nat) (x y : Opd)
  | mnmx (isMax : Bool) (x : Opd) (xs : List Opd)
  | clear (sz : Nat) (z : List PV) (x : Opd)
  | call (byRef : Bool) (f : Opd) (args : List Opd)

def optRd : Option Opd → List Nat
  | some x => x.rd
  | none => []
def listRd : List Opd → List Nat
  | [] => []
  | x :: r => x.rd ++ listRd r
def partRd : List (Nat × Nat × Opd) → List Nat
  | [] => []
  | (_, _, x) :: r => x.rd ++ partRd r
def litRd : List (Nat × Opd) → List Nat
  | [] => []
  | (_, x) :: r => x.rd ++ litRd r
def IOp.rd : IOp → List Nat
  | .mov x | .box _ x | .load _ _ x | .nilck x | .un _ x | .conv _ x | .faddr _ x | .field _ _ _ x | .extract x _ | .len _ x | .clear _ _ x => x.rd
  | .pick c a b => c.rd ++ (a.rd ++ b.rd)
  | .zero _ => []
  | .build _ ps => partRd ps
  | .lit _ _ _ ps => litRd ps
  | .store _ x y | .bin _ x y | .eqs _ _ x y | .eqb _ x y | .iaddr _ x y | .index x y | .append _ _ x y => x.rd ++ y.rd
  | .mkfn _ a b => listRd a ++ listRd b
  | .mks _ _ _ n => n.rd
  | .slice _ x a b c => x.rd ++ (optRd a ++ (optRd b ++ optRd c))
  | .cut x a b => x.rd ++ (optRd a ++ optRd b)
  | .mnmx _ x xs => x.rd ++ listRd xs
  | .call _ f xs => f.rd ++ listRd xs

structure IOper where
  dst : Option Nat
  guard : Option (Nat × Bool)   -- the slot that is asked, and the answer that is wanted
  op : IOp
  bef : List Nat                -- which operations of the region surely stand ahead of it

inductive RV where
  | tmp (t : Nat)
  | cell (t n : Nat) (ag : Bool)

inductive IR where
  | skip
  | reg (ops : List IOper) (draw : Bool)
  | seq (a b : IR)
  | cond (c : Opd) (a b : IR)
  | block (id : Nat) (b : IR)
  | loop (live : List Nat) (b : IR)
  | exit (id : Nat)
  | ret

structure IFn where
  np : Nat
  nt : Nat
  res : List RV
  keep : Bool
  body : IR

inductive Fun where
  | ir (f : IFn)
  | cmpstr
  | ax (φ : List PV → Option (PV × List Ob))   -- known by a contract

/-! ### what an operation comes to -/
structure Eff where
  v : PV
  hw : List (Nat × Option Ob)
  hr : List Nat

def rowsOf (sz : Nat) : Nat → List PV → List (List PV)
  | 0, _ => []
  | n + 1, l => l.take sz :: rowsOf sz n (l.drop sz)

/-- The tree of what v leads to, as it now stands; and which objects it leads through. -/
def fz (H : Nat → Option Ob) : Nat → PV → Option (PV × List Nat)
  | 0, _ => none
  | n + 1, v =>
    match v with
    | .bx _ _ => none
    | .ns _ => some (.sl [], [])
    | .ms id sz off len =>
      (H id).bind fun ob =>
        bif Nat.beq ob.sz sz && Nat.ble ((off + len) * sz) ob.cells.length then
          (mapO (fz H n) ((ob.cells.drop (off * sz)).take (len * sz))).bind fun l =>
            some (.sl (rowsOf sz len (l.map (·.1))), id :: (l.map (·.2)).flatten)
        else none
    | .agg c => (mapO (fz H n) c).bind fun l => some (.agg (l.map (·.1)), (l.map (·.2)).flatten)
    | .tup c => (mapO (fz H n) c).bind fun l => some (.tup (l.map (·.1)), (l.map (·.2)).flatten)
    | .fn f a b => (mapO (fz H n) a).bind fun l => (mapO (fz H n) b).bind fun m => some (.fn f (l.map (·.1)) (m.map (·.1)), (l.map (·.2)).flatten ++ (m.map (·.2)).flatten)
    | v => some (v, [])

/-- Where in a list a number stands. -/
def idxOf (l : List Nat) (id : Nat) : Option Nat :=
  match l with
  | [] => none
  | k :: r => bif Nat.beq k id then some 0 else (idxOf r id).map (· + 1)

/-- What is handed over: pointers by the place of their object in 'ids' (which may grow), all else as the tree that it is. -/
structure Pass where
  v : PV
  ids : List Nat
  fr : List Nat     -- objects that were lent

def passL (f : PV → List Nat → Option Pass) : List PV → List Nat → Option (List PV × List Nat × List Nat)
  | [], ids => some ([], ids, [])
  | p :: r, ids => (f p ids).bind fun x => (passL f r x.ids).bind fun y => some (x.v :: y.1, y.2.1, x.fr ++ y.2.2)

def addId (ids : List Nat) (id : Nat) : Nat × List Nat :=
  match idxOf ids id with
  | some i => (i, ids)
  | none => (ids.length, ids ++ [id])

def pass (H : Nat → Option Ob) (byRef : Bool) : Nat → PV → List Nat → Option Pass
  | 0, _, _ => none
  | n + 1, v, ids =>
    match v with
    | .bx id off => let x := addId ids id; some ⟨.bx x.1 off, x.2, []⟩
    | .ms id sz off len =>
      bif byRef then (let x := addId ids id; some ⟨.ms x.1 sz off len, x.2, []⟩)
      else (fz H 8 (.ms id sz off len)).bind fun x => some ⟨x.1, ids, x.2⟩
    | .ns _ => some ⟨.sl [], ids, []⟩
    | .agg c => (passL (pass H byRef n) c ids).bind fun y => some ⟨.agg y.1, y.2.1, y.2.2⟩
    | .tup c => (passL (pass H byRef n) c ids).bind fun y => some ⟨.tup y.1, y.2.1, y.2.2⟩
    | .fn f a b => (passL (pass H byRef n) a ids).bind fun y => (passL (pass H byRef n) b y.2.1).bind fun z => some ⟨.fn f y.1 z.1, z.2.1, y.2.2 ++ z.2.2⟩
    | v => some ⟨v, ids, []⟩

/-- The objects that are handed over: from place k on. -/
def passObs (H : Nat → Option Ob) (byRef own : Bool) : Nat → Nat → List Nat → Option (List Ob × List Nat × List Nat)
  | 0, _, _ => none
  | n + 1, k, ids =>
    match ids[k]? with
    | none => some ([], ids, [])
    | some id =>
      (H id).bind fun ob => (passL (pass H byRef 8) ob.cells ids).bind fun y =>
        (passObs H byRef own n (k + 1) y.2.1).bind fun z => some (⟨ob.sz, ob.ro, ob.gr && own, y.1⟩ :: z.1, z.2.1, y.2.2 ++ z.2.2)

/-- Back at the caller's: places become numbers again. -/
def ren (ids : List Nat) (fr : Nat) (p : Nat) : Nat :=
  match ids[p]? with
  | some id => id
  | none => fr + (p - ids.length)
def back (g : Nat → Nat) : Nat → PV → Option PV
  | 0, _ => none
  | n + 1, v =>
    match v with
    | .bx id off => some (.bx (g id) off)
    | .ms id sz off len => some (.ms (g id) sz off len)
    | .agg c => (mapO (back g n) c).bind fun l => some (.agg l)
    | .tup c => (mapO (back g n) c).bind fun l => some (.tup l)
    | .fn f a b => (mapO (back g n) a).bind fun l => (mapO (back g n) b).bind fun m => some (.fn f l m)
    | v => some v
def backObs (g : Nat → Nat) : Nat → List Ob → Option (List (Nat × Option Ob))
  | _, [] => some []
  | k, ob :: r => (mapO (back g 8) ob.cells).bind fun l => (backObs g (k + 1) r).bind fun m => some ((g k, some ⟨ob.sz, ob.ro, ob.gr, l⟩) :: m)

/-- Does it lead to no memory at all? -/
def flat : Nat → PV → Bool
  | 0, _ => false
  | n + 1, v =>
    match v with
    | .sl _ => false
    | .rf _ => false
    | .agg c => c.all (flat n)
    | .tup c => c.all (flat n)
    | .fn _ a b => a.all (flat n) && b.all (flat n)
    | _ => true

/-- What was lent, and may be held on to, is written no more. -/
def shut (H : Nat → Option Ob) : List Nat → Option (List (Nat × Option Ob))
  | [] => some []
  | id :: r => (H id).bind fun ob => (shut H r).bind fun m => some ((id, some ⟨ob.sz, ob.cells.length, ob.gr, ob.cells⟩) :: m)

/-- Who is asked: a call (arguments, objects that are handed over), a loop from its head on. -/
inductive En where
  | call (f : Nat) (args : List PV) (h : List Ob)
  | loop (m : Nat) (live : List Nat) (body : IR) (env : List PV) (h : List Ob)
inductive Ex where
  | normal
  | exit (id : Nat)
  | ret
structure St where
  env : List PV
  heap : List (Nat × Ob)
  nx : Nat
inductive Rs where
  | ret (v : PV) (h : List Ob)
  | st (x : Ex) (s : St)
abbrev Orc := En → Option Rs

def isOk {α : Type} (o : Option α) (p : α → Bool) : Bool :=
  match o with
  | some x => p x
  | none => false

/-- parts laid over a zero value: offset, size, what is laid there -/
def fillP (z : List PV) : List (Nat × Nat × PV) → Option (List PV)
  | [] => some z
  | (off, n, p) :: r =>
    bif Nat.beq p.cs.length n && Nat.ble (off + n) z.length && p.fits then fillP (z.take off ++ (p.cs ++ z.drop (off + n))) r else none

def rep (z : List PV) : Nat → List PV
  | 0 => []
  | n + 1 => z ++ rep z n

def IntKind.eqb : IntKind → IntKind → Bool
  | .i8, .i8 | .i16, .i16 | .i32, .i32 | .i64, .i64 | .u8, .u8 | .u16, .u16 | .u32, .u32 | .u64, .u64 => true
  | _, _ => false

def ibin (op : BinOp) (k : IntKind) (x y : Int) : Option PV :=
  match op with
  | .add => some (.int k (k.wrap (x + y)))
  | .sub => some (.int k (k.wrap (x - y)))
  | .mul => some (.int k (k.wrap (x * y)))
  | .quo => bif decide (y = 0) then none else some (.int k (k.wrap (x.tdiv y)))
  | .rem => bif decide (y = 0) then none else some (.int k (x.tmod y))
  | .xor => some (.int k (k.wrap ((BitVec.ofInt k.bits x ^^^ BitVec.ofInt k.bits y).toNat : Int)))
  | .and => some (.int k (k.wrap ((BitVec.ofInt k.bits x &&& BitVec.ofInt k.bits y).toNat : Int)))
  | .eql => some (.bool (x == y))
  | .neq => some (.bool (x != y))
  | .lss => some (.bool (decide (x < y)))
  | .leq => some (.bool (decide (x ≤ y)))
  | .gtr => some (.bool (decide (x > y)))
  | .geq => some (.bool (decide (x ≥ y)))
  | _ => none
def sbin (op : BinOp) (x y : ByteArray) : Option PV :=
  match op with
  | .add => bif Nat.ble (x.size + y.size) 9223372036854775807 then some (.str (x ++ y)) else none
  | .eql => some (.bool (x.toList == y.toList))
  | .neq => some (.bool (!(x.toList == y.toList)))
  | .lss => some (.bool (Op.bytesLess x.toList y.toList))
  | .leq => some (.bool (Op.bytesLess x.toList y.toList || x.toList == y.toList))
  | .gtr => some (.bool (!(Op.bytesLess x.toList y.toList || x.toList == y.toList)))
  | .geq => some (.bool (!(Op.bytesLess x.toList y.toList)))
  | _ => none
def pbin (op : BinOp) (x y : PV) : Option PV :=
  match x, y with
  | .int k a, .int k' b =>
    (match op with
     | .shr => (bif decide (0 ≤ b) then some (.int k (a.fdiv (2 ^ (min b.toNat k.bits)))) else none)
     | op => (bif IntKind.eqb k k' then ibin op k a b else none))
  | .str a, .str b => sbin op a b
  | _, _ => none

def eqf (f : EqT → List PV → List PV → Option Bool) : List (Nat × Nat × EqT) → List PV → List PV → Option Bool
  | [], _, _ => some true
  | (off, k, t) :: r, x, y =>
    bif Nat.ble (off + k) x.length && Nat.ble (off + k) y.length then
      (f t ((x.drop off).take k) ((y.drop off).take k)).bind fun b => (eqf f r x y).bind fun c => some (b && c)
    else none
def eqv : Nat → EqT → List PV → List PV → Option Bool
  | 0, _, _, _ => none
  | n + 1, t, x, y =>
    match t with
    | .int => (match x, y with | [.int k a], [.int k' b] => (bif IntKind.eqb k k' then some (a == b) else none) | _, _ => none)
    | .bool => (match x, y with | [.bool a], [.bool b] => some (a == b) | _, _ => none)
    | .str => (match x, y with | [.str a], [.str b] => some (a.toList == b.toList) | _, _ => none)
    | .st fs => eqf (eqv n) fs x y

def asNat : PV → Option Nat
  | .int _ n => bif decide (0 ≤ n) then some n.toNat else none
  | _ => none

def mm (isMax : Bool) (x y : PV) : Option PV :=
  match x, y with
  | .int k a, .int k' b => bif IntKind.eqb k k' then some (.int k (bif isMax then (if b > a then b else a) else (if b < a then b else a))) else none
  | _, _ => none
def mmL (isMax : Bool) (x : PV) : List PV → Option PV
  | [] => some x
  | y :: r => (mm isMax x y).bind fun z => mmL isMax z r

/-- what stands in a pointer's place: n cells -/
def reads (H : Nat → Option Ob) (n : Nat) : PV → Option (List PV × List Nat)
  | .bx id off => (H id).bind fun ob => bif Nat.ble (off + n) ob.cells.length then some ((ob.cells.drop off).take n, [id]) else none
  | .rf c => bif Nat.ble n c.length then some (c.take n, []) else none
  | _ => none
def shape (ag : Bool) (c : List PV) : Option PV :=
  bif ag then some (.agg c) else (match c with | [p] => some p | _ => none)

def rowsSz (l : List (List PV)) (sz : Nat) : Bool := l.all fun r => Nat.beq r.length sz

/-- the cells that an append takes from a slice: how many elements, which cells -/
def source (H : Nat → Option Ob) (sz : Nat) : PV → Option (Nat × List PV × List Nat)
  | .sl l => bif rowsSz l sz then some (l.length, l.flatten, []) else none
  | .ns _ => some (0, [], [])
  | .ms id sz' off len => (H id).bind fun ob => bif Nat.beq sz' sz && Nat.beq ob.sz sz && Nat.ble ((off + len) * sz) ob.cells.length then some (len, (ob.cells.drop (off * sz)).take (len * sz), [id]) else none
  | _ => none

def evs (e : Nat → PV) : List Opd → List PV
  | [] => []
  | x :: r => x.ev e :: evs e r
def evParts (e : Nat → PV) : List (Nat × Nat × Opd) → List (Nat × Nat × PV)
  | [] => []
  | (i, n, x) :: r => (i, n, x.ev e) :: evParts e r
def evLits (e : Nat → PV) (sz : Nat) : List (Nat × Opd) → List (Nat × Nat × PV)
  | [] => []
  | (i, x) :: r => (i * sz, sz, x.ev e) :: evLits e sz r
def optNat (e : Nat → PV) (d : Nat) : Option Opd → Option Nat
  | none => some d
  | some x => asNat (x.ev e)

def isNone {α : Type} : Option α → Bool
  | none => true
  | some _ => false

/-- a call: the function's number, its arguments -/
def target : PV → List PV → Option (Nat × List PV)
  | .fn f a b, xs => some (f, a ++ xs ++ b)
  | _, _ => none

def disj (a b : List Nat) : Bool :=
  match a with
  | [] => true
  | x :: r => !(has b x) && disj r b

def icall (X : Orc) (H : Nat → Option Ob) (fr : Nat) (byRef : Bool) (f : Nat) (args : List PV) : Option Eff :=
  (passL (pass H byRef 8) args []).bind fun y =>
  (passObs H false false 16 0 y.2.1).bind fun z =>
  let ids := z.2.1
  let lent := y.2.2 ++ z.2.2
  bif disj lent ids then
    (X (.call f y.1 z.1)).bind fun r =>
      match r with
      | .ret v h =>
        bif Nat.ble ids.length h.length && Nat.ble (h.length - ids.length) 64 then
          (back (ren ids fr) 8 v).bind fun v' => (backObs (ren ids fr) 0 h).bind fun ws =>
            bif flat 8 v && h.all (fun ob => ob.cells.all (flat 8)) then some ⟨v', ws, ids ++ lent⟩
            else (shut H lent).bind fun cl => some ⟨v', ws ++ cl, ids ++ lent⟩
        else none
      | _ => none
  else none

/-- Operations that ask and turn nothing outside of their operands. -/
def opP (e : Nat → PV) : IOp → Option PV
  | .mov x => some (x.ev e)
  | .pick c a b => (match c.ev e with | .bool t => some (bif t then a.ev e else b.ev e) | _ => none)
  | .build z ps => (fillP z (evParts e ps)).bind fun c => some (.agg c)
  | .nilck x =>
    (match x.ev e with
     | .bx id off => some (.bx id off)
     | .rf c => some (.rf c)
     | .fn f a b => some (.fn f a b)
     | _ => none)
  | .bin op x y => pbin op (x.ev e) (y.ev e)
  | .eqs t neg x y =>
    (match x.ev e, y.ev e with
     | .agg a, .agg b => (eqv 16 t a b).bind fun q => some (.bool (bif neg then !q else q))
     | _, _ => none)
  | .un op x =>
    (match op, x.ev e with
     | .not, .bool b => some (.bool (!b))
     | .neg, .int k n => some (.int k (k.wrap (0 - n)))
     | _, _ => none)
  | .conv k x => (match x.ev e with | .int _ n => some (.int k (k.wrap n)) | _ => none)
  | .mkfn f a b => some (.fn f (evs e a) (evs e b))
  | .slice sz x lo hi mx =>
    (optNat e 0 lo).bind fun l =>
    (match mx with
     | some m =>
       (asNat (m.ev e)).bind fun m => (optNat e 1 hi).bind fun h =>
       (bif Nat.beq m 0 && Nat.beq h 0 && Nat.beq l 0 then
         (match x.ev e with
          | .sl _ => some (.ns sz)
          | .ns _ => some (.ns sz)
          | .ms _ _ _ _ => some (.ns sz)
          | _ => none)
       else none)
     | none =>
       (match x.ev e with
        | .sl rs => (optNat e rs.length hi).bind fun h => (bif rowsSz rs sz && (Nat.ble l h && Nat.ble h rs.length) then some (.sl ((rs.take h).drop l)) else none)
        | .ns _ => (optNat e 0 hi).bind fun h => (bif Nat.beq l 0 && Nat.beq h 0 then some (.ns sz) else none)
        | .ms id sz' off len => (optNat e len hi).bind fun h => (bif Nat.beq sz' sz && Nat.ble l h && Nat.ble h len then some (.ms id sz (off + l) (h - l)) else none)
        | _ => none))
  | .cut x lo hi =>
    (match x.ev e with
     | .str s => (optNat e 0 lo).bind fun l => (optNat e s.size hi).bind fun h => (bif Nat.ble l h && Nat.ble h s.size then some (.str (s.extract l h)) else none)
     | _ => none)
  | .faddr off x =>
    (match x.ev e with
     | .bx id o => some (.bx id (o + off))
     | .rf c => some (.rf (c.drop off))
     | _ => none)
  | .field off n ag x =>
    (match x.ev e with
     | .agg c => (bif Nat.ble (off + n) c.length then shape ag ((c.drop off).take n) else none)
     | _ => none)
  | .iaddr sz x i =>
    (asNat (i.ev e)).bind fun i =>
    (match x.ev e with
     | .sl l => (match l[i]? with | some r => (bif Nat.beq r.length sz then some (.rf r) else none) | none => none)
     | .ms id sz' off len => (bif Nat.beq sz' sz && Nat.blt i len then some (.bx id ((off + i) * sz)) else none)
     | _ => none)
  | .index x i =>
    (asNat (i.ev e)).bind fun i =>
    (match x.ev e with
     | .str s => (match s.data[i]? with | some b => some (.int .u8 (b.toNat : Int)) | none => none)
     | _ => none)
  | .extract x i => (match x.ev e with | .tup vs => vs[i]? | _ => none)
  | .len str x =>
    (bif str then (match x.ev e with | .str s => some (.int .i64 (s.size : Int)) | _ => none)
     else
      (match x.ev e with
       | .sl l => some (.int .i64 (l.length : Int))
       | .ms _ _ _ n => some (.int .i64 (n : Int))
       | .ns _ => some (.int .i64 0)
       | _ => none))
  | .eqb neg x y =>
    (match x.ev e, y.ev e with
     | .bool a, .bool b => some (.bool (bif neg then !(a == b) else (a == b)))
     | _, _ => none)
  | .mnmx m x xs => mmL m (x.ev e) (evs e xs)
  | _ => none

/-- Operations that make an object: number fr. -/
def opA (e : Nat → PV) (fr : Nat) : IOp → Option (PV × Ob)
  | .box n x => (bif Nat.beq (x.ev e).cs.length n && (x.ev e).fits then some (.bx fr 0, ⟨n, 0, true, (x.ev e).cs⟩) else none)
  | .zero z => some (.bx fr 0, ⟨z.length, 0, true, z⟩)
  | .lit sz n z ps => (fillP (rep z n) (evLits e sz ps)).bind fun c => some (.ms fr sz 0 n, ⟨sz, 0, true, c⟩)
  | .mks sz bytes z n =>
    (match n.ev e with
     | .int _ m => (bif decide (0 ≤ m) && decide (m * (bytes : Int) ≤ 140737488355328) then some (.ms fr sz 0 m.toNat, ⟨sz, 0, true, rep z m.toNat⟩) else none)
     | _ => none)
  | _ => none

def opLoad (H : Nat → Option Ob) (n : Nat) (ag : Bool) (a : PV) : Option Eff :=
  (reads H n a).bind fun c => (shape ag c.1).bind fun v => some ⟨v, [], c.2⟩
def opStore (H : Nat → Option Ob) (n : Nat) (a x : PV) : Option Eff :=
  match a with
  | .bx id off =>
    (H id).bind fun ob =>
      bif Nat.beq x.cs.length n && x.fits && Nat.ble ob.ro off && Nat.ble (off + n) ob.cells.length then
        some ⟨.un, [(id, some ⟨ob.sz, ob.ro, ob.gr, ob.cells.take off ++ (x.cs ++ ob.cells.drop (off + n))⟩)], [id]⟩
      else none
  | _ => none
/-- What stays of a row when its first k cells are appended to. -/
def apC (ob : Ob) (k : Nat) : Option (List PV) :=
  bif Nat.beq ob.cells.length k then some ob.cells
  else bif Nat.ble k ob.cells.length && Nat.ble ob.ro k then some (ob.cells.take k) else none
def opAppend (H : Nat → Option Ob) (fr sz bytes : Nat) (x y : PV) : Option Eff :=
  (source H sz y).bind fun s =>
  match x with
  | .ns _ =>
    bif Nat.ble (s.1 * bytes) 140737488355328 then
      (match s.1 with
       | 0 => some ⟨.ns sz, [], s.2.2⟩
       | n + 1 => some ⟨.ms fr sz 0 (n + 1), [(fr, some ⟨sz, 0, true, s.2.1⟩)], s.2.2⟩)
    else none
  | .ms id sz' off len =>
    (H id).bind fun ob =>
      bif ob.gr && Nat.beq sz' sz && Nat.beq ob.sz sz && Nat.beq off 0 && Nat.ble ((len + s.1) * bytes) 140737488355328 then
        (apC ob (len * sz)).bind fun cs => some ⟨.ms fr sz 0 (len + s.1), [(id, none), (fr, some ⟨sz, ob.ro, true, cs ++ s.2.1⟩)], id :: s.2.2⟩
      else none
  | _ => none
def opClear (H : Nat → Option Ob) (sz : Nat) (z : List PV) (x : PV) : Option Eff :=
  match x with
  | .ns _ => some ⟨.tup [], [], []⟩
  | .ms _ _ _ 0 => some ⟨.tup [], [], []⟩
  | .ms id sz' off (len + 1) =>
    (H id).bind fun ob =>
      bif Nat.beq sz' sz && Nat.beq ob.sz sz && Nat.beq z.length sz && Nat.ble ob.ro (off * sz) && Nat.ble ((off + (len + 1)) * sz) ob.cells.length then
        some ⟨.tup [], [(id, some ⟨sz, ob.ro, ob.gr, ob.cells.take (off * sz) ++ (rep z (len + 1) ++ ob.cells.drop (off * sz + (rep z (len + 1)).length))⟩)], [id]⟩
      else none
  | _ => none

/-- One operation: fr is the first number of an object that it may make. -/
def iop (X : Orc) (e : Nat → PV) (H : Nat → Option Ob) (fr : Nat) : IOp → Option Eff
  | .box n x => (opA e fr (.box n x)).bind fun y => some ⟨y.1, [(fr, some y.2)], []⟩
  | .zero z => (opA e fr (.zero z)).bind fun y => some ⟨y.1, [(fr, some y.2)], []⟩
  | .lit sz n z ps => (opA e fr (.lit sz n z ps)).bind fun y => some ⟨y.1, [(fr, some y.2)], []⟩
  | .mks sz b z n => (opA e fr (.mks sz b z n)).bind fun y => some ⟨y.1, [(fr, some y.2)], []⟩
  | .load n ag a => opLoad H n ag (a.ev e)
  | .store n a x => opStore H n (a.ev e) (x.ev e)
  | .append sz b x y => opAppend H fr sz b (x.ev e) (y.ev e)
  | .clear sz z x => opClear H sz z (x.ev e)
  | .call byRef f args => (target (f.ev e) (evs e args)).bind fun t => icall X H fr byRef t.1 t.2
  | o => (opP e o).bind fun v => some ⟨v, [], []⟩

/-! ### a region -/
def IOper.wanted (o : IOper) (e : Nat → PV) : Option Bool :=
  match o.guard with
  | none => some true
  | some (s, w) => match e s with | .bool b => some (b == w) | .tup _ => some false | _ => none

def istep (X : Orc) (e : Nat → PV) (H : Nat → Option Ob) (fr : Nat) (o : IOper) : Option Eff :=
  (o.wanted e).bind fun w => bif w then iop X e H fr o.op else some ⟨.tup [], [], []⟩

def put (l : List PV) (d : Option Nat) (v : PV) : List PV :=
  match d with
  | none => l
  | some d => l.set d v

def hput (h : List (Nat × Ob)) : List (Nat × Option Ob) → List (Nat × Ob)
  | [] => h
  | (id, some ob) :: r => hput (repl h id ob) r
  | (id, none) :: r => hput (drop h id) r
where
  repl (h : List (Nat × Ob)) (id : Nat) (ob : Ob) : List (Nat × Ob) :=
    match h with
    | [] => [(id, ob)]
    | (k, x) :: r => bif Nat.beq k id then (k, ob) :: r else (k, x) :: repl r id ob
  drop (h : List (Nat × Ob)) (id : Nat) : List (Nat × Ob) :=
    match h with
    | [] => []
    | (k, x) :: r => bif Nat.beq k id then drop r id else (k, x) :: drop r id

def envF (l : List PV) (t : Nat) : PV := l.getD t .un

/-- the operations from number i on, in the text's order; what each came to -/
def iregion (X : Orc) (nx : Nat) : Nat → List IOper → List PV → List (Nat × Ob) → Option (List PV × List (Nat × Ob) × List Eff)
  | _, [], env, h => some (env, h, [])
  | i, o :: r, env, h =>
    (istep X (envF env) (look h) (nx + 64 * i) o).bind fun x =>
      (iregion X nx (i + 1) r (put env o.dst x.v) (hput h x.hw)).bind fun y => some (y.1, y.2.1, x :: y.2.2)

def IOper.looks (o : IOper) : List Nat :=
  match o.guard with
  | none => o.op.rd
  | some (s, _) => s :: o.op.rd
def optHas (l : List Nat) : Option Nat → Bool
  | none => false
  | some d => has l d
def dstEq : Option Nat → Option Nat → Bool
  | some a, some b => Nat.beq a b
  | _, _ => false

/-- do the two meddle with each other? -/
def clash (a : IOper) (x : Eff) (b : IOper) (y : Eff) : Bool :=
  optHas b.looks a.dst || optHas a.looks b.dst || dstEq a.dst b.dst ||
    !(disj (x.hw.map (·.1)) (y.hr ++ y.hw.map (·.1))) || !(disj (y.hw.map (·.1)) x.hr)

def calm1 (j : Nat) (b : IOper) (y : Eff) : Nat → List (IOper × Eff) → Bool
  | _, [] => true
  | i, (a, x) :: r => (Nat.beq i j || has b.bef i || !(clash a x b y)) && calm1 j b y (i + 1) r
def calm (all : List (IOper × Eff)) : Nat → List (IOper × Eff) → Bool
  | _, [] => true
  | j, (b, y) :: r => calm1 j b y 0 (all.take j) && calm all (j + 1) r

def ireg (X : Orc) (ops : List IOper) (draw : Bool) (s : St) : Option St :=
  (iregion X s.nx 0 ops s.env s.heap).bind fun y =>
    bif !draw || calm (ops.zip y.2.2) 0 (ops.zip y.2.2) then some ⟨y.1, y.2.1, s.nx + 64 * ops.length⟩ else none

/-! ### tidying up at a loop's head -/
def mask (live : List Nat) : Nat → List PV → List PV
  | _, [] => []
  | i, p :: r => (bif has live i then p else .un) :: mask live (i + 1) r

def upTo : Nat → List Nat
  | 0 => []
  | n + 1 => upTo n ++ [n]

/-- a slice without a place is laid anew, as a row of no element: number nx and on -/
def virtL : Nat → List PV → List PV × Nat × List (Nat × Ob)
  | nx, [] => ([], nx, [])
  | nx, .ns sz :: r => let y := virtL (nx + 1) r; (.ms nx sz 0 0 :: y.1, y.2.1, (nx, ⟨sz, 0, true, []⟩) :: y.2.2)
  | nx, p :: r => let y := virtL nx r; (p :: y.1, y.2.1, y.2.2)
def virtH : Nat → List (Nat × Ob) → List (Nat × Ob) × Nat × List (Nat × Ob)
  | nx, [] => ([], nx, [])
  | nx, (id, ob) :: r => let y := virtL nx ob.cells; let z := virtH y.2.1 r; ((id, ⟨ob.sz, ob.ro, ob.gr, y.1⟩) :: z.1, z.2.1, y.2.2 ++ z.2.2)

def gc (m : Nat) (live : List Nat) (s : St) : Option (List PV × List Ob) :=
  let a := virtL s.nx (mask live 0 s.env)
  let b := virtH a.2.1 s.heap
  let H := look (b.1 ++ (a.2.2 ++ b.2.2))
  (passL (pass H true 8) a.1 (upTo m)).bind fun y =>
    (passObs H true true 32 0 y.2.1).bind fun z => some (y.1, z.1)

def number : Nat → List Ob → List (Nat × Ob)
  | _, [] => []
  | i, o :: r => (i, o) :: number (i + 1) r

/-! ### code -/
def icode (X : Orc) (m : Nat) : IR → St → Option (Ex × St)
  | .skip, s => some (.normal, s)
  | .reg ops draw, s => (ireg X ops draw s).bind fun s' => some (.normal, s')
  | .seq a b, s => (icode X m a s).bind fun x => (match x.1 with | .normal => icode X m b x.2 | e => some (e, x.2))
  | .cond c a b, s => (match c.ev (envF s.env) with | .bool t => (bif t then icode X m a s else icode X m b s) | _ => none)
  | .block id b, s => (icode X m b s).bind fun x => (match x.1 with | .exit j => (bif Nat.beq j id then some (.normal, x.2) else some (.exit j, x.2)) | e => some (e, x.2))
  | .loop live b, s => (gc m live s).bind fun y => (X (.loop m live b y.1 y.2)).bind fun r => (match r with | .st e s' => some (e, s') | _ => none)
  | .exit id, s => some (.exit id, s)
  | .ret, s => some (.ret, s)

/-! ### a function's end -/
def rv (s : St) : RV → Option PV
  | .tmp t => some (envF s.env t)
  | .cell t n ag => (reads (look s.heap) n (envF s.env t)).bind fun c => shape ag c.1

/-- What a function makes is the caller's own: it may be appended to. -/
def regr : Nat → List Ob → List Ob
  | _, [] => []
  | 0, o :: r => ⟨o.sz, o.ro, true, o.cells⟩ :: regr 0 r
  | m + 1, o :: r => o :: regr m r
/-- Pointers (and, where 'keep' says so, slices that stand in a result) go on by their objects, which are numbered as they come; all else is told as the tree that it is. -/
def fin (fn : IFn) (m : Nat) (s : St) : Option Rs :=
  (mapO (rv s) fn.res).bind fun vs =>
    let a := bif fn.keep then virtL s.nx vs else (vs, s.nx, [])
    let H := look (s.heap ++ a.2.2)
    (passL (pass H fn.keep 8) a.1 (upTo m)).bind fun y =>
      (passObs H false true 32 0 y.2.1).bind fun z =>
        bif disj (y.2.2 ++ z.2.2) z.2.1 then some (.ret (match y.1 with | [v] => v | l => .tup l) (regr m z.1)) else none

def cmpL : List UInt8 → List UInt8 → Int
  | [], [] => 0
  | [], _ :: _ => -1
  | _ :: _, [] => 1
  | a :: x, b :: y => if a < b then -1 else if b < a then 1 else cmpL x y

def nuns : Nat → List PV
  | 0 => []
  | n + 1 => .un :: nuns n

/-- One round of the oracle. -/
def phi (G : Nat → Option Fun) (X : Orc) : Orc
  | .call f args h =>
    (match G f with
     | some (.ir fn) =>
       (bif Nat.beq args.length fn.np then
         (icode X h.length fn.body ⟨args ++ nuns (fn.nt - fn.np), number 0 h, h.length⟩).bind fun x =>
           (match x.1 with
            | .exit _ => none
            | _ => fin fn h.length x.2)
       else none)
     | some .cmpstr => (match args, h with | [.str a, .str b], [] => some (.ret (.int .i64 (cmpL a.toList b.toList)) []) | _, _ => none)
     | some (.ax φ) => (match h with | [] => (φ args).bind fun y => some (.ret y.1 y.2) | _ => none)
     | none => none)
  | .loop m live b env h =>
    (icode X m b ⟨env, number 0 h, h.length⟩).bind fun x =>
      (match x.1 with
       | .normal => (gc m live x.2).bind fun y => X (.loop m live b y.1 y.2)
       | e => some (.st e x.2))

/-- functions by their numbers -/
def tabG : List (Nat × Fun) → Nat → Option Fun
  | [], _ => none
  | (k, d) :: r, f => bif Nat.beq k f then some d else tabG r f

def runs (G : Nat → Option Fun) : Nat → Orc
  | 0 => fun _ => none
  | n + 1 => phi G (runs G n)

end Go.Pv
