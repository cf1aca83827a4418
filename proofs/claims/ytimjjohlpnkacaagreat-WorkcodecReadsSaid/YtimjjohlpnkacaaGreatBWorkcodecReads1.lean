/- Texts of the claim, merged by a program; what the statement does not reach is left out. -/
import Derived.Calls
import Derived.Below
import Derived.Laws.Sem
import Derived.Laws.StructEq
import Derived.Laws.Cells
import Derived.Deep.MidRow
import Derived.Deep.AppendSrc
import Derived.Laws.MakeOwn
import Derived.Deep.Upon

section
/-
  What a call computes, without eX: dK (PV), objects, operations, code, and the machine's oracle (X). No program is in sight here.
-/
namespace Go.Pv
inductive PV where
  | un
  | bool (b : Bool)
  | int (k : IntKind) (n : Int)
  | str (s : ByteArray)
  | sl (l : List (List PV))
  | rf (c : List PV)
  | bx (id off : Nat)
  | ms (id sz off len : Nat)
  | ns (sz : Nat)
  | np
  | fn (f : Nat) (first captured : List PV)
  | nf
  | agg (c : List PV)
  | tup (c : List PV)
abbrev iN (n : Int) : PV := .int .i64 n
instance : Inhabited PV := ⟨.un⟩
structure Ob where
  sz : Nat
  ro : Nat
  gr : Bool       -- may it be appended to?
  cells : List PV
def mapO {α β : Type} (f : α → Option β) : List α → Option (List β)
 | [] => some []
 | x :: r => (f x).bind fun y => (mapO f r).bind fun l => some (y :: l)
def look {α : Type} (h : List (Nat × α)) (id : Nat) : Option α :=
 match h with
 | [] => none
 | (k, x) :: r => bif Nat.beq k id then some x else look r id
def has (l : List Nat) (id : Nat) : Bool :=
 match l with
 | [] => false
 | k :: r => bif Nat.beq k id then true else has r id
def PV.cs : PV → List PV
 | .agg c => c
 | v => [v]
def PV.fits : PV → Bool
 | .un => false
 | .tup _ => false
 | _ => true
inductive Opd where
  | t (n : Nat)
  | c (v : PV)
  | f (g : Nat)
instance (n : Nat) : OfNat Opd n := ⟨.t n⟩
def Opd.ev (e : Nat → PV) : Opd → PV
 | .t n => e n
 | .c v => v
 | .f g => .fn g [] []
def Opd.rd : Opd → List Nat
 | .t n => [n]
 | _ => []
inductive EqT where
  | int | bool | str
  | st (fields : List (Nat × Nat × EqT))
inductive IOp where
  | mov (x : Opd)
  | pick (c a b : Opd)
  | box (n : Nat) (x : Opd)
  | zero (z : List PV)
  | build (z : List PV) (parts : List (Nat × Nat × Opd))
  | lit (sz n : Nat) (z : List PV) (parts : List (Nat × Opd))
  | load (n : Nat) (ag : Bool) (a : Opd)
  | store (n : Nat) (a x : Opd)
  | nilck (x : Opd)
  | bin (op : BinOp) (x y : Opd)
  | eqs (t : EqT) (neg : Bool) (x y : Opd)
  | un (op : UnOp) (x : Opd)
  | conv (k : IntKind) (x : Opd)
  | mkfn (f : Nat) (first captured : List Opd)
  | mks (sz bytes : Nat) (z : List PV) (n : Opd)
  | slice (sz : Nat) (x : Opd) (lo hi mx : Option Opd)
  | cut (x : Opd) (lo hi : Option Opd)
  | faddr (off : Nat) (x : Opd)
  | field (off n : Nat) (ag : Bool) (x : Opd)
  | iaddr (sz : Nat) (x i : Opd)
  | aaddr (n sz : Nat) (x i : Opd)
  | bzero (z : List PV)
  | index (x i : Opd)
  | extract (x : Opd) (i : Nat)
  | len (str : Bool) (x : Opd)
  | eqb (neg : Bool) (x y : Opd)
  | append (sz bytes : Nat) (x y : Opd)
  | mnmx (isMax : Bool) (x : Opd) (xs : List Opd)
  | clear (sz : Nat) (z : List PV) (x : Opd)
  | call (byRef : Bool) (f : Opd) (args : List Opd)
def Q1bq : Option Opd → List Nat
 | some x => x.rd
 | none => []
def Qo2 : List Opd → List Nat
 | [] => []
 | x :: r => x.rd ++ Qo2 r
def Q18h : List (Nat × Nat × Opd) → List Nat
 | [] => []
 | (_, _, x) :: r => x.rd ++ Q18h r
def Q1lk : List (Nat × Opd) → List Nat
 | [] => []
 | (_, x) :: r => x.rd ++ Q1lk r
def IOp.rd : IOp → List Nat
 | .mov x | .box _ x | .load _ _ x | .nilck x | .un _ x | .conv _ x | .faddr _ x | .field _ _ _ x | .extract x _ | .len _ x | .clear _ _ x => x.rd
 | .pick c a b => c.rd ++ (a.rd ++ b.rd)
 | .zero _ => []
 | .build _ ps => Q18h ps
 | .bzero _ => []
 | .lit _ _ _ ps => Q1lk ps
 | .store _ x y | .bin _ x y | .eqs _ _ x y | .eqb _ x y | .iaddr _ x y | .aaddr _ _ x y | .index x y | .append _ _ x y => x.rd ++ y.rd
 | .mkfn _ a b => Qo2 a ++ Qo2 b
 | .mks _ _ _ n => n.rd
 | .slice _ x a b c => x.rd ++ (Q1bq a ++ (Q1bq b ++ Q1bq c))
 | .cut x a b => x.rd ++ (Q1bq a ++ Q1bq b)
 | .mnmx _ x xs => x.rd ++ Qo2 xs
 | .call _ f xs => f.rd ++ Qo2 xs
structure IOper where
  dst : Option Nat
  guard : Option (Nat × Bool)   -- the slot that is asked, and the answer that is wanted
  op : IOp
  bef : List Nat                -- which operations of the region surely stand ahead of it
inductive RV where
  | tmp (t : Nat)
  | cell (t n : Nat) (ag : Bool)
inductive IR where
  | skip
  | reg (ops : List IOper) (draw : Bool)
  | seq (a b : IR)
  | cond (c : Opd) (a b : IR)
  | block (id : Nat) (b : IR)
  | loop (live : List Nat) (b : IR)
  | exit (id : Nat)
  | ret
structure IFn where
  np : Nat
  nt : Nat
  res : List RV
  keep : Bool
  body : IR
inductive Fun where
  | ir (f : IFn)
  | cmpstr
  | ax (φ : List PV → Option (PV × List Ob))   -- known by a contract
structure Eff where
  v : PV
  hw : List (Nat × Option Ob)
  hr : List Nat
def rowsOf (sz : Nat) : Nat → List PV → List (List PV)
 | 0, _ => []
 | n + 1, l => l.take sz :: rowsOf sz n (l.drop sz)
def fz (H : Nat → Option Ob) : Nat → PV → Option (PV × List Nat)
  | 0, _ => none
  | n + 1, v =>
    match v with
    | .bx _ _ => none
    | .ns _ => some (.sl [], [])
    | .ms id sz off len =>
      (H id).bind fun ob =>
        bif Nat.beq ob.sz sz && Nat.ble ((off + len) * sz) ob.cells.length then
          (mapO (fz H n) ((ob.cells.drop (off * sz)).take (len * sz))).bind fun l =>
            some (.sl (rowsOf sz len (l.map (·.1))), id :: (l.map (·.2)).flatten)
        else none
    | .agg c => (mapO (fz H n) c).bind fun l => some (.agg (l.map (·.1)), (l.map (·.2)).flatten)
    | .tup c => (mapO (fz H n) c).bind fun l => some (.tup (l.map (·.1)), (l.map (·.2)).flatten)
    | .fn f a b => (mapO (fz H n) a).bind fun l => (mapO (fz H n) b).bind fun m => some (.fn f (l.map (·.1)) (m.map (·.1)), (l.map (·.2)).flatten ++ (m.map (·.2)).flatten)
    | v => some (v, [])
def idxOf (l : List Nat) (id : Nat) : Option Nat :=
  match l with
  | [] => none
  | k :: r => bif Nat.beq k id then some 0 else (idxOf r id).map (· + 1)
structure Pass where
  v : PV
  ids : List Nat
  fr : List Nat     -- objects that were lent
def Q66 (f : PV → List Nat → Option Pass) : List PV → List Nat → Option (List PV × List Nat × List Nat)
 | [], ids => some ([], ids, [])
 | p :: r, ids => (f p ids).bind fun x => (Q66 f r x.ids).bind fun y => some (x.v :: y.1, y.2.1, x.fr ++ y.2.2)
def Qxe (ids : List Nat) (id : Nat) : Nat × List Nat :=
 match idxOf ids id with
 | some i => (i, ids)
 | none => (ids.length, ids ++ [id])
def pass (H : Nat → Option Ob) (byRef : Bool) : Nat → PV → List Nat → Option Pass
 | 0, _, _ => none
 | n + 1, v, ids =>
  match v with
  | .bx id off => let x := Qxe ids id; some ⟨.bx x.1 off, x.2, []⟩
  | .ms id sz off len =>
   bif byRef then (let x := Qxe ids id; some ⟨.ms x.1 sz off len, x.2, []⟩)
   else (fz H 8 (.ms id sz off len)).bind fun x => some ⟨x.1, ids, x.2⟩
  | .ns _ => some ⟨.sl [], ids, []⟩
  | .agg c => (Q66 (pass H byRef n) c ids).bind fun y => some ⟨.agg y.1, y.2.1, y.2.2⟩
  | .tup c => (Q66 (pass H byRef n) c ids).bind fun y => some ⟨.tup y.1, y.2.1, y.2.2⟩
  | .fn f a b => (Q66 (pass H byRef n) a ids).bind fun y => (Q66 (pass H byRef n) b y.2.1).bind fun z => some ⟨.fn f y.1 z.1, z.2.1, y.2.2 ++ z.2.2⟩
  | v => some ⟨v, ids, []⟩
def Q3w (H : Nat → Option Ob) (byRef own : Bool) : Nat → Nat → List Nat → Option (List Ob × List Nat × List Nat)
 | 0, _, _ => none
 | n + 1, k, ids =>
  match ids[k]? with
  | none => some ([], ids, [])
  | some id =>
   (H id).bind fun ob => (Q66 (pass H byRef 8) ob.cells ids).bind fun y =>
    (Q3w H byRef own n (k + 1) y.2.1).bind fun z => some (⟨ob.sz, ob.ro, ob.gr && own, y.1⟩ :: z.1, z.2.1, y.2.2 ++ z.2.2)
def ren (ids : List Nat) (fr : Nat) (p : Nat) : Nat :=
 match ids[p]? with
 | some id => id
 | none => fr + (p - ids.length)
def back (g : Nat → Nat) : Nat → PV → Option PV
 | 0, _ => none
 | n + 1, v =>
  match v with
  | .bx id off => some (.bx (g id) off)
  | .ms id sz off len => some (.ms (g id) sz off len)
  | .agg c => (mapO (back g n) c).bind fun l => some (.agg l)
  | .tup c => (mapO (back g n) c).bind fun l => some (.tup l)
  | .fn f a b => (mapO (back g n) a).bind fun l => (mapO (back g n) b).bind fun m => some (.fn f l m)
  | v => some v
def Q9p (g : Nat → Nat) : Nat → List Ob → Option (List (Nat × Option Ob))
 | _, [] => some []
 | k, ob :: r => (mapO (back g 8) ob.cells).bind fun l => (Q9p g (k + 1) r).bind fun m => some ((g k, some ⟨ob.sz, ob.ro, ob.gr, l⟩) :: m)
def flat : Nat → PV → Bool
 | 0, _ => false
 | n + 1, v =>
  match v with
  | .sl _ => false
  | .rf _ => false
  | .agg c => c.all (flat n)
  | .tup c => c.all (flat n)
  | .fn _ a b => a.all (flat n) && b.all (flat n)
  | _ => true
def shut (H : Nat → Option Ob) : List Nat → Option (List (Nat × Option Ob))
 | [] => some []
 | id :: r => (H id).bind fun ob => (shut H r).bind fun m => some ((id, some ⟨ob.sz, ob.cells.length, ob.gr, ob.cells⟩) :: m)
inductive En where
  | call (f : Nat) (args : List PV) (h : List Ob)
  | loop (m : Nat) (live : List Nat) (body : IR) (env : List PV) (h : List Ob)
inductive Ex where
  | normal
  | exit (id : Nat)
  | ret
structure St where
  env : List PV
  heap : List (Nat × Ob)
  nx : Nat
inductive Rs where
  | ret (v : PV) (h : List Ob)
  | st (x : Ex) (s : St)
abbrev Orc := En → Option Rs
def Qf2 (z : List PV) : List (Nat × Nat × PV) → Option (List PV)
 | [] => some z
 | (off, n, p) :: r =>
  bif Nat.beq p.cs.length n && Nat.ble (off + n) z.length && p.fits then Qf2 (z.take off ++ (p.cs ++ z.drop (off + n))) r else none
def rep (z : List PV) : Nat → List PV
 | 0 => []
 | n + 1 => z ++ rep z n
def IntKind.eqb : IntKind → IntKind → Bool
 | .i8, .i8 | .i16, .i16 | .i32, .i32 | .i64, .i64 | .u8, .u8 | .u16, .u16 | .u32, .u32 | .u64, .u64 => true
 | _, _ => false
def ibin (op : BinOp) (k : IntKind) (x y : Int) : Option PV :=
 match op with
 | .add => some (.int k (k.wrap (x + y)))
 | .sub => some (.int k (k.wrap (x - y)))
 | .mul => some (.int k (k.wrap (x * y)))
 | .quo => bif decide (y = 0) then none else some (.int k (k.wrap (x.tdiv y)))
 | .rem => bif decide (y = 0) then none else some (.int k (x.tmod y))
 | .xor => some (.int k (k.wrap ((BitVec.ofInt k.bits x ^^^ BitVec.ofInt k.bits y).toNat : Int)))
 | .and => some (.int k (k.wrap ((BitVec.ofInt k.bits x &&& BitVec.ofInt k.bits y).toNat : Int)))
 | .eql => some (.bool (x == y))
 | .neq => some (.bool (x != y))
 | .lss => some (.bool (decide (x < y)))
 | .leq => some (.bool (decide (x ≤ y)))
 | .gtr => some (.bool (decide (x > y)))
 | .geq => some (.bool (decide (x ≥ y)))
 | _ => none
def sbin (op : BinOp) (x y : ByteArray) : Option PV :=
 match op with
 | .add => bif Nat.ble (x.size + y.size) 9223372036854775807 then some (.str (x ++ y)) else none
 | .eql => some (.bool (x.toList == y.toList))
 | .neq => some (.bool (!(x.toList == y.toList)))
 | .lss => some (.bool (Op.bytesLess x.toList y.toList))
 | .leq => some (.bool (Op.bytesLess x.toList y.toList || x.toList == y.toList))
 | .gtr => some (.bool (!(Op.bytesLess x.toList y.toList || x.toList == y.toList)))
 | .geq => some (.bool (!(Op.bytesLess x.toList y.toList)))
 | _ => none
def pbin (op : BinOp) (x y : PV) : Option PV :=
 match x, y with
 | .int k a, .int k' b =>
  (match op with
   | .shr => (bif decide (0 ≤ b) then some (.int k (a.fdiv (2 ^ (min b.toNat k.bits)))) else none)
   | op => (bif IntKind.eqb k k' then ibin op k a b else none))
 | .str a, .str b => sbin op a b
 | _, _ => none
def eqf (f : EqT → List PV → List PV → Option Bool) : List (Nat × Nat × EqT) → List PV → List PV → Option Bool
 | [], _, _ => some true
 | (off, k, t) :: r, x, y =>
  bif Nat.ble (off + k) x.length && Nat.ble (off + k) y.length then
   (f t ((x.drop off).take k) ((y.drop off).take k)).bind fun b => (eqf f r x y).bind fun c => some (b && c)
  else none
def eqv : Nat → EqT → List PV → List PV → Option Bool
 | 0, _, _, _ => none
 | n + 1, t, x, y =>
  match t with
  | .int => (match x, y with | [.int k a], [.int k' b] => (bif IntKind.eqb k k' then some (a == b) else none) | _, _ => none)
  | .bool => (match x, y with | [.bool a], [.bool b] => some (a == b) | _, _ => none)
  | .str => (match x, y with | [.str a], [.str b] => some (a.toList == b.toList) | _, _ => none)
  | .st fs => eqf (eqv n) fs x y
def asNat : PV → Option Nat
 | .int _ n => bif decide (0 ≤ n) then some n.toNat else none
 | _ => none
def mm (isMax : Bool) (x y : PV) : Option PV :=
 match x, y with
 | .int k a, .int k' b => bif IntKind.eqb k k' then some (.int k (bif isMax then (if b > a then b else a) else (if b < a then b else a))) else none
 | _, _ => none
def mmL (isMax : Bool) (x : PV) : List PV → Option PV
 | [] => some x
 | y :: r => (mm isMax x y).bind fun z => mmL isMax z r
def reads (H : Nat → Option Ob) (n : Nat) : PV → Option (List PV × List Nat)
 | .bx id off => (H id).bind fun ob => bif Nat.ble (off + n) ob.cells.length then some ((ob.cells.drop off).take n, [id]) else none
 | .rf c => bif Nat.ble n c.length then some (c.take n, []) else none
 | _ => none
def shape (ag : Bool) (c : List PV) : Option PV :=
 bif ag then some (.agg c) else (match c with | [p] => some p | _ => none)
def Q8b (l : List (List PV)) (sz : Nat) : Bool := l.all fun r => Nat.beq r.length sz
def source (H : Nat → Option Ob) (sz : Nat) : PV → Option (Nat × List PV × List Nat)
 | .sl l => bif Q8b l sz then some (l.length, l.flatten, []) else none
 | .ns _ => some (0, [], [])
 | .ms id sz' off len => (H id).bind fun ob => bif Nat.beq sz' sz && Nat.beq ob.sz sz && Nat.ble ((off + len) * sz) ob.cells.length then some (len, (ob.cells.drop (off * sz)).take (len * sz), [id]) else none
 | _ => none
def evs (e : Nat → PV) : List Opd → List PV
 | [] => []
 | x :: r => x.ev e :: evs e r
def Qal (e : Nat → PV) : List (Nat × Nat × Opd) → List (Nat × Nat × PV)
 | [] => []
 | (i, n, x) :: r => (i, n, x.ev e) :: Qal e r
def Qe2 (e : Nat → PV) (sz : Nat) : List (Nat × Opd) → List (Nat × Nat × PV)
 | [] => []
 | (i, x) :: r => (i * sz, sz, x.ev e) :: Qe2 e sz r
def Q6r (e : Nat → PV) (d : Nat) : Option Opd → Option Nat
 | none => some d
 | some x => asNat (x.ev e)
def isNone {α : Type} : Option α → Bool
 | none => true
 | some _ => false
def target : PV → List PV → Option (Nat × List PV)
 | .fn f a b, xs => some (f, a ++ xs ++ b)
 | _, _ => none
def disj (a b : List Nat) : Bool :=
 match a with
 | [] => true
 | x :: r => !(has b x) && disj r b
def Qfw (X : Orc) (H : Nat → Option Ob) (fr : Nat) (byRef : Bool) (f : Nat) (args : List PV) : Option Eff :=
 (Q66 (pass H byRef 8) args []).bind fun y =>
 (Q3w H false false 16 0 y.2.1).bind fun z =>
 let ids := z.2.1
 let lent := y.2.2 ++ z.2.2
 bif disj lent ids then
  (X (.call f y.1 z.1)).bind fun r =>
   match r with
   | .ret v h =>
    bif Nat.ble ids.length h.length && Nat.ble (h.length - ids.length) 64 then
     (back (ren ids fr) 8 v).bind fun v' => (Q9p (ren ids fr) 0 h).bind fun ws =>
      bif flat 8 v && h.all (fun ob => ob.cells.all (flat 8)) then some ⟨v', ws, ids ++ lent⟩
      else (shut H lent).bind fun cl => some ⟨v', ws ++ cl, ids ++ lent⟩
    else none
   | _ => none
 else none
def nodupB : List Nat → Bool
 | [] => true
 | k :: r => !(has r k) && nodupB r
def Q131 (H : Nat → Option Ob) (hr : List Nat) (p : Nat × Option Ob) : Bool :=
 has hr p.1 &&
  match p.2 with
  | some ob =>
   bif Nat.beq ob.sz 1 then
    match ob.cells with
    | [.bx i o] =>
     match H p.1 with
     | some ob' =>
      match ob'.cells with
      | [.bx i' o'] => Nat.beq ob.sz ob'.sz && (Nat.beq ob.ro ob'.ro && ((bif ob.gr then ob'.gr else !ob'.gr) && (Nat.beq i i' && Nat.beq o o')))
      | _ => false
     | none => false
    | _ => false
   else false
  | none => false
def trim (H : Nat → Option Ob) (x : Eff) : Eff := ⟨x.v, bif nodupB (x.hw.map (·.1)) then x.hw.filter (fun p => !(Q131 H x.hr p)) else x.hw, x.hr⟩
def opP (e : Nat → PV) : IOp → Option PV
 | .mov x => some (x.ev e)
 | .pick c a b => (match c.ev e with | .bool t => some (bif t then a.ev e else b.ev e) | _ => none)
 | .build z ps => (Qf2 z (Qal e ps)).bind fun c => some (.agg c)
 | .bzero z => some (.agg z)
 | .aaddr n sz x i =>
  (asNat (i.ev e)).bind fun i =>
  (match x.ev e with
   | .bx id o => (bif Nat.blt i n then some (.bx id (o + i * sz)) else none)
   | _ => none)
 | .nilck x =>
  (match x.ev e with
   | .bx id off => some (.bx id off)
   | .rf c => some (.rf c)
   | .fn f a b => some (.fn f a b)
   | _ => none)
 | .bin op x y => pbin op (x.ev e) (y.ev e)
 | .eqs t neg x y =>
  (match x.ev e, y.ev e with
   | .agg a, .agg b => (eqv 16 t a b).bind fun q => some (.bool (bif neg then !q else q))
   | _, _ => none)
 | .un op x =>
  (match op, x.ev e with
   | .not, .bool b => some (.bool (!b))
   | .neg, .int k n => some (.int k (k.wrap (0 - n)))
   | _, _ => none)
 | .conv k x => (match x.ev e with | .int _ n => some (.int k (k.wrap n)) | _ => none)
 | .mkfn f a b => some (.fn f (evs e a) (evs e b))
 | .slice sz x lo hi mx =>
  (Q6r e 0 lo).bind fun l =>
  (match mx with
   | some m =>
     (asNat (m.ev e)).bind fun m => (Q6r e 1 hi).bind fun h =>
     (bif Nat.beq m 0 && Nat.beq h 0 && Nat.beq l 0 then
       (match x.ev e with
        | .sl _ => some (.ns sz)
        | .ns _ => some (.ns sz)
        | .ms _ _ _ _ => some (.ns sz)
        | _ => none)
     else none)
   | none =>
     (match x.ev e with
      | .sl rs => (Q6r e rs.length hi).bind fun h => (bif Q8b rs sz && (Nat.ble l h && Nat.ble h rs.length) then some (.sl ((rs.take h).drop l)) else none)
      | .ns _ => (Q6r e 0 hi).bind fun h => (bif Nat.beq l 0 && Nat.beq h 0 then some (.ns sz) else none)
      | .ms id sz' off len => (Q6r e len hi).bind fun h => (bif Nat.beq sz' sz && Nat.ble l h && Nat.ble h len then some (.ms id sz (off + l) (h - l)) else none)
      | _ => none))
 | .cut x lo hi =>
  (match x.ev e with
   | .str s => (Q6r e 0 lo).bind fun l => (Q6r e s.size hi).bind fun h => (bif Nat.ble l h && Nat.ble h s.size then some (.str (s.extract l h)) else none)
   | _ => none)
 | .faddr off x =>
  (match x.ev e with
   | .bx id o => some (.bx id (o + off))
   | .rf c => some (.rf (c.drop off))
   | _ => none)
 | .field off n ag x =>
  (match x.ev e with
   | .agg c => (bif Nat.ble (off + n) c.length then shape ag ((c.drop off).take n) else none)
   | _ => none)
 | .iaddr sz x i =>
  (asNat (i.ev e)).bind fun i =>
  (match x.ev e with
   | .sl l => (match l[i]? with | some r => (bif Nat.beq r.length sz then some (.rf r) else none) | none => none)
   | .ms id sz' off len => (bif Nat.beq sz' sz && Nat.blt i len then some (.bx id ((off + i) * sz)) else none)
   | _ => none)
 | .index x i =>
  (asNat (i.ev e)).bind fun i =>
  (match x.ev e with
   | .str s => (match s.data[i]? with | some b => some (.int .u8 (b.toNat : Int)) | none => none)
   | _ => none)
 | .extract x i => (match x.ev e with | .tup vs => vs[i]? | _ => none)
 | .len str x =>
  (bif str then (match x.ev e with | .str s => some (.int .i64 (s.size : Int)) | _ => none)
   else
    (match x.ev e with
     | .sl l => some (.int .i64 (l.length : Int))
     | .ms _ _ _ n => some (.int .i64 (n : Int))
     | .ns _ => some (.int .i64 0)
     | _ => none))
 | .eqb neg x y =>
  (match x.ev e, y.ev e with
   | .bool a, .bool b => some (.bool (bif neg then !(a == b) else (a == b)))
   | _, _ => none)
 | .mnmx m x xs => mmL m (x.ev e) (evs e xs)
 | _ => none
def opA (e : Nat → PV) (fr : Nat) : IOp → Option (PV × Ob)
 | .box n x => (bif Nat.beq (x.ev e).cs.length n && (x.ev e).fits then some (.bx fr 0, ⟨n, 0, true, (x.ev e).cs⟩) else none)
 | .zero z => some (.bx fr 0, ⟨z.length, 0, true, z⟩)
 | .lit sz n z ps => (Qf2 (rep z n) (Qe2 e sz ps)).bind fun c => some (.ms fr sz 0 n, ⟨sz, 0, true, c⟩)
 | .mks sz bytes z n =>
  (match n.ev e with
   | .int _ m => (bif decide (0 ≤ m) && decide (m * (bytes : Int) ≤ 140737488355328) then some (.ms fr sz 0 m.toNat, ⟨sz, 0, true, rep z m.toNat⟩) else none)
   | _ => none)
 | _ => none
def Qee (H : Nat → Option Ob) (n : Nat) (ag : Bool) (a : PV) : Option Eff :=
 (reads H n a).bind fun c => (shape ag c.1).bind fun v => some ⟨v, [], c.2⟩
def Qci (H : Nat → Option Ob) (n : Nat) (a x : PV) : Option Eff :=
 match a with
 | .bx id off =>
  (H id).bind fun ob =>
   bif Nat.beq x.cs.length n && x.fits && Nat.ble ob.ro off && Nat.ble (off + n) ob.cells.length then
    some ⟨.un, [(id, some ⟨ob.sz, ob.ro, ob.gr, ob.cells.take off ++ (x.cs ++ ob.cells.drop (off + n))⟩)], [id]⟩
   else none
 | _ => none
def apC (ob : Ob) (k : Nat) : Option (List PV) :=
 bif Nat.beq ob.cells.length k then some ob.cells
 else bif Nat.ble k ob.cells.length && Nat.ble ob.ro k then some (ob.cells.take k) else none
def Q4q (H : Nat → Option Ob) (fr sz bytes : Nat) (x y : PV) : Option Eff :=
 (source H sz y).bind fun s =>
 match x with
 | .ns _ =>
  bif Nat.ble (s.1 * bytes) 140737488355328 then
   (match s.1 with
    | 0 => some ⟨.ns sz, [], s.2.2⟩
    | n + 1 => some ⟨.ms fr sz 0 (n + 1), [(fr, some ⟨sz, 0, true, s.2.1⟩)], s.2.2⟩)
  else none
 | .ms id sz' off len =>
  (H id).bind fun ob =>
   bif ob.gr && Nat.beq sz' sz && Nat.beq ob.sz sz && Nat.beq off 0 && Nat.ble ((len + s.1) * bytes) 140737488355328 then
     (apC ob (len * sz)).bind fun cs => some ⟨.ms fr sz 0 (len + s.1), [(id, none), (fr, some ⟨sz, ob.ro, true, cs ++ s.2.1⟩)], id :: s.2.2⟩
   else none
 | _ => none
def clC (ob : Ob) (k : Nat) (rz : List PV) : List PV :=
 bif Nat.beq (k + rz.length) ob.cells.length then ob.cells.take k else ob.cells.take k ++ (rz ++ ob.cells.drop (k + rz.length))
def Qog (H : Nat → Option Ob) (sz : Nat) (z : List PV) (x : PV) : Option Eff :=
 match x with
 | .ns _ => some ⟨.tup [], [], []⟩
 | .ms _ _ _ 0 => some ⟨.tup [], [], []⟩
 | .ms id sz' off (len + 1) =>
  (H id).bind fun ob =>
   bif Nat.beq sz' sz && Nat.beq ob.sz sz && Nat.beq z.length sz && Nat.ble ob.ro (off * sz) && Nat.ble ((off + (len + 1)) * sz) ob.cells.length then
    some ⟨.tup [], [(id, some ⟨sz, ob.ro, ob.gr, clC ob (off * sz) (rep z (len + 1))⟩)], [id]⟩
   else none
 | _ => none
def iop (X : Orc) (e : Nat → PV) (H : Nat → Option Ob) (fr : Nat) : IOp → Option Eff
 | .box n x => (opA e fr (.box n x)).bind fun y => some ⟨y.1, [(fr, some y.2)], []⟩
 | .zero z => (opA e fr (.zero z)).bind fun y => some ⟨y.1, [(fr, some y.2)], []⟩
 | .lit sz n z ps => (opA e fr (.lit sz n z ps)).bind fun y => some ⟨y.1, [(fr, some y.2)], []⟩
 | .mks sz b z n => (opA e fr (.mks sz b z n)).bind fun y => some ⟨y.1, [(fr, some y.2)], []⟩
 | .load n ag a => Qee H n ag (a.ev e)
 | .store n a x => Qci H n (a.ev e) (x.ev e)
 | .append sz b x y => Q4q H fr sz b (x.ev e) (y.ev e)
 | .clear sz z x => Qog H sz z (x.ev e)
 | .call byRef f args => (target (f.ev e) (evs e args)).bind fun t => (Qfw X H fr byRef t.1 t.2).bind fun x => some (trim H x)
 | o => (opP e o).bind fun v => some ⟨v, [], []⟩
def IOper.wanted (o : IOper) (e : Nat → PV) : Option Bool :=
 match o.guard with
 | none => some true
 | some (s, w) => match e s with | .bool b => some (b == w) | .tup _ => some false | _ => none
def Q8z (X : Orc) (e : Nat → PV) (H : Nat → Option Ob) (fr : Nat) (o : IOper) : Option Eff :=
 (o.wanted e).bind fun w => bif w then iop X e H fr o.op else some ⟨.tup [], [], []⟩
def put (l : List PV) (d : Option Nat) (v : PV) : List PV :=
 match d with
 | none => l
 | some d => l.set d v
def hput (h : List (Nat × Ob)) : List (Nat × Option Ob) → List (Nat × Ob)
 | [] => h
 | (id, some ob) :: r => hput (repl h id ob) r
 | (id, none) :: r => hput (drop h id) r
where
 repl (h : List (Nat × Ob)) (id : Nat) (ob : Ob) : List (Nat × Ob) :=
  match h with
  | [] => [(id, ob)]
  | (k, x) :: r => bif Nat.beq k id then (k, ob) :: r else (k, x) :: repl r id ob
 drop (h : List (Nat × Ob)) (id : Nat) : List (Nat × Ob) :=
  match h with
  | [] => []
  | (k, x) :: r => bif Nat.beq k id then drop r id else (k, x) :: drop r id
def envF (l : List PV) (t : Nat) : PV := l.getD t .un
def Q6v (X : Orc) (nx : Nat) : Nat → List IOper → List PV → List (Nat × Ob) → Option (List PV × List (Nat × Ob) × List Eff)
 | _, [], env, h => some (env, h, [])
 | i, o :: r, env, h =>
  (Q8z X (envF env) (look h) (nx + 64 * i) o).bind fun x =>
   (Q6v X nx (i + 1) r (put env o.dst x.v) (hput h x.hw)).bind fun y => some (y.1, y.2.1, x :: y.2.2)
def IOper.looks (o : IOper) : List Nat :=
 match o.guard with
 | none => o.op.rd
 | some (s, _) => s :: o.op.rd
def Q12q (l : List Nat) : Option Nat → Bool
 | none => false
 | some d => has l d
def Q1z8 : Option Nat → Option Nat → Bool
 | some a, some b => Nat.beq a b
 | _, _ => false
def clash (a : IOper) (x : Eff) (b : IOper) (y : Eff) : Bool :=
  Q12q b.looks a.dst || Q12q a.looks b.dst || Q1z8 a.dst b.dst ||
    !(disj (x.hw.map (·.1)) (y.hr ++ y.hw.map (·.1))) || !(disj (y.hw.map (·.1)) x.hr)
def Q1kj (j : Nat) (b : IOper) (y : Eff) : Nat → List (IOper × Eff) → Bool
 | _, [] => true
 | i, (a, x) :: r => (Nat.beq i j || has b.bef i || !(clash a x b y)) && Q1kj j b y (i + 1) r
def calm (all : List (IOper × Eff)) : Nat → List (IOper × Eff) → Bool
 | _, [] => true
 | j, (b, y) :: r => Q1kj j b y 0 (all.take j) && calm all (j + 1) r
def ireg (X : Orc) (ops : List IOper) (draw : Bool) (s : St) : Option St :=
 (Q6v X s.nx 0 ops s.env s.heap).bind fun y =>
  bif !draw || calm (ops.zip y.2.2) 0 (ops.zip y.2.2) then some ⟨y.1, y.2.1, s.nx + 64 * ops.length⟩ else none
def mask (live : List Nat) : Nat → List PV → List PV
 | _, [] => []
 | i, p :: r => (bif has live i then p else .un) :: mask live (i + 1) r
def upTo : Nat → List Nat
 | 0 => []
 | n + 1 => upTo n ++ [n]
def Q5k : Nat → List PV → List PV × Nat × List (Nat × Ob)
 | nx, [] => ([], nx, [])
 | nx, .ns sz :: r => let y := Q5k (nx + 1) r; (.ms nx sz 0 0 :: y.1, y.2.1, (nx, ⟨sz, 0, true, []⟩) :: y.2.2)
 | nx, p :: r => let y := Q5k nx r; (p :: y.1, y.2.1, y.2.2)
def Qff : Nat → List (Nat × Ob) → List (Nat × Ob) × Nat × List (Nat × Ob)
 | nx, [] => ([], nx, [])
 | nx, (id, ob) :: r => let y := Q5k nx ob.cells; let z := Qff y.2.1 r; ((id, ⟨ob.sz, ob.ro, ob.gr, y.1⟩) :: z.1, z.2.1, y.2.2 ++ z.2.2)
def Qxj : PV → PV
 | .ns _ => .sl []
 | v => v
def Qfv (ob : Ob) : Ob := ⟨ob.sz, ob.ro, ob.gr, ob.cells.map Qxj⟩
def Q96 (s : St) : St := ⟨s.env.map Qxj, s.heap.map fun x => (x.1, Qfv x.2), s.nx⟩
def gc0 (m : Nat) (live : List Nat) (s : St) : Option (List PV × List Ob) :=
 let a := Q5k s.nx (mask live 0 s.env)
 let b := Qff a.2.1 s.heap
 let H := look (b.1 ++ (a.2.2 ++ b.2.2))
 (Q66 (pass H true 8) a.1 (upTo m)).bind fun y =>
  (Q3w H true true 32 0 y.2.1).bind fun z => some (y.1, z.1)
def gc (m : Nat) (live : List Nat) (s : St) : Option (List PV × List Ob) := gc0 m live (bif has live 200001 then Q96 s else s)
def number : Nat → List Ob → List (Nat × Ob)
 | _, [] => []
 | i, o :: r => (i, o) :: number (i + 1) r
def Q5h (X : Orc) (m : Nat) : IR → St → Option (Ex × St)
 | .skip, s => some (.normal, s)
 | .reg ops draw, s => (ireg X ops draw s).bind fun s' => some (.normal, s')
 | .seq a b, s => (Q5h X m a s).bind fun x => (match x.1 with | .normal => Q5h X m b x.2 | e => some (e, x.2))
 | .cond c a b, s => (match c.ev (envF s.env) with | .bool t => (bif t then Q5h X m a s else Q5h X m b s) | _ => none)
 | .block id b, s => (Q5h X m b s).bind fun x => (match x.1 with | .exit j => (bif Nat.beq j id then some (.normal, x.2) else some (.exit j, x.2)) | e => some (e, x.2))
 | .loop live b, s => (gc m live s).bind fun y => (X (.loop m live b y.1 y.2)).bind fun r => (match r with | .st e s' => some (e, s') | _ => none)
 | .exit id, s => some (.exit id, s)
 | .ret, s => some (.ret, s)
def rv (s : St) : RV → Option PV
 | .tmp t => some (envF s.env t)
 | .cell t n ag => (reads (look s.heap) n (envF s.env t)).bind fun c => shape ag c.1
def regr : Nat → List Ob → List Ob
 | _, [] => []
 | 0, o :: r => ⟨o.sz, o.ro, true, o.cells⟩ :: regr 0 r
 | m + 1, o :: r => o :: regr m r
def fin (fn : IFn) (m : Nat) (s : St) : Option Rs :=
 (mapO (rv s) fn.res).bind fun vs =>
  let a := bif fn.keep then Q5k s.nx vs else (vs, s.nx, [])
  let H := look (s.heap ++ a.2.2)
  (Q66 (pass H fn.keep 8) a.1 (upTo m)).bind fun y =>
   (Q3w H false true 32 0 y.2.1).bind fun z =>
    bif disj (y.2.2 ++ z.2.2) z.2.1 then some (.ret (match y.1 with | [v] => v | l => .tup l) (regr m z.1)) else none
def cmpL : List UInt8 → List UInt8 → Int
 | [], [] => 0
 | [], _ :: _ => -1
 | _ :: _, [] => 1
 | a :: x, b :: y => if a < b then -1 else if b < a then 1 else cmpL x y
def nuns : Nat → List PV
 | 0 => []
 | n + 1 => .un :: nuns n
def phi (G : Nat → Option Fun) (X : Orc) : Orc
 | .call f args h =>
  (match G f with
   | some (.ir fn) =>
     (bif Nat.beq args.length fn.np then
      (Q5h X h.length fn.body ⟨args ++ nuns (fn.nt - fn.np), number 0 h, h.length⟩).bind fun x =>
       (match x.1 with
        | .exit _ => none
        | _ => fin fn h.length x.2)
     else none)
   | some .cmpstr => (match args, h with | [.str a, .str b], [] => some (.ret (.int .i64 (cmpL a.toList b.toList)) []) | _, _ => none)
   | some (.ax φ) => (match h with | [] => (φ args).bind fun y => some (.ret y.1 y.2) | _ => none)
   | none => none)
 | .loop m live b env h =>
  (Q5h X m b ⟨env, number 0 h, h.length⟩).bind fun x =>
    (match x.1 with
     | .normal => (gc m live x.2).bind fun y => X (.loop m live b y.1 y.2)
     | e => some (.st e x.2))
def tabG : List (Nat × Fun) → Nat → Option Fun
 | [], _ => none
 | (k, d) :: r, f => bif Nat.beq k f then some d else tabG r f
def runs (G : Nat → Option Fun) : Nat → Orc
 | 0 => fun _ => none
 | n + 1 => phi G (runs G n)
end Go.Pv
end

section
/-
  Answers of oracles that are known to be the evaluator's own, in the end, lead to answers that are.
-/
namespace Go.Pv
def Conv (L : Orc) (ch : Nat → Orc) : Prop := ∀ e r, L e = some r → ∃ n, ∀ k, n ≤ k → ch k e = some r
def Ev (L : Orc) (ch : Nat → Orc) {β : Type} (F : Orc → Option β) : Prop := ∀ y, F L = some y → ∃ n, ∀ k, n ≤ k → F (ch k) = some y
section
variable {L : Orc} {ch : Nat → Orc}
theorem Ev.const {β : Type} (o : Option β) : Ev L ch (fun _ => o) := fun _ h => ⟨0, fun _ _ => h⟩
theorem Ev.bind {α β : Type} {F : Orc → Option α} {K : α → Orc → Option β} (h : Ev L ch F) (hk : ∀ a, Ev L ch (K a)) : Ev L ch (fun X => (F X).bind fun a => K a X) := by
 intro y hy
 obtain ⟨a, h1, h2⟩ := Option.bind_eq_some_iff.1 hy
 obtain ⟨n, hn⟩ := h a h1
 obtain ⟨m, hm⟩ := hk a y h2
 refine ⟨max n m, fun k hk => ?_⟩
 show (F (ch k)).bind _ = _
 rw [hn k (by omega)]
 exact hm k (by omega)
theorem Ev.cond {β : Type} {F K : Orc → Option β} (c : Bool) (h : Ev L ch F) (hk : Ev L ch K) : Ev L ch (fun X => bif c then F X else K X) := by
  cases c
  · exact hk
  · exact h
theorem Ev.ask (hc : Conv L ch) (e : En) : Ev L ch (fun X => X e) := fun y h => hc e y h
theorem Q1lh (hc : Conv L ch) {H : Nat → Option Ob} {fr : Nat} {b : Bool} {f : Nat} {args : List PV} : Ev L ch (fun X => Qfw X H fr b f args) := by
 unfold Qfw
 refine Ev.bind (Ev.const _) fun y => Ev.bind (Ev.const _) fun z => Ev.cond _ (Ev.bind (Ev.ask hc _) fun r => ?_) (Ev.const _)
 exact Ev.const _
theorem Q1zd (hc : Conv L ch) {e : Nat → PV} {H : Nat → Option Ob} {fr : Nat} {io : IOp} : Ev L ch (fun X => iop X e H fr io) := by
 cases io with
 | call b f xs => exact Ev.bind (Ev.const _) fun t => Ev.bind (Q1lh hc) fun _ => Ev.const _
 | _ => exact Ev.const _
theorem Q1lj (hc : Conv L ch) {e : Nat → PV} {H : Nat → Option Ob} {fr : Nat} {o : IOper} : Ev L ch (fun X => Q8z X e H fr o) :=
 Ev.bind (Ev.const _) fun _ => Ev.cond _ (Q1zd hc) (Ev.const _)
theorem Quw (hc : Conv L ch) {nx : Nat} : ∀ (ops : List IOper) (i : Nat) (env : List PV) (h : List (Nat × Ob)), Ev L ch (fun X => Q6v X nx i ops env h)
 | [], _, _, _ => Ev.const _
 | _ :: r, i, _, _ => Ev.bind (Q1lj hc) fun _ => Ev.bind (Quw hc r (i + 1) _ _) fun _ => Ev.const _
theorem Q1q0 (hc : Conv L ch) {ops : List IOper} {d : Bool} {s : St} : Ev L ch (fun X => ireg X ops d s) :=
 Ev.bind (Quw hc ops 0 _ _) fun _ => Ev.const _
theorem Q7p (hc : Conv L ch) {m : Nat} : ∀ (c : IR) (s : St), Ev L ch (fun X => Q5h X m c s)
  | .skip, _ => Ev.const _
  | .reg _ _, _ => Ev.bind (Q1q0 hc) fun _ => Ev.const _
  | .seq a b, s => Ev.bind (Q7p hc a s) fun x => by
    cases x.1 with
    | normal => exact Q7p hc b x.2
    | _ => exact Ev.const _
  | .cond c a b, s => by
    show Ev L ch (fun X => match c.ev (envF s.env) with | .bool t => (bif t then Q5h X m a s else Q5h X m b s) | _ => none)
    split
    · exact Ev.cond _ (Q7p hc a s) (Q7p hc b s)
    · exact Ev.const _
  | .block _ b, s => Ev.bind (Q7p hc b s) fun _ => Ev.const _
  | .loop live b, s => Ev.bind (Ev.const _) fun y => Ev.bind (Ev.ask hc _) fun _ => Ev.const _
  | .exit _, _ => Ev.const _
  | .ret, _ => Ev.const _
theorem Q1o8 (hc : Conv L ch) (G : Nat → Option Fun) (e : En) : Ev L ch (fun X => phi G X e) := by
 cases e with
 | call f args h =>
  cases hG : G f with
  | none =>
   have : (fun X : Orc => phi G X (.call f args h)) = fun _ => none := by funext X; simp only [phi, hG]
   rw [this]
   exact Ev.const _
  | some d =>
   cases d with
   | ir fn =>
    have : (fun X : Orc => phi G X (.call f args h)) = fun X => (bif Nat.beq args.length fn.np then (Q5h X h.length fn.body ⟨args ++ nuns (fn.nt - fn.np), number 0 h, h.length⟩).bind fun x => (match x.1 with | .exit _ => none | _ => fin fn h.length x.2) else none) := by
     funext X
     simp only [phi, hG]
     all_goals rfl
    rw [this]
    exact Ev.cond _ (Ev.bind (Q7p hc _ _) fun _ => Ev.const _) (Ev.const _)
   | cmpstr =>
    have : (fun X : Orc => phi G X (.call f args h)) = fun _ => (match args, h with | [.str a, .str b], [] => some (.ret (.int .i64 (cmpL a.toList b.toList)) []) | _, _ => none) := by
     funext X
     simp only [phi, hG]
     all_goals rfl
    rw [this]
    exact Ev.const _
   | ax φ =>
    have : (fun X : Orc => phi G X (.call f args h)) = fun _ => (match h with | [] => (φ args).bind fun y => some (.ret y.1 y.2) | _ => none) := by
     funext X
     simp only [phi, hG]
     all_goals rfl
    rw [this]
    exact Ev.const _
 | loop m live b env h =>
  have : (fun X : Orc => phi G X (.loop m live b env h)) = fun X => (Q5h X m b ⟨env, number 0 h, h.length⟩).bind fun x => (match x.1 with | .normal => (gc m live x.2).bind fun y => X (.loop m live b y.1 y.2) | e => some (.st e x.2)) := rfl
  rw [this]
  refine Ev.bind (Q7p hc b _) fun x => ?_
  obtain ⟨x1, s⟩ := x
  cases x1 with
  | normal => exact Ev.bind (Ev.const _) fun y => Ev.ask hc _
  | _ => exact Ev.const _
end
def Q5 (G : Nat → Option Fun) (e : En) (r : Rs) : Prop := ∃ n, runs G n e = some r
theorem Q12v {G : Nat → Option Fun} : ∀ (n : Nat) (e : En) (r : Rs), runs G n e = some r → runs G (n + 1) e = some r
 | 0, e, r, h => by cases h
 | n + 1, e, r, h => by
  obtain ⟨k, hk⟩ := Q1o8 (L := runs G n) (ch := fun _ => runs G (n + 1)) (fun _ _ h => ⟨0, fun _ _ => Q12v n _ _ h⟩) G e r h
  exact hk k (Nat.le_refl _)
theorem Qya {G : Nat → Option Fun} {n : Nat} {e : En} {r : Rs} (h : runs G n e = some r) : ∀ k, n ≤ k → runs G k e = some r := by
  intro k hk
  induction k with
  | zero =>
    have : n = 0 := by omega
    subst this
    exact h
  | succ k ih =>
    by_cases c : n ≤ k
    · exact Q12v k e r (ih c)
    · have : n = k + 1 := by omega
      subst this
      exact h
def Sure (G : Nat → Option Fun) (Y : Orc) : Prop := ∀ e r, Y e = some r → Q5 G e r
theorem Sure.conv {G : Nat → Option Fun} {Y : Orc} (h : Sure G Y) : Conv Y (runs G) := fun e r hr => by
 obtain ⟨n, hn⟩ := h e r hr
 exact ⟨n, Qya hn⟩
theorem Q1iu {G : Nat → Option Fun} {Y : Orc} (h : Sure G Y) {e : En} {r : Rs} (hr : phi G Y e = some r) : Q5 G e r := by
 obtain ⟨n, hn⟩ := Q1o8 h.conv G e r hr
 exact ⟨n + 1, hn n (Nat.le_refl _)⟩
theorem Sure.none {G : Nat → Option Fun} : Sure G (fun _ => none) := fun _ _ h => by cases h
theorem Sure.runs {G : Nat → Option Fun} (n : Nat) : Sure G (runs G n) := fun _ _ h => ⟨n, h⟩
theorem Q1c5 {G : Nat → Option Fun} {Y : Orc} (h : Sure G Y) {m : Nat} {live : List Nat} {b : IR} {env : List PV} {hp : List Ob} {s : St} {y : List PV × List Ob} {r : Rs} (hb : Q5h Y m b ⟨env, number 0 hp, hp.length⟩ = some (.normal, s)) (hg : gc m live s = some y)
  (hr : Q5 G (.loop m live b y.1 y.2) r) : Q5 G (.loop m live b env hp) r := by
 obtain ⟨n1, h1⟩ := Q7p h.conv b _ _ hb
 obtain ⟨n2, h2⟩ := hr
 refine ⟨max n1 n2 + 1, ?_⟩
 show phi G (Pv.runs G (max n1 n2)) _ = _
 simp only [phi]
 have e1 : Q5h (Pv.runs G (max n1 n2)) m b ⟨env, number 0 hp, hp.length⟩ = some (.normal, s) := h1 _ (Nat.le_max_left _ _)
 rw [e1, Option.bind_some]
 simp only
 rw [hg, Option.bind_some]
 exact Qya h2 _ (Nat.le_max_right _ _)
theorem Qp8 {G : Nat → Option Fun} {Y : Orc} (h : Sure G Y) {m : Nat} {live : List Nat} {b : IR} {env : List PV} {hp : List Ob} {s : St} {x : Ex} (hx : x ≠ .normal) (hb : Q5h Y m b ⟨env, number 0 hp, hp.length⟩ = some (x, s)) : Q5 G (.loop m live b env hp) (.st x s) := by
 obtain ⟨n1, h1⟩ := Q7p h.conv b _ _ hb
 refine ⟨n1 + 1, ?_⟩
 show phi G (Pv.runs G n1) _ = _
 simp only [phi]
 have e1 : Q5h (Pv.runs G n1) m b ⟨env, number 0 hp, hp.length⟩ = some (x, s) := h1 _ (Nat.le_refl _)
 rw [e1, Option.bind_some]
 cases x with
 | normal => exact absurd rfl hx
 | _ => rfl
end Go.Pv
end

section
/-
  A run along a trace: at chosen operations the answer is handed in, and what is to be shown of it told.
-/
namespace Go.Pv
abbrev Hints := List (Nat × Eff)
abbrev Owed := List (Option Eff × Eff)
def Paid (l : Owed) : Prop := ∀ p ∈ l, p.1 = some p.2
theorem Paid.nil : Paid [] := fun _ h => absurd h List.not_mem_nil
theorem Paid.cons {a : Option Eff} {x : Eff} {l : Owed} (h : a = some x) (hl : Paid l) : Paid ((a, x) :: l) := fun p hp => by
  rcases List.mem_cons.1 hp with rfl | hp
  · exact h
  · exact hl p hp
theorem Paid.left {a b : Owed} (h : Paid (a ++ b)) : Paid a := fun p hp => h p (List.mem_append_left _ hp)
theorem Paid.right {a b : Owed} (h : Paid (a ++ b)) : Paid b := fun p hp => h p (List.mem_append_right _ hp)
structure TR where
  env : List PV
  heap : List (Nat × Ob)
  effs : List Eff
  hs : Hints
  owed : Owed
theorem Qx {α β : Type} {x : Option α} {f : α → Option β} {y : β} (h : x.bind f = some y) : ∃ a, x = some a ∧ f a = some y := Option.bind_eq_some_iff.1 h
noncomputable def lim (G : Nat → Option Fun) : Orc := fun e => open Classical in if h : ∃ r, Q5 G e r then some (Classical.choose h) else none
theorem Q1it {G : Nat → Option Fun} {e : En} {r r' : Rs} (h : Q5 G e r) (h' : Q5 G e r') : r = r' := by
 obtain ⟨n, hn⟩ := h
 obtain ⟨m, hm⟩ := h'
 have a := Qya hn (max n m) (Nat.le_max_left _ _)
 rw [Qya hm (max n m) (Nat.le_max_right _ _)] at a
 injection a with a
 exact a.symm
theorem Q1o6 {G : Nat → Option Fun} {e : En} {r : Rs} (h : Q5 G e r) : lim G e = some r := by
 have hx : ∃ r, Q5 G e r := ⟨r, h⟩
 unfold lim
 rw [dif_pos hx]
 exact congrArg some (Q1it (Classical.choose_spec hx) h)
theorem Qjf {G : Nat → Option Fun} : Sure G (lim G) := by
  intro e r h
  unfold lim at h
  split at h
  · rename_i hx
    injection h with h
    subst h
    exact Classical.choose_spec hx
  · cases h
abbrev Qc9 := List (En × Rs)
def Told (G : Nat → Option Fun) (l : Qc9) : Prop := ∀ p ∈ l, Q5 G p.1 p.2
theorem Told.nil {G : Nat → Option Fun} : Told G [] := fun _ h => absurd h List.not_mem_nil
theorem Told.cons {G : Nat → Option Fun} {e : En} {r : Rs} {l : Qc9} (h : Q5 G e r) (hl : Told G l) : Told G ((e, r) :: l) := fun p hp => by
  rcases List.mem_cons.1 hp with rfl | hp
  · exact h
  · exact hl p hp
theorem Told.left {G : Nat → Option Fun} {a b : Qc9} (h : Told G (a ++ b)) : Told G a := fun p hp => h p (List.mem_append_left _ hp)
theorem Told.right {G : Nat → Option Fun} {a b : Qc9} (h : Told G (a ++ b)) : Told G b := fun p hp => h p (List.mem_append_right _ hp)
structure CR where
  ex : Ex
  st : St
  hs : Hints
  ls : List (Ex × St)
  owed : Owed
  asked : Qc9
abbrev Tab := List (Nat × (List PV → List Ob → Option Rs))
def Tab.at : Tab → Nat → List PV → List Ob → Option Rs
 | [], _, _, _ => none
 | (k, g) :: r, f, a, h => bif Nat.beq k f then g a h else Tab.at r f a h
end Go.Pv
end

section
/-
  How a tree (PV) lies in eX (Rep), what a call's objects are in eX (Sim), and how both outlive a step.
-/
namespace Go.Pv
open Go.RowKit
structure Keeps (M : Nat → Nat → Prop) (w w' : World) : Prop where
  os : w'.os = w.os
  tape : w'.tape = w.tape
  output : w'.output = w.output
  size : w.heap.size ≤ w'.heap.size
  block : ∀ k, k < w.heap.size → w'.heap[k]? = w.heap[k]? ∨ ∃ c c' t fr, w.heap[k]? = some (.cells c t fr) ∧ w'.heap[k]? = some (.cells c' t fr) ∧ c'.size = c.size ∧ ∀ o, ¬ M k o → c'[o]? = c[o]?
theorem Keeps.refl (M : Nat → Nat → Prop) (w : World) : Keeps M w w := ⟨rfl, rfl, rfl, Nat.le_refl _, fun _ _ => .inl rfl⟩
theorem Keeps.trans {M M1 : Nat → Nat → Prop} {w w1 w2 : World} (h : Keeps M w w1) (k : Keeps M1 w1 w2) (hm : ∀ b o, b < w.heap.size → M1 b o → M b o) : Keeps M w w2 := by
  refine ⟨k.os.trans h.os, k.tape.trans h.tape, k.output.trans h.output, Nat.le_trans h.size k.size, fun b hb => ?_⟩
  have hb1 : b < w1.heap.size := Nat.lt_of_lt_of_le hb h.size
  rcases h.block b hb with e | ⟨c, c', t, fr, e1, e2, es, ec⟩
  · rcases k.block b hb1 with e' | ⟨d, d', t, fr, f1, f2, fs, fc⟩
    · exact .inl (e'.trans e)
    · exact .inr ⟨d, d', t, fr, e ▸ f1, f2, fs, fun o ho => fc o (fun hc => ho (hm b o hb hc))⟩
  · rcases k.block b hb1 with e' | ⟨d, d', t', fr', f1, f2, fs, fc⟩
    · exact .inr ⟨c, c', t, fr, e1, e'.trans e2, es, ec⟩
    · rw [e2] at f1
      injection f1 with f1
      injection f1 with g1 g2 g3
      subst g1 g2 g3
      exact .inr ⟨c, d', t, fr, e1, f2, fs.trans es, fun o ho => (fc o (fun hc => ho (hm b o hb hc))).trans (ec o ho)⟩
theorem Keeps.mono {M M1 : Nat → Nat → Prop} {w w1 : World} (h : Keeps M w w1) (hm : ∀ b o, b < w.heap.size → M b o → M1 b o) : Keeps M1 w w1 :=
 ⟨h.os, h.tape, h.output, h.size, fun b hb => (h.block b hb).imp (fun x => x) fun ⟨c, c', t, fr, e1, e2, es, ec⟩ => ⟨c, c', t, fr, e1, e2, es, fun o ho => ec o (fun hc => ho (hm b o hb hc))⟩⟩
theorem Keeps.below {w w' : World} (h : Keeps (fun _ _ => False) w w') : Below w.heap.size w w' := by
  refine ⟨h.os, h.tape, h.output, h.size, fun k hk => ?_⟩
  rcases h.block k hk with e | ⟨c, c', t, fr, e1, e2, es, ec⟩
  · exact e
  · have : c' = c := by
      apply Array.ext_getElem?
      intro i
      exact ec i (fun h => h)
    rw [e1, e2, this]
theorem Qxf {w : World} {b o : Nat} {v : Value} (h : w.cell? ⟨b, o, none⟩ = some v) : b < w.heap.size := World.block_lt_of_cell? w ⟨b, o, none⟩ h
theorem cell_of {w : World} {b o : Nat} {v : Value} : w.cell? ⟨b, o, none⟩ = some v ↔ ∃ c t fr, w.heap[b]? = some (.cells c t fr) ∧ c[o]? = some v := by
  unfold World.cell?
  constructor
  · intro h
    cases hb : w.heap[b]? with
    | none => simp [hb] at h
    | some ob =>
      cases ob <;> simp [hb] at h
      exact ⟨_, _, _, rfl, h⟩
  · rintro ⟨c, t, fr, hb, hc⟩
    simp [hb, hc]
theorem Keeps.cell {M : Nat → Nat → Prop} {w w' : World} (h : Keeps M w w') {b o : Nat} {v : Value} (hm : ¬ M b o) (hc : w.cell? ⟨b, o, none⟩ = some v) : w'.cell? ⟨b, o, none⟩ = some v := by
  obtain ⟨c, t, fr, hb, hv⟩ := cell_of.1 hc
  rcases h.block b (Qxf hc) with e | ⟨c1, c', t1, fr1, e1, e2, _, ec⟩
  · exact cell_of.2 ⟨c, t, fr, e.trans hb, hv⟩
  · rw [hb] at e1
    injection e1 with e1
    injection e1 with g1 g2 g3
    subst g1 g2 g3
    exact cell_of.2 ⟨c', t, fr, e2, (ec o hm).trans hv⟩
def bsize (w : World) (b : Nat) : Option Nat :=
 match w.heap[b]? with
 | some (.cells c _ _) => some c.size
 | _ => none
theorem Q1kd {w : World} {b n : Nat} (h : bsize w b = some n) : b < w.heap.size := by
 unfold bsize at h
 cases hb : w.heap[b]? with
 | none => simp [hb] at h
 | some ob => exact (Array.getElem?_eq_some_iff.1 hb).1
theorem Keeps.bsize {M : Nat → Nat → Prop} {w w' : World} (h : Keeps M w w') {b n : Nat} (hn : bsize w b = some n) : bsize w' b = some n := by
  rcases h.block b (Q1kd hn) with e | ⟨c, c', t, fr, e1, e2, es, _⟩
  · unfold Pv.bsize at *
    rw [e]; exact hn
  · unfold Pv.bsize at *
    rw [e1] at hn
    rw [e2]
    simpa [es] using hn
inductive Rep (w : World) (M : Nat → Nat → Prop) : (Nat → Option Nat) → Value → PV → Prop
  | un (D v) : Rep w M D v .un
  | bool (D b) : Rep w M D (.bool b) (.bool b)
  | int (D k n) : Rep w M D (.int k n) (.int k n)
  | str (D s) : Rep w M D (.string s) (.str s)
  | sl (D A n c sz l b o) (vs : Nat → Nat → Value) (hn : l.length = n) (hc : n ≤ c) (hm : c ≤ maxLen) (hr : ∀ r ∈ l, r.length = sz) (hA : 0 < n → A = some ⟨b, o, none⟩)
      (hcell : ∀ j r, l[j]? = some r → ∀ i p, r[i]? = some p → ¬ M b (o + j * sz + i) ∧ w.cell? ⟨b, o + j * sz + i, none⟩ = some (vs j i) ∧ (vs j i).oneCell' = true)
      (hrep : ∀ j r, l[j]? = some r → ∀ i p, r[i]? = some p → Rep w M (fun _ => none) (vs j i) p) : Rep w M D (.slice A n c) (.sl l)
  | rf (D b o c) (vs : Nat → Value) (hcell : ∀ i p, c[i]? = some p → ¬ M b (o + i) ∧ w.cell? ⟨b, o + i, none⟩ = some (vs i) ∧ (vs i).oneCell' = true)
      (hrep : ∀ i p, c[i]? = some p → Rep w M (fun _ => none) (vs i) p) : Rep w M D (.pointer (some ⟨b, o, none⟩)) (.rf c)
  | bx (D b id off) (h : D id = some b) : Rep w M D (.pointer (some ⟨b, off, none⟩)) (.bx id off)
  | ms (D A len c id sz off) (hc : len ≤ c) (hm : c ≤ maxLen) (h : (c = 0 ∧ len = 0) ∨ ∃ b n, D id = some b ∧ A = some ⟨b, off * sz, none⟩ ∧ bsize w b = some n ∧ (off + c) * sz ≤ n) : Rep w M D (.slice A len c) (.ms id sz off len)
  | ns (D A sz) : Rep w M D (.slice A 0 0) (.ns sz)
  | np (D) : Rep w M D (.pointer none) .np
  | fn (D f) (xs ys : Array Value) (a b : List PV) (ha : xs.size = a.length) (hb : ys.size = b.length) (h1 : ∀ (i : Nat) v p, xs[i]? = some v → a[i]? = some p → Rep w M D v p) (h2 : ∀ (i : Nat) v p, ys[i]? = some v → b[i]? = some p → Rep w M D v p) : Rep w M D (.func (.func f) xs ys) (.fn f a b)
  | nf (D) : Rep w M D .nilFunc .nf
  | agg (D) (xs : Array Value) (c : List PV) (hl : xs.size = c.length) (h1 : ∀ (i : Nat) v p, xs[i]? = some v → c[i]? = some p → v.oneCell' = true) (h : ∀ (i : Nat) v p, xs[i]? = some v → c[i]? = some p → Rep w M D v p) : Rep w M D (.agg xs) (.agg c)
  | tup (D) (xs : Array Value) (c : List PV) (hl : xs.size = c.length) (h : ∀ (i : Nat) v p, xs[i]? = some v → c[i]? = some p → Rep w M D v p) : Rep w M D (.tuple xs) (.tup c)
theorem Rep.mono {w w' : World} {M M' W : Nat → Nat → Prop} (hk : Keeps W w w') (hW : ∀ b o, W b o → M b o) (hM : ∀ b o, b < w.heap.size → M' b o → M b o) {D : Nat → Option Nat} {v : Value} {p : PV} (h : Rep w M D v p) :
  ∀ {D' : Nat → Option Nat}, (∀ id b, D id = some b → D' id = some b) → Rep w' M' D' v p := by
 have go : ∀ b o u, (¬ M b o ∧ w.cell? ⟨b, o, none⟩ = some u ∧ u.oneCell' = true) → (¬ M' b o ∧ w'.cell? ⟨b, o, none⟩ = some u ∧ u.oneCell' = true) := fun b o u ⟨h1, h2, h3⟩ =>
  ⟨fun hc => h1 (hM b o (Qxf h2) hc), hk.cell (fun hc => h1 (hW b o hc)) h2, h3⟩
 induction h with
 | un D v => exact fun _ => .un _ _
 | bool D b => exact fun _ => .bool _ _
 | int D k n => exact fun _ => .int _ _ _
 | str D s => exact fun _ => .str _ _
 | sl D A n c sz l b o vs hn hc hm hr hA hcell hrep ih => exact fun _ => .sl _ A n c sz l b o vs hn hc hm hr hA (fun j r hj i p hi => go _ _ _ (hcell j r hj i p hi)) (fun j r hj i p hi => ih j r hj i p hi (fun _ _ h => h))
 | rf D b o c vs hcell hrep ih => exact fun _ => .rf _ b o c vs (fun i p hi => go _ _ _ (hcell i p hi)) (fun i p hi => ih i p hi (fun _ _ h => h))
 | bx D b id off h => exact fun hD => .bx _ b id off (hD _ _ h)
 | ms D A len c id sz off hc hm h => exact fun hD => .ms _ A len c id sz off hc hm (h.imp (fun x => x) fun ⟨b, n, h1, h2, h3, h4⟩ => ⟨b, n, hD _ _ h1, h2, hk.bsize h3, h4⟩)
 | ns D A sz => exact fun _ => .ns _ A sz
 | np D => exact fun _ => .np _
 | fn D f xs ys a b ha hb h1 h2 ih1 ih2 => exact fun hD => .fn _ f xs ys a b ha hb (fun i v p hv hp => ih1 i v p hv hp hD) (fun i v p hv hp => ih2 i v p hv hp hD)
 | nf D => exact fun _ => .nf _
 | agg D xs c hl h1 h ih => exact fun hD => .agg _ xs c hl h1 (fun i v p hv hp => ih i v p hv hp hD)
 | tup D xs c hl h ih => exact fun hD => .tup _ xs c hl (fun i v p hv hp => ih i v p hv hp hD)
theorem Rep.to {w : World} {M M' : Nat → Nat → Prop} {D D' : Nat → Option Nat} {v : Value} {p : PV} (h : Rep w M D v p) (hM : ∀ b o, b < w.heap.size → M' b o → M b o) (hD : ∀ id b, D id = some b → D' id = some b) : Rep w M' D' v p :=
 h.mono (W := fun _ _ => False) (Keeps.refl _ w) (fun _ _ h => h.elim) hM hD
def ObOk (w : World) (M : Nat → Nat → Prop) (D : Nat → Option Nat) (n0 id : Nat) (ob : Ob) : Prop :=
 ob.ro ≤ ob.cells.length ∧
  ((ob.cells = [] ∧ D id = none) ∨
   ∃ b carr t, D id = some b ∧ w.heap[b]? = some (.cells carr t (0, 0)) ∧ ob.cells.length ≤ carr.size ∧ (ob.gr = true → n0 ≤ b) ∧
    ∀ (k : Nat) p, ob.cells[k]? = some p → ∃ v, carr[k]? = some v ∧ v.oneCell' = true ∧ Rep w M D v p)
def MutO (D : Nat → Option Nat) (H : Nat → Option Ob) (b o : Nat) : Prop := ∃ id ob, H id = some ob ∧ D id = some b ∧ ob.ro ≤ o
def Mut (D : Nat → Option Nat) (H : Nat → Option Ob) (F : Nat → Nat → Prop) (b o : Nat) : Prop := F b o ∨ MutO D H b o
structure Sim (w : World) (D : Nat → Option Nat) (H : Nat → Option Ob) (F : Nat → Nat → Prop) (n0 m : Nat) : Prop where
  fr : ∀ b o, F b o → b < n0
  le : n0 ≤ w.heap.size
  own : ∀ id b, D id = some b → id < m ∨ n0 ≤ b
  ok : ∀ id ob, H id = some ob → ObOk w (Mut D H F) D n0 id ob
  inj : ∀ i j a b k, H i = some a → H j = some b → D i = some k → D j = some k → i = j
  dis : ∀ id ob b o, H id = some ob → D id = some b → ¬ F b o
theorem ObOk.mono {w w' : World} {M M' W : Nat → Nat → Prop} {D D' : Nat → Option Nat} {n0 id : Nat} {ob : Ob} (hk : Keeps W w w') (hW : ∀ b o, W b o → M b o) (hM : ∀ b o, b < w.heap.size → M' b o → M b o) (hD : ∀ id b, D id = some b → D' id = some b)
    (h : ObOk w M D n0 id ob) (h0 : D id = none → D' id = none) (hb : ∀ b o, D id = some b → ¬ W b o) : ObOk w' M' D' n0 id ob := by
  obtain ⟨hro, h⟩ := h
  refine ⟨hro, ?_⟩
  rcases h with ⟨h1, h2⟩ | ⟨b, carr, t, h1, h2, h3, h4, h5⟩
  · exact .inl ⟨h1, h0 h2⟩
  · refine .inr ⟨b, carr, t, hD _ _ h1, ?_, h3, h4, fun k p hp => ?_⟩
    · have hlt : b < w.heap.size := (Array.getElem?_eq_some_iff.1 h2).1
      rcases hk.block b hlt with e | ⟨c, c', t', fr, e1, e2, es, ec⟩
      · rw [e, h2]
      · rw [h2] at e1
        injection e1 with e1
        injection e1 with g1 g2 g3
        subst g1 g2 g3
        have : c' = carr := by
          apply Array.ext_getElem?
          intro i
          exact ec i (hb b i h1)
        rw [e2, this]
    · obtain ⟨v, e1, e2, e3⟩ := h5 k p hp
      exact ⟨v, e1, e2, e3.mono hk hW hM hD⟩
theorem Q1pp {w : World} {D : Nat → Option Nat} {H : Nat → Option Ob} {F : Nat → Nat → Prop} {n0 m : Nat} (h : Sim w D H F n0 m) {b o : Nat} (hm : MutO D H b o) : b < w.heap.size := by
  obtain ⟨id, ob, h1, h2, _⟩ := hm
  rcases (h.ok id ob h1).2 with ⟨_, e⟩ | ⟨b', carr, t, e1, e2, _⟩
  · rw [h2] at e; cases e
  · rw [h2] at e1
    injection e1 with e1
    subst e1
    exact (Array.getElem?_eq_some_iff.1 e2).1
def RepL (w : World) (M : Nat → Nat → Prop) (D : Nat → Option Nat) (xs : List Value) (ps : List PV) : Prop := xs.length = ps.length ∧ ∀ (i : Nat) v p, xs[i]? = some v → ps[i]? = some p → Rep w M D v p
theorem RepL.nil (w : World) (M : Nat → Nat → Prop) (D : Nat → Option Nat) : RepL w M D [] [] := ⟨rfl, fun i v p h => by simp at h⟩
theorem RepL.cons {w : World} {M : Nat → Nat → Prop} {D : Nat → Option Nat} {v : Value} {p : PV} {xs : List Value} {ps : List PV} (h : Rep w M D v p) (hr : RepL w M D xs ps) : RepL w M D (v :: xs) (p :: ps) := by
 refine ⟨by simp [hr.1], fun i u q hu hq => ?_⟩
 cases i with
 | zero => simp at hu hq; subst hu hq; exact h
 | succ i => exact hr.2 i u q (by simpa using hu) (by simpa using hq)
theorem RepL.Q3z {w : World} {M : Nat → Nat → Prop} {D : Nat → Option Nat} {v : Value} {p : PV} {xs : List Value} {ps : List PV} (h : RepL w M D (v :: xs) (p :: ps)) : Rep w M D v p ∧ RepL w M D xs ps :=
 ⟨h.2 0 v p rfl rfl, by have := h.1; simpa using this, fun i u q hu hq => h.2 (i + 1) u q (by simpa using hu) (by simpa using hq)⟩
theorem RepL.append {w : World} {M : Nat → Nat → Prop} {D : Nat → Option Nat} {xs ys : List Value} {ps qs : List PV} (h : RepL w M D xs ps) (h' : RepL w M D ys qs) : RepL w M D (xs ++ ys) (ps ++ qs) := by
 induction xs generalizing ps with
 | nil =>
  have : ps = [] := by have := h.1; simp at this; exact List.eq_nil_of_length_eq_zero this.symm
  subst this
  simpa using h'
 | cons x xs ih =>
  cases ps with
  | nil => have := h.1; simp at this
  | cons p ps =>
   obtain ⟨a, b⟩ := h.Q3z
   exact RepL.cons a (ih b)
theorem RepL.mono {w w' : World} {M M' : Nat → Nat → Prop} {D D' : Nat → Option Nat} {xs : List Value} {ps : List PV} (h : RepL w M D xs ps) (hi : ∀ v p, Rep w M D v p → Rep w' M' D' v p) : RepL w' M' D' xs ps := ⟨h.1, fun i v p hv hp => hi v p (h.2 i v p hv hp)⟩
end Go.Pv
end

section
/-
  What is handed over: a value told as a tree (fz), pointers by the places of their objects (pass, Q3w), and back again.
-/
namespace Go.Pv
open Go.RowKit
theorem Q25 {α : Type} {c : Bool} {x : Option α} {y : α} (h : (bif c then x else none) = some y) : c = true ∧ x = some y := by
  cases c
  · cases h
  · exact ⟨rfl, h⟩
theorem bind_some {α β : Type} {x : Option α} {f : α → Option β} {y : β} (h : x.bind f = some y) : ∃ a, x = some a ∧ f a = some y := Option.bind_eq_some_iff.1 h
theorem Q7c {l : List Nat} {x : Nat} : has l x = true ↔ x ∈ l := by
  induction l with
  | nil => simp [has]
  | cons k r ih =>
    unfold has
    by_cases e : k = x
    · subst e; simp
    · have : Nat.beq k x = false := by rw [Bool.eq_false_iff]; exact fun h => e (Nat.eq_of_beq_eq_true h)
      simp [this, ih]; exact fun h => absurd h.symm e
theorem Qj6 {a b : List Nat} : disj a b = true ↔ ∀ x ∈ a, x ∉ b := by
  induction a with
  | nil => simp [disj]
  | cons k r ih =>
    unfold disj
    rw [Bool.and_eq_true, ih]
    constructor
    · rintro ⟨h1, h2⟩ x hx
      rcases List.mem_cons.1 hx with rfl | hx
      · intro hb
        rw [Q7c.2 hb] at h1
        cases h1
      · exact h2 x hx
    · intro h
      refine ⟨?_, fun x hx => h x (List.mem_cons_of_mem _ hx)⟩
      have := h k List.mem_cons_self
      rw [Bool.not_eq_true', Bool.eq_false_iff]
      exact fun hc => this (Q7c.1 hc)
theorem Q4b {α β : Type} {f : α → Option β} : ∀ {c : List α} {l : List β}, mapO f c = some l → l.length = c.length ∧ ∀ (i : Nat) y, l[i]? = some y → ∃ x, c[i]? = some x ∧ f x = some y
 | [], l, h => by
  simp [mapO] at h
  subst h
  exact ⟨rfl, fun i y hi => by simp at hi⟩
 | x :: r, l, h => by
  unfold mapO at h
  obtain ⟨y, hy, h⟩ := bind_some h
  obtain ⟨l', hl, h⟩ := bind_some h
  injection h with h
  subst h
  obtain ⟨h1, h2⟩ := Q4b hl
  refine ⟨by simp [h1], fun i z hi => ?_⟩
  cases i with
  | zero => simp at hi; subst hi; exact ⟨x, rfl, hy⟩
  | succ i =>
   obtain ⟨u, hu, hf⟩ := h2 i z (by simpa using hi)
   exact ⟨u, by simpa using hu, hf⟩
theorem Qei (sz : Nat) : ∀ (n : Nat) (l : List PV), (rowsOf sz n l).length = n
 | 0, _ => rfl
 | n + 1, l => by simp [rowsOf, Qei sz n]
theorem Qoq (sz : Nat) : ∀ (n : Nat) (l : List PV), l.length = n * sz → ∀ (j : Nat) r, (rowsOf sz n l)[j]? = some r → r.length = sz ∧ j < n ∧ ∀ (i : Nat) p, r[i]? = some p → i < sz ∧ l[j * sz + i]? = some p
 | 0, l, _, j, r, h => by simp [rowsOf] at h
 | n + 1, l, hl, j, r, h => by
  have hm : (n + 1) * sz = n * sz + sz := by rw [Nat.add_mul, Nat.one_mul]
  cases j with
  | zero =>
   simp [rowsOf] at h
   subst h
   refine ⟨by rw [List.length_take]; omega, by omega, fun i p hp => ?_⟩
   have hi : i < sz := by
    have := (List.getElem?_eq_some_iff.1 hp).1
    rw [List.length_take] at this
    omega
   refine ⟨hi, ?_⟩
   rw [List.getElem?_take, if_pos hi] at hp
   simpa using hp
  | succ j =>
   have h' : (rowsOf sz n (l.drop sz))[j]? = some r := by simpa [rowsOf] using h
   obtain ⟨h1, h2, h3⟩ := Qoq sz n (l.drop sz) (by rw [List.length_drop]; omega) j r h'
   refine ⟨h1, by omega, fun i p hp => ?_⟩
   obtain ⟨h4, h5⟩ := h3 i p hp
   refine ⟨h4, ?_⟩
   rw [List.getElem?_drop] at h5
   rw [← h5]
   congr 1
   rw [Nat.add_mul]
   omega
def Q5g (H : Nat → Option Ob) (D : Nat → Option Nat) (M : Nat → Nat → Prop) (fr : List Nat) : Prop := ∀ id ∈ fr, ∀ ob b o, H id = some ob → D id = some b → o < ob.cells.length → ¬ M b o
theorem Q5g.left {H : Nat → Option Ob} {D : Nat → Option Nat} {M : Nat → Nat → Prop} {a b : List Nat} (h : Q5g H D M (a ++ b)) : Q5g H D M a := fun id hi => h id (List.mem_append_left _ hi)
theorem Q5g.right {H : Nat → Option Ob} {D : Nat → Option Nat} {M : Nat → Nat → Prop} {a b : List Nat} (h : Q5g H D M (a ++ b)) : Q5g H D M b := fun id hi => h id (List.mem_append_right _ hi)
theorem Q5g.part {H : Nat → Option Ob} {D : Nat → Option Nat} {M : Nat → Nat → Prop} {l : List (PV × List Nat)} (h : Q5g H D M (l.map (·.2)).flatten) {i : Nat} {y : PV × List Nat} (hy : l[i]? = some y) : Q5g H D M y.2 := fun id hi => h id (List.mem_flatten.2 ⟨y.2, List.mem_map.2 ⟨y, List.mem_of_getElem? hy, rfl⟩, hi⟩)
theorem Q1ko {w : World} {D : Nat → Option Nat} {H : Nat → Option Ob} {F : Nat → Nat → Prop} {n0 m : Nat} (S : Sim w D H F n0 m) {M : Nat → Nat → Prop} (hM : ∀ b o, b < w.heap.size → M b o → Mut D H F b o) :
    ∀ (n : Nat) (v : Value) (p q : PV) (fr : List Nat), fz H n p = some (q, fr) → Rep w (Mut D H F) D v p → Q5g H D M fr → Rep w M (fun _ => none) v q := by
  intro n
  induction n with
  | zero => intro v p q fr h; simp [fz] at h
  | succ n ih =>
    have list : ∀ (xs : List Value) (c : List PV) (l : List (PV × List Nat)), mapO (fz H n) c = some l → (∀ (i : Nat) v p, xs[i]? = some v → c[i]? = some p → Rep w (Mut D H F) D v p) → Q5g H D M (l.map (·.2)).flatten →
        ∀ (i : Nat) v q, xs[i]? = some v → (l.map (·.1))[i]? = some q → Rep w M (fun _ => none) v q := by
      intro xs c l hl hr hf i v q hv hq
      rw [List.getElem?_map] at hq
      obtain ⟨y, hy, rfl⟩ := Option.map_eq_some_iff.1 hq
      obtain ⟨x, hx, hfx⟩ := (Q4b hl).2 i y hy
      exact ih v x y.1 y.2 hfx (hr i v x hv hx) (hf.part hy)
    intro v p q fr h hR hF
    cases p with
    | un => simp only [fz, Option.some.injEq, Prod.mk.injEq] at h; obtain ⟨rfl, rfl⟩ := h; exact .un _ _
    | bool b => simp only [fz, Option.some.injEq, Prod.mk.injEq] at h; obtain ⟨rfl, rfl⟩ := h; cases hR; exact .bool _ _
    | int k m => simp only [fz, Option.some.injEq, Prod.mk.injEq] at h; obtain ⟨rfl, rfl⟩ := h; cases hR; exact .int _ _ _
    | str s => simp only [fz, Option.some.injEq, Prod.mk.injEq] at h; obtain ⟨rfl, rfl⟩ := h; cases hR; exact .str _ _
    | np => simp only [fz, Option.some.injEq, Prod.mk.injEq] at h; obtain ⟨rfl, rfl⟩ := h; cases hR; exact .np _
    | nf => simp only [fz, Option.some.injEq, Prod.mk.injEq] at h; obtain ⟨rfl, rfl⟩ := h; cases hR; exact .nf _
    | bx id off => simp [fz] at h
    | ns sz =>
      simp only [fz, Option.some.injEq, Prod.mk.injEq] at h
      obtain ⟨rfl, rfl⟩ := h
      cases hR with
      | ns _ A _ => exact .sl _ A 0 0 0 [] 0 0 (fun _ _ => default) rfl (Nat.le_refl _) (by simp [maxLen]) (by simp) (by omega) (by simp) (by simp)
    | sl l =>
      simp only [fz, Option.some.injEq, Prod.mk.injEq] at h
      obtain ⟨rfl, rfl⟩ := h
      cases hR with
      | sl _ A n' c sz _ b o vs hn hc hm hr hA hcell hrep =>
        exact .sl _ A n' c sz l b o vs hn hc hm hr hA (fun j r hj i p hi => let ⟨h1, h2, h3⟩ := hcell j r hj i p hi; ⟨fun hx => h1 (hM _ _ (Qxf h2) hx), h2, h3⟩) (fun j r hj i p hi => (hrep j r hj i p hi).to hM (fun _ _ h => h))
    | rf c =>
      simp only [fz, Option.some.injEq, Prod.mk.injEq] at h
      obtain ⟨rfl, rfl⟩ := h
      cases hR with
      | rf _ b o _ vs hcell hrep => exact .rf _ b o c vs (fun i p hi => let ⟨h1, h2, h3⟩ := hcell i p hi; ⟨fun hx => h1 (hM _ _ (Qxf h2) hx), h2, h3⟩) (fun i p hi => (hrep i p hi).to hM (fun _ _ h => h))
    | agg c =>
      simp only [fz] at h
      obtain ⟨l, hl, h⟩ := bind_some h
      simp only [Option.some.injEq, Prod.mk.injEq] at h
      obtain ⟨rfl, rfl⟩ := h
      cases hR with
      | agg _ xs _ hs h1 hr =>
        have hlen := (Q4b hl).1
        refine .agg _ xs _ (by rw [List.length_map, hlen, hs]) (fun i v q hv hq => ?_) (fun i v q hv hq => list xs.toList c l hl (fun i v p hv hp => hr i v p (by simpa using hv) hp) hF i v q (by simpa using hv) hq)
        have hi : i < c.length := by
          have := (List.getElem?_eq_some_iff.1 hq).1
          rw [List.length_map, hlen] at this
          exact this
        exact h1 i v c[i] hv (List.getElem?_eq_getElem hi)
    | tup c =>
      simp only [fz] at h
      obtain ⟨l, hl, h⟩ := bind_some h
      simp only [Option.some.injEq, Prod.mk.injEq] at h
      obtain ⟨rfl, rfl⟩ := h
      cases hR with
      | tup _ xs _ hs hr =>
        have hlen := (Q4b hl).1
        exact .tup _ xs _ (by rw [List.length_map, hlen, hs]) (fun i v q hv hq => list xs.toList c l hl (fun i v p hv hp => hr i v p (by simpa using hv) hp) hF i v q (by simpa using hv) hq)
    | fn f a b =>
      simp only [fz] at h
      obtain ⟨l, hl, h⟩ := bind_some h
      obtain ⟨l2, hl2, h⟩ := bind_some h
      simp only [Option.some.injEq, Prod.mk.injEq] at h
      obtain ⟨rfl, rfl⟩ := h
      cases hR with
      | fn _ _ xs ys _ _ ha hb h1 h2 =>
        exact .fn _ f xs ys _ _ (by rw [List.length_map, (Q4b hl).1, ha]) (by rw [List.length_map, (Q4b hl2).1, hb])
          (fun i v q hv hq => list xs.toList a l hl (fun i v p hv hp => h1 i v p (by simpa using hv) hp) hF.left i v q (by simpa using hv) hq)
          (fun i v q hv hq => list ys.toList b l2 hl2 (fun i v p hv hp => h2 i v p (by simpa using hv) hp) hF.right i v q (by simpa using hv) hq)
    | ms id sz off len =>
      simp only [fz] at h
      obtain ⟨ob, hob, h⟩ := bind_some h
      obtain ⟨hc, h⟩ := Q25 h
      obtain ⟨l, hl, h⟩ := bind_some h
      simp only [Option.some.injEq, Prod.mk.injEq] at h
      obtain ⟨rfl, rfl⟩ := h
      simp only [Bool.and_eq_true] at hc
      have hle : (off + len) * sz ≤ ob.cells.length := Nat.le_of_ble_eq_true hc.2
      have hlen := (Q4b hl).1
      have hll : l.length = len * sz := by
        rw [hlen, List.length_take, List.length_drop]
        rw [Nat.add_mul] at hle
        omega
      have hF1 : Q5g H D M [id] := fun i hi => hF i (by simp at hi; subst hi; exact List.mem_cons_self)
      have hF2 : Q5g H D M (l.map (·.2)).flatten := fun i hi => hF i (List.mem_cons_of_mem _ hi)
      cases hR with
      | ms _ A _ c _ _ _ hc1 hm hd =>
        have hrow : ∀ r ∈ rowsOf sz len (l.map (·.1)), r.length = sz := by
          intro r hr
          obtain ⟨j, hj⟩ := List.getElem?_of_mem hr
          exact (Qoq sz len _ (by rw [List.length_map, hll]) j r hj).1
        rcases Nat.eq_zero_or_pos len with h0 | h0
        · subst h0
          exact .sl _ A 0 c sz _ 0 0 (fun _ _ => default) rfl hc1 hm hrow (by omega) (fun j r hj => by simp [rowsOf] at hj) (fun j r hj => by simp [rowsOf] at hj)
        rcases hd with ⟨_, h1⟩ | ⟨b, nb, hD, rfl, hb, hcap⟩
        · omega
        · rcases (S.ok id ob hob).2 with ⟨_, e⟩ | ⟨b', carr, t, e1, e2, e3, e4, e5⟩
          · rw [hD] at e; cases e
          · rw [hD] at e1
            injection e1 with e1
            subst e1
            have key : ∀ (j : Nat) r, (rowsOf sz len (l.map (·.1)))[j]? = some r → ∀ (i : Nat) q, r[i]? = some q → ∃ p v y, off * sz + j * sz + i < ob.cells.length ∧ ob.cells[off * sz + j * sz + i]? = some p ∧ carr[off * sz + j * sz + i]? = some v ∧ v.oneCell' = true ∧ Rep w (Mut D H F) D v p ∧ l[j * sz + i]? = some y ∧ fz H n p = some y ∧ y.1 = q := by
              intro j r hj i q hi
              obtain ⟨_, _, h3⟩ := Qoq sz len _ (by rw [List.length_map, hll]) j r hj
              obtain ⟨h4, h5⟩ := h3 i q hi
              rw [List.getElem?_map] at h5
              obtain ⟨y, hy, hyq⟩ := Option.map_eq_some_iff.1 h5
              obtain ⟨p, hp, hfp⟩ := (Q4b hl).2 _ y hy
              have hlt : j * sz + i < len * sz := by rw [← hll]; exact (List.getElem?_eq_some_iff.1 hy).1
              rw [List.getElem?_take, if_pos hlt, List.getElem?_drop, ← Nat.add_assoc] at hp
              have hlt2 := (List.getElem?_eq_some_iff.1 hp).1
              obtain ⟨v, hv, h1, hr⟩ := e5 _ p hp
              exact ⟨p, v, y, hlt2, hp, hv, h1, hr, hy, hfp, hyq⟩
            refine .sl _ _ len c sz _ b (off * sz) (fun j i => (carr[off * sz + j * sz + i]?).getD default) (Qei _ _ _) hc1 hm hrow (fun _ => rfl) (fun j r hj i q hi => ?_) (fun j r hj i q hi => ?_)
            · obtain ⟨p, v, y, h1, h2, h3, h4, h5, h6, h7, h8⟩ := key j r hj i q hi
              refine ⟨hF1 id (List.mem_singleton.2 rfl) ob b _ hob hD h1, ?_, ?_⟩
              · rw [h3]; exact cell_of.2 ⟨carr, t, (0, 0), e2, h3⟩
              · rw [h3]; exact h4
            · obtain ⟨p, v, y, h1, h2, h3, h4, h5, h6, h7, h8⟩ := key j r hj i q hi
              rw [h3]
              subst h8
              exact ih v p y.1 y.2 h7 h5 (hF2.part h6)
theorem Q19g {l : List Nat} {id k : Nat} (h : idxOf l id = some k) : l[k]? = some id := by
  induction l generalizing k with
  | nil => simp [idxOf] at h
  | cons x r ih =>
    unfold idxOf at h
    by_cases e : x = id
    · subst e
      simp at h
      subst h
      rfl
    · have : Nat.beq x id = false := by rw [Bool.eq_false_iff]; exact fun h => e (Nat.eq_of_beq_eq_true h)
      simp [this] at h
      obtain ⟨k', hk, rfl⟩ := h
      simpa using ih hk
theorem Q19f {l : List Nat} {id : Nat} (h : idxOf l id = none) : id ∉ l := by
  induction l with
  | nil => simp
  | cons x r ih =>
    unfold idxOf at h
    by_cases e : x = id
    · subst e; simp at h
    · have : Nat.beq x id = false := by rw [Bool.eq_false_iff]; exact fun h => e (Nat.eq_of_beq_eq_true h)
      simp [this] at h
      simp [ih h]
      exact fun h => e h.symm
theorem Qbr (ids : List Nat) (id : Nat) : ids <+: (Qxe ids id).2 ∧ (Qxe ids id).2[(Qxe ids id).1]? = some id ∧ (ids.Nodup → (Qxe ids id).2.Nodup) := by
 unfold Qxe
 cases h : idxOf ids id with
 | some k => exact ⟨List.prefix_refl _, Q19g h, fun h => h⟩
 | none =>
  refine ⟨List.prefix_append _ _, by simp, fun hn => ?_⟩
  rw [List.nodup_append]
  exact ⟨hn, by simp, fun a ha b hb => by simp at hb; subst hb; exact fun e => Q19f h (e ▸ ha)⟩
def Dof (D : Nat → Option Nat) (ids : List Nat) (p : Nat) : Option Nat := (ids[p]?).bind D
theorem Q82 {a b : List Nat} (h : a <+: b) {k x : Nat} (hk : a[k]? = some x) : b[k]? = some x := by
 obtain ⟨t, rfl⟩ := h
 rw [List.getElem?_append_left (List.getElem?_eq_some_iff.1 hk).1]
 exact hk
section
variable {w : World} {D : Nat → Option Nat} {H : Nat → Option Ob} {F : Nat → Nat → Prop} {n0 m : Nat} {M : Nat → Nat → Prop}
theorem Q4h {f : PV → List Nat → Option Pass} (hf : ∀ p ids x, f p ids = some x → ids <+: x.ids ∧ (ids.Nodup → x.ids.Nodup) ∧ ∀ v idsF, x.ids <+: idsF → Q5g H D M x.fr → Rep w (Mut D H F) D v p → Rep w M (Dof D idsF) v x.v) :
  ∀ (c : List PV) (ids : List Nat) (y : List PV × List Nat × List Nat), Q66 f c ids = some y → ids <+: y.2.1 ∧ (ids.Nodup → y.2.1.Nodup) ∧ y.1.length = c.length ∧
   ∀ idsF, y.2.1 <+: idsF → Q5g H D M y.2.2 → ∀ (i : Nat) v p q, c[i]? = some p → y.1[i]? = some q → Rep w (Mut D H F) D v p → Rep w M (Dof D idsF) v q
 | [], ids, y, h => by
  simp only [Q66, Option.some.injEq] at h
  subst h
  exact ⟨List.prefix_refl _, fun h => h, rfl, fun _ _ _ i v p q hp => by simp at hp⟩
 | p :: r, ids, y, h => by
  simp only [Q66] at h
  obtain ⟨x, hx, h⟩ := bind_some h
  obtain ⟨z, hz, h⟩ := bind_some h
  injection h with h
  subst h
  obtain ⟨a1, a2, a3⟩ := hf p ids x hx
  obtain ⟨b1, b2, b3, b4⟩ := Q4h hf r x.ids z hz
  refine ⟨a1.trans b1, fun h => b2 (a2 h), by simp [b3], fun idsF hi hl i v p' q hp hq hr => ?_⟩
  cases i with
  | zero =>
   simp at hp hq
   subst hp hq
   exact a3 v idsF (b1.trans hi) hl.left hr
  | succ i => exact b4 idsF hi hl.right i v p' q (by simpa using hp) (by simpa using hq) hr
theorem Q9c (S : Sim w D H F n0 m) (hM : ∀ b o, b < w.heap.size → M b o → Mut D H F b o) (byRef : Bool) :
    ∀ (n : Nat) (p : PV) (ids : List Nat) (x : Pass), pass H byRef n p ids = some x → ids <+: x.ids ∧ (ids.Nodup → x.ids.Nodup) ∧ ∀ v idsF, x.ids <+: idsF → Q5g H D M x.fr → Rep w (Mut D H F) D v p → Rep w M (Dof D idsF) v x.v := by
  intro n
  induction n with
  | zero => intro p ids x h; simp [pass] at h
  | succ n ih =>
    have froz : ∀ (p q : PV) (fr : List Nat) (v : Value) (idsF : List Nat), fz H 8 p = some (q, fr) → Q5g H D M fr → Rep w (Mut D H F) D v p → Rep w M (Dof D idsF) v q := fun p q fr v idsF h hl hr =>
      (Q1ko S hM 8 v p q fr h hr hl).to (fun _ _ _ h => h) (fun _ _ h => by cases h)
    have plain : ∀ (p : PV) (ids : List Nat) (x : Pass), fz H 8 p = some (p, []) → (some (⟨p, ids, []⟩ : Pass) = some x) → ids <+: x.ids ∧ (ids.Nodup → x.ids.Nodup) ∧ ∀ v idsF, x.ids <+: idsF → Q5g H D M x.fr → Rep w (Mut D H F) D v p → Rep w M (Dof D idsF) v x.v := by
      intro p ids x h1 h
      injection h with h
      subst h
      exact ⟨List.prefix_refl _, fun h => h, fun v idsF _ hl hr => froz p p [] v idsF h1 hl hr⟩
    intro p ids x h
    cases p with
    | un => exact plain _ _ _ rfl h
    | bool b => exact plain _ _ _ rfl h
    | int k m => exact plain _ _ _ rfl h
    | str s => exact plain _ _ _ rfl h
    | np => exact plain _ _ _ rfl h
    | nf => exact plain _ _ _ rfl h
    | sl l => exact plain _ _ _ rfl h
    | rf c => exact plain _ _ _ rfl h
    | ns sz =>
      simp only [pass, Option.some.injEq] at h
      subst h
      exact ⟨List.prefix_refl _, fun h => h, fun v idsF _ hl hr => froz (.ns sz) (.sl []) [] v idsF rfl hl hr⟩
    | bx id off =>
      simp only [pass, Option.some.injEq] at h
      subst h
      obtain ⟨a1, a2, a3⟩ := Qbr ids id
      refine ⟨a1, a3, fun v idsF hi _ hr => ?_⟩
      cases hr with
      | bx _ b _ _ hD => exact .bx _ b _ off (by unfold Dof; rw [Q82 hi a2]; exact hD)
    | ms id sz off len =>
      simp only [pass] at h
      cases byRef with
      | true =>
        simp only [cond_true, Option.some.injEq] at h
        subst h
        obtain ⟨a1, a2, a3⟩ := Qbr ids id
        refine ⟨a1, a3, fun v idsF hi _ hr => ?_⟩
        cases hr with
        | ms _ A _ c _ _ _ hc hm hd => exact .ms _ A len c _ sz off hc hm (hd.imp (fun h => h) fun ⟨b, nb, h1, h2, h3, h4⟩ => ⟨b, nb, by unfold Dof; rw [Q82 hi a2]; exact h1, h2, h3, h4⟩)
      | false =>
        simp only [cond_false] at h
        obtain ⟨y, hy, h⟩ := bind_some h
        injection h with h
        subst h
        exact ⟨List.prefix_refl _, fun h => h, fun v idsF _ hl hr => froz _ y.1 y.2 v idsF hy hl hr⟩
    | agg c =>
      simp only [pass] at h
      obtain ⟨y, hy, h⟩ := bind_some h
      injection h with h
      subst h
      obtain ⟨a1, a2, a3, a4⟩ := Q4h (fun p ids x hx => ih p ids x hx) c ids y hy
      refine ⟨a1, a2, fun v idsF hi hl hr => ?_⟩
      cases hr with
      | agg _ xs _ hs h1 hr =>
        refine .agg _ xs _ (by rw [a3, hs]) (fun i v q hv hq => ?_) (fun i v q hv hq => ?_)
        all_goals
          have hlt : i < c.length := by rw [← a3]; exact (List.getElem?_eq_some_iff.1 hq).1
        · exact h1 i v c[i] hv (List.getElem?_eq_getElem hlt)
        · exact a4 idsF hi hl i v c[i] q (List.getElem?_eq_getElem hlt) hq (hr i v c[i] hv (List.getElem?_eq_getElem hlt))
    | tup c =>
      simp only [pass] at h
      obtain ⟨y, hy, h⟩ := bind_some h
      injection h with h
      subst h
      obtain ⟨a1, a2, a3, a4⟩ := Q4h (fun p ids x hx => ih p ids x hx) c ids y hy
      refine ⟨a1, a2, fun v idsF hi hl hr => ?_⟩
      cases hr with
      | tup _ xs _ hs hr =>
        refine .tup _ xs _ (by rw [a3, hs]) (fun i v q hv hq => ?_)
        have hlt : i < c.length := by rw [← a3]; exact (List.getElem?_eq_some_iff.1 hq).1
        exact a4 idsF hi hl i v c[i] q (List.getElem?_eq_getElem hlt) hq (hr i v c[i] hv (List.getElem?_eq_getElem hlt))
    | fn f a b =>
      simp only [pass] at h
      obtain ⟨y, hy, h⟩ := bind_some h
      obtain ⟨z, hz, h⟩ := bind_some h
      injection h with h
      subst h
      obtain ⟨a1, a2, a3, a4⟩ := Q4h (fun p ids x hx => ih p ids x hx) a ids y hy
      obtain ⟨b1, b2, b3, b4⟩ := Q4h (fun p ids x hx => ih p ids x hx) b y.2.1 z hz
      refine ⟨a1.trans b1, fun h => b2 (a2 h), fun v idsF hi hl hr => ?_⟩
      cases hr with
      | fn _ _ xs ys _ _ ha hb h1 h2 =>
        refine .fn _ f xs ys _ _ (by rw [a3, ha]) (by rw [b3, hb]) (fun i v q hv hq => ?_) (fun i v q hv hq => ?_)
        · have hlt : i < a.length := by rw [← a3]; exact (List.getElem?_eq_some_iff.1 hq).1
          exact a4 idsF (b1.trans hi) hl.left i v a[i] q (List.getElem?_eq_getElem hlt) hq (h1 i v a[i] hv (List.getElem?_eq_getElem hlt))
        · have hlt : i < b.length := by rw [← b3]; exact (List.getElem?_eq_some_iff.1 hq).1
          exact b4 idsF hi hl.right i v b[i] q (List.getElem?_eq_getElem hlt) hq (h2 i v b[i] hv (List.getElem?_eq_getElem hlt))
theorem Q4g (S : Sim w D H F n0 m) (hM : ∀ b o, b < w.heap.size → M b o → Mut D H F b o) (byRef own : Bool) :
  ∀ (n k : Nat) (ids : List Nat) (z : List Ob × List Nat × List Nat), k ≤ ids.length → Q3w H byRef own n k ids = some z → ids <+: z.2.1 ∧ (ids.Nodup → z.2.1.Nodup) ∧ k + z.1.length = z.2.1.length ∧
   ∀ idsF, z.2.1 <+: idsF → Q5g H D M z.2.2 → ∀ (j : Nat) o, z.1[j]? = some o → ∃ id ob, z.2.1[k + j]? = some id ∧ H id = some ob ∧ o.sz = ob.sz ∧ o.ro = ob.ro ∧ o.gr = (ob.gr && own) ∧ o.cells.length = ob.cells.length ∧
    ∀ (i : Nat) v p q, ob.cells[i]? = some p → o.cells[i]? = some q → Rep w (Mut D H F) D v p → Rep w M (Dof D idsF) v q
 | 0, k, ids, z, _, h => by simp [Q3w] at h
 | n + 1, k, ids, z, hk, h => by
  simp only [Q3w] at h
  cases hid : ids[k]? with
  | none =>
   simp only [hid, Option.some.injEq] at h
   subst h
   have : ids.length ≤ k := by simpa using hid
   exact ⟨List.prefix_refl _, fun h => h, by simp; omega, fun _ _ _ j o hj => by simp at hj⟩
  | some id =>
   simp only [hid] at h
   obtain ⟨ob, hob, h⟩ := bind_some h
   obtain ⟨y, hy, h⟩ := bind_some h
   obtain ⟨z', hz, h⟩ := bind_some h
   injection h with h
   subst h
   have hk' : k < ids.length := (List.getElem?_eq_some_iff.1 hid).1
   obtain ⟨a1, a2, a3, a4⟩ := Q4h (fun p ids x hx => Q9c S hM byRef 8 p ids x hx) ob.cells ids y hy
   obtain ⟨b1, b2, b3, b4⟩ := Q4g S hM byRef own n (k + 1) y.2.1 z' (by have := a1.length_le; omega) hz
   refine ⟨a1.trans b1, fun h => b2 (a2 h), by simp; omega, fun idsF hi hl j o hj => ?_⟩
   cases j with
   | zero =>
    simp at hj
    subst hj
    exact ⟨id, ob, Q82 (a1.trans b1) hid, hob, rfl, rfl, rfl, a3, fun i v p q hp hq hr => a4 idsF (b1.trans hi) hl.left i v p q hp hq hr⟩
   | succ j =>
    obtain ⟨id', ob', h1, h2, h3⟩ := b4 idsF hi hl.right j o (by simpa using hj)
    exact ⟨id', ob', by rw [← h1]; congr 1; omega, h2, h3⟩
theorem Q17e (S : Sim w D H F n0 m) (byRef own : Bool) {n : Nat} {ids0 : List Nat} {z : List Ob × List Nat × List Nat} (hz : Q3w H byRef own n 0 ids0 = some z) (hnd : ids0.Nodup) {lent : List Nat} (hlz : ∀ x ∈ z.2.2, x ∈ lent)
    {F' : Nat → Nat → Prop} (hF : ∀ b o, F' b o → Mut D H F b o) (hF2 : Q5g H D F' lent) (hdj : ∀ x ∈ lent, x ∉ z.2.1) {n' m' : Nat} (hfr : ∀ b o, F' b o → b < n') (hle : n' ≤ w.heap.size)
    (hown : ∀ p b, Dof D z.2.1 p = some b → p < m' ∨ n' ≤ b) (hdis : ∀ id ob b o, id ∈ z.2.1 → H id = some ob → D id = some b → ¬ F' b o) (hgr : ∀ id ob b, H id = some ob → (ob.gr && own) = true → D id = some b → n' ≤ b) :
    (∀ b o, Mut (Dof D z.2.1) (fun p => z.1[p]?) F' b o → Mut D H F b o) ∧ Q5g H D (Mut (Dof D z.2.1) (fun p => z.1[p]?) F') lent ∧ Sim w (Dof D z.2.1) (fun p => z.1[p]?) F' n' m' := by
  obtain ⟨a1, a2, a3, _⟩ := Q4g (M := Mut D H F) S (fun _ _ _ h => h) byRef own n 0 ids0 z (Nat.zero_le _) hz
  have hnod := a2 hnd
  have at_ : ∀ (j : Nat) o, z.1[j]? = some o → ∃ id ob, z.2.1[j]? = some id ∧ H id = some ob ∧ o.ro = ob.ro ∧ o.gr = (ob.gr && own) ∧ o.cells.length = ob.cells.length := by
    intro j o hj
    have hM0 : ∀ b o, b < w.heap.size → (fun _ _ => False : Nat → Nat → Prop) b o → Mut D H F b o := fun _ _ _ h => h.elim
    obtain ⟨_, _, _, c4⟩ := Q4g (M := fun _ _ => False) S hM0 byRef own n 0 ids0 z (Nat.zero_le _) hz
    obtain ⟨id, ob, h1, h2, _, h3, h4, h5, _⟩ := c4 z.2.1 (List.prefix_refl _) (fun _ _ _ _ _ _ _ _ h => h) j o hj
    exact ⟨id, ob, by simpa using h1, h2, h3, h4, h5⟩
  have hsub : ∀ b o, Mut (Dof D z.2.1) (fun p => z.1[p]?) F' b o → Mut D H F b o := by
    rintro b o (h | ⟨p, ob, h1, h2, h3⟩)
    · exact hF b o h
    · obtain ⟨id, ob', e1, e2, e3, _⟩ := at_ p ob h1
      refine .inr ⟨id, ob', e2, ?_, by omega⟩
      unfold Dof at h2
      rw [e1] at h2
      exact h2
  have hlent : Q5g H D (Mut (Dof D z.2.1) (fun p => z.1[p]?) F') lent := by
    rintro id hi ob b o h1 h2 h3 (h | ⟨p, ob', g1, g2, _⟩)
    · exact hF2 id hi ob b o h1 h2 h3 h
    · obtain ⟨id', ob'', e1, e2, _⟩ := at_ p ob' g1
      unfold Dof at g2
      rw [e1] at g2
      have := S.inj id id' ob ob'' b h1 e2 h2 g2
      subst this
      exact hdj id hi (List.mem_of_getElem? e1)
  refine ⟨hsub, hlent, hfr, hle, hown, fun p o hp => ?_, ?_, fun p o b c hp hD => ?_⟩
  · obtain ⟨_, _, _, c4⟩ := Q4g (M := Mut (Dof D z.2.1) (fun p => z.1[p]?) F') S (fun b o _ h => hsub b o h) byRef own n 0 ids0 z (Nat.zero_le _) hz
    obtain ⟨id, ob, h1, h2, _, h3, h4, h5, h6⟩ := c4 z.2.1 (List.prefix_refl _) (fun x hx => hlent x (hlz x hx)) p o hp
    rw [Nat.zero_add] at h1
    obtain ⟨q1, q2⟩ := S.ok id ob h2
    refine ⟨by omega, ?_⟩
    rcases q2 with ⟨e1, e2⟩ | ⟨b, carr, t, e1, e2, e3, e4, e5⟩
    · refine .inl ⟨List.eq_nil_of_length_eq_zero (by rw [h5, e1]; rfl), ?_⟩
      unfold Dof
      rw [h1]
      exact e2
    · refine .inr ⟨b, carr, t, ?_, e2, by omega, fun hg => hgr id ob b h2 (by rw [← h4]; exact hg) e1, fun k q hq => ?_⟩
      · unfold Dof
        rw [h1]
        exact e1
      · have hlt : k < ob.cells.length := by rw [← h5]; exact (List.getElem?_eq_some_iff.1 hq).1
        obtain ⟨v, r1, r2, r3⟩ := e5 k ob.cells[k] (List.getElem?_eq_getElem hlt)
        exact ⟨v, r1, r2, h6 k v _ q (List.getElem?_eq_getElem hlt) hq r3⟩
  · intro i j a b k hi hj di dj
    obtain ⟨id, ob, e1, e2, _⟩ := at_ i a hi
    obtain ⟨id', ob', f1, f2, _⟩ := at_ j b hj
    unfold Dof at di dj
    rw [e1] at di
    rw [f1] at dj
    have := S.inj id id' ob ob' k e2 f2 di dj
    subst this
    exact (List.getElem?_inj (List.getElem?_eq_some_iff.1 e1).1 hnod).1 (e1.trans f1.symm)
  · obtain ⟨id, ob, e1, e2, _⟩ := at_ p o hp
    unfold Dof at hD
    rw [e1] at hD
    exact hdis id ob b c (List.mem_of_getElem? e1) e2 hD
end
theorem Quo {w : World} {M : Nat → Nat → Prop} {D D' : Nat → Option Nat} {g : Nat → Nat} (hg : ∀ p b, D p = some b → D' (g p) = some b) :
  ∀ (n : Nat) (v : Value) (p q : PV), back g n p = some q → Rep w M D v p → Rep w M D' v q := by
 intro n
 induction n with
 | zero => intro v p q h; simp [back] at h
 | succ n ih =>
  have list : ∀ (xs : List Value) (c l : List PV), mapO (back g n) c = some l → (∀ (i : Nat) v p, xs[i]? = some v → c[i]? = some p → Rep w M D v p) → ∀ (i : Nat) v q, xs[i]? = some v → l[i]? = some q → Rep w M D' v q := by
   intro xs c l hl hr i v q hv hq
   obtain ⟨x, hx, hfx⟩ := (Q4b hl).2 i q hq
   exact ih v x q hfx (hr i v x hv hx)
  intro v p q h hR
  cases hR with
  | un => simp [back] at h; subst h; exact .un _ _
  | bool _ b => simp [back] at h; subst h; exact .bool _ _
  | int _ k m => simp [back] at h; subst h; exact .int _ _ _
  | str _ s => simp [back] at h; subst h; exact .str _ _
  | np => simp [back] at h; subst h; exact .np _
  | nf => simp [back] at h; subst h; exact .nf _
  | ns _ A sz => simp [back] at h; subst h; exact .ns _ A sz
  | sl _ A n' c sz l b o vs hn hc hm hr hA hcell hrep => simp [back] at h; subst h; exact .sl _ A n' c sz l b o vs hn hc hm hr hA hcell hrep
  | rf _ b o c vs hcell hrep => simp [back] at h; subst h; exact .rf _ b o c vs hcell hrep
  | bx _ b id off hD => simp [back] at h; subst h; exact .bx _ b _ off (hg _ _ hD)
  | ms _ A len c id sz off hc hm hd => simp [back] at h; subst h; exact .ms _ A len c _ sz off hc hm (hd.imp (fun h => h) fun ⟨b, nb, h1, h2, h3, h4⟩ => ⟨b, nb, hg _ _ h1, h2, h3, h4⟩)
  | agg _ xs c hs h1 hr =>
   simp only [back] at h
   obtain ⟨l, hl, h⟩ := bind_some h
   injection h with h
   subst h
   have hlen := (Q4b hl).1
   refine .agg _ xs _ (by rw [hlen, hs]) (fun i v q hv hq => ?_) (fun i v q hv hq => list xs.toList c l hl (fun i v p hv hp => hr i v p (by simpa using hv) hp) i v q (by simpa using hv) hq)
   have hlt : i < c.length := by rw [← hlen]; exact (List.getElem?_eq_some_iff.1 hq).1
   exact h1 i v c[i] hv (List.getElem?_eq_getElem hlt)
  | tup _ xs c hs hr =>
   simp only [back] at h
   obtain ⟨l, hl, h⟩ := bind_some h
   injection h with h
   subst h
   exact .tup _ xs _ (by rw [(Q4b hl).1, hs]) (fun i v q hv hq => list xs.toList c l hl (fun i v p hv hp => hr i v p (by simpa using hv) hp) i v q (by simpa using hv) hq)
  | fn _ f xs ys a b ha hb h1 h2 =>
   simp only [back] at h
   obtain ⟨l, hl, h⟩ := bind_some h
   obtain ⟨l2, hl2, h⟩ := bind_some h
   injection h with h
   subst h
   exact .fn _ f xs ys _ _ (by rw [(Q4b hl).1, ha]) (by rw [(Q4b hl2).1, hb])
    (fun i v q hv hq => list xs.toList a l hl (fun i v p hv hp => h1 i v p (by simpa using hv) hp) i v q (by simpa using hv) hq)
    (fun i v q hv hq => list ys.toList b l2 hl2 (fun i v p hv hp => h2 i v p (by simpa using hv) hp) i v q (by simpa using hv) hq)
theorem Q19d {w : World} {M M' : Nat → Nat → Prop} {D : Nat → Option Nat} : ∀ (n : Nat) (v : Value) (p : PV), flat n p = true → Rep w M D v p → Rep w M' D v p := by
 intro n
 induction n with
 | zero => intro v p h; simp [flat] at h
 | succ n ih =>
  intro v p h hR
  cases hR with
  | un => exact .un _ _
  | bool _ b => exact .bool _ _
  | int _ k m => exact .int _ _ _
  | str _ s => exact .str _ _
  | np => exact .np _
  | nf => exact .nf _
  | ns _ A sz => exact .ns _ A sz
  | sl _ _ _ _ _ _ _ _ _ _ _ _ _ _ _ _ => simp [flat] at h
  | rf _ b o c vs hcell hrep => simp [flat] at h
  | bx _ b id off hD => exact .bx _ b _ off hD
  | ms _ A len c id sz off hc hm hd => exact .ms _ A len c _ sz off hc hm hd
  | agg _ xs c hs h1 hr =>
   simp only [flat, List.all_eq_true] at h
   exact .agg _ xs _ hs h1 (fun i v q hv hq => ih v q (h q (List.mem_of_getElem? hq)) (hr i v q hv hq))
  | tup _ xs c hs hr =>
   simp only [flat, List.all_eq_true] at h
   exact .tup _ xs _ hs (fun i v q hv hq => ih v q (h q (List.mem_of_getElem? hq)) (hr i v q hv hq))
  | fn _ f xs ys a b ha hb h1 h2 =>
   simp only [flat, Bool.and_eq_true, List.all_eq_true] at h
   exact .fn _ f xs ys _ _ ha hb (fun i v q hv hq => ih v q (h.1 q (List.mem_of_getElem? hq)) (h1 i v q hv hq)) (fun i v q hv hq => ih v q (h.2 q (List.mem_of_getElem? hq)) (h2 i v q hv hq))
end Go.Pv
end

section
/-
  One operation that asks and turns nothing outside of its operands: the machine's run of it, by what 'opP' says.
-/
namespace Go.Pv
open Go.RowKit
def Q6s : Value → PV → Bool
 | _, .un => true
 | .bool a, .bool b => a == b
 | .int k a, .int k' b => IntKind.eqb k k' && a == b
 | .string a, .str b => a.data == b.data
 | .pointer none, .np => true
 | .slice none 0 0, .ns _ => true
 | .slice none 0 0, .sl [] => true
 | .nilFunc, .nf => true
 | _, _ => false
def Q46 : Operand → Opd → Bool
 | .tmp a, .t b => Nat.beq a b
 | .const v, .c p => Q6s v p
 | .func a, .f b => Nat.beq a b
 | _, _ => false
def Qa8 : List Operand → List Opd → Bool
 | [], [] => true
 | x :: xs, y :: ys => Q46 x y && Qa8 xs ys
 | _, _ => false
def Qpf : Option Operand → Option Opd → Bool
 | none, none => true
 | some x, some y => Q46 x y
 | _, _ => false
theorem IntKind.Q168 {a b : IntKind} (h : IntKind.eqb a b = true) : a = b := by cases a <;> cases b <;> first | rfl | (simp [IntKind.eqb] at h)
section
variable {w : World} {M : Nat → Nat → Prop} {D : Nat → Option Nat}
theorem Qnr {v : Value} {p : PV} (h : Q6s v p = true) : Rep w M D v p := by
 cases p with
 | un => exact .un _ _
 | bool b =>
  cases v <;> simp [Q6s] at h
  subst h; exact .bool _ _
 | int k n =>
  cases v <;> simp [Q6s] at h
  obtain ⟨h1, rfl⟩ := h
  obtain rfl := IntKind.Q168 h1
  exact .int _ _ _
 | str s =>
  cases v <;> simp [Q6s] at h
  rename_i s'
  obtain ⟨d⟩ := s
  obtain ⟨d'⟩ := s'
  simp at h
  subst h
  exact .str _ _
 | sl l =>
  cases l with
  | cons _ _ => cases v <;> simp [Q6s] at h
  | nil =>
   cases v <;> simp [Q6s] at h
   rename_i A n c
   have hA : A = none ∧ n = 0 ∧ c = 0 := by
    revert h
    cases A <;> cases n <;> cases c <;> simp
   obtain ⟨rfl, rfl, rfl⟩ := hA
   exact .sl _ none 0 0 0 [] 0 0 (fun _ _ => .nilFunc) rfl (Nat.le_refl _) (Nat.zero_le _) (fun _ h => by cases h) (fun h => absurd h (Nat.lt_irrefl _)) (fun j r h => by simp at h) (fun j r h => by simp at h)
 | np =>
  cases v <;> simp [Q6s] at h
  rename_i a
  cases a <;> simp at h
  exact .np _
 | ns sz =>
  cases v <;> simp [Q6s] at h
  rename_i a l c
  cases a <;> cases l <;> cases c <;> simp at h
  exact .ns _ _ _
 | nf =>
  cases v <;> simp [Q6s] at h
  exact .nf _
 | _ => cases v <;> simp [Q6s] at h
def Qbx (w : World) (M : Nat → Nat → Prop) (D : Nat → Option Nat) (a : Act) (e : Nat → PV) : Prop := ∀ t, Rep w M D (a.tmps.getD t undef) (e t)
theorem Q23 {a : Act} {e : Nat → PV} (he : Qbx w M D a e) {x : Operand} {y : Opd} (h : Q46 x y = true) : Rep w M D (a.eval x) (y.ev e) := by
  cases x <;> cases y <;> simp [Q46] at h
  · subst h; exact he _
  · exact Qnr h
  · subst h
    exact .fn _ _ #[] #[] [] [] rfl rfl (fun i v p hv => by simp at hv) (fun i v p hv => by simp at hv)
theorem Q9b {a : Act} {e : Nat → PV} (he : Qbx w M D a e) : ∀ {xs : List Operand} {ys : List Opd}, Qa8 xs ys = true → RepL w M D (xs.map a.eval) (evs e ys)
 | [], [], _ => RepL.nil _ _ _
 | x :: xs, [], h => by simp [Qa8] at h
 | [], y :: ys, h => by simp [Qa8] at h
 | x :: xs, y :: ys, h => by
  simp [Qa8] at h
  exact RepL.cons (Q23 he h.1) (Q9b he h.2)
end
def Qph (P : Program) (t : TypeId) : Option Bool :=
 match P.underlying t with
 | some (.struct _) => some true
 | some (.array _ _) => none
 | some _ => some false
 | none => none
def szOf (P : Program) (t : TypeId) : Option Nat := (P.info? t).map (·.size)
def Qxx (a : Option Nat) (n : Nat) : Bool :=
 match a with
 | some m => Nat.beq m n
 | none => false
theorem Q6w {a : Option Nat} {n : Nat} (h : Qxx a n = true) : a = some n := by
 cases a with
 | none => cases h
 | some m => exact congrArg some (Nat.eq_of_beq_eq_true h)
def Q1ht (a : Option Bool) (b : Bool) : Bool :=
 match a with
 | some c => c == b
 | none => false
theorem Q13w {a : Option Bool} {b : Bool} (h : Q1ht a b = true) : a = some b := by
 cases a with
 | none => cases h
 | some c => simp [Q1ht] at h; rw [h]
def tyOK (P : Program) (t : TypeId) (n : Nat) (ag : Bool) : Bool := Q1ht (Qph P t) ag && Qxx (szOf P t) n && (ag || Nat.beq n 1)
def Q8f (P : Program) (t : TypeId) : Option TypeId :=
 match P.underlying t with
 | some (.slice e) => some e
 | _ => none
def Qf4 (P : Program) (t : TypeId) : Bool := match P.underlying t with | some .string => true | _ => false
def Qjd (P : Program) (t : TypeId) : Bool := match P.underlying t with | some .bool => true | _ => false
def intTy (P : Program) (t : TypeId) (k : IntKind) : Bool := match P.underlying t with | some (.int k') => IntKind.eqb k' k | _ => false
def fieldAt? (P : Program) (t : TypeId) (i : Nat) : Option Field :=
 match P.underlying t with
 | some (.struct fs) => fs[i]?
 | _ => none
def Q1gt (P : Program) (t : TypeId) (i off n : Nat) (ag : Bool) : Bool :=
 match fieldAt? P t i with
 | some f => Nat.beq f.offset off && tyOK P f.type n ag
 | none => false
def Q1zk (P : Program) (t : TypeId) (i off : Nat) : Bool :=
 match fieldAt? P t i with
 | some f => Nat.beq f.offset off && (match szOf P f.type with | some n => !(Nat.beq n 0) | none => false)
 | none => false
def Qf8 (P : Program) (t : TypeId) : List (Nat × Operand) → List (Nat × Nat × Opd) → Bool
 | [], [] => true
 | (i, x) :: r, (off, n, y) :: r' =>
  (match fieldAt? P t i with
   | some f => Nat.beq f.offset off && Qxx (szOf P f.type) n && Q46 x y
   | none => false) && Qf8 P t r r'
 | _, _ => false
def Qbs : List Value → List PV → Bool
 | [], [] => true
 | v :: vs, p :: ps => Q6s v p && v.oneCell' && Qbs vs ps
 | _, _ => false
def Qpc (P : Program) (t : TypeId) (z : List PV) : Bool :=
  match (P.info? t).bind (·.zero) with
  | some v => Qbs v.cells.toList z
  | none => false
set_option linter.unusedVariables false in
/-- how two dK of a type are compared -/
def eqOK (P : Program) : Nat → TypeId → EqT → Bool
 | 0, _, _ => false
 | n + 1, t, e =>
  match P.underlying t, e with
  | some (.int _), .int => true
  | some .bool, .bool => true
  | some .string, .str => true
  | some (.struct fs), .st gs => !(P.stoodInHeld t) && fieldsEqOK (eqOK P n) fs.toList gs
  | _, _ => false
where
 fieldsEqOK (f : TypeId → EqT → Bool) : List Field → List (Nat × Nat × EqT) → Bool
  | [], [] => true
  | g :: r, (off, k, e) :: r' => (g.name != "_") && Nat.beq g.offset off && (tyOK P g.type k true || tyOK P g.type k false) && f g.type e && fieldsEqOK f r r'
  | _, _ => false
def isStruct (P : Program) (t : TypeId) : Bool := match P.underlying t with | some (.struct fs) => fs.toList.all (fun f => (szOf P f.type).isSome) | _ => false
def Q1z4 (P : Program) (t : TypeId) (n sz : Nat) : Bool := match P.underlying t with | some (.array n' e) => Nat.beq n' n && Qxx (szOf P e) sz | _ => false
def Q1zf (P : Program) (t : TypeId) : Bool := match P.underlying t with | some (.array _ e) => (szOf P e).isSome | _ => false
def Q10u : Callee → Option Builtin
 | .builtin b => some b
 | _ => none
def isB (c : Call) (b : Builtin) : Bool := match Q10u c.callee with | some b' => decide (b' = b) | none => false
def esz (P : Program) (t : TypeId) (sz : Nat) : Bool := match Q8f P t with | some e => Qxx (szOf P e) sz | none => false
def Q1zi (P : Program) (str : Bool) (y : Opd) : List Operand → List TypeId → Bool
 | [x], [t] => (bif str then Qf4 P t else (Q8f P t).isSome) && Q46 x y
 | _, _ => false
def chkP (P : Program) (op : Op) : IOp → Bool
 | .mov y => (match op with | .move x => Q46 x y | .assign x => Q46 x y | _ => false)
 | .pick c' a' b' => (match op with | .pick c a b => Q46 c c' && Q46 a a' && Q46 b b' | _ => false)
 | .build z ps' => (match op with | .build t ps => isStruct P t && Qpc P t z && Qf8 P t ps.toList ps' | _ => false)
 | .bzero z => (match op with | .build t ps => Q1zf P t && Qpc P t z && ps.toList.isEmpty | _ => false)
 | .aaddr n sz x' i' => (match op with | .indexAddr t x i => Q1z4 P t n sz && Q46 x x' && Q46 i i' | _ => false)
 | .nilck y => (match op with | .nilCheck x => Q46 x y | _ => false)
 | .bin op' x' y' => (match op with | .binOp op _ x y _ => decide (op = op') && Q46 x x' && Q46 y y' | _ => false)
 | .eqs e neg x' y' => (match op with | .binOp op t x y _ => decide (op = bif neg then .neq else .eql) && !(P.eqGuardType P.depth t) && eqOK P 16 t e && tyOK P t ((szOf P t).getD 0) true && Q46 x x' && Q46 y y' | _ => false)
 | .eqb neg x' y' => (match op with | .binOp op t x y _ => decide (op = bif neg then .neq else .eql) && Qjd P t && Q46 x x' && Q46 y y' | _ => false)
 | .un op' y => (match op with | .unOp op _ x => decide (op = op') && Q46 x y | _ => false)
 | .conv k y => (match op with | .convert s d x => intTy P d k && (P.underlying s).isSome && Q46 x y | _ => false)
 | .mkfn f' a' b' => (match op with | .makeFunc (.func f) a b => Nat.beq f f' && Qa8 a.toList a' && Qa8 b.toList b' | _ => false)
 | .slice sz x' lo' hi' mx' => (match op with | .slice t x lo hi mx => esz P t sz && Q46 x x' && Qpf lo lo' && Qpf hi hi' && Qpf mx mx' | _ => false)
 | .cut x' lo' hi' => (match op with | .slice t x lo hi mx => isNone mx && Qf4 P t && Q46 x x' && Qpf lo lo' && Qpf hi hi' | _ => false)
 | .faddr off y => (match op with | .fieldAddr t x i => Q1zk P t i off && Q46 x y | _ => false)
 | .field off n ag y => (match op with | .field t x i => Q1gt P t i off n ag && Q46 x y | _ => false)
 | .iaddr sz x' i' => (match op with | .indexAddr t x i => esz P t sz && Q46 x x' && Q46 i i' | _ => false)
 | .index x' i' => (match op with | .index t x i => Qf4 P t && Q46 x x' && Q46 i i' | _ => false)
 | .extract y j => (match op with | .extract x i => Nat.beq i j && Q46 x y | _ => false)
 | .len str y => (match op with | .call c => isB c .len && Q1zi P str y c.args.toList c.argTypes.toList | _ => false)
 | .mnmx isMax y ys => (match op with | .call c => isB c (bif isMax then .max else .min) && Qa8 c.args.toList (y :: ys) | _ => false)
 | _ => false
end Go.Pv
end

section
/-
  'opP' is what the machine does: operations that ask and turn nothing outside of their operands.
-/
namespace Go.Pv
open Go.RowKit
theorem Q9i {P : Program} {t : TypeId} {n : Nat} {ag : Bool} (h : tyOK P t n ag = true) : Qph P t = some ag ∧ szOf P t = some n ∧ (ag = false → n = 1) := by
 unfold tyOK at h
 rw [Bool.and_eq_true, Bool.and_eq_true] at h
 refine ⟨Q13w h.1.1, Q6w h.1.2, fun e => ?_⟩
 subst e
 simpa using h.2
theorem Qv6 {P : Program} {t : TypeId} (h : Qph P t = some true) : ∃ fs, P.underlying t = some (.struct fs) := by
 unfold Qph at h
 split at h <;> first | (cases h; done) | exact ⟨_, by assumption⟩
theorem Q8c {P : Program} {t : TypeId} {ag : Bool} (h : Qph P t = some ag) (w : World) : (isAgg t).run P w = .ok ag w := by
 unfold Qph at h
 unfold isAgg
 cases hu : P.underlying t with
 | none => simp [hu] at h
 | some d =>
  rw [Sem.run_bind, run_underlying hu w]
  simp only [hu] at h
  cases d <;> simp at h <;> subst h <;> rfl
theorem Qav {P : Program} {t : TypeId} {n : Nat} (h : szOf P t = some n) : ∃ i, P.info? t = some i ∧ i.size = n := by
 unfold szOf at h
 exact Option.map_eq_some_iff.1 h
theorem run_sizeOf {P : Program} {t : TypeId} {n : Nat} (h : szOf P t = some n) (w : World) : (sizeOf t).run P w = .ok n w := by
 obtain ⟨i, hi, rfl⟩ := Qav h
 simp [sizeOf, typeInfo, hi]
theorem Q5n {P : Program} {t e : TypeId} (h : Q8f P t = some e) : P.underlying t = some (.slice e) := by
  unfold Q8f at h
  split at h
  · injection h with h; subst h; assumption
  · cases h
theorem Q8n {P : Program} {t : TypeId} (h : Qf4 P t = true) : P.underlying t = some .string := by
  unfold Qf4 at h
  split at h
  · assumption
  · cases h
theorem Qea {P : Program} {t : TypeId} (h : Qjd P t = true) : P.underlying t = some .bool := by
  unfold Qjd at h
  split at h
  · assumption
  · cases h
theorem Quv {P : Program} {t : TypeId} {k : IntKind} (h : intTy P t k = true) : P.underlying t = some (.int k) := by
  unfold intTy at h
  split at h
  · rename_i k' hk; obtain rfl := IntKind.Q168 h; exact hk
  · cases h
theorem Qan {P : Program} {t : TypeId} {i : Nat} {f : Field} (h : fieldAt? P t i = some f) : ∃ fs, P.underlying t = some (.struct fs) ∧ fs[i]? = some f := by
  unfold fieldAt? at h
  split at h
  · exact ⟨_, by assumption, h⟩
  · cases h
section
variable {P : Program} {w : World} {M : Nat → Nat → Prop} {D : Nat → Option Nat} {a : Act} {e : Nat → PV}
theorem Q1br {t : TypeId} {n : Nat} {ag : Bool} (ht : tyOK P t n ag = true) {xs : Array Value} {c : List PV} (hs : xs.size = c.length) (h1 : ∀ (i : Nat) v p, xs[i]? = some v → c[i]? = some p → v.oneCell' = true)
    (hr : ∀ (i : Nat) v p, xs[i]? = some v → c[i]? = some p → Rep w M D v p) {off : Nat} (hle : off + n ≤ c.length) {q : PV} (hq : shape ag ((c.drop off).take n) = some q) : ∃ v, (part t xs off).run P w = .ok v w ∧ Rep w M D v q := by
  obtain ⟨ha, hn, h1n⟩ := Q9i ht
  unfold part
  rw [Sem.run_bind, Q8c ha w, Result.andThen_ok]
  cases ag with
  | true =>
    simp only [shape, cond_true, Option.some.injEq] at hq
    subst hq
    refine ⟨.agg (xs.extract off (off + n)), by simp [run_sizeOf hn], .agg _ _ _ ?_ ?_ ?_⟩
    · rw [Array.size_extract, List.length_take, List.length_drop]; omega
    · intro i v p hv hp
      have hi : i < n := by have := (List.getElem?_eq_some_iff.1 hp).1; rw [List.length_take] at this; omega
      rw [List.getElem?_take, if_pos hi, List.getElem?_drop] at hp
      rw [Array.getElem?_extract] at hv
      split at hv
      · exact h1 _ v p hv hp
      · cases hv
    · intro i v p hv hp
      have hi : i < n := by have := (List.getElem?_eq_some_iff.1 hp).1; rw [List.length_take] at this; omega
      rw [List.getElem?_take, if_pos hi, List.getElem?_drop] at hp
      rw [Array.getElem?_extract] at hv
      split at hv
      · exact hr _ v p hv hp
      · cases hv
  | false =>
    have hn1 : n = 1 := h1n rfl
    subst hn1
    have hlt : off < c.length := by omega
    have e1 : (c.drop off).take 1 = [c[off]] := by rw [List.drop_eq_getElem_cons hlt]; rfl
    rw [e1] at hq
    simp only [shape, cond_false, Option.some.injEq] at hq
    subst hq
    have hx : off < xs.size := by omega
    refine ⟨xs[off], by simp [Array.getElem?_eq_getElem hx], hr off _ _ (Array.getElem?_eq_getElem hx) (List.getElem?_eq_getElem hlt)⟩
theorem Qah {x : PV} {n : Nat} (h : asNat x = some n) : ∃ k, x = .int k (n : Int) := by
  unfold asNat at h
  split at h
  · rename_i k m
    obtain ⟨h1, h2⟩ := Q25 h
    injection h2 with h2
    have h1 := of_decide_eq_true h1
    exact ⟨k, by rw [← h2, Int.toNat_of_nonneg h1]⟩
  · cases h
theorem Q68 {v : Value} {k : IntKind} {n : Int} (h : Rep w M D v (.int k n)) : v = .int k n := by cases h; rfl
theorem Qbw {v : Value} {b : Bool} (h : Rep w M D v (.bool b)) : v = .bool b := by cases h; rfl
theorem Qcn {v : Value} {s : ByteArray} (h : Rep w M D v (.str s)) : v = .string s := by cases h; rfl
theorem Q3u {v : Value} {k : IntKind} {n y : Nat} {code : BoundsCode} (hv : v = .int k (n : Int)) (h : n ≤ y) : (Instr.sliceBound v y code).run P w = .ok n w := by
 subst hv
 have h1 : (0 : Int) ≤ (n : Int) ∧ (n : Int) ≤ (y : Int) := by omega
 unfold Instr.sliceBound
 rw [Sem.run_bind]
 simp only [asIntOf, Sem.run_pure, Result.andThen_ok]
 rw [if_pos h1]
 simp
theorem Qcj {d n : Nat} {lo : Option Operand} {lo' : Option Opd} (he : Qbx w M D a e) (hc : Qpf lo lo' = true) (h : Q6r e d lo' = some n) : (lo = none ∧ n = d) ∨ ∃ x k, lo = some x ∧ a.eval x = .int k (n : Int) := by
 cases lo with
 | none =>
  cases lo' with
  | none => simp [Q6r] at h; exact .inl ⟨rfl, h.symm⟩
  | some y => simp [Qpf] at hc
 | some x =>
  cases lo' with
  | none => simp [Qpf] at hc
  | some y =>
   obtain ⟨k, hk⟩ := Qah h
   have := Q23 he (x := x) (y := y) hc
   rw [hk] at this
   exact .inr ⟨x, k, rfl, Q68 this⟩
theorem Qup {isS : Bool} {len cap l h' : Nat} {lo hi : Option Operand} (hlo : (lo = none ∧ l = 0) ∨ ∃ x k, lo = some x ∧ a.eval x = .int k (l : Int)) (hhi : (hi = none ∧ h' = len) ∨ ∃ x k, hi = some x ∧ a.eval x = .int k (h' : Int)) (h1 : l ≤ h') (h2 : h' ≤ cap) :
    (Instr.sliceBounds isS len cap (lo.map a.eval) (hi.map a.eval) none).run P w = .ok (l, h', cap) w := by
  unfold Instr.sliceBounds
  rcases hlo with ⟨rfl, rfl⟩ | ⟨x, k, rfl, hx⟩ <;> rcases hhi with ⟨rfl, rfl⟩ | ⟨y, k', rfl, hy⟩
  · simp
  · simp [Q3u hy h2]
  · simp [Q3u hx h1]
  · simp [Q3u hx h1, Q3u hy h2]
theorem Qag (b o n : Nat) : (⟨b, o, none⟩ : Addr).add n = ⟨b, o + n, none⟩ := Addr.add_mid b o n
def sv : PV → Value
 | .int k n => .int k n
 | .bool b => .bool b
 | .str s => .string s
 | _ => undef
theorem Q1gm {op : BinOp} {t : TypeId} {x y : Operand} {x' y' : Opd} {p : PV} (he : Qbx w M D a e) (hx : Q46 x x' = true) (hy : Q46 y y' = true) (h : pbin op (x'.ev e) (y'.ev e) = some p) :
    ∃ v, (do eqGuard op t x y (a.eval x) (a.eval y); binOp op t (a.eval x) (a.eval y)).run P w = .ok v w ∧ Rep w M D v p := by
  have rx := Q23 he hx
  have ry := Q23 he hy
  generalize x'.ev e = u at *
  generalize y'.ev e = u' at *
  unfold pbin at h
  split at h
  · rename_i k n k' n'
    rw [Q68 rx, Q68 ry]
    split at h
    · obtain ⟨h1, h⟩ := Q25 h
      injection h with h
      subst h
      have h1 := of_decide_eq_true h1
      have h2 : ¬ n' < 0 := by omega
      exact ⟨.int k (n.fdiv (2 ^ (min n'.toNat k.bits))), by simp [eqGuard, binOp, Op.shift, h2], .int _ _ _⟩
    · rename_i op' hop
      obtain ⟨h1, h2⟩ := Q25 h
      clear h
      obtain rfl := IntKind.Q168 h1
      cases op <;> simp only [ibin] at h2 <;> first
        | (cases h2; done)
        | (injection h2 with h2; refine ⟨sv p, ?_, ?_⟩ <;> subst h2 <;> first | exact .int _ _ _ | exact .bool _ _ | (simp [sv, eqGuard, binOp, Op.intArith, Op.intCmp, Op.intBits]; done))
        | (by_cases h0 : n' = 0
           · simp [h0] at h2
           · simp [h0] at h2
             refine ⟨sv p, ?_, ?_⟩ <;> subst h2 <;> first | exact .int _ _ _ | (simp [sv, eqGuard, binOp, Op.intDiv, h0]; done))
  · rename_i s s'
    rw [Qcn rx, Qcn ry]
    cases op <;> simp only [sbin] at h <;> first
      | (cases h; done)
      | (injection h with h; refine ⟨sv p, ?_, ?_⟩ <;> subst h <;> first | exact .bool _ _ | (simp [sv, eqGuard, binOp, Op.stringOp]; done))
      | (obtain ⟨h1, h⟩ := Q25 h
         injection h with h
         subst h
         have h1 := Nat.le_of_ble_eq_true h1
         have h2 : ¬ (9223372036854775807 < (s.size : Int) + (s'.size : Int)) := by omega
         exact ⟨.string (s ++ s'), by simp [eqGuard, binOp, Op.stringOp, IntKind.max, IntKind.bits, IntKind.signed, h2], .str _ _⟩)
  · cases h
end
end Go.Pv
end

section
/-
  'opP', the rest: dK laid together, comparisons of structs, and the whole.
-/
namespace Go.Pv
open Go.RowKit
def RepC (w : World) (M : Nat → Nat → Prop) (D : Nat → Option Nat) (xs : Array Value) (c : List PV) : Prop :=
 xs.size = c.length ∧ ∀ (i : Nat) v p, xs[i]? = some v → c[i]? = some p → v.oneCell' = true ∧ Rep w M D v p
section
variable {P : Program} {w : World} {M : Nat → Nat → Prop} {D : Nat → Option Nat} {a : Act} {e : Nat → PV}
theorem Q9q {v : Value} {p : PV} (h : Rep w M D v p) (hf : p.fits = true) : RepC w M D v.cells p.cs := by
 have one : ∀ (v : Value) (p : PV), v.oneCell' = true → Rep w M D v p → RepC w M D #[v] [p] := fun v p h1 h2 =>
  ⟨rfl, fun i u q hu hq => by
   cases i with
   | zero => simp at hu hq; subst hu hq; exact ⟨h1, h2⟩
   | succ i => simp at hu⟩
 cases h with
 | un => simp [PV.fits] at hf
 | tup => simp [PV.fits] at hf
 | agg _ xs c hl h1 h => exact ⟨hl, fun i v p hv hp => ⟨h1 i v p hv hp, h i v p hv hp⟩⟩
 | bool _ b => exact one _ _ rfl (.bool _ _)
 | int _ k n => exact one _ _ rfl (.int _ _ _)
 | str _ s => exact one _ _ rfl (.str _ _)
 | sl _ A n c sz l b o vs hn hc hm hr hA hcell hrep => exact one _ _ rfl (.sl _ A n c sz l b o vs hn hc hm hr hA hcell hrep)
 | rf _ b o c vs hcell hrep => exact one _ _ rfl (.rf _ b o c vs hcell hrep)
 | bx _ b id off h => exact one _ _ rfl (.bx _ b id off h)
 | ms _ A len c id sz off hc hm h => exact one _ _ rfl (.ms _ A len c id sz off hc hm h)
 | ns _ A sz => exact one _ _ rfl (.ns _ A sz)
 | np => exact one _ _ rfl (.np _)
 | fn _ f xs ys a b ha hb h1 h2 => exact one _ _ rfl (.fn _ f xs ys a b ha hb h1 h2)
 | nf => exact one _ _ rfl (.nf _)
theorem Q1gv (off : Nat) : ∀ (l : List Value) (k : Nat) (cs : Array Value), ((l.zipIdx k).foldl (fun (cs : Array Value) (x : Value × Nat) => cs.setIfInBounds (off + x.2) x.1) cs).size = cs.size ∧
    ∀ i : Nat, ((l.zipIdx k).foldl (fun (cs : Array Value) (x : Value × Nat) => cs.setIfInBounds (off + x.2) x.1) cs)[i]? = if off + k ≤ i ∧ i < off + k + l.length ∧ i < cs.size then l[i - (off + k)]? else cs[i]?
  | [], k, cs => ⟨rfl, fun i => by simp; omega⟩
  | x :: r, k, cs => by
    obtain ⟨h1, h2⟩ := Q1gv off r (k + 1) (cs.setIfInBounds (off + k) x)
    simp only [List.zipIdx_cons, List.foldl_cons]
    refine ⟨by rw [h1]; simp, fun i => ?_⟩
    rw [h2 i]
    simp only [Array.size_setIfInBounds, List.length_cons]
    by_cases c1 : off + (k + 1) ≤ i ∧ i < off + (k + 1) + r.length ∧ i < cs.size
    · rw [if_pos c1, if_pos (by omega)]
      have : i - (off + k) = (i - (off + (k + 1))) + 1 := by omega
      rw [this, List.getElem?_cons_succ]
    · rw [if_neg c1]
      by_cases c2 : off + k ≤ i ∧ i < off + k + (r.length + 1) ∧ i < cs.size
      · rw [if_pos c2]
        have : i = off + k := by omega
        subst this
        rw [Array.getElem?_setIfInBounds_self_of_lt c2.2.2]
        simp
      · rw [if_neg c2, Array.getElem?_setIfInBounds]
        split
        · rename_i he
          subst he
          split
          · rename_i hlt
            exact absurd ⟨Nat.le_refl _, by omega, hlt⟩ c2
          · rename_i hlt
            rw [Array.getElem?_eq_none (by omega)]
        · rfl
theorem Q11b {xs ys : Array Value} {c d : List PV} {off : Nat} (hx : RepC w M D xs c) (hy : RepC w M D ys d) (hle : off + d.length ≤ c.length) :
    RepC w M D (ys.zipIdx.foldl (fun (cs : Array Value) (x : Value × Nat) => cs.setIfInBounds (off + x.2) x.1) xs) (c.take off ++ (d ++ c.drop (off + d.length))) := by
  have e : ys.zipIdx.foldl (fun (cs : Array Value) (x : Value × Nat) => cs.setIfInBounds (off + x.2) x.1) xs = (ys.toList.zipIdx 0).foldl (fun (cs : Array Value) (x : Value × Nat) => cs.setIfInBounds (off + x.2) x.1) xs := by
    rw [← Array.foldl_toList, Array.toList_zipIdx]
  rw [e]
  obtain ⟨h1, h2⟩ := Q1gv off ys.toList 0 xs
  have hyl : ys.toList.length = d.length := by rw [Array.length_toList]; exact hy.1
  refine ⟨by rw [h1, hx.1]; simp only [List.length_append, List.length_take, List.length_drop]; omega, fun i v p hv hp => ?_⟩
  rw [h2 i] at hv
  simp only [Nat.add_zero, hyl] at hv
  by_cases c1 : i < off
  · rw [if_neg (by omega)] at hv
    rw [List.getElem?_append_left (by rw [List.length_take]; omega), List.getElem?_take, if_pos c1] at hp
    exact hx.2 i v p hv hp
  · rw [List.getElem?_append_right (by rw [List.length_take]; omega), List.length_take, Nat.min_eq_left (by omega)] at hp
    by_cases c2 : i - off < d.length
    · rw [if_pos ⟨by omega, by omega, by have := hx.1; omega⟩] at hv
      rw [List.getElem?_append_left c2] at hp
      exact hy.2 (i - off) v p (by simpa using hv) hp
    · rw [if_neg (by omega)] at hv
      rw [List.getElem?_append_right (by omega), List.getElem?_drop] at hp
      exact hx.2 i v p hv (by rw [← hp]; congr 1; omega)
theorem Qfj : ∀ {vs : List Value} {ps : List PV}, Qbs vs ps = true → RepC w M D vs.toArray ps
 | [], [], _ => ⟨rfl, fun i v p h => by simp at h⟩
 | v :: vs, [], h => by simp [Qbs] at h
 | [], p :: ps, h => by simp [Qbs] at h
 | v :: vs, p :: ps, h => by
  simp only [Qbs, Bool.and_eq_true] at h
  obtain ⟨h1, h2⟩ := Qfj h.2
  refine ⟨by simp at h1 ⊢; exact h1, fun i u q hu hq => ?_⟩
  cases i with
  | zero => simp at hu hq; subst hu hq; exact ⟨h.1.2, Qnr h.1.1⟩
  | succ i => exact h2 i u q (by simpa using hu) (by simpa using hq)
theorem Q84 {t : TypeId} {z : List PV} (h : Qpc P t z = true) : ∃ v, (∀ w', (zeroValue t).run P w' = .ok v w') ∧ RepC w M D v.cells z := by
 unfold Qpc at h
 cases hi : P.info? t with
 | none => simp [hi] at h
 | some i =>
  cases hz : i.zero with
  | none => simp [hi, hz] at h
  | some v =>
   simp only [hi, hz, Option.bind_some] at h
   refine ⟨v, fun w' => by simp [zeroValue, typeInfo, hi, hz], ?_⟩
   have := Qfj (w := w) (M := M) (D := D) h
   simpa using this
theorem Qus {t : TypeId} {place : Nat → Option (Nat × Nat)} (hp : ∀ i f n, fieldAt? P t i = some f → szOf P f.type = some n → place i = some (f.offset, n)) (he : Qbx w M D a e) :
    ∀ (ps : List (Nat × Operand)) (ps' : List (Nat × Nat × Opd)) (cells : Array Value) (z c : List PV), Qf8 P t ps ps' = true → RepC w M D cells z → Qf2 z (Qal e ps') = some c →
      ∃ xs, Instr.fill place cells (ps.map fun x => (x.1, a.eval x.2)) = some xs ∧ RepC w M D xs c
  | [], [], cells, z, c, _, hz, h => by
    simp [Qal, Qf2] at h
    subst h
    exact ⟨cells, rfl, hz⟩
  | [], _ :: _, _, _, _, h, _, _ => by simp [Qf8] at h
  | _ :: _, [], _, _, _, h, _, _ => by simp [Qf8] at h
  | (i, x) :: r, (off, n, y) :: r', cells, z, c, hc, hz, h => by
    simp only [Qf8, Bool.and_eq_true] at hc
    obtain ⟨h1, h2⟩ := hc
    split at h1
    · rename_i f hf
      simp only [Bool.and_eq_true] at h1
      have ho := Nat.eq_of_beq_eq_true h1.1.1
      have hn := Q6w h1.1.2
      subst ho
      simp only [Qal, Qf2] at h
      obtain ⟨hb, h⟩ := Q25 h
      simp only [Bool.and_eq_true] at hb
      have hl := Nat.eq_of_beq_eq_true hb.1.1
      have hle := Nat.le_of_ble_eq_true hb.1.2
      have hv := Q9q (Q23 he h1.2) hb.2
      subst hl
      obtain ⟨xs, hx, hr⟩ := Qus hp he r r' _ _ c h2 (Q11b hz hv hle) h
      refine ⟨xs, ?_, hr⟩
      simp only [List.map_cons, Instr.fill, hp i f _ hf hn]
      rw [if_neg (by simp; have := hv.1; have := hz.1; omega)]
      exact hx
    · cases h1
theorem Q111 {d : Nat} {f : TypeId → EqT → Bool} {g : EqT → List PV → List PV → Option Bool}
    (hfg : ∀ (t : TypeId) (q : EqT) (n : Nat) (ag : Bool) (x y : Value) (c c' : List PV) (b : Bool), tyOK P t n ag = true → f t q = true → RepC w M D x.cells c → RepC w M D y.cells c' → (ag = true → ∃ xs ys, x = .agg xs ∧ y = .agg ys) → (ag = false → x.oneCell' = true ∧ y.oneCell' = true) → g q c c' = some b → (Op.equalIn d t x y).run P w = .ok b w) :
    ∀ (fs : List Field) (gs : List (Nat × Nat × EqT)) (xs ys : Array Value) (c c' : List PV) (b : Bool), eqOK.fieldsEqOK P f fs gs = true → RepC w M D xs c → RepC w M D ys c' → eqf g gs c c' = some b → (Op.eqFields d xs ys fs).run P w = .ok b w
  | [], [], xs, ys, c, c', b, _, _, _, h => by simp [eqf] at h; subst h; rfl
  | [], _ :: _, _, _, _, _, _, h, _, _, _ => by simp [eqOK.fieldsEqOK] at h
  | _ :: _, [], _, _, _, _, _, h, _, _, _ => by simp [eqOK.fieldsEqOK] at h
  | fd :: r, (off, k, q) :: r', xs, ys, c, c', b, hc, hx, hy, h => by
    simp only [eqOK.fieldsEqOK, Bool.and_eq_true, Bool.or_eq_true] at hc
    obtain ⟨⟨⟨⟨h1, h2⟩, h3⟩, h4⟩, h5⟩ := hc
    have ho := Nat.eq_of_beq_eq_true h2
    subst ho
    simp only [eqf] at h
    obtain ⟨hbb, h⟩ := Q25 h
    rw [Bool.and_eq_true] at hbb
    have hl1 := Nat.le_of_ble_eq_true hbb.1
    have hl2 := Nat.le_of_ble_eq_true hbb.2
    obtain ⟨b1, hb1, h⟩ := bind_some h
    obtain ⟨b2, hb2, h⟩ := bind_some h
    injection h with h
    subst h
    have hname : fd.name ≠ "_" := by simpa using h1
    have rest := Q111 hfg r r' xs ys c c' b2 h5 hx hy hb2
    have key : ∃ u v, (part fd.type xs fd.offset).run P w = .ok u w ∧ (part fd.type ys fd.offset).run P w = .ok v w ∧ (Op.equalIn d fd.type u v).run P w = .ok b1 w := by
      have cut : ∀ {zs : Array Value} {l : List PV}, RepC w M D zs l → fd.offset + k ≤ l.length → RepC w M D (zs.extract fd.offset (fd.offset + k)) ((l.drop fd.offset).take k) := by
        intro zs l hz hl
        refine ⟨by rw [Array.size_extract, List.length_take, List.length_drop, hz.1]; omega, fun i v p hv hp => ?_⟩
        have hi : i < k := by have := (List.getElem?_eq_some_iff.1 hp).1; rw [List.length_take] at this; omega
        rw [List.getElem?_take, if_pos hi, List.getElem?_drop] at hp
        rw [Array.getElem?_extract] at hv
        split at hv
        · exact hz.2 _ v p hv hp
        · cases hv
      rcases h3 with h3 | h3
      · obtain ⟨ha, hn, _⟩ := Q9i h3
        refine ⟨.agg (xs.extract fd.offset (fd.offset + k)), .agg (ys.extract fd.offset (fd.offset + k)), ?_, ?_, ?_⟩
        · simp [part, Q8c ha, run_sizeOf hn]
        · simp [part, Q8c ha, run_sizeOf hn]
        · exact hfg fd.type q k true _ _ _ _ b1 h3 h4 (cut hx hl1) (cut hy hl2) (fun _ => ⟨_, _, rfl, rfl⟩) (fun h => by cases h) hb1
      · obtain ⟨ha, hn, hk⟩ := Q9i h3
        have hk1 : k = 1 := hk rfl
        subst hk1
        have hxs : fd.offset < xs.size := by have := hx.1; omega
        have hys : fd.offset < ys.size := by have := hy.1; omega
        have one : ∀ {zs : Array Value} {l : List PV} (hz : RepC w M D zs l) (hlt : fd.offset < zs.size) (hl : fd.offset + 1 ≤ l.length), zs[fd.offset].oneCell' = true ∧ RepC w M D zs[fd.offset].cells ((l.drop fd.offset).take 1) := by
          intro zs l hz hlt hl
          have h0 := hz.2 fd.offset _ _ (Array.getElem?_eq_getElem hlt) (List.getElem?_eq_getElem (show fd.offset < l.length by omega))
          refine ⟨h0.1, ?_⟩
          have e1 : (l.drop fd.offset).take 1 = [l[fd.offset]] := by rw [List.drop_eq_getElem_cons (show fd.offset < l.length by omega)]; rfl
          rw [e1]
          generalize l[fd.offset] = lv at h0
          have hc : zs[fd.offset].cells = #[zs[fd.offset]] := by
            have := h0.1
            cases hv : zs[fd.offset] <;> first | rfl | (rw [hv] at this; cases this)
          rw [hc]
          exact ⟨rfl, fun i u p hu hp => by
            cases i with
            | zero =>
              have hu : zs[fd.offset] = u := by simpa using hu
              have hp : lv = p := by simpa using hp
              subst hu hp
              exact h0
            | succ i => simp at hu⟩
        refine ⟨xs[fd.offset], ys[fd.offset], ?_, ?_, ?_⟩
        · simp [part, Q8c ha, Array.getElem?_eq_getElem hxs]
        · simp [part, Q8c ha, Array.getElem?_eq_getElem hys]
        · exact hfg fd.type q 1 false _ _ _ _ b1 h3 h4 (one hx hxs hl1).2 (one hy hys hl2).2 (fun h => by cases h) (fun _ => ⟨(one hx hxs hl1).1, (one hy hys hl2).1⟩) hb1
    obtain ⟨u, v, e1, e2, e3⟩ := key
    simp only [Op.eqFields, if_pos hname, Sem.run_bind, e1, e2, e3, Result.andThen_ok]
    cases b1
    · simp
    · simpa using rest
end
end Go.Pv
end

section
/-
  'opP' is what the machine does: every case.
-/
namespace Go.Pv
open Go.RowKit
section
variable {P : Program} {w : World} {M : Nat → Nat → Prop} {D : Nat → Option Nat} {a : Act} {e : Nat → PV}
theorem one_cell {x : Value} {c : List PV} {p : PV} (h1 : x.oneCell' = true) (h : RepC w M D x.cells c) (hc : c = [p]) : Rep w M D x p := by
 subst hc
 have e1 : x.cells = #[x] := by cases x <;> first | rfl | (cases h1)
 rw [e1] at h
 exact (h.2 0 x p rfl rfl).2
theorem Q1gs : ∀ (n d : Nat) (t : TypeId) (q : EqT) (k : Nat) (ag : Bool) (x y : Value) (c c' : List PV) (b : Bool), n ≤ d → tyOK P t k ag = true → eqOK P n t q = true → RepC w M D x.cells c → RepC w M D y.cells c' →
    (ag = true → ∃ xs ys, x = .agg xs ∧ y = .agg ys) → (ag = false → x.oneCell' = true ∧ y.oneCell' = true) → ∀ m, eqv m q c c' = some b → (Op.equalIn d t x y).run P w = .ok b w := by
  intro n
  induction n with
  | zero => intro d t q k ag x y c c' b _ _ h; simp [eqOK] at h
  | succ n ih =>
    intro d t q k ag x y c c' b hd ht hq hx hy h1 h2 m hm
    obtain ⟨d, rfl⟩ : ∃ d', d = d' + 1 := ⟨d - 1, by omega⟩
    obtain ⟨m, rfl⟩ : ∃ m', m = m' + 1 := by
      cases m with
      | zero => simp [eqv] at hm
      | succ m => exact ⟨m, rfl⟩
    obtain ⟨hr, _, _⟩ := Q9i ht
    unfold eqOK at hq
    split at hq
    · rename_i kk hu
      have hag : ag = false := by unfold Qph at hr; simp only [hu] at hr; injection hr with hr; exact hr.symm
      obtain ⟨o1, o2⟩ := h2 hag
      simp only [eqv] at hm
      split at hm
      · obtain ⟨hk, hm⟩ := Q25 hm
        injection hm with hm
        subst hm
        obtain rfl := IntKind.Q168 hk
        rw [Q68 (one_cell o1 hx rfl), Q68 (one_cell o2 hy rfl)]
        exact run_equalIn_int w d t _ _ _ _ hu
      · cases hm
    · rename_i hu
      have hag : ag = false := by unfold Qph at hr; simp only [hu] at hr; injection hr with hr; exact hr.symm
      obtain ⟨o1, o2⟩ := h2 hag
      simp only [eqv] at hm
      split at hm
      · injection hm with hm
        subst hm
        rw [Qbw (one_cell o1 hx rfl), Qbw (one_cell o2 hy rfl)]
        exact run_equalIn_bool' w d t _ _ hu
      · cases hm
    · rename_i hu
      have hag : ag = false := by unfold Qph at hr; simp only [hu] at hr; injection hr with hr; exact hr.symm
      obtain ⟨o1, o2⟩ := h2 hag
      simp only [eqv] at hm
      split at hm
      · injection hm with hm
        subst hm
        rw [Qcn (one_cell o1 hx rfl), Qcn (one_cell o2 hy rfl)]
        exact run_equalIn_string w d t _ _ hu
      · cases hm
    · rename_i fs gs hu
      have hag : ag = true := by unfold Qph at hr; simp only [hu] at hr; injection hr with hr; exact hr.symm
      obtain ⟨xs, ys, rfl, rfl⟩ := h1 hag
      simp only [Bool.and_eq_true, Bool.not_eq_true'] at hq
      simp only [eqv] at hm
      have hfs : P.fieldsOf t = fs := by simp [Program.fieldsOf, hu]
      rw [run_equalIn_struct w d t xs ys (by rw [hfs]; exact hu) hq.1, hfs]
      exact Q111 (fun t q k ag x y c c' b g1 g2 g3 g4 g5 g6 g7 => ih d t q k ag x y c c' b (by omega) g1 g2 g3 g4 g5 g6 m g7) fs.toList gs xs ys c c' b hq.2 hx hy hm
    · cases hq
theorem Q1lm {x y p : PV} {u v : Value} {isMax : Bool} (hu : Rep w M D u x) (hv : Rep w M D v y) (h : mm isMax x y = some p) : ∃ r, (bif isMax then Builtin.max2 u v else Builtin.min2 u v).run P w = .ok r w ∧ Rep w M D r p := by
  unfold mm at h
  split at h
  · obtain ⟨hk, h⟩ := Q25 h
    injection h with h
    rw [Q68 hu, Q68 hv]
    refine ⟨sv p, ?_, ?_⟩ <;> subst h
    · cases isMax <;> simp [Builtin.max2, Builtin.min2, sv]
    · exact .int _ _ _
  · cases h
theorem Q12n {isMax : Bool} : ∀ (ys : List PV) (vs : List Value) (x p : PV) (u : Value), Rep w M D u x → RepL w M D vs ys → mmL isMax x ys = some p → ∃ r, (vs.foldlM (bif isMax then Builtin.max2 else Builtin.min2) u).run P w = .ok r w ∧ Rep w M D r p
 | [], vs, x, p, u, hu, hv, h => by
  have : vs = [] := List.eq_nil_of_length_eq_zero hv.1
  subst this
  simp [mmL] at h
  subst h
  exact ⟨u, by simp, hu⟩
 | y :: ys, [], x, p, u, _, hv, _ => by have := hv.1; simp at this
 | y :: ys, v :: vs, x, p, u, hu, hv, h => by
  simp only [mmL] at h
  obtain ⟨z, hz, h⟩ := bind_some h
  obtain ⟨h1, h2⟩ := hv.Q3z
  obtain ⟨r, hr, hrep⟩ := Q1lm (P := P) hu h1 hz
  obtain ⟨r', hr', hrep'⟩ := Q12n ys vs z p r hrep h2 h
  refine ⟨r', ?_, hrep'⟩
  have e1 : (bif isMax then Builtin.max2 else Builtin.min2) u v = (bif isMax then Builtin.max2 u v else Builtin.min2 u v) := by cases isMax <;> rfl
  simp only [List.foldlM_cons, Sem.run_bind, e1, hr, Result.andThen_ok]
  exact hr'
theorem Qjc {c : Call} {b : Builtin} (h : isB c b = true) : c.callee = .builtin b := by
 unfold isB Q10u at h
 cases hc : c.callee <;> simp [hc] at h
 rw [h]
theorem Qa4 (c : Call) (ty : TypeId) (b : Builtin) (hb : c.callee = .builtin b) (ρ : Operand → Value) : ∃ cs, (do let d ← resolve ρ c ty; invoke d.target d.args : Sem Next) = builtin b c.argTypes ty cs (c.args.map ρ) := by
 unfold resolve
 rw [hb]
 exact ⟨_, rfl⟩
theorem Q12s {v : Value} {id off : Nat} (h : Rep w M D v (.bx id off)) : ∃ b, D id = some b ∧ v = .pointer (some ⟨b, off, none⟩) := by cases h; exact ⟨_, by assumption, rfl⟩
theorem Q1zn {v : Value} {c : List PV} (h : Rep w M D v (.rf c)) : ∃ b o, v = .pointer (some ⟨b, o, none⟩) := by cases h; exact ⟨_, _, rfl⟩
theorem Q1zm {v : Value} {f : Nat} {x y : List PV} (h : Rep w M D v (.fn f x y)) : ∃ xs ys : Array Value, v = .func (.func f) xs ys ∧ RepL w M D xs.toList x ∧ RepL w M D ys.toList y := by
 cases h with
 | fn _ _ xs ys _ _ ha hb h1 h2 => exact ⟨xs, ys, rfl, ⟨by simpa using ha, fun i v p hv hp => h1 i v p (by simpa using hv) hp⟩, ⟨by simpa using hb, fun i v p hv hp => h2 i v p (by simpa using hv) hp⟩⟩
theorem Q13y {v : Value} {c : List PV} (h : Rep w M D v (.agg c)) : ∃ xs, v = .agg xs ∧ RepC w M D xs c := by
 cases h with
 | agg _ xs _ hl h1 h2 => exact ⟨xs, rfl, hl, fun i v p hv hp => ⟨h1 i v p hv hp, h2 i v p hv hp⟩⟩
theorem Q1q4 {v : Value} {c : List PV} (h : Rep w M D v (.tup c)) : ∃ xs : Array Value, v = .tuple xs ∧ RepL w M D xs.toList c := by
 cases h with
 | tup _ xs _ hl h1 => exact ⟨xs, rfl, by simpa using hl, fun i v p hv hp => h1 i v p (by simpa using hv) hp⟩
theorem Qv5 {v : Value} {sz : Nat} (h : Rep w M D v (.ns sz)) : ∃ A, v = .slice A 0 0 := by cases h; exact ⟨_, rfl⟩
theorem Qfp {v : Value} {id sz off len : Nat} (h : Rep w M D v (.ms id sz off len)) : ∃ A c, v = .slice A len c ∧ len ≤ c ∧ c ≤ maxLen ∧ ((c = 0 ∧ len = 0) ∨ ∃ b n, D id = some b ∧ A = some ⟨b, off * sz, none⟩ ∧ bsize w b = some n ∧ (off + c) * sz ≤ n) := by
 cases h with
 | ms _ A _ c _ _ _ hc hm h => exact ⟨A, c, rfl, hc, hm, h⟩
theorem Q12t {v : Value} {l : List (List PV)} (h : Rep w M D v (.sl l)) : ∃ A c sz b o, ∃ vs : Nat → Nat → Value, v = .slice A l.length c ∧ l.length ≤ c ∧ c ≤ maxLen ∧ (∀ r ∈ l, r.length = sz) ∧ (0 < l.length → A = some ⟨b, o, none⟩) ∧
  (∀ j r, l[j]? = some r → ∀ i p, r[i]? = some p → ¬ M b (o + j * sz + i) ∧ w.cell? ⟨b, o + j * sz + i, none⟩ = some (vs j i) ∧ (vs j i).oneCell' = true) ∧
  (∀ j r, l[j]? = some r → ∀ i p, r[i]? = some p → Rep w M (fun _ => none) (vs j i) p) := by
 cases h with
 | sl _ A n c sz _ b o vs hn hc hm hr hA hcell hrep =>
  subst hn
  exact ⟨A, c, sz, b, o, vs, rfl, hc, hm, hr, hA, hcell, hrep⟩
theorem Qxi {t : TypeId} {sz : Nat} (h : esz P t sz = true) : ∃ el, P.underlying t = some (.slice el) ∧ szOf P el = some sz := by
  unfold esz at h
  split at h
  · rename_i el he
    exact ⟨el, Q5n he, Q6w h⟩
  · cases h
theorem toNat_cast {k : IntKind} {n : Nat} {v : Value} (h : v = .int k (n : Int)) : (asIntOf v).run P w = .ok (k, (n : Int)) w := by subst h; rfl
theorem Q1ls {α β : Type} {f : α → Sem β} {g : α → β} (xs : Array α) (h : ∀ x ∈ xs.toList, (f x).run P w = .ok (g x) w) : (xs.mapM f).run P w = .ok (xs.map g) w := by
 rw [Array.mapM_eq_mapM_toList]
 have key : ∀ l : List α, (∀ x ∈ l, (f x).run P w = .ok (g x) w) → (l.mapM f).run P w = .ok (l.map g) w := by
  intro l
  induction l with
  | nil => intro _; simp
  | cons x r ih =>
   intro hl
   have hr := ih (fun y hy => hl y (List.mem_cons_of_mem _ hy))
   simp [List.mapM_cons, hl x List.mem_cons_self, hr]
 have := key xs.toList h
 rw [Sem.run_map, this, Result.andThen_ok]
 congr 1
 exact Array.ext' (by simp)
theorem Q1hs {o : Oper} {io : IOp} {p : PV} (he : Qbx w M D a e) (hc : chkP P o.op io = true) (h : opP e io = some p) : ∃ v, (execOp a.eval o).run P w = .ok (.value v) w ∧ Rep w M D v p := by
  obtain ⟨dst, op, type, pos, after, guard⟩ := o
  simp only at hc
  cases io with
  | box | zero | lit | load | store | mks | append | clear | call => simp [chkP] at hc
  | mov y =>
    simp [opP] at h
    subst h
    cases op <;> simp [chkP] at hc <;> exact ⟨_, by simp [execOp], Q23 he hc⟩
  | pick c' a' b' =>
    cases op <;> simp [chkP] at hc
    simp only [opP] at h
    split at h
    · rename_i t ht
      injection h with h
      have hb := Q23 he hc.1.1
      rw [ht] at hb
      have hb := Qbw hb
      cases t
      · subst h
        exact ⟨_, by simp [execOp, hb, asBool], Q23 he hc.2⟩
      · subst h
        exact ⟨_, by simp [execOp, hb, asBool], Q23 he hc.1.2⟩
    · cases h
  | build z ps' =>
    cases op <;> simp [chkP] at hc
    rename_i t ps
    simp only [opP] at h
    obtain ⟨c, hcc, h⟩ := bind_some h
    injection h with h
    subst h
    obtain ⟨v, hv, hz⟩ := Q84 (w := w) (M := M) (D := D) hc.1.2
    obtain ⟨fs, hu, hall⟩ : ∃ fs, P.underlying t = some (.struct fs) ∧ ∀ f ∈ fs.toList, ∃ n, szOf P f.type = some n := by
      have h0 := hc.1.1
      unfold isStruct at h0
      split at h0
      · rename_i fs hfs
        refine ⟨fs, hfs, fun f hf => ?_⟩
        rw [List.all_eq_true] at h0
        exact Option.isSome_iff_exists.1 (h0 f hf)
      · cases h0
    have hpl := Q1ls (P := P) (w := w) (f := fun f : Field => (do pure (f.offset, ← sizeOf f.type) : Sem (Nat × Nat))) (g := fun f => (f.offset, (szOf P f.type).getD 0)) fs (fun f hf => by
      obtain ⟨n, hn⟩ := hall f hf
      simp [run_sizeOf hn, hn])
    obtain ⟨xs, hx, hr⟩ := Qus (P := P) (t := t) (place := fun i => (fs.map fun f : Field => (f.offset, (szOf P f.type).getD 0))[i]?) (fun i f n hf hn => by
      obtain ⟨fs', hu', hf'⟩ := Qan hf
      rw [hu] at hu'
      injection hu' with hu'
      injection hu' with hu'
      subst hu'
      simp [hf', hn]) he ps.toList ps' v.cells z c hc.2 hz hcc
    refine ⟨.agg xs, ?_, .agg _ _ _ hr.1 (fun i v p hv hp => (hr.2 i v p hv hp).1) (fun i v p hv hp => (hr.2 i v p hv hp).2)⟩
    have hx' : Instr.fill (fun i => (fs.map fun f : Field => (f.offset, (szOf P f.type).getD 0))[i]?) v.cells (ps.map fun x => (x.1, a.eval x.2)).toList = some xs := by rw [← hx]; simp
    simp only [execOp, Instr.build, Sem.run_bind, hv, Result.andThen_ok, run_underlying hu, hpl, hx']
    rfl
  | nilck y =>
    cases op <;> simp [chkP] at hc
    rename_i x
    have hr := Q23 he hc
    simp only [opP] at h
    split at h
    · rename_i id off hy
      injection h with h
      rw [hy] at hr
      obtain ⟨b, _, hv⟩ := Q12s hr
      subst h
      exact ⟨_, by simp [execOp, hv], hr⟩
    · rename_i c hy
      injection h with h
      rw [hy] at hr
      obtain ⟨b, o, hv⟩ := Q1zn hr
      subst h
      exact ⟨_, by simp [execOp, hv], hr⟩
    · rename_i f x' y' hy
      injection h with h
      rw [hy] at hr
      obtain ⟨xs, ys, hv, _⟩ := Q1zm hr
      subst h
      exact ⟨_, by simp [execOp, hv], hr⟩
    · cases h
  | bin op' x' y' =>
    cases op <;> simp [chkP] at hc
    rename_i op t x y yt
    obtain ⟨⟨rfl, hx⟩, hy⟩ := hc
    simp only [opP] at h
    obtain ⟨v, hv, hr⟩ := Q1gm (P := P) (t := t) he hx hy h
    refine ⟨v, ?_, hr⟩
    simp only [execOp, Sem.run_bind] at hv ⊢
    rw [hv]
    rfl
  | eqs q neg x' y' =>
    cases op <;> simp [chkP] at hc
    rename_i op t x y yt
    obtain ⟨⟨⟨⟨⟨hop, hg⟩, hq⟩, ht⟩, hx⟩, hy⟩ := hc
    have rx := Q23 he hx
    have ry := Q23 he hy
    simp only [opP] at h
    split at h
    · rename_i c c' ex ey
      obtain ⟨b, hb, h⟩ := bind_some h
      injection h with h
      rw [ex] at rx
      rw [ey] at ry
      obtain ⟨xs, hxs, hxr⟩ := Q13y rx
      obtain ⟨ys, hys, hyr⟩ := Q13y ry
      have he := Q1gs (P := P) (w := w) (M := M) (D := D) 16 10000 t q _ true (.agg xs) (.agg ys) c c' b (by omega) ht hq hxr hyr (fun _ => ⟨_, _, rfl, rfl⟩) (fun h => by cases h) 16 hb
      refine ⟨sv p, ?_, ?_⟩ <;> subst h
      · cases neg
        · simp at hop
          subst hop
          simp only [execOp, Sem.run_bind, hxs, hys, run_eqGuard_agg _ _ _ _ _ _ _ hg, Result.andThen_ok, run_eql_struct, he]
          rfl
        · simp at hop
          subst hop
          simp only [execOp, Sem.run_bind, hxs, hys, run_eqGuard_agg _ _ _ _ _ _ _ hg, Result.andThen_ok, run_neq_struct, he]
          rfl
      · exact .bool _ _
    · cases h
  | eqb neg x' y' =>
    cases op <;> simp [chkP] at hc
    rename_i op t x y yt
    obtain ⟨⟨⟨hop, ht⟩, hx⟩, hy⟩ := hc
    have rx := Q23 he hx
    have ry := Q23 he hy
    have hu := Qea ht
    simp only [opP] at h
    split at h
    · rename_i b b' ex ey
      injection h with h
      rw [ex] at rx
      rw [ey] at ry
      have hb := Qbw rx
      have hb' := Qbw ry
      refine ⟨sv p, ?_, ?_⟩ <;> subst h
      · cases neg <;> simp at hop <;> subst hop <;> simp [execOp, hb, hb', eqGuard, binOp, Op.equal, Op.maxDepth, run_equalIn_bool' w _ t _ _ hu, sv]
      · exact .bool _ _
    · cases h
  | un op' y =>
    cases op <;> simp [chkP] at hc
    rename_i op t x
    obtain ⟨rfl, hx⟩ := hc
    have rx := Q23 he hx
    simp only [opP] at h
    split at h
    · rename_i b ex
      injection h with h
      rw [ex] at rx
      refine ⟨sv p, ?_, ?_⟩ <;> subst h
      · simp [execOp, Qbw rx, Op.unary, sv]
      · exact .bool _ _
    · rename_i k n ex
      injection h with h
      rw [ex] at rx
      refine ⟨sv p, ?_, ?_⟩ <;> subst h
      · simp [execOp, Q68 rx, Op.unary, Op.intArith, sv]
      · exact .int _ _ _
    · cases h
  | conv k y =>
    cases op <;> simp [chkP] at hc
    rename_i s d x
    obtain ⟨⟨hd, hs⟩, hx⟩ := hc
    have rx := Q23 he hx
    have hu := Quv hd
    obtain ⟨ds, hs⟩ := Option.isSome_iff_exists.1 hs
    simp only [opP] at h
    split at h
    · rename_i k' n ex
      injection h with h
      rw [ex] at rx
      refine ⟨sv p, ?_, ?_⟩ <;> subst h
      · simp [execOp, convert, Q68 rx, run_underlying hs, run_underlying hu, Conv.intToInt, sv]
      · exact .int _ _ _
    · cases h
  | mkfn f' a' b' =>
    cases op <;> simp [chkP] at hc
    rename_i fn first captured
    cases fn <;> simp at hc
    obtain ⟨⟨rfl, h1⟩, h2⟩ := hc
    simp [opP] at h
    subst h
    have r1 := Q9b he h1
    have r2 := Q9b he h2
    refine ⟨.func (.func _) (first.map a.eval) (captured.map a.eval), by simp [execOp, Instr.makeFunc], .fn _ _ _ _ _ _ ?_ ?_ ?_ ?_⟩
    · have := r1.1; simpa using this
    · have := r2.1; simpa using this
    · intro i v q hv hq
      exact r1.2 i v q (by simpa using hv) hq
    · intro i v q hv hq
      exact r2.2 i v q (by simpa using hv) hq
  | slice sz x' lo' hi' mx' =>
    cases op <;> simp [chkP] at hc
    rename_i t x lo hi mx
    obtain ⟨⟨⟨⟨ht, hx⟩, hlo⟩, hhi⟩, hmx⟩ := hc
    obtain ⟨el, hu, hsz⟩ := Qxi ht
    have rx := Q23 he hx
    simp only [opP] at h
    obtain ⟨l, hl, h⟩ := bind_some h
    have vlo := Qcj he hlo hl
    cases mx' with
    | some m' =>
      cases mx with
      | none => simp [Qpf] at hmx
      | some mo =>
        simp only at h
        obtain ⟨m, hm, h⟩ := bind_some h
        obtain ⟨hh, hhh, h⟩ := bind_some h
        obtain ⟨hb, h⟩ := Q25 h
        simp only [Bool.and_eq_true] at hb
        obtain rfl := Nat.eq_of_beq_eq_true hb.1.1
        obtain rfl := Nat.eq_of_beq_eq_true hb.1.2
        obtain rfl := Nat.eq_of_beq_eq_true hb.2
        have vhi := Qcj he hhi hhh
        obtain ⟨km, hkm⟩ := Qah hm
        have rm := Q23 he (x := mo) (y := m') hmx
        rw [hkm] at rm
        have vm := Q68 rm
        have run : ∀ A n c, a.eval x = .slice A n c → (execOp a.eval ⟨dst, .slice t x lo hi (some mo), type, pos, after, guard⟩).run P w = .ok (.value (.slice A 0 0)) w := by
          intro A n c hv
          have hb : (Instr.sliceBounds true n c (lo.map a.eval) (hi.map a.eval) ((some mo).map a.eval)).run P w = .ok (0, 0, 0) w := by
            unfold Instr.sliceBounds
            rcases vlo with ⟨rfl, _⟩ | ⟨y, k, rfl, hy⟩ <;> rcases vhi with ⟨rfl, h0⟩ | ⟨y', k', rfl, hy'⟩
            · cases h0
            · simp [Q3u vm (Nat.zero_le c), Q3u hy' (Nat.le_refl 0)]
            · cases h0
            · simp [Q3u vm (Nat.zero_le c), Q3u hy' (Nat.le_refl 0), Q3u hy (Nat.le_refl 0)]
          simp only [execOp, Instr.sliceAt, Instr.slice, Sem.run_bind, run_underlying hu, Result.andThen_ok, hv, hb, run_sizeOf hsz]
          rfl
        split at h
        · rename_i rs ex
          injection h with h
          subst h
          rw [ex] at rx
          obtain ⟨A, c, _, _, _, _, hv, _⟩ := Q12t rx
          exact ⟨_, run _ _ _ hv, .ns _ _ _⟩
        · rename_i sz' ex
          injection h with h
          subst h
          rw [ex] at rx
          obtain ⟨A, hv⟩ := Qv5 rx
          exact ⟨_, run _ _ _ hv, .ns _ _ _⟩
        · rename_i id sz' off len ex
          injection h with h
          subst h
          rw [ex] at rx
          obtain ⟨A, c, hv, _⟩ := Qfp rx
          exact ⟨_, run _ _ _ hv, .ns _ _ _⟩
        · cases h
    | none =>
      cases mx with
      | some mo => simp [Qpf] at hmx
      | none =>
        simp only at h
        have run : ∀ A n c hh, a.eval x = .slice A n c → ((hi = none ∧ hh = n) ∨ ∃ y k, hi = some y ∧ a.eval y = .int k (hh : Int)) → l ≤ hh → hh ≤ c →
            (execOp a.eval ⟨dst, .slice t x lo hi none, type, pos, after, guard⟩).run P w = .ok (.value (.slice (if c = l then A else A.map (·.add (l * sz))) (hh - l) (c - l))) w := by
          intro A n c hh hv vhi h1 h2
          have hb := Qup (P := P) (w := w) (isS := true) vlo vhi h1 h2
          simp only [execOp, Instr.sliceAt, Instr.slice, Sem.run_bind, run_underlying hu, Result.andThen_ok, hv, Option.map_none, hb, run_sizeOf hsz]
          rfl
        split at h
        · rename_i rs ex
          obtain ⟨hh, hhh, h⟩ := bind_some h
          obtain ⟨hb, h⟩ := Q25 h
          injection h with h
          subst h
          rw [Bool.and_eq_true, Bool.and_eq_true] at hb
          obtain ⟨hrs, hb⟩ := hb
          have h1 := Nat.le_of_ble_eq_true hb.1
          have h2 := Nat.le_of_ble_eq_true hb.2
          rw [ex] at rx
          obtain ⟨A, c, sz0, b, o, vs, hv, hc1, hm1, hr1, hA, hcell, hrep⟩ := Q12t rx
          refine ⟨_, run A rs.length c hh hv (Qcj he hhi hhh) h1 (by omega), ?_⟩
          have hln : ((rs.take hh).drop l).length = hh - l := by rw [List.length_drop, List.length_take]; omega
          have hat : ∀ (j : Nat) r, ((rs.take hh).drop l)[j]? = some r → rs[l + j]? = some r := by
            intro j r hj
            rw [List.getElem?_drop, List.getElem?_take] at hj
            split at hj
            · exact hj
            · cases hj
          have hmem : ∀ r ∈ (rs.take hh).drop l, r.length = sz0 := fun r hr => hr1 r (List.mem_of_mem_take (List.mem_of_mem_drop hr))
          by_cases h0 : hh - l = 0
          · rw [h0]
            have : (rs.take hh).drop l = [] := List.eq_nil_of_length_eq_zero (by omega)
            rw [this]
            exact .sl _ _ 0 (c - l) sz0 [] 0 0 (fun _ _ => default) rfl (Nat.zero_le _) (by omega) (by simp) (by omega) (by simp) (by simp)
          · have hA' := hA (by omega)
            subst hA'
            rw [if_neg (by omega), Option.map_some, Qag]
            have hszq : sz0 = sz := by
              have hlt : l < rs.length := by omega
              rw [← hr1 _ (List.getElem_mem hlt)]
              unfold Q8b at hrs
              rw [List.all_eq_true] at hrs
              exact Nat.eq_of_beq_eq_true (hrs _ (List.getElem_mem hlt))
            subst hszq
            refine .sl _ _ (hh - l) (c - l) sz0 _ b (o + l * sz0) (fun j i => vs (l + j) i) hln (by omega) (by omega) hmem (fun _ => rfl) (fun j r hj i p hi => ?_) (fun j r hj i p hi => hrep (l + j) r (hat j r hj) i p hi)
            have := hcell (l + j) r (hat j r hj) i p hi
            have e1 : o + l * sz0 + j * sz0 + i = o + (l + j) * sz0 + i := by rw [Nat.add_mul]; omega
            rw [e1]
            exact this
        · rename_i sz' ex
          obtain ⟨hh, hhh, h⟩ := bind_some h
          obtain ⟨hb, h⟩ := Q25 h
          injection h with h
          subst h
          rw [Bool.and_eq_true] at hb
          obtain rfl := Nat.eq_of_beq_eq_true hb.1
          obtain rfl := Nat.eq_of_beq_eq_true hb.2
          rw [ex] at rx
          obtain ⟨A, hv⟩ := Qv5 rx
          refine ⟨_, run A 0 0 0 hv (Qcj he hhi hhh) (Nat.le_refl _) (Nat.le_refl _), ?_⟩
          exact .ns _ _ _
        · rename_i id sz' off len ex
          obtain ⟨hh, hhh, h⟩ := bind_some h
          obtain ⟨hb, h⟩ := Q25 h
          injection h with h
          subst h
          simp only [Bool.and_eq_true] at hb
          obtain rfl := Nat.eq_of_beq_eq_true hb.1.1
          have h1 := Nat.le_of_ble_eq_true hb.1.2
          have h2 := Nat.le_of_ble_eq_true hb.2
          rw [ex] at rx
          obtain ⟨A, c, hv, hc1, hm1, hd⟩ := Qfp rx
          refine ⟨_, run A len c hh hv (Qcj he hhi hhh) h1 (by omega), .ms _ _ _ _ _ _ _ (by omega) (by omega) ?_⟩
          by_cases h0 : c = l
          · exact .inl ⟨by omega, by omega⟩
          · rcases hd with ⟨h3, h4⟩ | ⟨b, n, h3, rfl, h5, h6⟩
            · omega
            · refine .inr ⟨b, n, h3, ?_, h5, ?_⟩
              · rw [if_neg h0, Option.map_some, Qag, Nat.add_mul]
              · have : off + l + (c - l) = off + c := by omega
                rw [this]
                exact h6
        · cases h
  | cut x' lo' hi' =>
    cases op <;> simp [chkP] at hc
    rename_i t x lo hi mx
    obtain ⟨⟨⟨⟨hmx, ht⟩, hx⟩, hlo⟩, hhi⟩ := hc
    have hu := Q8n ht
    have rx := Q23 he hx
    cases mx with
    | some m => cases hmx
    | none =>
      simp only [opP] at h
      split at h
      · rename_i s ex
        obtain ⟨l, hl, h⟩ := bind_some h
        obtain ⟨hh, hhh, h⟩ := bind_some h
        obtain ⟨hb, h⟩ := Q25 h
        injection h with h
        subst h
        rw [Bool.and_eq_true] at hb
        have h1 := Nat.le_of_ble_eq_true hb.1
        have h2 := Nat.le_of_ble_eq_true hb.2
        rw [ex] at rx
        have hb := Qup (P := P) (w := w) (isS := false) (len := s.size) (cap := s.size) (Qcj he hlo hl) (Qcj he hhi hhh) h1 h2
        refine ⟨.string (s.extract l hh), ?_, .str _ _⟩
        simp [execOp, Instr.sliceAt, Instr.slice, run_underlying hu, Qcn rx, hb]
      · cases h
  | faddr off y =>
    cases op <;> simp [chkP] at hc
    rename_i t x i
    obtain ⟨ht, hx⟩ := hc
    have rx := Q23 he hx
    unfold Q1zk at ht
    split at ht
    · rename_i f hf
      rw [Bool.and_eq_true] at ht
      obtain ⟨fs, hu, hfi⟩ := Qan hf
      have ho := Nat.eq_of_beq_eq_true ht.1
      have ht2 := ht.2
      split at ht2
      · rename_i n hn
        have hn0 : n ≠ 0 := fun e => by subst e; simp at ht2
        have run : ∀ b o, a.eval x = .pointer (some ⟨b, o, none⟩) → (execOp a.eval ⟨dst, .fieldAddr t x i, type, pos, after, guard⟩).run P w = .ok (.value (.pointer (some ⟨b, o + off, none⟩))) w := by
          intro b o hv
          simp [execOp, Instr.fieldAt, run_underlying hu, hfi, hv, Instr.sureAddr, fieldPlace, run_sizeOf hn, hn0, ho, Qag]
        simp only [opP] at h
        split at h
        · rename_i id o ex
          injection h with h
          subst h
          rw [ex] at rx
          obtain ⟨b, hD, hv⟩ := Q12s rx
          exact ⟨_, run b o hv, .bx _ b _ _ hD⟩
        · rename_i c ex
          injection h with h
          subst h
          rw [ex] at rx
          cases hq : a.eval x with
          | pointer A =>
            rw [hq] at rx
            cases rx with
            | rf _ b o _ vs hcell hrep =>
              refine ⟨_, run b o hq, .rf _ b (o + off) _ (fun i => vs (off + i)) (fun i p hi => ?_) (fun i p hi => ?_)⟩
              · rw [List.getElem?_drop] at hi
                rw [Nat.add_assoc]
                exact hcell _ _ hi
              · rw [List.getElem?_drop] at hi
                exact hrep _ _ hi
          | _ => rw [hq] at rx; cases rx
        · cases h
      · cases ht2
    · cases ht
  | field off n ag y =>
    cases op <;> simp [chkP] at hc
    rename_i t x i
    obtain ⟨ht, hx⟩ := hc
    have rx := Q23 he hx
    unfold Q1gt at ht
    split at ht
    · rename_i f hf
      rw [Bool.and_eq_true] at ht
      obtain ⟨fs, hu, hfi⟩ := Qan hf
      have ho := Nat.eq_of_beq_eq_true ht.1
      subst ho
      simp only [opP] at h
      split at h
      · rename_i c ex
        obtain ⟨hb, h⟩ := Q25 h
        rw [ex] at rx
        obtain ⟨xs, hv, hr⟩ := Q13y rx
        obtain ⟨v, hpv, hrv⟩ := Q1br (P := P) ht.2 hr.1 (fun i v p hv hp => (hr.2 i v p hv hp).1) (fun i v p hv hp => (hr.2 i v p hv hp).2) (Nat.le_of_ble_eq_true hb) h
        refine ⟨v, ?_, hrv⟩
        simp [execOp, Instr.field, run_underlying hu, hfi, hv, asAgg, hpv]
      · cases h
    · cases ht
  | bzero z =>
    cases op <;> simp [chkP] at hc
    rename_i t ps
    simp only [opP] at h
    injection h with h
    subst h
    obtain ⟨⟨ha, hz0⟩, hp⟩ := hc
    obtain ⟨v, hv, hz⟩ := Q84 (w := w) (M := M) (D := D) hz0
    obtain ⟨n, el, sz, hu, hsz⟩ : ∃ n el sz, P.underlying t = some (.array n el) ∧ szOf P el = some sz := by
      unfold Q1zf at ha
      split at ha
      · rename_i n el hfs
        obtain ⟨sz, hsz⟩ := Option.isSome_iff_exists.1 ha
        exact ⟨n, el, sz, hfs, hsz⟩
      · cases ha
    refine ⟨.agg v.cells, ?_, .agg _ _ _ hz.1 (fun i v p hv hp => (hz.2 i v p hv hp).1) (fun i v p hv hp => (hz.2 i v p hv hp).2)⟩
    subst hp
    have hf : Instr.fill (fun i => some (i * sz, sz)) v.cells (Array.map (fun x : Nat × Operand => (x.1, a.eval x.2)) #[]).toList = some v.cells := by simp [Instr.fill]
    simp only [execOp, Instr.build, Sem.run_bind, hv, Result.andThen_ok, run_underlying hu, run_sizeOf hsz, hf]
    rfl
  | aaddr n sz x' i' =>
    cases op <;> simp [chkP] at hc
    rename_i t x i
    obtain ⟨⟨ht, hx⟩, hi⟩ := hc
    obtain ⟨el, hu, hsz⟩ : ∃ el, P.underlying t = some (.array n el) ∧ szOf P el = some sz := by
      unfold Q1z4 at ht
      split at ht
      · rename_i n' el hfs
        rw [Bool.and_eq_true] at ht
        obtain rfl := Nat.eq_of_beq_eq_true ht.1
        exact ⟨el, hfs, Q6w ht.2⟩
      · cases ht
    have rx := Q23 he hx
    have ri := Q23 he hi
    simp only [opP] at h
    obtain ⟨k, hn, h⟩ := bind_some h
    obtain ⟨kk, hk⟩ := Qah hn
    rw [hk] at ri
    have vi := Q68 ri
    split at h
    · rename_i id o ex
      obtain ⟨hb, h⟩ := Q25 h
      injection h with h
      subst h
      rw [ex] at rx
      have hlt : k < n := by
        unfold Nat.blt at hb
        have := Nat.le_of_ble_eq_true hb
        omega
      obtain ⟨b, hm, hv⟩ := Q12s rx
      have h1 : (0 : Int) ≤ (k : Int) ∧ (k : Int) < (n : Int) := by omega
      refine ⟨.pointer (some ⟨b, o + k * sz, none⟩), ?_, .bx _ b _ _ hm⟩
      simp [execOp, Instr.indexAt, toNat_cast vi, run_underlying hu, hv, hlt, run_sizeOf hsz, Qag, Instr.sureAddr]
    · cases h
  | iaddr sz x' i' =>
    cases op <;> simp [chkP] at hc
    rename_i t x i
    obtain ⟨⟨ht, hx⟩, hi⟩ := hc
    obtain ⟨el, hu, hsz⟩ := Qxi ht
    have rx := Q23 he hx
    have ri := Q23 he hi
    simp only [opP] at h
    obtain ⟨n, hn, h⟩ := bind_some h
    obtain ⟨k, hk⟩ := Qah hn
    rw [hk] at ri
    have vi := Q68 ri
    have run : ∀ b o len c, a.eval x = .slice (some ⟨b, o, none⟩) len c → n < len → (execOp a.eval ⟨dst, .indexAddr t x i, type, pos, after, guard⟩).run P w = .ok (.value (.pointer (some ⟨b, o + n * sz, none⟩))) w := by
      intro b o len c hv hlt
      have h1 : (0 : Int) ≤ (n : Int) ∧ (n : Int) < (len : Int) := by omega
      simp [execOp, Instr.indexAt, toNat_cast vi, run_underlying hu, hv, hlt, run_sizeOf hsz, Qag]
    split at h
    · rename_i rs ex
      split at h
      · rename_i r hr
        obtain ⟨hb, h⟩ := Q25 h
        injection h with h
        subst h
        have hlen := Nat.eq_of_beq_eq_true hb
        rw [ex] at rx
        obtain ⟨A, c, sz0, b, o, vs, hv, hc1, hm1, hr1, hA, hcell, hrep⟩ := Q12t rx
        have hlt : n < rs.length := (List.getElem?_eq_some_iff.1 hr).1
        have hA' := hA (by omega)
        subst hA'
        have : sz0 = sz := by rw [← hr1 r (List.mem_of_getElem? hr)]; exact hlen
        subst this
        exact ⟨_, run b o _ c hv hlt, .rf _ b (o + n * sz0) r (fun i => vs n i) (fun i p hi => hcell n r hr i p hi) (fun i p hi => hrep n r hr i p hi)⟩
      · cases h
    · rename_i id sz' off len ex
      obtain ⟨hb, h⟩ := Q25 h
      injection h with h
      subst h
      rw [Bool.and_eq_true] at hb
      obtain rfl := Nat.eq_of_beq_eq_true hb.1
      have hlt : n < len := by
        have := hb.2
        unfold Nat.blt at this
        have := Nat.le_of_ble_eq_true this
        omega
      rw [ex] at rx
      obtain ⟨A, c, hv, hc1, hm1, hd⟩ := Qfp rx
      rcases hd with ⟨h3, h4⟩ | ⟨b, nb, h3, rfl, h5, h6⟩
      · omega
      · refine ⟨_, run b _ _ c hv hlt, ?_⟩
        have : off * sz' + n * sz' = (off + n) * sz' := by rw [Nat.add_mul]
        rw [this]
        exact .bx _ b _ _ h3
    · cases h
  | index x' i' =>
    cases op <;> simp [chkP] at hc
    rename_i t x i
    obtain ⟨⟨ht, hx⟩, hi⟩ := hc
    have hu := Q8n ht
    have rx := Q23 he hx
    have ri := Q23 he hi
    simp only [opP] at h
    obtain ⟨n, hn, h⟩ := bind_some h
    obtain ⟨k, hk⟩ := Qah hn
    rw [hk] at ri
    have vi := Q68 ri
    split at h
    · rename_i s ex
      split at h
      · rename_i b hb
        injection h with h
        subst h
        rw [ex] at rx
        refine ⟨.int .u8 (b.toNat : Int), ?_, .int _ _ _⟩
        have h2 : s[n]? = some b := by
          obtain ⟨hlt, hbe⟩ := Array.getElem?_eq_some_iff.1 hb
          have hlt' : n < s.size := hlt
          rw [getElem?_pos s n hlt']
          exact congrArg some hbe
        simp [execOp, Instr.index, toNat_cast vi, run_underlying hu, Qcn rx, h2]
      · cases h
    · cases h
  | extract y j =>
    cases op <;> simp [chkP] at hc
    rename_i x i
    obtain ⟨rfl, hx⟩ := hc
    have rx := Q23 he hx
    simp only [opP] at h
    split at h
    · rename_i vs ex
      rw [ex] at rx
      obtain ⟨xs, hv, hr⟩ := Q1q4 rx
      have hlt : i < xs.size := by
        have := hr.1
        have := (List.getElem?_eq_some_iff.1 h).1
        simp at *
        omega
      refine ⟨xs[i], ?_, hr.2 i _ _ (by simp [hlt]) h⟩
      simp [execOp, Instr.extract, hv, hlt]
    · cases h
  | len str y =>
    cases op <;> simp [chkP] at hc
    rename_i c
    obtain ⟨hb, hc⟩ := hc
    have hb := Qjc hb
    unfold Q1zi at hc
    split at hc
    · rename_i x t hargs hty
      rw [Bool.and_eq_true] at hc
      obtain ⟨ht, hx⟩ := hc
      have rx := Q23 he hx
      obtain ⟨cs, hcs⟩ := Qa4 c type .len hb a.eval
      have ha : c.args = #[x] := Array.ext' (by simpa using hargs)
      have hat : c.argTypes = #[t] := Array.ext' (by simpa using hty)
      have hx' : (execOp a.eval ⟨dst, .call c, type, pos, after, guard⟩) = (do pure (.value (← Builtin.len_ #[t] type #[a.eval x])) : Sem Next) := by
        simp only [execOp]
        rw [hcs]
        simp only [builtin]
        rw [ha, hat, show (#[x] : Array Operand).map a.eval = #[a.eval x] by simp]
      rw [hx']
      simp only [opP] at h
      cases str with
      | true =>
        simp only [cond_true] at ht h
        split at h
        · rename_i s ex
          injection h with h
          rw [ex] at rx
          refine ⟨sv p, ?_, ?_⟩ <;> subst h
          · simp [Builtin.len_, run_underlying (Q8n ht), Qcn rx, goInt, sv]
          · exact .int _ _ _
        · cases h
      | false =>
        simp only [cond_false] at ht h
        obtain ⟨el, hel⟩ := Option.isSome_iff_exists.1 ht
        have hu := Q5n hel
        split at h
        · rename_i l ex
          injection h with h
          rw [ex] at rx
          obtain ⟨A, cc, _, _, _, _, hv, _⟩ := Q12t rx
          refine ⟨sv p, ?_, ?_⟩ <;> subst h
          · simp [Builtin.len_, run_underlying hu, hv, goInt, sv]
          · exact .int _ _ _
        · rename_i id sz off n ex
          injection h with h
          rw [ex] at rx
          obtain ⟨A, cc, hv, _⟩ := Qfp rx
          refine ⟨sv p, ?_, ?_⟩ <;> subst h
          · simp [Builtin.len_, run_underlying hu, hv, goInt, sv]
          · exact .int _ _ _
        · rename_i sz ex
          injection h with h
          rw [ex] at rx
          obtain ⟨A, hv⟩ := Qv5 rx
          refine ⟨sv p, ?_, ?_⟩ <;> subst h
          · simp [Builtin.len_, run_underlying hu, hv, goInt, sv]
          · exact .int _ _ _
        · cases h
    · cases hc
  | mnmx isMax y ys =>
    cases op <;> simp [chkP] at hc
    rename_i c
    obtain ⟨hb, hc⟩ := hc
    have hb := Qjc hb
    obtain ⟨cs, hcs⟩ := Qa4 c type _ hb a.eval
    simp only [opP] at h
    have hl : ∃ x xs, c.args.toList = x :: xs ∧ Q46 x y = true ∧ Qa8 xs ys = true := by
      cases hq : c.args.toList with
      | nil => rw [hq] at hc; simp [Qa8] at hc
      | cons x xs =>
        rw [hq] at hc
        simp only [Qa8, Bool.and_eq_true] at hc
        exact ⟨x, xs, rfl, hc.1, hc.2⟩
    obtain ⟨x, xs, hargs, hx, hxs⟩ := hl
    obtain ⟨r, hr, hrep⟩ := Q12n (P := P) (evs e ys) (xs.map a.eval) _ p _ (Q23 he hx) (Q9b he hxs) h
    refine ⟨r, ?_, hrep⟩
    simp only [execOp]
    rw [hcs]
    have hm : (c.args.map a.eval).toList = a.eval x :: xs.map a.eval := by rw [Array.toList_map, hargs]; rfl
    cases isMax
    · simp only [cond_false, builtin, Sem.run_bind, Builtin.min_, hm] at hr ⊢
      rw [hr]
      rfl
    · simp only [cond_true, builtin, Sem.run_bind, Builtin.max_, hm] at hr ⊢
      rw [hr]
      rfl
end
end Go.Pv
end

section
/-
  Operations that make, read or write objects.
-/
namespace Go.Pv
open Go.RowKit
def upH (H : Nat → Option Ob) : List (Nat × Option Ob) → Nat → Option Ob
 | [] => H
 | (id, o) :: r => upH (fun j => if j = id then o else H j) r
theorem Q1o7 : ∀ {l : List Nat}, nodupB l = true → l.Nodup
 | [], _ => List.nodup_nil
 | k :: r, h => by
  simp only [nodupB, Bool.and_eq_true, Bool.not_eq_true'] at h
  refine List.nodup_cons.2 ⟨fun hk => ?_, Q1o7 h.2⟩
  rw [Q7c.2 hk] at h
  exact absurd h.1 (by simp)
theorem Q1m9 {H : Nat → Option Ob} {hr : List Nat} {p : Nat × Option Ob} (h : Q131 H hr p = true) : H p.1 = p.2 := by
  obtain ⟨id, o⟩ := p
  unfold Q131 at h
  rw [Bool.and_eq_true] at h
  have h := h.2
  cases o with
  | none => cases h
  | some ob =>
    simp only at h ⊢
    cases e1 : Nat.beq ob.sz 1 with
    | false => rw [e1] at h; cases h
    | true =>
      rw [e1, cond_true] at h
      split at h
      · rename_i i o hc
        cases e2 : H id with
        | none => rw [e2] at h; cases h
        | some ob' =>
          rw [e2] at h
          simp only at h
          split at h
          · rename_i i' o' hc'
            simp only [Bool.and_eq_true] at h
            obtain ⟨h1, h2, h3, h4, h5⟩ := h
            have n1 := Nat.eq_of_beq_eq_true h1
            have n2 := Nat.eq_of_beq_eq_true h2
            have n4 := Nat.eq_of_beq_eq_true h4
            have n5 := Nat.eq_of_beq_eq_true h5
            have n3 : ob.gr = ob'.gr := by
              revert h3
              cases ob.gr <;> cases ob'.gr <;> intro h3 <;> first | rfl | cases h3
            clear h h1 h2 h3 h4 h5 e1 e2
            obtain ⟨a, b, g, c⟩ := ob
            obtain ⟨a', b', g', c'⟩ := ob'
            simp only at n1 n2 n3 hc hc'
            rw [n1, n2, n3, hc, hc', n4, n5]
          · cases h
      · cases h
theorem Q144 {H H' : Nat → Option Ob} {hr : List Nat} (hi : ∀ id ∈ hr, H' id = H id) (p : Nat × Option Ob) : Q131 H' hr p = Q131 H hr p := by
 unfold Q131
 cases e : has hr p.1 with
 | false => rfl
 | true => rw [hi _ (Q7c.1 e)]
theorem Qv9 (q : Nat × Option Ob → Bool) : ∀ (l : List (Nat × Option Ob)) (H : Nat → Option Ob), (l.map (·.1)).Nodup → (∀ p ∈ l, q p = false → H p.1 = p.2) → upH H (l.filter q) = upH H l
  | [], _, _, _ => rfl
  | (id, o) :: r, H, hn, h => by
    rw [List.map_cons, List.nodup_cons] at hn
    have hr : ∀ p ∈ r, q p = false → (fun j => if j = id then o else H j) p.1 = p.2 := fun p hp hq => by
      have hne : p.1 ≠ id := fun e => hn.1 (by rw [← e]; exact List.mem_map.2 ⟨p, hp, rfl⟩)
      simp only [if_neg hne]
      exact h p (List.mem_cons_of_mem _ hp) hq
    have ih := Qv9 q r (fun j => if j = id then o else H j) hn.2 hr
    cases e : q (id, o) with
    | true => rw [List.filter_cons_of_pos e]; exact ih
    | false =>
      rw [List.filter_cons_of_neg (by rw [e]; exact Bool.false_ne_true)]
      have e1 : (fun j => if j = id then o else H j) = H := funext fun j => by
        by_cases hj : j = id
        · rw [if_pos hj, hj]; exact (h (id, o) List.mem_cons_self e).symm
        · rw [if_neg hj]
      rw [e1] at ih
      show _ = upH (fun j => if j = id then o else H j) r
      rw [e1]
      exact ih
theorem Q14f (H : Nat → Option Ob) (x : Eff) : upH H (trim H x).hw = upH H x.hw := by
  unfold trim
  cases e : nodupB (x.hw.map (·.1)) with
  | false => rfl
  | true => exact Qv9 _ _ _ (Q1o7 e) fun p _ hq => Q1m9 (by simpa using hq)
theorem Q1uh {H : Nat → Option Ob} {x : Eff} : ∀ p ∈ (trim H x).hw, p ∈ x.hw := by
  unfold trim
  cases nodupB (x.hw.map (·.1)) with
  | false => exact fun p h => h
  | true => exact fun p h => (List.mem_filter.1 h).1
theorem Q1c7 {H H' : Nat → Option Ob} {x : Eff} (hi : ∀ id ∈ x.hr, H' id = H id) : trim H' x = trim H x := by
 unfold trim
 rw [show (fun p => !(Q131 H' x.hr p)) = fun p => !(Q131 H x.hr p) from funext fun p => by rw [Q144 hi]]
structure Step (w : World) (D : Nat → Option Nat) (H : Nat → Option Ob) (F : Nat → Nat → Prop) (n0 m fr : Nat) (w' : World) (D' : Nat → Option Nat) (H' : Nat → Option Ob) : Prop where
  sim : Sim w' D' H' F n0 m
  keeps : Keeps (MutO D H) w w'
  ext : ∀ id b, D id = some b → D' id = some b
  sub : ∀ b o, b < w.heap.size → Mut D' H' F b o → Mut D H F b o
  fresh : ∀ id, D id = none → (id < fr ∨ fr + 64 ≤ id) → D' id = none
theorem Step.rep {w : World} {D : Nat → Option Nat} {H : Nat → Option Ob} {F : Nat → Nat → Prop} {n0 m fr : Nat} {w' : World} {D' : Nat → Option Nat} {H' : Nat → Option Ob} (h : Step w D H F n0 m fr w' D' H') {v : Value} {p : PV} (hr : Rep w (Mut D H F) D v p) : Rep w' (Mut D' H' F) D' v p :=
 hr.mono h.keeps (fun _ _ h => .inr h) h.sub h.ext
section
variable {P : Program} {w : World} {D : Nat → Option Nat} {H : Nat → Option Ob} {F : Nat → Nat → Prop} {n0 m fr : Nat}
theorem Step.same (S : Sim w D H F n0 m) {w' : World} (hh : w'.heap = w.heap) (h1 : w'.os = w.os) (h2 : w'.tape = w.tape) (h3 : w'.output = w.output) : Step w D H F n0 m fr w' D H := by
 have hk : Keeps (MutO D H) w w' := ⟨h1, h2, h3, by rw [hh]; exact Nat.le_refl _, fun k _ => .inl (by rw [hh])⟩
 have hk0 : Keeps (fun _ _ => False) w w' := ⟨h1, h2, h3, by rw [hh]; exact Nat.le_refl _, fun k _ => .inl (by rw [hh])⟩
 exact ⟨⟨S.fr, by rw [hh]; exact S.le, S.own, fun id ob h => (S.ok id ob h).mono hk0 (fun _ _ h => h.elim) (fun _ _ _ h => h) (fun _ _ h => h) (fun h => h) (fun _ _ _ h => h), S.inj, S.dis⟩, hk, fun _ _ h => h, fun _ _ _ h => h, fun _ h _ => h⟩
theorem Q18z (S : Sim w D H F n0 m) (hD : D fr = none) {w' : World} {arr : Array Value} {ty : TypeId} (hh : w'.heap = w.heap.push (.cells arr ty (0, 0))) (h1 : w'.os = w.os) (h2 : w'.tape = w.tape) (h3 : w'.output = w.output)
    {ob : Ob} (hro : ob.ro ≤ ob.cells.length) (hlen : ob.cells.length ≤ arr.size) (hc : ∀ (k : Nat) p, ob.cells[k]? = some p → ∃ v, arr[k]? = some v ∧ v.oneCell' = true ∧ Rep w (Mut D H F) D v p)
    {H0 : Nat → Option Ob} (hH0 : ∀ id ob, H0 id = some ob → H id = some ob) :
    Step w D H F n0 m fr w' (fun id => if id = fr then some w.heap.size else D id) (fun id => if id = fr then some ob else H0 id) := by
  have hsz : w'.heap.size = w.heap.size + 1 := by rw [hh]; simp
  have hold : ∀ k, k < w.heap.size → w'.heap[k]? = w.heap[k]? := fun k hk => by rw [hh, Array.getElem?_push, if_neg (by omega)]
  have hk : Keeps (MutO D H) w w' := ⟨h1, h2, h3, by omega, fun k hk => .inl (hold k hk)⟩
  have hk0 : Keeps (fun _ _ => False) w w' := ⟨h1, h2, h3, by omega, fun k hk => .inl (hold k hk)⟩
  have hext : ∀ id b, D id = some b → (fun id => if id = fr then some w.heap.size else D id) id = some b := fun id b h => by
    by_cases e : id = fr
    · subst e; rw [hD] at h; cases h
    · simp [e, h]
  have hsub : ∀ b o, b < w.heap.size → Mut (fun id => if id = fr then some w.heap.size else D id) (fun id => if id = fr then some ob else H0 id) F b o → Mut D H F b o := by
    rintro b o hb (h | ⟨id, ob', e1, e2, e3⟩)
    · exact .inl h
    · by_cases e : id = fr
      · simp [e] at e2; omega
      · simp [e] at e1 e2
        exact .inr ⟨id, ob', hH0 _ _ e1, e2, e3⟩
  refine ⟨⟨S.fr, by have := S.le; omega, fun id b h => ?_, fun id ob' h => ?_, ?_, fun id ob' b o h hd => ?_⟩, hk, hext, hsub, fun id h hid => by simp [show id ≠ fr by omega, h]⟩
  · by_cases e : id = fr
    · simp [e] at h; exact .inr (by have := S.le; omega)
    · simp [e] at h; exact S.own id b h
  · by_cases e : id = fr
    · simp [e] at h
      subst h
      refine ⟨hro, .inr ⟨w.heap.size, arr, ty, by simp [e], by rw [hh, Array.getElem?_push, if_pos rfl], hlen, fun _ => S.le, fun k p hp => ?_⟩⟩
      obtain ⟨v, e1, e2, e3⟩ := hc k p hp
      exact ⟨v, e1, e2, e3.mono hk0 (fun _ _ h => h.elim) hsub hext⟩
    · simp [e] at h
      exact (S.ok id ob' (hH0 _ _ h)).mono hk0 (fun _ _ h => h.elim) hsub hext (fun h => by simp [e, h]) (fun _ _ _ h => h)
  · intro i j a b k hi hj di dj
    have blk : ∀ (i : Nat) (a : Ob), i ≠ fr → H0 i = some a → D i = some w.heap.size → False := by
      intro i a hne hi di
      rcases (S.ok i a (hH0 _ _ hi)).2 with ⟨_, e⟩ | ⟨b', carr, t, e1, e2, _⟩
      · rw [di] at e; cases e
      · rw [di] at e1
        injection e1 with e1
        subst e1
        simp at e2
    by_cases e : i = fr <;> by_cases e' : j = fr
    · rw [e, e']
    · simp [e] at di
      simp [e'] at dj hj
      subst di
      exact (blk j b e' hj dj).elim
    · simp [e'] at dj
      simp [e] at di hi
      subst dj
      exact (blk i a e hi di).elim
    · simp [e] at hi di
      simp [e'] at hj dj
      exact S.inj i j a b k (hH0 _ _ hi) (hH0 _ _ hj) di dj
  · by_cases e : id = fr
    · simp [e] at hd
      subst hd
      intro hF
      have := S.fr _ _ hF
      have := S.le
      omega
    · simp [e] at h hd
      exact S.dis id ob' b o (hH0 _ _ h) hd
theorem Qyg (S : Sim w D H F n0 m) {id id' b : Nat} {ob ob' : Ob} {carr carr' : Array Value} {ty : TypeId} (hob : H id = some ob) (hD : D id = some b) (hb : w.heap[b]? = some (.cells carr ty (0, 0))) (hid : id' = id ∨ (D id' = none ∧ fr ≤ id' ∧ id' < fr + 64 ∧ ob.gr = true))
    {w' : World} (hs : w'.heap.size = w.heap.size) (hsame : ∀ k, k ≠ b → w'.heap[k]? = w.heap[k]?) (hb' : w'.heap[b]? = some (.cells carr' ty (0, 0))) (hcs : carr'.size = carr.size) (hcc : ∀ o, o < ob.ro → carr'[o]? = carr[o]?) (h1 : w'.os = w.os) (h2 : w'.tape = w.tape) (h3 : w'.output = w.output)
    (hro : ob'.ro = ob.ro) (hro2 : ob'.ro ≤ ob'.cells.length) (hgr : ob'.gr = true → ob.gr = true) (hlen : ob'.cells.length ≤ carr'.size) (hc : ∀ (k : Nat) p, ob'.cells[k]? = some p → ∃ v, carr'[k]? = some v ∧ v.oneCell' = true ∧ Rep w (Mut D H F) D v p) :
    Step w D H F n0 m fr w' (fun j => if j = id' then some b else D j) (fun j => if j = id' then some ob' else if j = id then none else H j) := by
  have hblt : b < w.heap.size := (Array.getElem?_eq_some_iff.1 hb).1
  have hk : Keeps (MutO D H) w w' := ⟨h1, h2, h3, by omega, fun k hk => by
    by_cases e : k = b
    · subst e
      refine .inr ⟨carr, carr', ty, _, hb, hb', hcs, fun o ho => hcc o ?_⟩
      rcases Nat.lt_or_ge o ob.ro with hlt | hge
      · exact hlt
      · exact absurd ⟨id, ob, hob, hD, hge⟩ ho
    · exact .inl (hsame k e)⟩
  have hext : ∀ j c, D j = some c → (fun j => if j = id' then some b else D j) j = some c := fun j c h => by
    by_cases e : j = id'
    · subst e
      rcases hid with rfl | ⟨hn, _⟩
      · rw [hD] at h; simpa using h
      · rw [hn] at h; cases h
    · simp [e, h]
  have hsub : ∀ c o, c < w.heap.size → Mut (fun j => if j = id' then some b else D j) (fun j => if j = id' then some ob' else if j = id then none else H j) F c o → Mut D H F c o := by
    rintro c o hlt (h | ⟨j, ob2, e1, e2, e3⟩)
    · exact .inl h
    · by_cases e : j = id'
      · simp [e] at e1 e2
        subst e1 e2
        exact .inr ⟨id, ob, hob, hD, by omega⟩
      · simp only [if_neg e] at e1 e2
        by_cases e' : j = id
        · simp [e'] at e1
        · simp only [if_neg e'] at e1
          exact .inr ⟨j, ob2, e1, e2, e3⟩
  refine ⟨⟨S.fr, by have := S.le; omega, fun j c h => ?_, fun j ob2 h => ?_, ?_, fun j ob2 c o h hd => ?_⟩, hk, hext, hsub, fun j h hj => ?_⟩
  · by_cases e : j = id'
    · simp [e] at h
      subst h
      rcases hid with rfl | ⟨_, _, _, hg⟩
      · rw [e]; exact S.own _ _ hD
      · rcases (S.ok id ob hob).2 with ⟨_, en⟩ | ⟨b2, _, _, e1, _, _, e4, _⟩
        · rw [hD] at en; cases en
        · rw [hD] at e1
          injection e1 with e1
          subst e1
          exact .inr (e4 hg)
    · simp [e] at h; exact S.own j c h
  · by_cases e : j = id'
    · simp [e] at h
      subst h
      refine ⟨hro2, .inr ⟨b, carr', ty, by simp [e], hb', hlen, fun hg => ?_, fun k p hp => ?_⟩⟩
      · rcases (S.ok id ob hob).2 with ⟨_, en⟩ | ⟨b2, _, _, e1, _, _, e4, _⟩
        · rw [hD] at en; cases en
        · rw [hD] at e1
          injection e1 with e1
          subst e1
          exact e4 (hgr hg)
      · obtain ⟨v, e1, e2, e3⟩ := hc k p hp
        exact ⟨v, e1, e2, e3.mono hk (fun _ _ h => .inr h) hsub hext⟩
    · simp only [if_neg e] at h
      by_cases e' : j = id
      · simp [e'] at h
      · simp only [if_neg e'] at h
        obtain ⟨q1, q2⟩ := S.ok j ob2 h
        refine ⟨q1, ?_⟩
        rcases q2 with ⟨e1, e2⟩ | ⟨c, cc, t, e1, e2, e3, e4, e5⟩
        · exact .inl ⟨e1, by simp [e, e2]⟩
        · have hcb : c ≠ b := fun hcb => e' (S.inj j id ob2 ob b h hob (hcb ▸ e1) hD)
          refine .inr ⟨c, cc, t, by simp [e, e1], by rw [hsame c hcb]; exact e2, e3, e4, fun k p hp => ?_⟩
          obtain ⟨v, f1, f2, f3⟩ := e5 k p hp
          exact ⟨v, f1, f2, f3.mono hk (fun _ _ h => .inr h) hsub hext⟩
  · intro i j a c k hi hj di dj
    by_cases e : i = id' <;> by_cases e' : j = id'
    · rw [e, e']
    · simp [e] at di
      simp only [if_neg e'] at dj hj
      by_cases e2 : j = id
      · simp [e2] at hj
      · simp only [if_neg e2] at hj
        subst di
        exact absurd (S.inj j id c ob b hj hob dj hD) e2
    · simp [e'] at dj
      simp only [if_neg e] at di hi
      by_cases e2 : i = id
      · simp [e2] at hi
      · simp only [if_neg e2] at hi
        subst dj
        exact absurd (S.inj i id a ob b hi hob di hD) e2
    · simp only [if_neg e] at hi di
      simp only [if_neg e'] at hj dj
      by_cases e2 : i = id
      · simp [e2] at hi
      · by_cases e3 : j = id
        · simp [e3] at hj
        · simp only [if_neg e2] at hi
          simp only [if_neg e3] at hj
          exact S.inj i j a c k hi hj di dj
  · by_cases e : j = id'
    · simp [e] at hd
      subst hd
      exact S.dis id ob b o hob hD
    · simp only [if_neg e] at h hd
      by_cases e' : j = id
      · simp [e'] at h
      · simp only [if_neg e'] at h
        exact S.dis j ob2 c o h hd
  · rcases hid with rfl | ⟨_, g1, g2, _⟩
    · by_cases e : j = id'
      · subst e; rw [hD] at h; cases h
      · simp [e, h]
    · simp [show j ≠ id' by omega, h]
theorem Q7w (b : Nat) (t : TypeId) : ∀ (vs : List Value) (o : Nat) (w : World) (carr : Array Value), w.heap[b]? = some (.cells carr t (0, 0)) → o + vs.length ≤ carr.size →
    (w.setCells b o vs).heap.size = w.heap.size ∧ (w.setCells b o vs).os = w.os ∧ (w.setCells b o vs).tape = w.tape ∧ (w.setCells b o vs).output = w.output ∧ (∀ k, k ≠ b → (w.setCells b o vs).heap[k]? = w.heap[k]?) ∧
      ∃ carr', (w.setCells b o vs).heap[b]? = some (.cells carr' t (0, 0)) ∧ carr'.size = carr.size ∧ ∀ i : Nat, carr'[i]? = if o ≤ i ∧ i < o + vs.length then vs[i - o]? else carr[i]?
  | [], o, w, carr, hb, _ => ⟨rfl, rfl, rfl, rfl, fun _ _ => rfl, carr, hb, rfl, fun i => by rw [if_neg (fun h => by have := h.2; rw [List.length_nil] at this; omega)]⟩
  | v :: r, o, w, carr, hb, hle => by
    have hb1 : (w.setCell ⟨b, o, none⟩ v).heap[b]? = some (.cells (carr.setIfInBounds o v) t (0, 0)) := by
      simp [World.setCell, Array.getElem?_modify, hb]
    obtain ⟨a1, a2, a3, a4, a5, carr', a6, a7, a8⟩ := Q7w b t r (o + 1) (w.setCell ⟨b, o, none⟩ v) (carr.setIfInBounds o v) hb1 (by rw [Array.size_setIfInBounds]; rw [List.length_cons] at hle; omega)
    refine ⟨by rw [World.setCells, a1]; simp [World.setCell], a2, a3, a4, fun k hk => ?_, carr', a6, by rw [a7]; simp, fun i => ?_⟩
    · rw [World.setCells, a5 k hk]
      exact Below.heap_setCell w ⟨b, o, none⟩ v k hk
    · rw [a8 i, Array.getElem?_setIfInBounds]
      simp only [List.length_cons] at hle ⊢
      by_cases c1 : o + 1 ≤ i ∧ i < o + 1 + r.length
      · rw [if_pos c1, if_pos (by omega)]
        have : i - o = (i - (o + 1)) + 1 := by omega
        rw [this, List.getElem?_cons_succ]
      · rw [if_neg c1]
        by_cases c2 : o = i
        · subst c2
          rw [if_pos rfl, if_pos (by omega), if_pos (by omega)]
          simp
        · rw [if_neg c2, if_neg (by omega)]
end
end Go.Pv
end

section
/-
  Reading, storing, laying anew: the machine's run of each, and what becomes of the objects.
-/
namespace Go.Pv
open Go.RowKit
section
variable {P : Program} {w : World} {D : Nat → Option Nat} {H : Nat → Option Ob} {F : Nat → Nat → Prop} {n0 m fr : Nat} {a : Act} {e : Nat → PV}
def RepN (w : World) (M : Nat → Nat → Prop) (D : Nat → Option Nat) (xs : List Value) (c : List PV) : Prop :=
 xs.length = c.length ∧ ∀ (i : Nat) v p, xs[i]? = some v → c[i]? = some p → v.oneCell' = true ∧ Rep w M D v p
theorem RepN.ones {M : Nat → Nat → Prop} {xs : List Value} {c : List PV} (h : RepN w M D xs c) : ∀ u ∈ xs, u.oneCell' = true := by
 intro u hu
 obtain ⟨i, hi⟩ := List.getElem?_of_mem hu
 have hlt : i < c.length := by rw [← h.1]; exact (List.getElem?_eq_some_iff.1 hi).1
 exact (h.2 i u _ hi (List.getElem?_eq_getElem hlt)).1
theorem Q98 (S : Sim w D H F n0 m) {id b : Nat} {ob : Ob} (hob : H id = some ob) (hD : D id = some b) : ∃ carr t, w.heap[b]? = some (.cells carr t (0, 0)) ∧ ob.cells.length ≤ carr.size ∧ ob.ro ≤ ob.cells.length ∧
    ∀ (k : Nat) p, ob.cells[k]? = some p → ∃ v, carr[k]? = some v ∧ v.oneCell' = true ∧ Rep w (Mut D H F) D v p := by
  obtain ⟨h1, h2⟩ := S.ok id ob hob
  rcases h2 with ⟨_, e⟩ | ⟨b', carr, t, e1, e2, e3, _, e5⟩
  · rw [hD] at e; cases e
  · rw [hD] at e1
    injection e1 with e1
    subst e1
    exact ⟨carr, t, e2, e3, h1, e5⟩
theorem Qxw {carr : Array Value} {cells : List PV} {M : Nat → Nat → Prop} (hlen : cells.length ≤ carr.size) (h : ∀ (k : Nat) p, cells[k]? = some p → ∃ v, carr[k]? = some v ∧ v.oneCell' = true ∧ Rep w M D v p) {off n : Nat} (hle : off + n ≤ cells.length) :
    ∃ xs : List Value, RepN w M D xs ((cells.drop off).take n) ∧ xs.length = n ∧ ∀ (j : Nat) v, xs[j]? = some v → carr[off + j]? = some v := by
  refine ⟨((carr.toList.drop off).take n), ⟨?_, fun i v p hv hp => ?_⟩, ?_, fun j v hj => ?_⟩
  · simp only [List.length_take, List.length_drop, Array.length_toList]; omega
  · have hi : i < n := by have := (List.getElem?_eq_some_iff.1 hp).1; rw [List.length_take] at this; omega
    rw [List.getElem?_take, if_pos hi, List.getElem?_drop] at hv hp
    obtain ⟨u, e1, e2, e3⟩ := h _ p hp
    have : carr[off + i]? = some v := by simpa using hv
    rw [e1] at this
    injection this with this
    subst this
    exact ⟨e2, e3⟩
  · simp only [List.length_take, List.length_drop, Array.length_toList]; omega
  · have hi : j < n := by have := (List.getElem?_eq_some_iff.1 hj).1; rw [List.length_take] at this; omega
    rw [List.getElem?_take, if_pos hi, List.getElem?_drop] at hj
    simpa using hj
theorem Qon (S : Sim w D H F n0 m) {n : Nat} {p : PV} {c : List PV × List Nat} {v : Value} (h : reads H n p = some c) (hr : Rep w (Mut D H F) D v p) :
    ∃ b o xs, v = .pointer (some ⟨b, o, none⟩) ∧ xs.length = n ∧ w.rangeAt b o xs ∧ RepN w (Mut D H F) D xs c.1 := by
  unfold reads at h
  split at h
  · rename_i id off
    obtain ⟨ob, hob, h⟩ := bind_some h
    obtain ⟨hb, h⟩ := Q25 h
    injection h with h
    subst h
    obtain ⟨b, hD, hv⟩ := Q12s hr
    obtain ⟨carr, t, e1, e2, e3, e4⟩ := Q98 S hob hD
    obtain ⟨xs, h1, h2, h3⟩ := Qxw e2 e4 (Nat.le_of_ble_eq_true hb)
    exact ⟨b, off, xs, hv, h2, fun j u hu => cell_of.2 ⟨carr, t, _, e1, h3 j u hu⟩, h1⟩
  · rename_i cs
    obtain ⟨hb, h⟩ := Q25 h
    injection h with h
    subst h
    have hle := Nat.le_of_ble_eq_true hb
    cases v with
    | pointer A =>
      cases hr with
      | rf _ b o _ vs hcell hrep =>
        refine ⟨b, o, (List.range n).map vs, rfl, by simp, fun j u hu => ?_, ⟨by simp; omega, fun i u q hu hq => ?_⟩⟩
        · rw [List.getElem?_map] at hu
          obtain ⟨j', hj', rfl⟩ := Option.map_eq_some_iff.1 hu
          have hjn : j < n := by have := (List.getElem?_eq_some_iff.1 hj').1; simpa using this
          have : j' = j := by rw [List.getElem?_range hjn] at hj'; injection hj' with hj'; exact hj'.symm
          subst this
          exact (hcell j' _ (List.getElem?_eq_getElem (show j' < cs.length by omega))).2.1
        · rw [List.getElem?_map] at hu
          obtain ⟨j', hj', rfl⟩ := Option.map_eq_some_iff.1 hu
          have hjn : i < n := by have := (List.getElem?_eq_some_iff.1 hj').1; simpa using this
          have : j' = i := by rw [List.getElem?_range hjn] at hj'; injection hj' with hj'; exact hj'.symm
          subst this
          rw [List.getElem?_take, if_pos hjn] at hq
          exact ⟨(hcell j' q hq).2.2, (hrep j' q hq).to (fun _ _ _ h => h) (fun _ _ h => by cases h)⟩
    | _ => cases hr
  · cases h
theorem Q19m (S : Sim w D H F n0 m) (he : Qbx w (Mut D H F) D a e) {o : Oper} {t : TypeId} {x : Operand} {y : Opd} {n : Nat} {ag : Bool} (ho : o.op = .load t x) (ht : tyOK P t n ag = true) (hx : Q46 x y = true) {f : Eff} (h : Qee H n ag (y.ev e) = some f) :
  ∃ v, (execOp a.eval o).run P w = .ok (.value v) w ∧ Rep w (Mut D H F) D v f.v ∧ f.hw = [] := by
 unfold Qee at h
 obtain ⟨c, hc, h⟩ := bind_some h
 obtain ⟨q, hq, h⟩ := bind_some h
 injection h with h
 subst h
 obtain ⟨b, off, xs, hv, hl, hra, hrn⟩ := Qon S hc (Q23 he hx)
 obtain ⟨ha, hn, h1⟩ := Q9i ht
 simp only [execOp, ho, hv]
 cases ag with
 | true =>
  obtain ⟨fs, hu⟩ := Qv6 ha
  simp only [shape, cond_true, Option.some.injEq] at hq
  subst hq
  refine ⟨.agg xs.toArray, ?_, .agg _ _ _ (by simpa using hrn.1) (fun i v p hv hp => (hrn.2 i v p (by simpa using hv) hp).1) (fun i v p hv hp => (hrn.2 i v p (by simpa using hv) hp).2), by first | rfl | trivial⟩
  obtain ⟨i, hi, his⟩ := Qav hn
  have := run_loadAt_mid (P := P) w b off t xs _ hra hu rfl (by rw [hi]; simp [his, hl])
  simp [this]
 | false =>
  have hn1 : n = 1 := h1 rfl
  subst hn1
  cases xs with
  | nil => simp at hl
  | cons u r =>
   have hr0 : r = [] := by cases r with | nil => rfl | cons _ _ => simp at hl
   subst hr0
   obtain ⟨c1, c2⟩ := c
   cases c1 with
   | nil => have := hrn.1; simp at this
   | cons p r =>
    have : r = [] := by cases r with | nil => rfl | cons _ _ => have := hrn.1; simp at this
    subst this
    simp only [shape, cond_false, Option.some.injEq] at hq
    subst hq
    have hcell := hra 0 u rfl
    simp only [Nat.add_zero] at hcell
    refine ⟨u, ?_, (hrn.2 0 u p rfl rfl).2, by first | rfl | trivial⟩
    simp [Instr.loadAt, Instr.sureAddr, loadVar, Q8c ha, hcell]
theorem Q146 (S : Sim w D H F n0 m) (he : Qbx w (Mut D H F) D a e) {o : Oper} {t : TypeId} {x z : Operand} {y u : Opd} {n : Nat} (ho : o.op = .store t x z) (ht : Qxx (szOf P t) n = true) (hx : Q46 x y = true) (hz : Q46 z u = true) {f : Eff} (h : Qci H n (y.ev e) (u.ev e) = some f) :
    ∃ w', (execOp a.eval o).run P w = .ok .skip w' ∧ Step w D H F n0 m fr w' D (upH H f.hw) ∧ f.v = .un := by
  unfold Qci at h
  split at h
  · rename_i id off hid
    obtain ⟨ob, hob, h⟩ := bind_some h
    obtain ⟨hb, h⟩ := Q25 h
    injection h with h
    subst h
    simp only [Bool.and_eq_true] at hb
    have hl := Nat.eq_of_beq_eq_true hb.1.1.1
    have hfit := hb.1.1.2
    have hro := Nat.le_of_ble_eq_true hb.1.2
    have hle := Nat.le_of_ble_eq_true hb.2
    have rx := Q23 he hx
    rw [hid] at rx
    obtain ⟨b, hD, hv⟩ := Q12s rx
    obtain ⟨carr, ty, e1, e2, e3, e4⟩ := Q98 S hob hD
    have hc := Q9q (Q23 he hz) hfit
    generalize hzv : a.eval z = zv at *
    generalize hcs : (u.ev e).cs = cs at *
    subst hl
    have hzl : zv.cells.toList.length = cs.length := by simpa using hc.1
    have hone : ∀ v ∈ zv.cells.toList, v.oneCell' = true := by
      intro v hv
      obtain ⟨i, hi⟩ := List.getElem?_of_mem hv
      have hlt : i < cs.length := by rw [← hzl]; exact (List.getElem?_eq_some_iff.1 hi).1
      exact (hc.2 i v _ (by simpa using hi) (List.getElem?_eq_getElem hlt)).1
    have hst := run_storeCells_cells (P := P) b off zv.cells.toList 0 w (fun j hj => by
        have : off + 0 + j < carr.size := by omega
        rw [cell_of.2 ⟨carr, ty, _, e1, Array.getElem?_eq_getElem this⟩]; rfl) (fun j hj => by simp [World.frozen?, e1]) hone
    simp only [Nat.add_zero] at hst
    obtain ⟨a1, a2, a3, a4, a5, carr', a6, a7, a8⟩ := Q7w b ty zv.cells.toList off w carr e1 (by omega)
    refine ⟨w.setCells b off zv.cells.toList, ?_, ?_, rfl⟩
    · have hsz : zv.cells.size = cs.length := by simpa using hzl
      simp [execOp, ho, hv, hzv, Instr.storeAt, Instr.sureAddr, storeVar, run_sizeOf (Q6w ht), hsz, hst]
    · have := Qyg (fr := fr) (id' := id) (ob' := ⟨ob.sz, ob.ro, ob.gr, ob.cells.take off ++ (cs ++ ob.cells.drop (off + cs.length))⟩) S hob hD e1 (.inl rfl) a1 a5 a6 a7 (fun k hk => by rw [a8 k, if_neg (by omega)]) a2 a3 a4 rfl
        (by simp only [List.length_append, List.length_take, List.length_drop]; omega) (fun h => h) (by simp only [List.length_append, List.length_take, List.length_drop]; omega) (fun k p hp => by
          simp only at hp
          rw [a8 k, hzl]
          by_cases c1 : k < off
          · rw [if_neg (by omega)]
            rw [List.getElem?_append_left (by rw [List.length_take]; omega), List.getElem?_take, if_pos c1] at hp
            exact e4 k p hp
          · rw [List.getElem?_append_right (by rw [List.length_take]; omega), List.length_take, Nat.min_eq_left (by omega)] at hp
            by_cases c2 : k - off < cs.length
            · rw [if_pos (by omega)]
              rw [List.getElem?_append_left c2] at hp
              have hlt : k - off < zv.cells.toList.length := by omega
              have h0 := hc.2 (k - off) _ p (by rw [← Array.getElem?_toList]; exact List.getElem?_eq_getElem hlt) hp
              exact ⟨_, List.getElem?_eq_getElem hlt, h0.1, h0.2⟩
            · rw [if_neg (by omega)]
              rw [List.getElem?_append_right (by omega), List.getElem?_drop] at hp
              exact e4 k p (by rw [← hp]; congr 1; omega))
      have hDe : (fun j => if j = id then some b else D j) = D := by
        funext j
        by_cases e : j = id
        · rw [if_pos e, e, hD]
        · rw [if_neg e]
      have hHe : (fun j => if j = id then some (⟨ob.sz, ob.ro, ob.gr, ob.cells.take off ++ (cs ++ ob.cells.drop (off + cs.length))⟩ : Ob) else if j = id then none else H j) = upH H [(id, some ⟨ob.sz, ob.ro, ob.gr, ob.cells.take off ++ (cs ++ ob.cells.drop (off + cs.length))⟩)] := by
        funext j
        by_cases e : j = id <;> simp [upH, e]
      rw [hDe, hHe] at this
      exact this
  · cases h
end
end Go.Pv
end

section
/-
  What is made anew, appended, cleared.
-/
namespace Go.Pv
open Go.RowKit
section
variable {P : Program} {w : World} {D : Nat → Option Nat} {H : Nat → Option Ob} {F : Nat → Nat → Prop} {n0 m fr : Nat} {a : Act} {e : Nat → PV}
def Qux : List (Nat × Operand) → List (Nat × Opd) → Bool
 | [], [] => true
 | (i, x) :: r, (j, y) :: r' => Nat.beq i j && Q46 x y && Qux r r'
 | _, _ => false
def Q1j6 (P : Program) (t : TypeId) (sz : Nat) (z : List PV) : Bool :=
 match Q8f P t with
 | some e => Qxx (szOf P e) sz && Qpc P e z && Nat.beq z.length sz
 | none => false
def Q1kc (P : Program) (t : TypeId) (bytes : Nat) : Bool :=
 match Q8f P t with
 | some e => (match P.info? e with | some i => Nat.beq i.bytes bytes && Nat.ble 1 bytes && (match i.zero with | some z => Nat.beq z.cells.size i.size | none => false) | none => false)
 | none => false
def Q1z2 (P : Program) (sz bytes : Nat) (y z : Opd) : List Operand → List TypeId → Bool
 | [x, u], [t, t'] => esz P t sz && Q1kc P t bytes && (Q8f P t').isSome && Q46 x y && Q46 u z
 | _, _ => false
def Q1z7 (P : Program) (sz : Nat) (z : List PV) (y : Opd) : List Operand → List TypeId → Bool
 | [x], [t] => Q1j6 P t sz z && Q46 x y
 | _, _ => false
def chkH (P : Program) (op : Op) : IOp → Bool
 | .box _ y => (match op with | .box _ x => Q46 x y | _ => false)
 | .zero z => (match op with | .alloc t => Qpc P t z | _ => false)
 | .lit sz n z ps' => (match op with | .buildSlice t len ps => Nat.beq len n && Nat.ble (n * sz) (2 ^ 24) && Nat.ble 1 sz && Q1j6 P t sz z && Qux ps.toList ps' | _ => false)
 | .mks sz bytes z y => (match op with | .makeSlice t l c => Q1j6 P t sz z && Q1kc P t bytes && Nat.ble 1 bytes && Q46 l y && Q46 c y | _ => false)
 | .load n ag y => (match op with | .load t x => tyOK P t n ag && Q46 x y | _ => false)
 | .store n y u => (match op with | .store t x z => Qxx (szOf P t) n && Q46 x y && Q46 z u | _ => false)
 | .append sz bytes y z => (match op with | .call c => isB c .append && Q1z2 P sz bytes y z c.args.toList c.argTypes.toList | _ => false)
 | .clear sz z y => (match op with | .call c => isB c .clear && Q1z7 P sz z y c.args.toList c.argTypes.toList | _ => false)
 | _ => false
theorem Q1i4 (z : List PV) : ∀ (n i : Nat), 0 < z.length → (rep z n)[i]? = if i < n * z.length then z[i % z.length]? else none
  | 0, i, _ => by simp [rep]
  | n + 1, i, hz => by
    rw [rep]
    by_cases c1 : i < z.length
    · rw [List.getElem?_append_left c1, if_pos (by rw [Nat.add_mul]; omega), Nat.mod_eq_of_lt c1]
    · rw [List.getElem?_append_right (by omega), Q1i4 z n (i - z.length) hz]
      have e1 : (i - z.length) % z.length = i % z.length := by rw [← Nat.mod_eq_sub_mod (by omega)]
      rw [e1, Nat.add_mul]
      by_cases c2 : i - z.length < n * z.length
      · rw [if_pos c2, if_pos (by omega)]
      · rw [if_neg c2, if_neg (by omega)]
theorem Q9d (z : List PV) : ∀ n, (rep z n).length = n * z.length
 | 0 => by simp [rep]
 | n + 1 => by rw [rep, List.length_append, Q9d z n, Nat.add_mul]; omega
theorem Qf5 {M : Nat → Nat → Prop} {v : Value} {z : List PV} {sz : Nat} (hz : RepC w M D v.cells z) (hl : z.length = sz) (n : Nat) : RepC w M D (madeCells v.cells (n * sz)) (rep z n) := by
  have hs : v.cells.size = sz := by rw [hz.1, hl]
  refine ⟨by rw [size_madeCells, Q9d, hl], fun i u p hu hp => ?_⟩
  have hi : i < n * sz := by have := (List.getElem?_eq_some_iff.1 hp).1; rw [Q9d, hl] at this; exact this
  have hsz : 0 < sz := by
    rcases Nat.eq_zero_or_pos sz with h | h
    · rw [h] at hi; omega
    · exact h
  rw [Q1i4 z n i (by omega), hl, if_pos hi] at hp
  refine hz.2 (i % sz) u p ?_ hp
  rw [madeCells, Array.getElem?_map, Array.getElem?_range, if_pos hi] at hu
  simp only [Option.map_some, Option.some.injEq, hs] at hu
  have hlt : i % sz < v.cells.size := by rw [hs]; exact Nat.mod_lt _ hsz
  rw [← hu, Array.getElem?_eq_getElem hlt]
  congr 1
  exact (getElem!_pos v.cells (i % sz) hlt).symm
theorem Qfl : ∀ (z : List PV) (ps : List (Nat × Nat × PV)) (c : List PV), Qf2 z ps = some c → c.length = z.length
 | z, [], c, h => by simp [Qf2] at h; rw [h]
 | z, (off, n, p) :: r, c, h => by
  simp only [Qf2] at h
  obtain ⟨hb, h⟩ := Q25 h
  simp only [Bool.and_eq_true] at hb
  have hl := Nat.eq_of_beq_eq_true hb.1.1
  have hle := Nat.le_of_ble_eq_true hb.1.2
  rw [Qfl _ r c h]
  simp only [List.length_append, List.length_take, List.length_drop]
  omega
theorem Qfg {t : TypeId} {sz : Nat} {z : List PV} (h : Q1j6 P t sz z = true) : ∃ el, P.underlying t = some (.slice el) ∧ szOf P el = some sz ∧ Qpc P el z = true ∧ z.length = sz := by
  unfold Q1j6 at h
  split at h
  · rename_i el he
    simp only [Bool.and_eq_true] at h
    exact ⟨el, Q5n he, Q6w h.1.1, h.1.2, Nat.eq_of_beq_eq_true h.2⟩
  · cases h
theorem Qun {t el : TypeId} {bytes : Nat} (h : Q1kc P t bytes = true) (hu : P.underlying t = some (.slice el)) : ∃ i z, P.info? el = some i ∧ i.bytes = bytes ∧ i.zero = some z ∧ z.cells.size = i.size ∧ 1 ≤ bytes := by
  unfold Q1kc at h
  split at h
  · rename_i el' he
    have := Q5n he
    rw [hu] at this
    injection this with this
    injection this with this
    subst this
    split at h
    · rename_i i hi
      rw [Bool.and_eq_true, Bool.and_eq_true] at h
      obtain ⟨⟨h1, h3⟩, h2⟩ := h
      split at h2
      · rename_i z hz
        exact ⟨i, z, hi, Nat.eq_of_beq_eq_true h1, hz, Nat.eq_of_beq_eq_true h2, Nat.le_of_ble_eq_true h3⟩
      · cases h2
    · cases h
  · cases h
theorem Q112 {sz : Nat} (he : Qbx w (Mut D H F) D a e) : ∀ (ps : List (Nat × Operand)) (ps' : List (Nat × Opd)) (cells : Array Value) (z c : List PV), Qux ps ps' = true → RepC w (Mut D H F) D cells z → Qf2 z (Qe2 e sz ps') = some c →
   ∃ xs, Instr.fill (fun i => some (i * sz, sz)) cells (ps.map fun x => (x.1, a.eval x.2)) = some xs ∧ RepC w (Mut D H F) D xs c
 | [], [], cells, z, c, _, hz, h => by
  simp [Qe2, Qf2] at h
  subst h
  exact ⟨cells, rfl, hz⟩
 | [], _ :: _, _, _, _, h, _, _ => by simp [Qux] at h
 | _ :: _, [], _, _, _, h, _, _ => by simp [Qux] at h
 | (i, x) :: r, (j, y) :: r', cells, z, c, hc, hz, h => by
  simp only [Qux, Bool.and_eq_true] at hc
  obtain ⟨⟨h0, h1⟩, h2⟩ := hc
  obtain rfl := Nat.eq_of_beq_eq_true h0
  simp only [Qe2, Qf2] at h
  obtain ⟨hb, h⟩ := Q25 h
  simp only [Bool.and_eq_true] at hb
  have hl := Nat.eq_of_beq_eq_true hb.1.1
  have hle := Nat.le_of_ble_eq_true hb.1.2
  have hv := Q9q (Q23 he h1) hb.2
  obtain ⟨xs, hx, hr⟩ := Q112 he r r' _ _ c h2 (Q11b hz hv (by rw [hl]; exact hle)) (by rw [hl]; exact h)
  refine ⟨xs, ?_, hr⟩
  simp only [List.map_cons, Instr.fill]
  rw [if_neg (by have := hv.1; have := hz.1; simp; omega)]
  exact hx
theorem Q1hr (S : Sim w D H F n0 m) (hfr : D fr = none) (he : Qbx w (Mut D H F) D a e) {o : Oper} {io : IOp} {y : PV × Ob} (hc : chkH P o.op io = true) (h : opA e fr io = some y) :
    ∃ v w' D', (execOp a.eval o).run P w = .ok (.value v) w' ∧ Step w D H F n0 m fr w' D' (upH H [(fr, some y.2)]) ∧ Rep w' (Mut D' (upH H [(fr, some y.2)]) F) D' v y.1 := by
  obtain ⟨dst, op, type, pos, after, guard⟩ := o
  simp only at hc
  have mk : ∀ (arr : Array Value) (ty : TypeId) (ob : Ob), ob.ro = 0 → RepC w (Mut D H F) D arr ob.cells → Step w D H F n0 m fr (w.alloc (.cells arr ty)) (fun id => if id = fr then some w.heap.size else D id) (upH H [(fr, some ob)]) := by
    intro arr ty ob hro hr
    exact Q18z S hfr (w' := w.alloc (.cells arr ty)) rfl rfl rfl rfl (by omega) (by rw [hr.1]; exact Nat.le_refl _) (fun k p hp => by
      have hlt : k < arr.size := by rw [hr.1]; exact (List.getElem?_eq_some_iff.1 hp).1
      have := hr.2 k _ p (Array.getElem?_eq_getElem hlt) hp
      exact ⟨_, Array.getElem?_eq_getElem hlt, this.1, this.2⟩) (fun _ _ h => h)
  have msr : ∀ (arr : Array Value) (ty : TypeId) (ob : Ob) (n sz : Nat), arr.size = n * sz → n ≤ maxLen → Rep (w.alloc (.cells arr ty)) (Mut (fun id => if id = fr then some w.heap.size else D id) (upH H [(fr, some ob)]) F) (fun id => if id = fr then some w.heap.size else D id) (.slice (some ⟨w.heap.size, 0, none⟩) n n) (.ms fr sz 0 n) := by
    intro arr ty ob n sz hs hm
    refine .ms _ _ n n fr sz 0 (Nat.le_refl _) hm (.inr ⟨w.heap.size, n * sz, by simp, by simp, ?_, by simp⟩)
    unfold bsize
    have : (w.alloc (.cells arr ty)).heap[w.heap.size]? = some (.cells arr ty (0, 0)) := by
      show (w.heap.push _)[w.heap.size]? = _
      rw [Array.getElem?_push, if_pos rfl]
    rw [this, ← hs]
  cases io with
  | box n y' =>
    cases op <;> simp [chkH] at hc
    rename_i t x
    simp only [opA] at h
    obtain ⟨hb, h⟩ := Q25 h
    injection h with h
    subst h
    rw [Bool.and_eq_true] at hb
    have hr := Q9q (Q23 he hc) hb.2
    exact ⟨_, _, _, by simp [execOp, Instr.box, newVar, newRow], mk _ t _ rfl hr, .bx _ w.heap.size fr 0 (by simp)⟩
  | zero z =>
    cases op <;> simp [chkH] at hc
    rename_i t
    simp only [opA, Option.some.injEq] at h
    subst h
    obtain ⟨v, hv, hz⟩ := Q84 (w := w) (M := Mut D H F) (D := D) hc
    exact ⟨_, _, _, by simp [execOp, Instr.alloc, hv, newVar, newRow], mk _ t _ rfl hz, .bx _ w.heap.size fr 0 (by simp)⟩
  | lit sz n z ps' =>
    cases op <;> simp [chkH] at hc
    rename_i t len ps
    obtain ⟨⟨⟨⟨hn, hle⟩, hsz1⟩, hz⟩, hp⟩ := hc
    subst hn
    obtain ⟨el, hu, hsz, hz, hzl⟩ := Qfg hz
    obtain ⟨v, hv, hzr⟩ := Q84 (w := w) (M := Mut D H F) (D := D) hz
    simp only [opA] at h
    obtain ⟨c, hcc, h⟩ := bind_some h
    injection h with h
    subst h
    have hmade := Qf5 hzr hzl len
    obtain ⟨xs, hx, hr⟩ := Q112 he ps.toList ps' _ _ c hp hmade hcc
    have hx' : Instr.fill (fun i => some (i * sz, sz)) (madeCells v.cells (len * sz)) (ps.map fun x => (x.1, a.eval x.2)).toList = some xs := by rw [← hx]; simp
    have hcl : c.length = len * sz := by
      have h1 := Qfl _ _ _ hcc
      rw [h1, Q9d, hzl]
    refine ⟨_, _, _, ?_, mk xs el _ rfl hr, msr xs el _ len sz (by rw [hr.1, hcl]) ?_⟩
    · have hle' : ¬ (2 ^ 24 < len * sz) := by omega
      by_cases h0 : len * sz = 0
      · have hm0 : madeCells v.cells (len * sz) = (Array.range (len * sz)).map (fun i => (#[] : Array Value)[i % (#[] : Array Value).size]!) := by rw [h0]; simp [madeCells]
        rw [hm0] at hx'
        simp only [execOp, Instr.buildSlice, Sem.run_bind, run_underlying hu, run_sizeOf hsz, Result.andThen_ok, if_neg hle', if_pos h0, Sem.run_pure, hx']
        simp [newRow]
      · unfold madeCells at hx'
        simp only [execOp, Instr.buildSlice, Sem.run_bind, run_underlying hu, run_sizeOf hsz, Result.andThen_ok, if_neg hle', if_neg h0, hv, Sem.run_pure, hx']
        simp [newRow]
    · have h1 : len * 1 ≤ len * sz := Nat.mul_le_mul_left _ hsz1
      unfold maxLen
      omega
  | mks sz bytes z y' =>
    cases op <;> simp [chkH] at hc
    rename_i t l c
    obtain ⟨⟨⟨⟨hz, hbt⟩, hb1⟩, hl⟩, hcp⟩ := hc
    obtain ⟨el, hu, hsz, hz, hzl⟩ := Qfg hz
    obtain ⟨v, hv, hzr⟩ := Q84 (w := w) (M := Mut D H F) (D := D) hz
    obtain ⟨i, zv, hi, hib, hiz, _⟩ := Qun hbt hu
    simp only [opA] at h
    have rl := Q23 he hl
    have rc := Q23 he hcp
    split at h
    · rename_i k n hn
      obtain ⟨hb, h⟩ := Q25 h
      injection h with h
      subst h
      rw [Bool.and_eq_true] at hb
      have h0 := of_decide_eq_true hb.1
      have h47 := of_decide_eq_true hb.2
      rw [hn] at rl rc
      have vl := Q68 rl
      have vc := Q68 rc
      have hzv : v = zv := by
        have := hv w
        simp [zeroValue, typeInfo, hi, hiz] at this
        exact this.symm
      subst hzv
      have hisz : i.size = sz := by
        obtain ⟨i', hi', h⟩ := Qav hsz
        rw [hi] at hi'
        injection hi' with hi'
        rw [hi']; exact h
      have hmul : n * 1 ≤ n * (bytes : Int) := Int.mul_le_mul_of_nonneg_left (by omega) h0
      have run := run_make (P := P) w t el i v hu hi hiz k k n n h0 (Int.le_refl _) (by rw [hib, Int.mul_comm]; omega) (by omega)
      rw [hisz] at run
      have hmade := Qf5 hzr hzl n.toNat
      refine ⟨_, _, _, ?_, mk (madeCells v.cells (n.toNat * sz)) el ⟨sz, 0, true, rep z n.toNat⟩ rfl hmade, msr _ el _ n.toNat sz (size_madeCells _ _) (by unfold maxLen; omega)⟩
      simp only [execOp, vl, vc, Sem.run_bind, run]
      rfl
    · cases h
  | _ => simp [opA] at h
end
end Go.Pv
end

section
/-
  append and clear.
-/
namespace Go.Pv
open Go.RowKit
section
variable {P : Program} {w : World} {D : Nat → Option Nat} {H : Nat → Option Ob} {F : Nat → Nat → Prop} {n0 m fr : Nat} {a : Act} {e : Nat → PV}
theorem Qnv {sz : Nat} : ∀ (l : List (List PV)), (∀ r ∈ l, r.length = sz) → l.flatten.length = l.length * sz ∧ ∀ (k : Nat) p, l.flatten[k]? = some p → ∃ r, l[k / sz]? = some r ∧ r[k % sz]? = some p ∧ 0 < sz
  | [], _ => ⟨by simp, fun k p h => by simp at h⟩
  | r :: l, h => by
    have hr := h r List.mem_cons_self
    obtain ⟨h1, h2⟩ := Qnv l (fun x hx => h x (List.mem_cons_of_mem _ hx))
    refine ⟨by simp [h1, hr, Nat.add_mul]; omega, fun k p hk => ?_⟩
    rw [List.flatten_cons] at hk
    by_cases c1 : k < r.length
    · rw [List.getElem?_append_left c1] at hk
      refine ⟨r, ?_, ?_, by omega⟩
      · rw [Nat.div_eq_of_lt (by omega)]; rfl
      · rw [Nat.mod_eq_of_lt (by omega)]; exact hk
    · rw [List.getElem?_append_right (by omega)] at hk
      obtain ⟨r', e1, e2, e3⟩ := h2 _ p hk
      refine ⟨r', ?_, ?_, e3⟩
      · have : k / sz = (k - r.length) / sz + 1 := by rw [hr, Nat.div_eq_sub_div e3 (by omega)]
        rw [this]
        simpa using e1
      · have : k % sz = (k - r.length) % sz := by rw [hr, Nat.mod_eq_sub_mod (by omega)]
        rw [this]
        exact e2
theorem Q133 (S : Sim w D H F n0 m) {sz n : Nat} {p : PV} {news : List PV} {hr : List Nat} {v : Value} {tx e' : TypeId} (hk : P.underlying tx = some (.slice e')) (h : source H sz p = some (n, news, hr)) (hrep : Rep w (Mut D H F) D v p) :
    ∃ vals, Src P sz tx v n vals w ∧ RepN w (Mut D H F) D vals news := by
  have empty : ∀ (A : Option Addr) (c : Nat), Src P sz tx (.slice A 0 c) 0 [] w := by
    intro A c
    cases A with
    | none => exact Src.ofNil w hk c
    | some ad => exact Src.ofSlice w hk ad 0 c [] (by simp) (fun j u h => by simp at h) (fun u h => by simp at h)
  unfold source at h
  split at h
  · rename_i l
    obtain ⟨hb, h⟩ := Q25 h
    simp only [Option.some.injEq, Prod.mk.injEq] at h
    obtain ⟨rfl, rfl, rfl⟩ := h
    obtain ⟨A, c, sz0, b, o, vs, rfl, hc1, hm1, hr1, hA, hcell, hrep2⟩ := Q12t hrep
    rcases Nat.eq_zero_or_pos l.length with h0 | h0
    · have : l = [] := List.eq_nil_of_length_eq_zero h0
      subst this
      exact ⟨[], empty A c, rfl, fun i v p h => by simp at h⟩
    · have hA' := hA h0
      subst hA'
      have hsz : ∀ r ∈ l, r.length = sz := by
        intro r hr
        unfold Q8b at hb
        rw [List.all_eq_true] at hb
        exact Nat.eq_of_beq_eq_true (hb r hr)
      have hsz0 : sz0 = sz := by rw [← hr1 _ (List.getElem_mem h0), hsz _ (List.getElem_mem h0)]
      subst hsz0
      obtain ⟨f1, f2⟩ := Qnv l hr1
      refine ⟨(List.range (l.length * sz0)).map (fun k => vs (k / sz0) (k % sz0)), Src.ofSlice w hk ⟨b, o, none⟩ l.length c _ (by simp) (fun j u hu => ?_) (fun u hu => ?_), ⟨by simp [f1], fun i u p hu hp => ?_⟩⟩
      · rw [List.getElem?_map] at hu
        obtain ⟨k, hk', rfl⟩ := Option.map_eq_some_iff.1 hu
        have hjn : j < l.length * sz0 := by have := (List.getElem?_eq_some_iff.1 hk').1; simpa using this
        have : k = j := by rw [List.getElem?_range hjn] at hk'; injection hk' with hk'; exact hk'.symm
        subst this
        obtain ⟨r, e1, e2, e3⟩ := f2 k _ (List.getElem?_eq_getElem (show k < l.flatten.length by omega))
        have := (hcell _ r e1 _ _ e2).2.1
        rw [Qag]
        have e4 : o + k / sz0 * sz0 + k % sz0 = o + k := by have := Nat.div_add_mod k sz0; rw [Nat.mul_comm] at this; omega
        rw [e4] at this
        exact this
      · obtain ⟨k, hk', rfl⟩ := List.mem_map.1 hu
        have hkn : k < l.length * sz0 := by simpa using hk'
        obtain ⟨r, e1, e2, e3⟩ := f2 k _ (List.getElem?_eq_getElem (show k < l.flatten.length by omega))
        exact (hcell _ r e1 _ _ e2).2.2
      · rw [List.getElem?_map] at hu
        obtain ⟨k, hk', rfl⟩ := Option.map_eq_some_iff.1 hu
        have hjn : i < l.length * sz0 := by have := (List.getElem?_eq_some_iff.1 hk').1; simpa using this
        have : k = i := by rw [List.getElem?_range hjn] at hk'; injection hk' with hk'; exact hk'.symm
        subst this
        obtain ⟨r, e1, e2, e3⟩ := f2 k p hp
        exact ⟨(hcell _ r e1 _ _ e2).2.2, (hrep2 _ r e1 _ _ e2).to (fun _ _ _ h => h) (fun _ _ h => by cases h)⟩
  · simp only [Option.some.injEq, Prod.mk.injEq] at h
    obtain ⟨rfl, rfl, rfl⟩ := h
    obtain ⟨A, rfl⟩ := Qv5 hrep
    exact ⟨[], empty A 0, rfl, fun i v p h => by simp at h⟩
  · rename_i id sz' off len
    obtain ⟨ob, hob, h⟩ := bind_some h
    obtain ⟨hb, h⟩ := Q25 h
    simp only [Option.some.injEq, Prod.mk.injEq] at h
    obtain ⟨rfl, rfl, rfl⟩ := h
    simp only [Bool.and_eq_true] at hb
    obtain rfl := Nat.eq_of_beq_eq_true hb.1.1
    have hle := Nat.le_of_ble_eq_true hb.2
    obtain ⟨A, c, rfl, hc1, hm1, hd⟩ := Qfp hrep
    rcases hd with ⟨h1, h2⟩ | ⟨b, nb, h1, rfl, h3, h4⟩
    · subst h2
      exact ⟨[], empty A c, by simp [RepN]⟩
    · obtain ⟨carr, t, e1, e2, e3, e4⟩ := Q98 S hob h1
      obtain ⟨xs, q1, q2, q3⟩ := Qxw (off := off * sz') (n := len * sz') e2 e4 (by rw [← Nat.add_mul]; exact hle)
      refine ⟨xs, Src.ofSlice w hk _ len c xs q2 (fun j u hu => ?_) q1.ones, q1⟩
      rw [Qag]
      exact cell_of.2 ⟨carr, t, _, e1, q3 j u hu⟩
  · cases h
theorem Q1k9 {ob : Ob} {k : Nat} {c : List PV} (hro : ob.ro ≤ ob.cells.length) (h : apC ob k = some c) : c = ob.cells.take k ∧ k ≤ ob.cells.length ∧ ob.ro ≤ k := by
 unfold apC at h
 cases c1 : Nat.beq ob.cells.length k with
 | true =>
  rw [c1] at h
  have := Nat.eq_of_beq_eq_true c1
  simp only [cond_true, Option.some.injEq] at h
  subst h this
  exact ⟨by rw [List.take_length], Nat.le_refl _, hro⟩
 | false =>
  rw [c1, cond_false] at h
  obtain ⟨c2, h⟩ := Q25 h
  rw [Bool.and_eq_true] at c2
  simp only [Option.some.injEq] at h
  exact ⟨h.symm, Nat.le_of_ble_eq_true c2.1, Nat.le_of_ble_eq_true c2.2⟩
theorem Q10t (S : Sim w D H F n0 m) (hfr : D fr = none) (he : Qbx w (Mut D H F) D a e) {o : Oper} {sz bytes : Nat} {y z : Opd} (hc : chkH P o.op (.append sz bytes y z) = true) {f : Eff} (h : Q4q H fr sz bytes (y.ev e) (z.ev e) = some f) :
    ∃ v w' D', (execOp a.eval o).run P w = .ok (.value v) w' ∧ Step w D H F n0 m fr w' D' (upH H f.hw) ∧ Rep w' (Mut D' (upH H f.hw) F) D' v f.v := by
  obtain ⟨dst, op, type, pos, after, guard⟩ := o
  cases op <;> simp [chkH] at hc
  rename_i c
  obtain ⟨hb, hc⟩ := hc
  have hb := Qjc hb
  unfold Q1z2 at hc
  split at hc
  · rename_i x u t t' hargs hty
    simp only [Bool.and_eq_true] at hc
    obtain ⟨⟨⟨⟨hsz, hby⟩, ht'⟩, hx⟩, hu⟩ := hc
    obtain ⟨el, hul, hsz⟩ := Qxi hsz
    obtain ⟨i, zv, hi, hib, hiz, hzs, hb1⟩ := Qun hby hul
    obtain ⟨el', hel'⟩ := Option.isSome_iff_exists.1 ht'
    have hu' := Q5n hel'
    have hisz : i.size = sz := by
      obtain ⟨i', hi', h⟩ := Qav hsz
      rw [hi] at hi'
      injection hi' with hi'
      rw [hi']; exact h
    obtain ⟨cs, hcs⟩ := Qa4 c type .append hb a.eval
    have ha : c.args = #[x, u] := Array.ext' (by simpa using hargs)
    have hat : c.argTypes = #[t, t'] := Array.ext' (by simpa using hty)
    have hx' : (execOp a.eval ⟨dst, .call c, type, pos, after, guard⟩) = (do pure (.value (← Builtin.append_ #[t, t'] type #[a.eval x, a.eval u])) : Sem Next) := by
      simp only [execOp]
      rw [hcs]
      simp only [builtin]
      rw [ha, hat, show (#[x, u] : Array Operand).map a.eval = #[a.eval x, a.eval u] by simp]
    unfold Q4q at h
    obtain ⟨s, hs, h⟩ := bind_some h
    obtain ⟨n, news, hr⟩ := s
    obtain ⟨vals, hsrc, hvals⟩ := Q133 (P := P) (tx := t') S hu' hs (Q23 he hu)
    have hsrc' : Src P i.size t' (a.eval u) n vals w := by rw [hisz]; exact hsrc
    have rx := Q23 he hx
    have hnl : news.length = n * sz := by rw [← hvals.1]; exact hsrc.newsLen
    -- a new row
    have grow : ∀ (A : Option Addr) (len cap : Nat) (olds : List Value) (oldP : List PV) (ro : Nat), a.eval x = .slice A len cap → (Builtin.firstCells sz len (.slice A len cap)).run P w.drew = .ok olds.toArray w.drew → olds.length = len * sz → RepN w (Mut D H F) D olds oldP → cap < len + n → (len + n) * bytes ≤ 140737488355328 → len + n ≤ maxLen → ro ≤ (oldP ++ news).length →
        ∀ (H0 : Nat → Option Ob), (∀ id ob, H0 id = some ob → H id = some ob) → ∃ v w' D', (execOp a.eval ⟨dst, .call c, type, pos, after, guard⟩).run P w = .ok (.value v) w' ∧ Step w D H F n0 m fr w' D' (fun j => if j = fr then some ⟨sz, ro, true, oldP ++ news⟩ else H0 j) ∧
          Rep w' (Mut D' (fun j => if j = fr then some ⟨sz, ro, true, oldP ++ news⟩ else H0 j) F) D' v (.ms fr sz 0 (len + n)) := by
      intro A len cap olds oldP ro hv hold hol hor hcap hlim hml hro H0 hH0
      have hfit : Builtin.nextslicecap (len + n) cap * i.bytes ≤ 281474976710656 := by rw [hib]; exact growslice_fits hcap hlim
      have run := run_append_grow_src (P := P) w t t' type el i zv hul hi hiz A len cap olds (by rw [hisz]; exact hold) (a.eval u) n vals hsrc' hcap (by unfold maxLen at hml; omega) hfit
      have hcapge : len + n ≤ grownCap w (len + n) cap el := by
        unfold grownCap Question.cut
        simp only
        omega
      have hcapm : grownCap w (len + n) cap el ≤ maxLen := by
        unfold grownCap Question.cut
        simp only
        unfold maxLen at hml ⊢
        have : w.tape w.drawn (Question.appendCap (len + n) cap el) % (2 ^ 63 - (len + n)) < 2 ^ 63 - (len + n) := Nat.mod_lt _ (by omega)
        omega
      have harr : ((olds ++ vals).toArray ++ Builtin.zeroCells zv.cells (grownCap w (len + n) cap el - (len + n))).size = (oldP ++ news).length + (grownCap w (len + n) cap el - (len + n)) * zv.cells.size := by
        rw [Array.size_append, size_zeroCells]
        simp only [List.size_toArray, List.length_append, hor.1, hvals.1]
      have st := Q18z (fr := fr) S hfr (w' := w.drew.alloc (.cells ((olds ++ vals).toArray ++ Builtin.zeroCells zv.cells (grownCap w (len + n) cap el - (len + n))) el)) rfl rfl rfl rfl (ob := ⟨sz, ro, true, oldP ++ news⟩) hro (by show (oldP ++ news).length ≤ _; rw [harr]; omega) (fun k p hp => by
        simp only at hp
        by_cases c1 : k < oldP.length
        · rw [List.getElem?_append_left c1] at hp
          have hlt : k < olds.length := by rw [hor.1]; exact c1
          have h0 := hor.2 k _ p (List.getElem?_eq_getElem hlt) hp
          refine ⟨olds[k], ?_, h0.1, h0.2⟩
          rw [Array.getElem?_append_left (by simp; omega)]
          simp [List.getElem?_append_left hlt]
        · rw [List.getElem?_append_right (by omega)] at hp
          have hlt : k - oldP.length < vals.length := by rw [hvals.1]; exact (List.getElem?_eq_some_iff.1 hp).1
          have h0 := hvals.2 _ _ p (List.getElem?_eq_getElem hlt) hp
          refine ⟨vals[k - oldP.length], ?_, h0.1, h0.2⟩
          have := hor.1
          rw [Array.getElem?_append_left (by simp; omega)]
          simp only [List.getElem?_toArray]
          rw [List.getElem?_append_right (by omega)]
          rw [← List.getElem?_eq_getElem hlt]
          congr 1
          omega) hH0
      have hbs : bsize (w.drew.alloc (.cells ((olds ++ vals).toArray ++ Builtin.zeroCells zv.cells (grownCap w (len + n) cap el - (len + n))) el)) w.heap.size = some ((oldP ++ news).length + (grownCap w (len + n) cap el - (len + n)) * zv.cells.size) := by
        unfold bsize
        have : (w.drew.alloc (.cells ((olds ++ vals).toArray ++ Builtin.zeroCells zv.cells (grownCap w (len + n) cap el - (len + n))) el)).heap[w.heap.size]? = some (.cells ((olds ++ vals).toArray ++ Builtin.zeroCells zv.cells (grownCap w (len + n) cap el - (len + n))) el (0, 0)) := by
          show (w.heap.push _)[w.heap.size]? = _
          rw [Array.getElem?_push, if_pos rfl]
        rw [this]
        simp only [harr]
      refine ⟨_, _, _, by rw [hx', hv, Sem.run_bind]; simp only [run]; rfl, st, .ms _ _ _ _ _ _ _ hcapge hcapm (.inr ⟨w.heap.size, _, by simp, by simp, hbs, ?_⟩)⟩
      rw [hzs, hisz, Nat.zero_add]
      have e1 : (oldP ++ news).length = (len + n) * sz := by rw [List.length_append, ← hor.1, hol, hnl, Nat.add_mul]
      rw [e1, ← Nat.add_mul]
      exact Nat.mul_le_mul_right _ (by omega)
    simp only at h
    split at h
    · -- nothing was there
      rename_i sz0 hy0
      obtain ⟨hlim, h⟩ := Q25 h
      have hlim := Nat.le_of_ble_eq_true hlim
      rw [hy0] at rx
      obtain ⟨A, hv⟩ := Qv5 rx
      cases n with
      | zero =>
        simp only at h
        injection h with h
        subst h
        have : vals = [] := List.eq_nil_of_length_eq_zero (by rw [hsrc.newsLen]; simp)
        subst this
        have run := run_append_nothing (P := P) w t t' type el i hul hi A 0 0 (Nat.le_refl _) (a.eval u) hsrc'
        refine ⟨.slice A 0 0, w, D, by rw [hx', hv]; simp only [Sem.run_bind, run]; rfl, Step.same S rfl rfl rfl rfl, .ns _ _ _⟩
      | succ n =>
        simp only at h
        injection h with h
        subst h
        have hml : 0 + (n + 1) ≤ maxLen := by
          have := Nat.mul_le_mul_left (n + 1) hb1
          unfold maxLen
          omega
        obtain ⟨v, w', D', h1, h2, h3⟩ := grow A 0 0 [] [] 0 hv (by cases A <;> simp [Builtin.firstCells, loadCells, loadCellsFrom]) (by simp) ⟨rfl, fun i v p h => by simp at h⟩ (by omega) (by rw [Nat.zero_add]; exact hlim) hml (Nat.zero_le _) H (fun _ _ h => h)
        rw [Nat.zero_add] at h3
        exact ⟨v, w', D', h1, h2, h3⟩
    · rename_i id sz' off len hy0
      obtain ⟨ob, hob, h⟩ := bind_some h
      obtain ⟨hcd, h⟩ := Q25 h
      obtain ⟨kc, hkc, h⟩ := bind_some h
      injection h with h
      subst h
      simp only [Bool.and_eq_true] at hcd
      obtain ⟨⟨⟨⟨hgr, q1⟩, q2⟩, q3⟩, q5⟩ := hcd
      obtain rfl := Nat.eq_of_beq_eq_true q1
      obtain rfl := Nat.eq_of_beq_eq_true q3
      obtain ⟨kt, hcl0, hrok⟩ := Q1k9 (S.ok id ob hob).1 hkc
      have hcl : kc.length = len * sz' := by rw [kt, List.length_take]; omega
      have hlim := Nat.le_of_ble_eq_true q5
      have hml : len + n ≤ maxLen := by
        have := Nat.mul_le_mul_left (len + n) hb1
        unfold maxLen
        omega
      rw [hy0] at rx
      obtain ⟨A, cap, hv, hc1, hc2, hd⟩ := Qfp rx
      have hro := (S.ok id ob hob).1
      have hH : (fun j => if j = fr then some (⟨sz', ob.ro, true, kc ++ news⟩ : Ob) else if j = id then none else H j) = upH H [(id, none), (fr, some ⟨sz', ob.ro, true, kc ++ news⟩)] := rfl
      have hH0 : ∀ j ob', (if j = id then none else H j) = some ob' → H j = some ob' := by
        intro j ob' h
        split at h
        · cases h
        · exact h
      by_cases hroom : len + n ≤ cap
      · rcases hd with ⟨h1, h2⟩ | ⟨b, nb, h1, hA, h3, h4⟩
        · -- nothing at all
          have hn0 : n = 0 := by omega
          subst hn0 h1 h2
          have hv0 : vals = [] := List.eq_nil_of_length_eq_zero (by rw [hsrc.newsLen]; simp)
          have hnews : news = [] := List.eq_nil_of_length_eq_zero (by rw [hnl]; simp)
          have hcs0 : kc = [] := List.eq_nil_of_length_eq_zero (by rw [hcl]; simp)
          subst hv0 hnews
          have run := run_append_nothing (P := P) w t t' type el i hul hi A 0 0 (Nat.le_refl _) (a.eval u) hsrc'
          have hk : Keeps (MutO D H) w w := Keeps.refl _ _
          have hsub : ∀ b o, b < w.heap.size → Mut D (upH H [(id, none), (fr, some ⟨sz', ob.ro, true, kc ++ []⟩)]) F b o → Mut D H F b o := by
            rintro b o _ (h | ⟨j, ob2, e1, e2, e3⟩)
            · exact .inl h
            · rw [← hH] at e1
              by_cases e : j = fr
              · rw [e] at e2; rw [hfr] at e2; cases e2
              · simp only [if_neg e] at e1
                exact .inr ⟨j, ob2, hH0 j ob2 e1, e2, e3⟩
          refine ⟨.slice A 0 0, w, D, by rw [hx', hv]; simp only [Sem.run_bind, run]; rfl, ⟨⟨S.fr, S.le, S.own, fun j ob2 h => ?_, fun i j a b k hi hj di dj => ?_, fun j ob2 b o h hd => ?_⟩, hk, fun _ _ h => h, hsub, fun _ h _ => h⟩, .ms _ _ _ _ _ _ _ (Nat.zero_le _) (Nat.zero_le _) (.inl ⟨rfl, rfl⟩)⟩
          · rw [← hH] at h
            by_cases e : j = fr
            · simp [e] at h
              subst h
              exact ⟨by rw [hcs0]; simpa using hrok, .inl ⟨by simp [hcs0], by rw [e]; exact hfr⟩⟩
            · simp only [if_neg e] at h
              exact (S.ok j ob2 (hH0 j ob2 h)).mono (Keeps.refl (fun _ _ => False) _) (fun _ _ h => h.elim) hsub (fun _ _ h => h) (fun h => h) (fun _ _ _ h => h)
          · rw [← hH] at hi hj
            have ne : ∀ x, D x = some k → x ≠ fr := fun x hx e => by rw [e, hfr] at hx; cases hx
            simp only [if_neg (ne i di)] at hi
            simp only [if_neg (ne j dj)] at hj
            exact S.inj i j a b k (hH0 _ _ hi) (hH0 _ _ hj) di dj
          · rw [← hH] at h
            have e : j ≠ fr := fun e => by rw [e, hfr] at hd; cases hd
            simp only [if_neg e] at h
            exact S.dis j ob2 b o (hH0 j ob2 h) hd
        · -- there is room
          obtain ⟨carr, ty, e1, e2, e3, e4⟩ := Q98 S hob h1
          subst hA
          have hnb : nb = carr.size := by unfold bsize at h3; rw [e1] at h3; injection h3 with h3; exact h3.symm
          have hfit : len * sz' + vals.length ≤ carr.size := by
            have : (len + n) * sz' ≤ cap * sz' := Nat.mul_le_mul_right _ hroom
            rw [hsrc.newsLen, ← Nat.add_mul]
            rw [Nat.zero_add] at h4
            omega
          have run := run_append_room_src (P := P) w t t' type el i hul hi b 0 len cap (a.eval u) n vals hsrc' hroom (fun j hj => by
            have hlt : 0 + len * i.size + j < carr.size := by rw [hisz]; omega
            rw [cell_of.2 ⟨carr, ty, _, e1, Array.getElem?_eq_getElem hlt⟩]; rfl) (fun j hj => by simp [World.frozen?, e1])
          rw [Nat.zero_add, hisz] at run
          obtain ⟨a1, a2, a3, a4, a5, carr', a6, a7, a8⟩ := Q7w b ty vals (len * sz') w carr e1 hfit
          have hcn : (kc ++ news).length = len * sz' + vals.length := by rw [List.length_append, hcl, hvals.1]
          have st := Qyg (fr := fr) (id' := fr) (ob' := ⟨sz', ob.ro, true, kc ++ news⟩) S hob h1 e1 (.inr ⟨hfr, Nat.le_refl _, by omega, hgr⟩) a1 a5 a6 a7 (fun k hk => by rw [a8 k, if_neg (by omega)]) a2 a3 a4 rfl
            (by rw [hcn]; show ob.ro ≤ _; omega) (fun _ => hgr) (by show (kc ++ news).length ≤ _; rw [hcn, a7]; exact hfit) (fun k p hp => by
              simp only at hp
              rw [a8 k]
              by_cases c1 : k < kc.length
              · rw [if_neg (by omega)]
                rw [List.getElem?_append_left c1, kt, List.getElem?_take, if_pos (by omega)] at hp
                exact e4 k p hp
              · rw [List.getElem?_append_right (by omega)] at hp
                have hlt : k - kc.length < vals.length := by rw [hvals.1]; exact (List.getElem?_eq_some_iff.1 hp).1
                rw [if_pos (by omega), ← hcl]
                have h0 := hvals.2 _ _ p (List.getElem?_eq_getElem hlt) hp
                exact ⟨_, List.getElem?_eq_getElem hlt, h0.1, h0.2⟩)
          refine ⟨_, _, _, by rw [hx', hv]; simp only [Nat.zero_mul, Sem.run_bind, run]; rfl, st, .ms _ _ _ _ _ _ _ hroom hc2 (.inr ⟨b, nb, by simp, by simp, ?_, h4⟩)⟩
          exact st.keeps.bsize h3
      · have hold : ∃ olds : List Value, (Builtin.firstCells sz' len (.slice A len cap)).run P w.drew = .ok olds.toArray w.drew ∧ olds.length = len * sz' ∧ RepN w (Mut D H F) D olds kc := by
          rcases hd with ⟨h1, h2⟩ | ⟨b, nb, h1, hA, h3, h4⟩
          · subst h2
            have hcs0 : kc = [] := List.eq_nil_of_length_eq_zero (by rw [hcl]; simp)
            exact ⟨[], by cases A <;> simp [Builtin.firstCells, loadCells, loadCellsFrom], by simp, by rw [hcs0]; exact ⟨rfl, fun i v p h => by simp at h⟩⟩
          · obtain ⟨carr, ty, e1, e2, e3, e4⟩ := Q98 S hob h1
            obtain ⟨xs, q1, q2, q3⟩ := Qxw (off := 0) (n := len * sz') e2 e4 (by omega)
            have e0 : (ob.cells.drop 0).take (len * sz') = kc := by rw [List.drop_zero, kt]
            rw [e0] at q1
            subst hA
            refine ⟨xs, ?_, q2, q1⟩
            refine run_firstCells_some (P := P) w.drew sz' len _ len cap xs q2 (fun j v hj => ?_)
            rw [Qag]
            have := q3 j v hj
            rw [Nat.zero_mul]
            show w.cell? _ = _
            exact cell_of.2 ⟨carr, ty, _, e1, this⟩
        obtain ⟨olds, o1, o2, o3⟩ := hold
        exact grow A len cap olds kc ob.ro hv o1 o2 o3 (by omega) hlim hml (by rw [List.length_append]; omega) (fun j => if j = id then none else H j) hH0
    · cases h
  · cases hc
theorem Q1kk {ob : Ob} {k : Nat} {rz : List PV} (h : k + rz.length ≤ ob.cells.length) : (clC ob k rz).length ≤ (ob.cells.take k ++ (rz ++ ob.cells.drop (k + rz.length))).length ∧ k ≤ (clC ob k rz).length ∧
  ∀ (j : Nat) p, (clC ob k rz)[j]? = some p → (ob.cells.take k ++ (rz ++ ob.cells.drop (k + rz.length)))[j]? = some p := by
 unfold clC
 cases Nat.beq (k + rz.length) ob.cells.length with
 | true =>
  rw [cond_true]
  refine ⟨by simp only [List.length_append]; omega, by rw [List.length_take]; omega, fun j p hp => ?_⟩
  rw [List.getElem?_append_left (List.getElem?_eq_some_iff.1 hp).1]
  exact hp
 | false =>
  rw [cond_false]
  exact ⟨Nat.le_refl _, by rw [List.length_append, List.length_take]; omega, fun _ _ h => h⟩
theorem Q13i (S : Sim w D H F n0 m) (he : Qbx w (Mut D H F) D a e) {o : Oper} {sz : Nat} {z : List PV} {y : Opd} (hc : chkH P o.op (.clear sz z y) = true) {f : Eff} (h : Qog H sz z (y.ev e) = some f) :
    ∃ v w', (execOp a.eval o).run P w = .ok (.value v) w' ∧ Step w D H F n0 m fr w' D (upH H f.hw) ∧ f.v = .tup [] ∧ v = .tuple #[] := by
  obtain ⟨dst, op, type, pos, after, guard⟩ := o
  cases op <;> simp [chkH] at hc
  rename_i c
  obtain ⟨hb, hc⟩ := hc
  have hb := Qjc hb
  unfold Q1z7 at hc
  split at hc
  · rename_i x t hargs hty
    rw [Bool.and_eq_true] at hc
    obtain ⟨hz, hx⟩ := hc
    obtain ⟨el, hul, hsz, hz, hzl⟩ := Qfg hz
    obtain ⟨v, hv, hzr⟩ := Q84 (w := w) (M := Mut D H F) (D := D) hz
    obtain ⟨cs, hcs⟩ := Qa4 c type .clear hb a.eval
    have ha : c.args = #[x] := Array.ext' (by simpa using hargs)
    have hat : c.argTypes = #[t] := Array.ext' (by simpa using hty)
    have hx' : (execOp a.eval ⟨dst, .call c, type, pos, after, guard⟩) = (do pure (.value (← Builtin.clear_ #[t] type #[a.eval x])) : Sem Next) := by
      simp only [execOp]
      rw [hcs]
      simp only [builtin]
      rw [ha, hat, show (#[x] : Array Operand).map a.eval = #[a.eval x] by simp]
    have rx := Q23 he hx
    unfold Qog at h
    split at h
    · rename_i sz0 hy0
      injection h with h
      subst h
      rw [hy0] at rx
      obtain ⟨A, hvx⟩ := Qv5 rx
      exact ⟨.tuple #[], w, by rw [hx', hvx]; cases A <;> simp [Builtin.clear_, run_underlying hul], Step.same S rfl rfl rfl rfl, rfl, rfl⟩
    · rename_i id sz' off hy0
      injection h with h
      subst h
      rw [hy0] at rx
      obtain ⟨A, c', hvx, _⟩ := Qfp rx
      exact ⟨.tuple #[], w, by rw [hx', hvx]; cases A <;> simp [Builtin.clear_, run_underlying hul], Step.same S rfl rfl rfl rfl, rfl, rfl⟩
    · rename_i id sz' off len hy0
      obtain ⟨ob, hob, h⟩ := bind_some h
      obtain ⟨hcd, h⟩ := Q25 h
      injection h with h
      subst h
      simp only [Bool.and_eq_true] at hcd
      obtain ⟨⟨⟨⟨q1, q2⟩, q3⟩, q4⟩, q5⟩ := hcd
      obtain rfl := Nat.eq_of_beq_eq_true q1
      have hosz := Nat.eq_of_beq_eq_true q2
      have hro := Nat.le_of_ble_eq_true q4
      have hle := Nat.le_of_ble_eq_true q5
      rw [hy0] at rx
      obtain ⟨A, cap, hvx, hc1, hc2, hd⟩ := Qfp rx
      rcases hd with ⟨_, h2⟩ | ⟨b, nb, h1, hA, h3, h4⟩
      · omega
      · subst hA
        obtain ⟨carr, ty, e1, e2, e3, e4⟩ := Q98 S hob h1
        have hvs : v.cells.size = sz' := by rw [hzr.1, hzl]
        have hmade := Qf5 hzr hzl (len + 1)
        have hzc : Builtin.zeroCells v.cells (len + 1) = madeCells v.cells ((len + 1) * sz') := by unfold Builtin.zeroCells madeCells; rw [hvs]
        generalize hcells : madeCells v.cells ((len + 1) * sz') = mc at *
        have hrl : (rep z (len + 1)).length = (len + 1) * sz' := by rw [Q9d, hzl]
        generalize hrz : rep z (len + 1) = rz at *
        have hml : mc.toList.length = rz.length := by simpa using hmade.1
        have hle2 : off * sz' + rz.length ≤ ob.cells.length := by rw [hrl, ← Nat.add_mul]; exact hle
        have hst := run_storeCells_cells (P := P) b (off * sz') mc.toList 0 w (fun j hj => by
            have : off * sz' + 0 + j < carr.size := by omega
            rw [cell_of.2 ⟨carr, ty, _, e1, Array.getElem?_eq_getElem this⟩]; rfl) (fun j hj => by simp [World.frozen?, e1]) (by
              intro u hu
              obtain ⟨i, hi⟩ := List.getElem?_of_mem hu
              have hlt : i < rz.length := by rw [← hml]; exact (List.getElem?_eq_some_iff.1 hi).1
              exact (hmade.2 i u _ (by simpa using hi) (List.getElem?_eq_getElem hlt)).1)
        simp only [Nat.add_zero] at hst
        obtain ⟨a1, a2, a3, a4, a5, carr', a6, a7, a8⟩ := Q7w b ty mc.toList (off * sz') w carr e1 (by omega)
        refine ⟨.tuple #[], w.setCells b (off * sz') mc.toList, ?_, ?_, rfl, rfl⟩
        · rw [hx', hvx]
          simp [Builtin.clear_, run_underlying hul, hv, hzc, hst]
        · obtain ⟨hk1, hk2, hk3⟩ := Q1kk (ob := ob) (k := off * sz') (rz := rz) hle2
          have := Qyg (fr := fr) (id' := id) (ob' := ⟨sz', ob.ro, ob.gr, clC ob (off * sz') rz⟩) S hob h1 e1 (.inl rfl) a1 a5 a6 a7 (fun k hk => by rw [a8 k, if_neg (by omega)]) a2 a3 a4 rfl
            (by show ob.ro ≤ (clC ob (off * sz') rz).length; omega) (fun h => h) (by show (clC ob (off * sz') rz).length ≤ _; simp only [List.length_append, List.length_take, List.length_drop] at hk1; omega) (fun k p hp => by
              have hp := hk3 k p hp
              rw [a8 k, hml]
              by_cases c1 : k < off * sz'
              · rw [if_neg (by omega)]
                rw [List.getElem?_append_left (by rw [List.length_take]; omega), List.getElem?_take, if_pos c1] at hp
                exact e4 k p hp
              · rw [List.getElem?_append_right (by rw [List.length_take]; omega), List.length_take, Nat.min_eq_left (by omega)] at hp
                by_cases c2 : k - off * sz' < rz.length
                · rw [if_pos (by omega)]
                  rw [List.getElem?_append_left c2] at hp
                  have hlt : k - off * sz' < mc.toList.length := by omega
                  have h0 := hmade.2 (k - off * sz') _ p (by rw [← Array.getElem?_toList]; exact List.getElem?_eq_getElem hlt) hp
                  exact ⟨_, List.getElem?_eq_getElem hlt, h0.1, h0.2⟩
                · rw [if_neg (by omega)]
                  rw [List.getElem?_append_right (by omega), List.getElem?_drop] at hp
                  exact e4 k p (by rw [← hp]; congr 1; omega))
          have hDe : (fun j => if j = id then some b else D j) = D := by
            funext j
            by_cases e : j = id
            · rw [if_pos e, e, h1]
            · rw [if_neg e]
          have hHe : (fun j => if j = id then some (⟨sz', ob.ro, ob.gr, clC ob (off * sz') rz⟩ : Ob) else if j = id then none else H j) = upH H [(id, some ⟨sz', ob.ro, ob.gr, clC ob (off * sz') rz⟩)] := by
            funext j
            by_cases e : j = id <;> simp [upH, e]
          rw [hDe, hHe] at this
          exact this
    · cases h
  · cases hc
end
end Go.Pv
end

section
/-
  A call: what is handed over, what comes back.
-/
namespace Go.Pv
open Go.RowKit
def hF (h : List Ob) (p : Nat) : Option Ob := h[p]?
def Q14o (P : Program) (f : Nat) (args : List PV) (h : List Ob) (r : PV) (h' : List Ob) : Prop :=
 ∀ (w : World) (D : Nat → Option Nat) (F : Nat → Nat → Prop) (vals : Array Value), Sim w D (hF h) F w.heap.size h.length → (∀ id, h.length ≤ id → D id = none) → RepL w (Mut D (hF h) F) D vals.toList args →
  Calls P f vals w fun e w' => ∃ v D', e = .returned v ∧ Sim w' D' (hF h') F w.heap.size h.length ∧ Keeps (MutO D (hF h)) w w' ∧ (∀ id, id < h.length → D' id = D id) ∧ (∀ id, h'.length ≤ id → D' id = none) ∧
   (∀ b o, b < w.heap.size → Mut D' (hF h') F b o → Mut D (hF h) F b o) ∧ h.length ≤ h'.length ∧ Rep w' (Mut D' (hF h') F) D' v r
def Q9j (P : Program) (f : Nat) : Prop := ∃ F, P.funcs[f]? = some F ∧ F.body.isNone = false ∧ (F.name == "runtime.NumGoroutine") = false
theorem Qai {g : Nat → Nat} : ∀ (k : Nat) (h : List Ob) (ws : List (Nat × Option Ob)), Q9p g k h = some ws → ws.length = h.length ∧ ∀ (j : Nat) x, ws[j]? = some x → ∃ ob l, h[j]? = some ob ∧ mapO (back g 8) ob.cells = some l ∧ x = (g (k + j), some ⟨ob.sz, ob.ro, ob.gr, l⟩)
 | k, [], ws, h => by
  simp [Q9p] at h
  subst h
  exact ⟨rfl, fun j x hj => by simp at hj⟩
 | k, ob :: r, ws, h => by
  simp only [Q9p] at h
  obtain ⟨l, hl, h⟩ := bind_some h
  obtain ⟨m, hm, h⟩ := bind_some h
  injection h with h
  subst h
  obtain ⟨h1, h2⟩ := Qai (k + 1) r m hm
  refine ⟨by simp [h1], fun j x hj => ?_⟩
  cases j with
  | zero =>
   simp at hj
   subst hj
   exact ⟨ob, l, rfl, hl, rfl⟩
  | succ j =>
   obtain ⟨ob', l', e1, e2, e3⟩ := h2 j x (by simpa using hj)
   exact ⟨ob', l', by simpa using e1, e2, by rw [e3]; congr 2; omega⟩
theorem Q8g {ws : List (Nat × Option Ob)} {H : Nat → Option Ob} {j : Nat} (h : ∀ x ∈ ws, x.1 ≠ j) : upH H ws j = H j := by
 induction ws generalizing H with
 | nil => rfl
 | cons x r ih =>
  obtain ⟨id, o⟩ := x
  rw [upH, ih (fun y hy => h y (List.mem_cons_of_mem _ hy))]
  have := h _ List.mem_cons_self
  simp only at this
  rw [if_neg (fun e => this e.symm)]
theorem Q1iv {ws : List (Nat × Option Ob)} {H : Nat → Option Ob} {j : Nat} {o : Option Ob} (h : ∀ x ∈ ws, x.1 = j → x.2 = o) (hj : ∃ x ∈ ws, x.1 = j) : upH H ws j = o := by
  induction ws generalizing H with
  | nil => obtain ⟨x, hx, _⟩ := hj; cases hx
  | cons x r ih =>
    obtain ⟨id, o'⟩ := x
    rw [upH]
    by_cases c : ∃ y ∈ r, y.1 = j
    · exact ih (fun y hy => h y (List.mem_cons_of_mem _ hy)) c
    · rw [Q8g (fun y hy e => c ⟨y, hy, e⟩)]
      obtain ⟨y, hy, hyj⟩ := hj
      rcases List.mem_cons.1 hy with rfl | hy
      · have := h _ List.mem_cons_self hyj
        simp only at hyj this
        rw [if_pos hyj.symm, this]
      · exact absurd ⟨y, hy, hyj⟩ c
theorem Qet {H : Nat → Option Ob} : ∀ (l : List Nat) (cl : List (Nat × Option Ob)), shut H l = some cl → (∀ x ∈ cl, x.1 ∈ l ∧ ∃ ob, H x.1 = some ob ∧ x.2 = some ⟨ob.sz, ob.cells.length, ob.gr, ob.cells⟩) ∧ ∀ id ∈ l, ∃ x ∈ cl, x.1 = id
  | [], cl, h => by
    simp [shut] at h
    subst h
    exact ⟨fun x hx => absurd hx (List.not_mem_nil), fun id hi => absurd hi (List.not_mem_nil)⟩
  | id :: r, cl, h => by
    simp only [shut] at h
    obtain ⟨ob, hob, h⟩ := bind_some h
    obtain ⟨m, hm, h⟩ := bind_some h
    injection h with h
    subst h
    obtain ⟨h1, h2⟩ := Qet r m hm
    refine ⟨fun x hx => ?_, fun i hi => ?_⟩
    · rcases List.mem_cons.1 hx with rfl | hx
      · exact ⟨List.mem_cons_self, ob, hob, rfl⟩
      · obtain ⟨a, b⟩ := h1 x hx
        exact ⟨List.mem_cons_of_mem _ a, b⟩
    · rcases List.mem_cons.1 hi with rfl | hi
      · exact ⟨_, List.mem_cons_self, rfl⟩
      · obtain ⟨x, hx, e⟩ := h2 i hi
        exact ⟨x, List.mem_cons_of_mem _ hx, e⟩
def Off (D : Nat → Option Nat) (H : Nat → Option Ob) (F : Nat → Nat → Prop) (ids lent : List Nat) (b o : Nat) : Prop :=
 F b o ∨ ∃ id ob, H id = some ob ∧ D id = some b ∧ id ∉ ids ∧ ob.ro ≤ o ∧ (id ∈ lent → ob.cells.length ≤ o)
section
variable {P : Program} {w : World} {D : Nat → Option Nat} {H : Nat → Option Ob} {F : Nat → Nat → Prop} {n0 m fr : Nat}
theorem Q1gq (S : Sim w D H F n0 m) (hfr : ∀ id, fr ≤ id → id < fr + 64 → D id = none ∧ H id = none) {ids lent : List Nat} (hnd : ids.Nodup) (hids : ∀ id ∈ ids, ∃ ob, H id = some ob)
    (hdj : ∀ x ∈ lent, x ∉ ids) {hc h : List Ob}
    (hsub1 : ∀ b o, Mut (Dof D ids) (hF hc) (Off D H F ids lent) b o → Mut D H F b o) (hsubO : ∀ b o, MutO (Dof D ids) (hF hc) b o → MutO D H b o)
    {w' : World} {D1 : Nat → Option Nat} (S1 : Sim w' D1 (hF h) (Off D H F ids lent) w.heap.size ids.length) (hk : Keeps (MutO (Dof D ids) (hF hc)) w w') (hD1 : ∀ id, id < ids.length → D1 id = Dof D ids id) (hD2 : ∀ id, h.length ≤ id → D1 id = none)
    (hsub2 : ∀ b o, b < w.heap.size → Mut D1 (hF h) (Off D H F ids lent) b o → Mut (Dof D ids) (hF hc) (Off D H F ids lent) b o) (hlen : ids.length ≤ h.length) (h64 : h.length - ids.length ≤ 64)
    {ws : List (Nat × Option Ob)} (hws : Q9p (ren ids fr) 0 h = some ws) {cl : List (Nat × Option Ob)} {fl : Bool} (hclo : (fl = true ∧ cl = [] ∧ ∀ ob ∈ h, ∀ p ∈ ob.cells, flat 8 p = true) ∨ (fl = false ∧ shut H lent = some cl)) :
    ∃ D', Step w D H F n0 m fr w' D' (upH H (ws ++ cl)) ∧
      ∀ v r r', (fl = true → flat 8 r = true) → Rep w' (Mut D1 (hF h) (Off D H F ids lent)) D1 v r → back (ren ids fr) 8 r = some r' → Rep w' (Mut D' (upH H (ws ++ cl)) F) D' v r' := by
  obtain ⟨wl, wsp⟩ := Qai 0 h ws hws
  have hnr : ∀ id ob, H id = some ob → ¬ (fr ≤ id ∧ id < fr + 64) := fun id ob h hc => by rw [(hfr id hc.1 hc.2).2] at h; cases h
  have hrng : ∀ id ∈ ids, ¬ (fr ≤ id ∧ id < fr + 64) := fun id hi => by obtain ⟨ob, h⟩ := hids id hi; exact hnr id ob h
  let D' : Nat → Option Nat := fun id => if fr ≤ id ∧ id < fr + 64 then D1 (ids.length + (id - fr)) else D id
  have hDn : ∀ id, ¬ (fr ≤ id ∧ id < fr + 64) → D' id = D id := fun id h => if_neg h
  have ren_old : ∀ p, p < ids.length → ∃ id, ids[p]? = some id ∧ id ∈ ids ∧ ren ids fr p = id := fun p hp => by
    refine ⟨ids[p], List.getElem?_eq_getElem hp, List.getElem_mem hp, ?_⟩
    unfold ren
    rw [List.getElem?_eq_getElem hp]
  have ren_new : ∀ p, ids.length ≤ p → ren ids fr p = fr + (p - ids.length) := fun p hp => by
    unfold ren
    rw [List.getElem?_eq_none hp]
  have hDp : ∀ p, p < h.length → D' (ren ids fr p) = D1 p := by
    intro p hpl
    by_cases c : p < ids.length
    · obtain ⟨id, e1, e2, e3⟩ := ren_old p c
      rw [e3, hDn id (hrng id e2), hD1 p c]
      unfold Dof
      rw [e1]
      rfl
    · rw [ren_new p (by omega)]
      show (if fr ≤ fr + (p - ids.length) ∧ fr + (p - ids.length) < fr + 64 then D1 (ids.length + (fr + (p - ids.length) - fr)) else D (fr + (p - ids.length))) = D1 p
      rw [if_pos (by omega)]
      congr 1
      omega
  have hg : ∀ p b, D1 p = some b → D' (ren ids fr p) = some b := by
    intro p b hp
    have hpl : p < h.length := by
      rcases Nat.lt_or_ge p h.length with hl | hl
      · exact hl
      · rw [hD2 p hl] at hp; cases hp
    rw [hDp p hpl, hp]
  have ren_inj : ∀ p q, p < h.length → q < h.length → ren ids fr p = ren ids fr q → p = q := by
    intro p q hp hq e
    by_cases c : p < ids.length <;> by_cases c' : q < ids.length
    · obtain ⟨id, e1, e2, e3⟩ := ren_old p c
      obtain ⟨id', f1, f2, f3⟩ := ren_old q c'
      rw [e3, f3] at e
      subst e
      exact (List.getElem?_inj c hnd).1 (e1.trans f1.symm)
    · obtain ⟨id, e1, e2, e3⟩ := ren_old p c
      rw [e3, ren_new q (by omega)] at e
      have := hrng id e2
      omega
    · obtain ⟨id, e1, e2, e3⟩ := ren_old q c'
      rw [e3, ren_new p (by omega)] at e
      have := hrng id e2
      omega
    · rw [ren_new p (by omega), ren_new q (by omega)] at e
      omega
  have wkey : ∀ x ∈ ws, ∃ p ob l, p < h.length ∧ h[p]? = some ob ∧ mapO (back (ren ids fr) 8) ob.cells = some l ∧ x = (ren ids fr p, some ⟨ob.sz, ob.ro, ob.gr, l⟩) := by
    intro x hx
    obtain ⟨j, hj⟩ := List.getElem?_of_mem hx
    obtain ⟨ob, l, e1, e2, e3⟩ := wsp j x hj
    exact ⟨j, ob, l, (List.getElem?_eq_some_iff.1 e1).1, e1, e2, by rw [e3, Nat.zero_add]⟩
  have clkey : ∀ x ∈ cl, fl = false ∧ x.1 ∈ lent ∧ ∃ ob, H x.1 = some ob ∧ x.2 = some ⟨ob.sz, ob.cells.length, ob.gr, ob.cells⟩ := by
    rcases hclo with ⟨_, rfl, _⟩ | ⟨e, hs⟩
    · intro x hx; exact absurd hx List.not_mem_nil
    · intro x hx; exact ⟨e, (Qet lent cl hs).1 x hx⟩
  have hlentH : ∀ id ∈ lent, ∀ ob, H id = some ob → ∀ p, p < h.length → ren ids fr p ≠ id := by
    intro id hi ob hob p hp e
    by_cases c : p < ids.length
    · obtain ⟨id', e1, e2, e3⟩ := ren_old p c
      rw [e3] at e
      subst e
      exact hdj _ hi e2
    · rw [ren_new p (by omega)] at e
      exact hnr id ob hob (by omega)
  have atA : ∀ p ob, h[p]? = some ob → ∃ l, mapO (back (ren ids fr) 8) ob.cells = some l ∧ upH H (ws ++ cl) (ren ids fr p) = some ⟨ob.sz, ob.ro, ob.gr, l⟩ := by
    intro p ob hp
    have hpl := (List.getElem?_eq_some_iff.1 hp).1
    have hwp : p < ws.length := by omega
    obtain ⟨ob', l, e1, e2, e3⟩ := wsp p _ (List.getElem?_eq_getElem hwp)
    rw [hp] at e1
    injection e1 with e1
    subst e1
    refine ⟨l, e2, Q1iv (fun x hx hxe => ?_) ⟨_, List.mem_append_left _ (List.getElem_mem hwp), by rw [e3, Nat.zero_add]⟩⟩
    rcases List.mem_append.1 hx with hx | hx
    · obtain ⟨q, ob2, l2, g1, g2, g3, rfl⟩ := wkey x hx
      have := ren_inj q p g1 hpl hxe
      subst this
      rw [hp] at g2
      injection g2 with g2
      subst g2
      rw [e2] at g3
      injection g3 with g3
      subst g3
      rfl
    · obtain ⟨_, g1, ob2, g2, g3⟩ := clkey x hx
      exact absurd hxe.symm (hlentH x.1 g1 ob2 g2 p hpl)
  have atN : ∀ j, (∀ p, p < h.length → ren ids fr p ≠ j) → ∀ ob2, upH H (ws ++ cl) j = some ob2 → ∃ ob, H j = some ob ∧ ob2.sz = ob.sz ∧ ob2.cells = ob.cells ∧ ob2.gr = ob.gr ∧ (ob2.ro = ob.ro ∨ ob2.ro = ob.cells.length) ∧ (fl = false → j ∈ lent → ob2.ro = ob.cells.length) := by
    intro j hj ob2 h2
    by_cases c : ∃ x ∈ cl, x.1 = j
    · obtain ⟨x, hx, rfl⟩ := c
      obtain ⟨_, g1, ob, g2, g3⟩ := clkey x hx
      have : upH H (ws ++ cl) x.1 = some ⟨ob.sz, ob.cells.length, ob.gr, ob.cells⟩ := Q1iv (fun y hy hye => by
        rcases List.mem_append.1 hy with hy | hy
        · obtain ⟨q, _, _, g1, _, _, rfl⟩ := wkey y hy
          exact absurd hye (hj q g1)
        · obtain ⟨_, _, ob', f2, f3⟩ := clkey y hy
          rw [hye, g2] at f2
          injection f2 with f2
          subst f2
          exact f3) ⟨x, List.mem_append_right _ hx, rfl⟩
      rw [this] at h2
      injection h2 with h2
      subst h2
      exact ⟨ob, g2, rfl, rfl, rfl, .inr rfl, fun _ _ => rfl⟩
    · have : upH H (ws ++ cl) j = H j := Q8g (fun y hy hye => by
        rcases List.mem_append.1 hy with hy | hy
        · obtain ⟨q, _, _, g1, _, _, rfl⟩ := wkey y hy
          exact absurd hye (hj q g1)
        · exact c ⟨y, hy, hye⟩)
      rw [this] at h2
      refine ⟨ob2, h2, rfl, rfl, rfl, .inl rfl, fun hf hl => ?_⟩
      rcases hclo with ⟨e, _⟩ | ⟨_, hs⟩
      · rw [e] at hf; cases hf
      · obtain ⟨x, hx, e⟩ := (Qet lent cl hs).2 j hl
        exact absurd ⟨x, hx, e⟩ c
  -- which of the two
  have which : ∀ j ob2, upH H (ws ++ cl) j = some ob2 → (∃ p ob l, h[p]? = some ob ∧ mapO (back (ren ids fr) 8) ob.cells = some l ∧ ren ids fr p = j ∧ ob2 = ⟨ob.sz, ob.ro, ob.gr, l⟩ ∧ D' j = D1 p) ∨
      ∃ ob, H j = some ob ∧ j ∉ ids ∧ D' j = D j ∧ ob2.cells = ob.cells ∧ ob2.gr = ob.gr ∧ (ob2.ro = ob.ro ∨ ob2.ro = ob.cells.length) ∧ (fl = false → j ∈ lent → ob2.ro = ob.cells.length) := by
    intro j ob2 h2
    by_cases c : ∃ p, p < h.length ∧ ren ids fr p = j
    · obtain ⟨p, hp, rfl⟩ := c
      obtain ⟨l, e1, e2⟩ := atA p _ (List.getElem?_eq_getElem hp)
      rw [e2] at h2
      injection h2 with h2
      exact .inl ⟨p, _, l, List.getElem?_eq_getElem hp, e1, rfl, h2.symm, hDp p hp⟩
    · obtain ⟨ob, e1, _, e3, e4, e5, e6⟩ := atN j (fun p hp e => c ⟨p, hp, e⟩) ob2 h2
      refine .inr ⟨ob, e1, fun hi => ?_, hDn j (hnr j ob e1), e3, e4, e5, e6⟩
      obtain ⟨p, hp⟩ := List.getElem?_of_mem hi
      have hpl := (List.getElem?_eq_some_iff.1 hp).1
      obtain ⟨id, f1, _, f3⟩ := ren_old p hpl
      rw [hp] at f1
      injection f1 with f1
      subst f1
      exact c ⟨p, by omega, f3⟩
  have hext : ∀ id b, D id = some b → D' id = some b := fun id b h => by
    rw [hDn id (fun hc => by rw [(hfr id hc.1 hc.2).1] at h; cases h)]
    exact h
  have hsub : ∀ b o, b < w.heap.size → Mut D' (upH H (ws ++ cl)) F b o → Mut D H F b o := by
    rintro b o hb (h | ⟨j, ob2, e1, e2, e3⟩)
    · exact .inl h
    · rcases which j ob2 e1 with ⟨p, ob, l, g1, _, _, rfl, g5⟩ | ⟨ob, g1, _, g3, _, _, g6, _⟩
      · rw [g5] at e2
        exact hsub1 b o (hsub2 b o hb (.inr ⟨p, ob, g1, e2, e3⟩))
      · rw [g3] at e2
        have := (S.ok j ob g1).1
        exact .inr ⟨j, ob, g1, e2, by rcases g6 with g6 | g6 <;> omega⟩
  have hoff : fl = false → ∀ b o, Mut D' (upH H (ws ++ cl)) F b o → Mut D1 (hF h) (Off D H F ids lent) b o := by
    rintro hfl b o (h | ⟨j, ob2, e1, e2, e3⟩)
    · exact .inl (.inl h)
    · rcases which j ob2 e1 with ⟨p, ob, l, g1, _, _, rfl, g5⟩ | ⟨ob, g1, g2, g3, _, _, g6, g7⟩
      · rw [g5] at e2
        exact .inr ⟨p, ob, g1, e2, e3⟩
      · rw [g3] at e2
        have := (S.ok j ob g1).1
        exact .inl (.inr ⟨j, ob, g1, e2, g2, by rcases g6 with g6 | g6 <;> omega, fun hl => by have := g7 hfl hl; omega⟩)
  have conv : ∀ v r r', (fl = true → flat 8 r = true) → Rep w' (Mut D1 (hF h) (Off D H F ids lent)) D1 v r → back (ren ids fr) 8 r = some r' → Rep w' (Mut D' (upH H (ws ++ cl)) F) D' v r' := by
    intro v r r' hfl hr hb
    cases fl with
    | true => exact Quo hg 8 v r r' hb (Q19d 8 v r (hfl rfl) hr)
    | false => exact Quo hg 8 v r r' hb (hr.to (fun b o _ h => hoff rfl b o h) (fun _ _ h => h))
  have hW : ∀ b o, MutO (Dof D ids) (hF hc) b o → Mut D H F b o := fun b o h => .inr (hsubO b o h)
  have apart : ∀ j ob b, H j = some ob → j ∉ ids → D j = some b → ∀ o, ¬ MutO (Dof D ids) (hF hc) b o := by
    rintro j ob b h1 h2 h3 o ⟨p, obp, g1, g2, _⟩
    unfold Dof at g2
    cases hp : ids[p]? with
    | none => rw [hp] at g2; cases g2
    | some id =>
      rw [hp] at g2
      have hi := List.mem_of_getElem? hp
      obtain ⟨ob', h4⟩ := hids id hi
      have := S.inj j id ob ob' b h1 h4 h3 g2
      subst this
      exact h2 hi
  refine ⟨D', ⟨⟨S.fr, Nat.le_trans S.le hk.size, fun id b h => ?_, fun j ob2 h2 => ?_, fun i j a b k hi hj di dj => ?_, fun j ob2 b o h2 hd => ?_⟩, hk.mono (fun b o _ h => hsubO b o h), hext, hsub, fun id h hid => ?_⟩, conv⟩
  · by_cases c : fr ≤ id ∧ id < fr + 64
    · have h' : D1 (ids.length + (id - fr)) = some b := by rw [← h]; exact (if_pos c).symm
      rcases S1.own _ _ h' with hlt | hge
      · omega
      · exact .inr (Nat.le_trans S.le hge)
    · rw [hDn id c] at h
      exact S.own id b h
  · rcases which j ob2 h2 with ⟨p, ob, l, g1, g2, g3, rfl, g5⟩ | ⟨ob, g1, g2, g3, g4, g5, g6, _⟩
    · obtain ⟨q1, q2⟩ := S1.ok p ob g1
      have hll := (Q4b g2).1
      refine ⟨by show ob.ro ≤ l.length; omega, ?_⟩
      rcases q2 with ⟨e1, e2⟩ | ⟨b, carr, t, e1, e2, e3, e4, e5⟩
      · refine .inl ⟨List.eq_nil_of_length_eq_zero (by rw [hll, e1]; rfl), by rw [g5, e2]⟩
      · refine .inr ⟨b, carr, t, by rw [g5, e1], e2, by show l.length ≤ _; omega, fun hgr => Nat.le_trans S.le (e4 hgr), fun k q hq => ?_⟩
        obtain ⟨x, hx, hxb⟩ := (Q4b g2).2 k q hq
        obtain ⟨v, f1, f2, f3⟩ := e5 k x hx
        refine ⟨v, f1, f2, conv v x q (fun hfl => ?_) f3 hxb⟩
        rcases hclo with ⟨_, _, hall⟩ | ⟨e, _⟩
        · exact hall ob (List.mem_of_getElem? g1) x (List.mem_of_getElem? hx)
        · rw [e] at hfl; cases hfl
    · have hb : ∀ b o, D j = some b → ¬ MutO (Dof D ids) (hF hc) b o := fun b o hb => apart j ob b g1 g2 hb o
      have := (S.ok j ob g1).mono hk hW hsub hext (fun h => by rw [g3, h]) hb
      obtain ⟨q1, q2⟩ := this
      refine ⟨by rw [g4]; rcases g6 with g6 | g6 <;> omega, ?_⟩
      rw [g4, g5]
      exact q2
  · rcases which i a hi with ⟨p, ob, l, g1, g2, g3, _, g5⟩ | ⟨ob, g1, g2, g3, _⟩ <;> rcases which j b hj with ⟨p', ob', l', f1, f2, f3, _, f5⟩ | ⟨ob', f1, f2, f3, _⟩
    · rw [g5] at di
      rw [f5] at dj
      have := S1.inj p p' ob ob' k g1 f1 di dj
      subst this
      rw [← g3, ← f3]
    · rw [g5] at di
      rw [f3] at dj
      have hkl : k < w.heap.size := by
        rcases (S.ok j ob' f1).2 with ⟨_, e⟩ | ⟨b', carr, t, e1, e2, _⟩
        · rw [dj] at e; cases e
        · rw [dj] at e1
          injection e1 with e1
          subst e1
          exact (Array.getElem?_eq_some_iff.1 e2).1
      rcases S1.own p k di with hlt | hge
      · obtain ⟨id, e1, e2, e3⟩ := ren_old p hlt
        rw [hD1 p hlt] at di
        unfold Dof at di
        rw [e1] at di
        obtain ⟨ob3, h3⟩ := hids id e2
        have := S.inj id j ob3 ob' k h3 f1 di dj
        rw [← g3, e3, this]
      · omega
    · rw [g3] at di
      rw [f5] at dj
      have hkl : k < w.heap.size := by
        rcases (S.ok i ob g1).2 with ⟨_, e⟩ | ⟨b', carr, t, e1, e2, _⟩
        · rw [di] at e; cases e
        · rw [di] at e1
          injection e1 with e1
          subst e1
          exact (Array.getElem?_eq_some_iff.1 e2).1
      rcases S1.own p' k dj with hlt | hge
      · obtain ⟨id, e1, e2, e3⟩ := ren_old p' hlt
        rw [hD1 p' hlt] at dj
        unfold Dof at dj
        rw [e1] at dj
        obtain ⟨ob3, h3⟩ := hids id e2
        have := S.inj i id ob ob3 k g1 h3 di dj
        rw [← f3, e3, this]
      · omega
    · rw [g3] at di
      rw [f3] at dj
      exact S.inj i j ob ob' k g1 f1 di dj
  · rcases which j ob2 h2 with ⟨p, ob, l, g1, g2, g3, _, g5⟩ | ⟨ob, g1, g2, g3, _⟩
    · rw [g5] at hd
      exact fun hF => S1.dis p ob b o g1 hd (.inl hF)
    · rw [g3] at hd
      exact S.dis j ob b o g1 hd
  · rw [hDn id (by omega)]
    exact h
end
end Go.Pv
end

section
/-
  A call, a single operation: what 'iop' says is what the machine does.
-/
namespace Go.Pv
open Go.RowKit
def Q8u (P : Program) (X : Orc) : Prop := ∀ f args h r h', X (.call f args h) = some (.ret r h') → Q9j P f ∧ Q14o P f args h r h'
def chkC (op : Op) : IOp → Bool
 | .call _ y ys => (match op with | .call c => (match c.callee with | .value x => Q46 x y && Qa8 c.args.toList ys | _ => false) | _ => false)
 | _ => false
def Q13h (P : Program) (op : Op) (io : IOp) : Bool := chkP P op io || (chkH P op io || chkC op io)
section
variable {P : Program} {X : Orc} {w : World} {D : Nat → Option Nat} {H : Nat → Option Ob} {F : Nat → Nat → Prop} {n0 m fr : Nat} {a : Act} {e : Nat → PV}
theorem Q19a (hX : Q8u P X) (S : Sim w D H F n0 m) (hfr : ∀ id, fr ≤ id → id < fr + 64 → D id = none ∧ H id = none) {byRef : Bool} {f : Nat} {args : List PV} {vals : Array Value}
    (hv : RepL w (Mut D H F) D vals.toList args) {eff : Eff} (h : Qfw X H fr byRef f args = some eff) :
    Q9j P f ∧ Calls P f vals w fun e w' => ∃ v D', e = .returned v ∧ Step w D H F n0 m fr w' D' (upH H eff.hw) ∧ Rep w' (Mut D' (upH H eff.hw) F) D' v eff.v := by
  unfold Qfw at h
  obtain ⟨y, hy, h⟩ := bind_some h
  obtain ⟨z, hz, h⟩ := bind_some h
  obtain ⟨hdj, h⟩ := Q25 h
  obtain ⟨r, hr, h⟩ := bind_some h
  have hdj := Qj6.1 hdj
  cases r with
  | st x s => cases h
  | ret v hh =>
    simp only at h
    obtain ⟨hle, h⟩ := Q25 h
    obtain ⟨v', hv', h⟩ := bind_some h
    obtain ⟨ws, hws, h⟩ := bind_some h
    rw [Bool.and_eq_true] at hle
    have hlen := Nat.le_of_ble_eq_true hle.1
    have h64 := Nat.le_of_ble_eq_true hle.2
    obtain ⟨hcallable, hcall⟩ := hX _ _ _ _ _ hr
    refine ⟨hcallable, ?_⟩
    -- what is handed over
    have hy0 := Q4h (M := Mut D H F) (fun p ids x hx => Q9c S (fun _ _ _ h => h) byRef 8 p ids x hx) args [] y hy
    have hnd0 : y.2.1.Nodup := hy0.2.1 List.nodup_nil
    have hz0 := Q4g (M := Mut D H F) S (fun _ _ _ h => h) false false 16 0 y.2.1 z (Nat.zero_le _) hz
    have hnd : z.2.1.Nodup := hz0.2.1 hnd0
    have hcl : z.1.length = z.2.1.length := by have := hz0.2.2.1; omega
    have hlt : ∀ b o, Off D H F z.2.1 (y.2.2 ++ z.2.2) b o → Mut D H F b o := by
      rintro b o (h | ⟨id, ob, h1, h2, _, h3, _⟩)
      · exact .inl h
      · exact .inr ⟨id, ob, h1, h2, h3⟩
    have hO := Q17e S false false hz hnd0 (lent := y.2.2 ++ z.2.2) (fun x hx => List.mem_append_right _ hx) (F' := Off D H F z.2.1 (y.2.2 ++ z.2.2)) hlt
      (by
        rintro id hi ob b o h1 h2 h3 (h | ⟨id', ob', g1, g2, _, _, g3⟩)
        · exact S.dis id ob b o h1 h2 h
        · have := S.inj id id' ob ob' b h1 g1 h2 g2
          subst this
          rw [h1] at g1
          injection g1 with g1
          subst g1
          have := g3 hi
          omega)
      hdj (n' := w.heap.size) (m' := z.2.1.length)
      (by
        rintro b o (h | ⟨id, ob, h1, h2, _, h3, _⟩)
        · exact Nat.lt_of_lt_of_le (S.fr b o h) S.le
        · exact Q1pp S ⟨id, ob, h1, h2, h3⟩)
      (Nat.le_refl _)
      (by
        intro p b hp
        unfold Dof at hp
        cases hq : z.2.1[p]? with
        | none => rw [hq] at hp; cases hp
        | some id => exact .inl (List.getElem?_eq_some_iff.1 hq).1)
      (by
        rintro id ob b o hi h1 h2 (h | ⟨id', ob', g1, g2, g3, _⟩)
        · exact S.dis id ob b o h1 h2 h
        · have := S.inj id id' ob ob' b h1 g1 h2 g2
          subst this
          exact g3 hi)
      (by intro id ob b _ hg; simp at hg)
    obtain ⟨hsub1, hlent, S1⟩ := hO
    have at_ : ∀ (j : Nat) id, z.2.1[j]? = some id → ∃ ob, H id = some ob := by
      intro j id hj
      have hjl : j < z.1.length := by rw [hcl]; exact (List.getElem?_eq_some_iff.1 hj).1
      have hM0 : ∀ b o, b < w.heap.size → (fun _ _ => False : Nat → Nat → Prop) b o → Mut D H F b o := fun _ _ _ h => h.elim
      obtain ⟨_, _, _, c4⟩ := Q4g (M := fun _ _ => False) S hM0 false false 16 0 y.2.1 z (Nat.zero_le _) hz
      obtain ⟨id', ob, h1, h2, _⟩ := c4 z.2.1 (List.prefix_refl _) (fun _ _ _ _ _ _ _ _ h => h) j _ (List.getElem?_eq_getElem hjl)
      rw [Nat.zero_add, hj] at h1
      injection h1 with h1
      subst h1
      exact ⟨ob, h2⟩
    have hsubO : ∀ b o, MutO (Dof D z.2.1) (hF z.1) b o → MutO D H b o := by
      rintro b o ⟨p, ob, h1, h2, h3⟩
      have hM0 : ∀ b o, b < w.heap.size → (fun _ _ => False : Nat → Nat → Prop) b o → Mut D H F b o := fun _ _ _ h => h.elim
      obtain ⟨_, _, _, c4⟩ := Q4g (M := fun _ _ => False) S hM0 false false 16 0 y.2.1 z (Nat.zero_le _) hz
      obtain ⟨id', ob', e1, e2, _, e3, _⟩ := c4 z.2.1 (List.prefix_refl _) (fun _ _ _ _ _ _ _ _ h => h) p ob h1
      rw [Nat.zero_add] at e1
      unfold Dof at h2
      rw [e1] at h2
      exact ⟨id', ob', e2, h2, by omega⟩
    have hargs : RepL w (Mut (Dof D z.2.1) (hF z.1) (Off D H F z.2.1 (y.2.2 ++ z.2.2))) (Dof D z.2.1) vals.toList y.1 := by
      obtain ⟨_, _, c3, c4⟩ := Q4h (fun p ids x hx => Q9c S (M := Mut (Dof D z.2.1) (hF z.1) (Off D H F z.2.1 (y.2.2 ++ z.2.2))) (fun b o _ h => hsub1 b o h) byRef 8 p ids x hx) args [] y hy
      refine ⟨by rw [c3]; exact hv.1, fun i u q hu hq => ?_⟩
      have hlt : i < args.length := by rw [← c3]; exact (List.getElem?_eq_some_iff.1 hq).1
      exact c4 z.2.1 hz0.1 hlent.left i u args[i] q (List.getElem?_eq_getElem hlt) hq (hv.2 i u _ hu (List.getElem?_eq_getElem hlt))
    have hrun := hcall w (Dof D z.2.1) (Off D H F z.2.1 (y.2.2 ++ z.2.2)) vals (by rw [hcl]; exact S1) (fun id hi => by
      unfold Dof
      rw [List.getElem?_eq_none (by omega)]
      rfl) hargs
    refine hrun.mono ?_
    rintro e w' ⟨u, D1, rfl, S2, hk, hD1, hD2, hsub2, _, hrep⟩
    rw [hcl] at S2 hD1
    have cb : ∀ (cl : List (Nat × Option Ob)) (fl : Bool), ((fl = true ∧ cl = [] ∧ ∀ ob ∈ hh, ∀ p ∈ ob.cells, flat 8 p = true) ∨ (fl = false ∧ shut H (y.2.2 ++ z.2.2) = some cl)) → (fl = true → flat 8 v = true) → eff.hw = ws ++ cl → eff.v = v' →
        ∃ v D', Ending.returned u = .returned v ∧ Step w D H F n0 m fr w' D' (upH H eff.hw) ∧ Rep w' (Mut D' (upH H eff.hw) F) D' v eff.v := by
      intro cl fl hclo hfl e1 e2
      obtain ⟨D', st, conv⟩ := Q1gq S hfr hnd (fun id hi => by obtain ⟨j, hj⟩ := List.getElem?_of_mem hi; exact at_ j id hj) hdj hsub1 hsubO S2 hk hD1 hD2 hsub2 hlen h64 hws hclo
      rw [e1, e2]
      exact ⟨u, D', rfl, st, conv u v v' hfl hrep hv'⟩
    cases hflat : (flat 8 v && hh.all (fun ob => ob.cells.all (flat 8))) with
    | true =>
      rw [hflat] at h
      simp only [cond_true, Option.some.injEq] at h
      subst h
      rw [Bool.and_eq_true] at hflat
      refine cb [] true (.inl ⟨rfl, rfl, fun ob hob p hp => ?_⟩) (fun _ => hflat.1) (by simp) rfl
      have := List.all_eq_true.1 hflat.2 ob hob
      exact List.all_eq_true.1 this p hp
    | false =>
      rw [hflat] at h
      simp only [cond_false] at h
      obtain ⟨cl, hcl', h⟩ := bind_some h
      injection h with h
      subst h
      exact cb cl false (.inr ⟨rfl, hcl'⟩) (fun h => by cases h) rfl rfl
theorem Q1lr {f : Nat} {args : Array Value} (hc : Q9j P f) : (callFunc f args).run P w = .ok (.enter f args) w := by
 obtain ⟨fn, h1, h2, h3⟩ := hc
 have h3' : fn.name ≠ "runtime.NumGoroutine" := by simpa using h3
 have h2' : fn.body ≠ none := fun h => by rw [h] at h2; cases h2
 simp [callFunc, h1, h2', h3']
theorem Q1h9 (hX : Q8u P X) (S : Sim w D H F n0 m) (hfr : ∀ id, fr ≤ id → id < fr + 64 → D id = none ∧ H id = none) (he : Qbx w (Mut D H F) D a e) {o : Oper} {io : IOp} (hc : Q13h P o.op io = true) {f : Eff} (h : iop X e H fr io = some f)
    {K : Act → World → Prop} {Q : Exit → Act → World → Prop} (hK : ∀ v w' D', Step w D H F n0 m fr w' D' (upH H f.hw) → Rep w' (Mut D' (upH H f.hw) F) D' v f.v → K (a.put o.dst v) w') : Oper.wp P o a w K Q := by
  have hfr0 : D fr = none := (hfr fr (Nat.le_refl _) (by omega)).1
  have pure_ : chkP P o.op io = true → (opP e io).bind (fun v => some (⟨v, [], []⟩ : Eff)) = some f → Oper.wp P o a w K Q := by
    intro hcp h
    obtain ⟨p, hp, h⟩ := bind_some h
    injection h with h
    subst h
    obtain ⟨v, hr, hrep⟩ := Q1hs (P := P) he hcp hp
    unfold Oper.wp
    rw [hr]
    exact hK v w D (Step.same S rfl rfl rfl rfl) hrep
  have alloc_ : chkH P o.op io = true → (opA e fr io).bind (fun y => some (⟨y.1, [(fr, some y.2)], []⟩ : Eff)) = some f → Oper.wp P o a w K Q := by
    intro hch h
    obtain ⟨y, hy, h⟩ := bind_some h
    injection h with h
    subst h
    obtain ⟨v, w', D', hr, hst, hrep⟩ := Q1hr S hfr0 he hch hy
    unfold Oper.wp
    rw [hr]
    exact hK v w' D' hst hrep
  have whichH : ∀ io, chkP P o.op io = false → chkC o.op io = false → Q13h P o.op io = true → chkH P o.op io = true := by
    intro io h1 h2 h3
    unfold Q13h at h3
    rw [h1, h2] at h3
    simpa using h3
  have whichP : ∀ io, chkH P o.op io = false → chkC o.op io = false → Q13h P o.op io = true → chkP P o.op io = true := by
    intro io h1 h2 h3
    unfold Q13h at h3
    rw [h1, h2] at h3
    simpa using h3
  cases io with
  | box n x => exact alloc_ (whichH _ rfl rfl hc) h
  | zero z => exact alloc_ (whichH _ rfl rfl hc) h
  | lit sz n z ps => exact alloc_ (whichH _ rfl rfl hc) h
  | mks sz b z n => exact alloc_ (whichH _ rfl rfl hc) h
  | load n ag x =>
    have hch := whichH _ rfl rfl hc
    simp only [chkH] at hch
    split at hch
    · rename_i t x' heq
      rw [Bool.and_eq_true] at hch
      obtain ⟨v, hr, hrep, hw⟩ := Q19m S he heq hch.1 hch.2 h
      unfold Oper.wp
      rw [hr]
      refine hK v w D ?_ ?_
      · rw [hw]; exact Step.same S rfl rfl rfl rfl
      · rw [hw]; exact hrep
    · cases hch
  | store n x u =>
    have hch := whichH _ rfl rfl hc
    simp only [chkH] at hch
    split at hch
    · rename_i t x' z' heq
      rw [Bool.and_eq_true, Bool.and_eq_true] at hch
      obtain ⟨w', hr, hst, hv⟩ := Q146 (fr := fr) S he heq hch.1.1 hch.1.2 hch.2 h
      unfold Oper.wp
      rw [hr]
      exact hK undef w' D hst (by rw [hv]; exact .un _ _)
    · cases hch
  | append sz b x u =>
    obtain ⟨v, w', D', hr, hst, hrep⟩ := Q10t S hfr0 he (whichH _ rfl rfl hc) h
    unfold Oper.wp
    rw [hr]
    exact hK v w' D' hst hrep
  | clear sz z x =>
    obtain ⟨v, w', hr, hst, hv, rfl⟩ := Q13i (fr := fr) S he (whichH _ rfl rfl hc) h
    unfold Oper.wp
    rw [hr]
    exact hK _ w' D hst (by rw [hv]; exact .tup _ _ _ rfl (fun i v p hv => by simp at hv))
  | call byRef g ys =>
    have hcc : chkC o.op (.call byRef g ys) = true := by
      unfold Q13h at hc
      simpa [chkP, chkH] using hc
    obtain ⟨dst, op, type, pos, after, guard⟩ := o
    simp only [chkC] at hcc
    split at hcc
    · rename_i c
      split at hcc
      · rename_i x hcallee
        rw [Bool.and_eq_true] at hcc
        have hx := Q23 he hcc.1
        have hargs := Q9b he hcc.2
        obtain ⟨t, ht, h⟩ := bind_some h
        obtain ⟨f', h9, hf⟩ := bind_some h
        clear h
        injection hf with hf
        subst hf
        unfold target at ht
        split at ht
        · rename_i k a1 b1 hfn
          injection ht with ht
          subst ht
          rw [hfn] at hx
          generalize hgx : a.eval x = vx at hx
          cases hx with
          | fn _ _ xs zs _ _ ha hb h1 h2 =>
            have hvals : RepL w (Mut D H F) D (xs ++ c.args.map a.eval ++ zs).toList (a1 ++ evs e ys ++ b1) := by
              rw [Array.toList_append, Array.toList_append, Array.toList_map]
              exact RepL.append (RepL.append ⟨by simpa using ha, fun i v p hv hp => h1 i v p (by simpa using hv) hp⟩ hargs) ⟨by simpa using hb, fun i v p hv hp => h2 i v p (by simpa using hv) hp⟩
            obtain ⟨hcal, hrun⟩ := Q19a hX S hfr hvals h9
            have hx' : (execOp a.eval ⟨dst, .call c, type, pos, after, guard⟩).run P w = .ok (.enter k (xs ++ c.args.map a.eval ++ zs)) w := by
              simp only [execOp, resolve, hcallee, hgx, Deferred.ofValue, invoke]
              simp only [Sem.run_bind, Sem.run_pure, Result.andThen_ok]
              exact Q1lr hcal
            unfold Oper.wp
            rw [hx']
            refine hrun.mono ?_
            rintro e' w' ⟨v, D', rfl, hst, hrep⟩
            exact hK v w' D' (by rw [Q14f]; exact hst) (by rw [Q14f]; exact hrep)
        · cases ht
      · cases hcc
    · cases hcc
  | _ => exact pure_ (whichP _ rfl rfl hc) h
end
end Go.Pv
end

section
/-
  An operation's footprint: what it looks at, what it writes.
-/
namespace Go.Pv
open Go.RowKit
theorem Q2k {e e' : Nat → PV} {x : Opd} (h : ∀ t ∈ x.rd, e' t = e t) : x.ev e' = x.ev e := by
 cases x with
 | t n => exact h n (by simp [Opd.rd])
 | c v => rfl
 | f g => rfl
theorem Qam {e e' : Nat → PV} : ∀ {xs : List Opd}, (∀ t ∈ Qo2 xs, e' t = e t) → evs e' xs = evs e xs
 | [], _ => rfl
 | x :: r, h => by
  simp only [Qo2, List.mem_append] at h
  simp only [evs]
  rw [Q2k (fun t ht => h t (.inl ht)), Qam (fun t ht => h t (.inr ht))]
theorem Qe3 {e e' : Nat → PV} : ∀ {xs : List (Nat × Nat × Opd)}, (∀ t ∈ Q18h xs, e' t = e t) → Qal e' xs = Qal e xs
 | [], _ => rfl
 | (i, n, x) :: r, h => by
  simp only [Q18h, List.mem_append] at h
  simp only [Qal]
  rw [Q2k (fun t ht => h t (.inl ht)), Qe3 (fun t ht => h t (.inr ht))]
theorem Qfk {e e' : Nat → PV} {sz : Nat} : ∀ {xs : List (Nat × Opd)}, (∀ t ∈ Q1lk xs, e' t = e t) → Qe2 e' sz xs = Qe2 e sz xs
 | [], _ => rfl
 | (i, x) :: r, h => by
  simp only [Q1lk, List.mem_append] at h
  simp only [Qe2]
  rw [Q2k (fun t ht => h t (.inl ht)), Qfk (fun t ht => h t (.inr ht))]
theorem Q8r {e e' : Nat → PV} {d : Nat} {x : Option Opd} (h : ∀ t ∈ Q1bq x, e' t = e t) : Q6r e' d x = Q6r e d x := by
 cases x with
 | none => rfl
 | some x => simp only [Q6r]; rw [Q2k h]
theorem Q1h8 {X : Orc} {e e' : Nat → PV} {H : Nat → Option Ob} {fr : Nat} {io : IOp} (h : ∀ t ∈ io.rd, e' t = e t) : iop X e' H fr io = iop X e H fr io := by
 cases io <;> simp only [IOp.rd, List.mem_append] at h
 case mov x => simp only [iop, opP, Q2k h]
 case pick c a b => simp only [iop, opP, Q2k (fun t ht => h t (.inl ht)), Q2k (fun t ht => h t (.inr (.inl ht))), Q2k (fun t ht => h t (.inr (.inr ht)))]
 case box n x => simp only [iop, opA, Q2k h]
 case zero z => rfl
 case build z ps => simp only [iop, opP, Qe3 h]
 case bzero z => rfl
 case aaddr n sz x y => simp only [iop, opP, Q2k (fun t ht => h t (.inl ht)), Q2k (fun t ht => h t (.inr ht))]
 case lit sz n z ps => simp only [iop, opA, Qfk h]
 case load n ag x => simp only [iop, Q2k h]
 case store n x y => simp only [iop, Q2k (fun t ht => h t (.inl ht)), Q2k (fun t ht => h t (.inr ht))]
 case nilck x => simp only [iop, opP, Q2k h]
 case bin op x y => simp only [iop, opP, Q2k (fun t ht => h t (.inl ht)), Q2k (fun t ht => h t (.inr ht))]
 case eqs t ng x y => simp only [iop, opP, Q2k (fun t ht => h t (.inl ht)), Q2k (fun t ht => h t (.inr ht))]
 case un op x => simp only [iop, opP, Q2k h]
 case conv k x => simp only [iop, opP, Q2k h]
 case mkfn f a b => simp only [iop, opP, Qam (fun t ht => h t (.inl ht)), Qam (fun t ht => h t (.inr ht))]
 case mks sz b z n => simp only [iop, opA, Q2k h]
 case slice sz x lo hi mx =>
  have h1 : x.ev e' = x.ev e := Q2k (fun t ht => h t (.inl ht))
  have h2 : ∀ d, Q6r e' d lo = Q6r e d lo := fun d => Q8r (fun t ht => h t (.inr (.inl ht)))
  have h3 : ∀ d, Q6r e' d hi = Q6r e d hi := fun d => Q8r (fun t ht => h t (.inr (.inr (.inl ht))))
  cases mx with
  | none => simp only [iop, opP, h1, h2, h3]
  | some mx =>
   have h4 : mx.ev e' = mx.ev e := Q2k (fun t ht => h t (.inr (.inr (.inr ht))))
   simp only [iop, opP, h1, h2, h3, h4]
 case cut x lo hi => simp only [iop, opP, Q2k (fun t ht => h t (.inl ht)), Q8r (fun t ht => h t (.inr (.inl ht))), Q8r (fun t ht => h t (.inr (.inr ht)))]
 case faddr off x => simp only [iop, opP, Q2k h]
 case field off n ag x => simp only [iop, opP, Q2k h]
 case iaddr sz x y => simp only [iop, opP, Q2k (fun t ht => h t (.inl ht)), Q2k (fun t ht => h t (.inr ht))]
 case index x y => simp only [iop, opP, Q2k (fun t ht => h t (.inl ht)), Q2k (fun t ht => h t (.inr ht))]
 case extract x i => simp only [iop, opP, Q2k h]
 case len s x => simp only [iop, opP, Q2k h]
 case eqb n x y => simp only [iop, opP, Q2k (fun t ht => h t (.inl ht)), Q2k (fun t ht => h t (.inr ht))]
 case append sz b x y => simp only [iop, Q2k (fun t ht => h t (.inl ht)), Q2k (fun t ht => h t (.inr ht))]
 case mnmx m x xs => simp only [iop, opP, Q2k (fun t ht => h t (.inl ht)), Qam (fun t ht => h t (.inr ht))]
 case clear sz z x => simp only [iop, Q2k h]
 case call b f xs => simp only [iop, Q2k (fun t ht => h t (.inl ht)), Qam (fun t ht => h t (.inr ht))]
theorem Quy {α β : Type} {f g : α → Option β} : ∀ {c : List α} {l : List β}, mapO f c = some l → (∀ p ∈ c, ∀ y, f p = some y → y ∈ l → g p = some y) → mapO g c = some l
 | [], l, h, _ => h
 | x :: r, l, h, hg => by
  simp only [mapO] at h ⊢
  obtain ⟨y, hy, h⟩ := bind_some h
  obtain ⟨m, hm, h⟩ := bind_some h
  injection h with h
  subst h
  rw [hg x List.mem_cons_self y hy List.mem_cons_self]
  show (mapO g r).bind _ = _
  rw [Quy hm (fun p hp y hy hl => hg p (List.mem_cons_of_mem _ hp) y hy (List.mem_cons_of_mem _ hl))]
  rfl
section
variable {H H' : Nat → Option Ob}
theorem Q1kn : ∀ (n : Nat) (p q : PV) (fr : List Nat), fz H n p = some (q, fr) → (∀ id ∈ fr, H' id = H id) → fz H' n p = some (q, fr) := by
  intro n
  induction n with
  | zero => intro p q fr h; simp [fz] at h
  | succ n ih =>
    have lst : ∀ (c : List PV) (l : List (PV × List Nat)), mapO (fz H n) c = some l → (∀ id ∈ (l.map (·.2)).flatten, H' id = H id) → mapO (fz H' n) c = some l := by
      intro c l h hi
      refine Quy h (fun p _ y hy hl => ih p y.1 y.2 hy (fun id hid => hi id (List.mem_flatten.2 ⟨y.2, List.mem_map.2 ⟨y, hl, rfl⟩, hid⟩)))
    intro p q fr h hi
    cases p with
    | ms id sz off len =>
      simp only [fz] at h ⊢
      obtain ⟨ob, hob, h⟩ := bind_some h
      obtain ⟨hb, h⟩ := Q25 h
      obtain ⟨l, hl, h⟩ := bind_some h
      injection h with h
      injection h with h1 h2
      subst h1 h2
      rw [hi id List.mem_cons_self, hob]
      show (bif _ then _ else _) = _
      rw [hb]
      show (mapO (fz H' n) _).bind _ = _
      rw [lst _ l hl (fun id hid => hi id (List.mem_cons_of_mem _ hid))]
      rfl
    | agg c =>
      simp only [fz] at h ⊢
      obtain ⟨l, hl, h⟩ := bind_some h
      injection h with h
      injection h with h1 h2
      subst h1 h2
      rw [lst _ l hl hi]
      rfl
    | tup c =>
      simp only [fz] at h ⊢
      obtain ⟨l, hl, h⟩ := bind_some h
      injection h with h
      injection h with h1 h2
      subst h1 h2
      rw [lst _ l hl hi]
      rfl
    | fn f a b =>
      simp only [fz] at h ⊢
      obtain ⟨l, hl, h⟩ := bind_some h
      obtain ⟨m, hm, h⟩ := bind_some h
      injection h with h
      injection h with h1 h2
      subst h1 h2
      rw [lst _ l hl (fun id hid => hi id (List.mem_append_left _ hid)), Option.bind_some, lst _ m hm (fun id hid => hi id (List.mem_append_right _ hid))]
      rfl
    | _ => simp only [fz] at h ⊢; exact h
theorem Q52 {f : PV → List Nat → Option Pass} (hf : ∀ p ids x, f p ids = some x → ids <+: x.ids) : ∀ (c : List PV) (ids : List Nat) (y : List PV × List Nat × List Nat), Q66 f c ids = some y → ids <+: y.2.1
 | [], ids, y, h => by simp only [Q66, Option.some.injEq] at h; subst h; exact List.prefix_refl _
 | p :: r, ids, y, h => by
  simp only [Q66] at h
  obtain ⟨x, hx, h⟩ := bind_some h
  obtain ⟨z, hz, h⟩ := bind_some h
  injection h with h
  subst h
  exact (hf p ids x hx).trans (Q52 hf r x.ids z hz)
theorem Qoj (byRef : Bool) : ∀ (n : Nat) (p : PV) (ids : List Nat) (x : Pass), pass H byRef n p ids = some x → ids <+: x.ids := by
 intro n
 induction n with
 | zero => intro p ids x h; simp [pass] at h
 | succ n ih =>
  intro p ids x h
  cases p with
  | bx id off => simp only [pass, Option.some.injEq] at h; subst h; exact (Qbr ids id).1
  | ms id sz off len =>
   simp only [pass] at h
   cases byRef with
   | true => simp only [cond_true, Option.some.injEq] at h; subst h; exact (Qbr ids id).1
   | false =>
    simp only [cond_false] at h
    obtain ⟨y, hy, h⟩ := bind_some h
    injection h with h
    subst h
    exact List.prefix_refl _
  | agg c =>
   simp only [pass] at h
   obtain ⟨y, hy, h⟩ := bind_some h
   injection h with h
   subst h
   exact Q52 ih c ids y hy
  | tup c =>
   simp only [pass] at h
   obtain ⟨y, hy, h⟩ := bind_some h
   injection h with h
   subst h
   exact Q52 ih c ids y hy
  | fn f a b =>
   simp only [pass] at h
   obtain ⟨y, hy, h⟩ := bind_some h
   obtain ⟨z, hz, h⟩ := bind_some h
   injection h with h
   subst h
   exact (Q52 ih a ids y hy).trans (Q52 ih b y.2.1 z hz)
  | _ => simp only [pass, Option.some.injEq] at h; subst h; exact List.prefix_refl _
theorem Q67 {f g : PV → List Nat → Option Pass} (hf : ∀ p ids x, f p ids = some x → (∀ id ∈ x.fr, H' id = H id) → g p ids = some x) : ∀ (c : List PV) (ids : List Nat) (y : List PV × List Nat × List Nat), Q66 f c ids = some y → (∀ id ∈ y.2.2, H' id = H id) → Q66 g c ids = some y
 | [], ids, y, h, _ => h
 | p :: r, ids, y, h, hi => by
  simp only [Q66] at h ⊢
  obtain ⟨x, hx, h⟩ := bind_some h
  obtain ⟨z, hz, h⟩ := bind_some h
  injection h with h
  subst h
  rw [hf p ids x hx (fun id hid => hi id (List.mem_append_left _ hid)), Option.bind_some, Q67 hf r x.ids z hz (fun id hid => hi id (List.mem_append_right _ hid))]
  rfl
theorem Qv2 (byRef : Bool) : ∀ (n : Nat) (p : PV) (ids : List Nat) (x : Pass), pass H byRef n p ids = some x → (∀ id ∈ x.fr, H' id = H id) → pass H' byRef n p ids = some x := by
 intro n
 induction n with
 | zero => intro p ids x h; simp [pass] at h
 | succ n ih =>
  intro p ids x h hi
  cases p with
  | ms id sz off len =>
   cases byRef with
   | true => rw [pass, cond_true] at h ⊢; exact h
   | false =>
    rw [pass, cond_false] at h ⊢
    obtain ⟨⟨q, fr⟩, hy, h⟩ := bind_some h
    injection h with h
    subst h
    have := Q1kn (H' := H') 8 _ q fr hy hi
    rw [this, Option.bind_some]
  | agg c =>
   simp only [pass] at h ⊢
   obtain ⟨y, hy, h⟩ := bind_some h
   injection h with h
   subst h
   rw [Q67 ih c ids y hy hi]
   rfl
  | tup c =>
   simp only [pass] at h ⊢
   obtain ⟨y, hy, h⟩ := bind_some h
   injection h with h
   subst h
   rw [Q67 ih c ids y hy hi]
   rfl
  | fn f a b =>
   simp only [pass] at h ⊢
   obtain ⟨y, hy, h⟩ := bind_some h
   obtain ⟨z, hz, h⟩ := bind_some h
   injection h with h
   subst h
   rw [Q67 ih a ids y hy (fun id hid => hi id (List.mem_append_left _ hid)), Option.bind_some, Q67 ih b y.2.1 z hz (fun id hid => hi id (List.mem_append_right _ hid))]
   rfl
  | _ => simp only [pass] at h ⊢; exact h
theorem Q90 (byRef own : Bool) : ∀ (n k : Nat) (ids : List Nat) (z : List Ob × List Nat × List Nat), Q3w H byRef own n k ids = some z → ids <+: z.2.1 ∧ ∀ (j : Nat) id, k ≤ j → z.2.1[j]? = some id → ∃ ob, H id = some ob
  | 0, k, ids, z, h => by simp [Q3w] at h
  | n + 1, k, ids, z, h => by
    simp only [Q3w] at h
    cases hid : ids[k]? with
    | none =>
      simp only [hid, Option.some.injEq] at h
      subst h
      refine ⟨List.prefix_refl _, fun j id hj hz => ?_⟩
      have h1 : ids.length ≤ k := by simpa using hid
      have h2 := (List.getElem?_eq_some_iff.1 hz).1
      simp only at h2
      omega
    | some id =>
      simp only [hid] at h
      obtain ⟨ob, hob, h⟩ := bind_some h
      obtain ⟨y, hy, h⟩ := bind_some h
      obtain ⟨z', hz, h⟩ := bind_some h
      injection h with h
      subst h
      have p1 := Q52 (Qoj byRef 8) ob.cells ids y hy
      obtain ⟨p2, p3⟩ := Q90 byRef own n (k + 1) y.2.1 z' hz
      refine ⟨p1.trans p2, fun j id' hj hz' => ?_⟩
      by_cases c : j = k
      · subst c
        have := Q82 (p1.trans p2) hid
        simp only at hz'
        rw [this] at hz'
        injection hz' with hz'
        subst hz'
        exact ⟨ob, hob⟩
      · exact p3 j id' (by omega) hz'
theorem Qeg (byRef own : Bool) : ∀ (n k : Nat) (ids : List Nat) (z : List Ob × List Nat × List Nat), Q3w H byRef own n k ids = some z → (∀ id ∈ z.2.1, H' id = H id) → (∀ id ∈ z.2.2, H' id = H id) → Q3w H' byRef own n k ids = some z
 | 0, k, ids, z, h, _, _ => by simp [Q3w] at h
 | n + 1, k, ids, z, h, h1, h2 => by
  simp only [Q3w] at h ⊢
  cases hid : ids[k]? with
  | none => simp only [hid] at h ⊢; exact h
  | some id =>
   simp only [hid] at h ⊢
   obtain ⟨ob, hob, h⟩ := bind_some h
   obtain ⟨y, hy, h⟩ := bind_some h
   obtain ⟨z', hz, h⟩ := bind_some h
   injection h with h
   subst h
   have p1 := Q52 (Qoj byRef 8) ob.cells ids y hy
   obtain ⟨p2, _⟩ := Q90 byRef own n (k + 1) y.2.1 z' hz
   rw [h1 id (List.mem_of_getElem? (Q82 (p1.trans p2) hid)), hob, Option.bind_some, Q67 (Qv2 byRef 8) ob.cells ids y hy (fun id hid => h2 id (List.mem_append_left _ hid)), Option.bind_some,
    Qeg byRef own n (k + 1) y.2.1 z' hz h1 (fun id hid => h2 id (List.mem_append_right _ hid))]
   rfl
theorem Qv8 : ∀ {l : List Nat} {cl : List (Nat × Option Ob)}, shut H l = some cl → (∀ id ∈ l, H' id = H id) → shut H' l = some cl
 | [], cl, h, _ => h
 | id :: r, cl, h, hi => by
  simp only [shut] at h ⊢
  obtain ⟨ob, hob, h⟩ := bind_some h
  obtain ⟨m, hm, h⟩ := bind_some h
  rw [hi id List.mem_cons_self, hob, Option.bind_some, Qv8 hm (fun id hid => hi id (List.mem_cons_of_mem _ hid)), Option.bind_some]
  exact h
theorem Q13x {n : Nat} {p : PV} {c : List PV × List Nat} (h : reads H n p = some c) (hi : ∀ id ∈ c.2, H' id = H id) : reads H' n p = some c := by
 unfold reads at *
 cases p with
 | bx id off =>
  simp only at h ⊢
  obtain ⟨ob, hob, h⟩ := bind_some h
  obtain ⟨hb, h⟩ := Q25 h
  injection h with h
  subst h
  rw [hi id List.mem_cons_self, hob, Option.bind_some, hb]
  rfl
 | _ => exact h
theorem Qfq {sz : Nat} {p : PV} {c : Nat × List PV × List Nat} (h : source H sz p = some c) (hi : ∀ id ∈ c.2.2, H' id = H id) : source H' sz p = some c := by
 unfold source at *
 cases p with
 | ms id sz' off len =>
  simp only at h ⊢
  obtain ⟨ob, hob, h⟩ := bind_some h
  obtain ⟨hb, h⟩ := Q25 h
  injection h with h
  subst h
  rw [hi id List.mem_cons_self, hob, Option.bind_some, hb]
  rfl
 | _ => exact h
theorem Q13p {X : Orc} {fr : Nat} {byRef : Bool} {f : Nat} {args : List PV} {x : Eff} (h : Qfw X H fr byRef f args = some x) (hi : ∀ id ∈ x.hr, H' id = H id) : Qfw X H' fr byRef f args = some x := by
 unfold Qfw at *
 obtain ⟨y, hy, h⟩ := bind_some h
 obtain ⟨z, hz, h⟩ := bind_some h
 obtain ⟨hdj, h⟩ := Q25 h
 obtain ⟨r, hr, h⟩ := bind_some h
 cases r with
 | st _ _ => cases h
 | ret v hh =>
  simp only at h
  obtain ⟨hle, h⟩ := Q25 h
  obtain ⟨v', hv', h⟩ := bind_some h
  obtain ⟨ws, hws, h⟩ := bind_some h
  have key : ∀ id ∈ z.2.1 ++ (y.2.2 ++ z.2.2), H' id = H id := by
   cases hflat : (flat 8 v && hh.all (fun ob => ob.cells.all (flat 8))) with
   | true =>
    rw [hflat] at h
    simp only [cond_true, Option.some.injEq] at h
    subst h
    exact hi
   | false =>
    rw [hflat] at h
    simp only [cond_false] at h
    obtain ⟨cl, _, h⟩ := bind_some h
    injection h with h
    subst h
    exact hi
  rw [Q67 (Qv2 byRef 8) args [] y hy (fun id hid => key id (List.mem_append_right _ (List.mem_append_left _ hid))), Option.bind_some,
   Qeg false false 16 0 y.2.1 z hz (fun id hid => key id (List.mem_append_left _ hid)) (fun id hid => key id (List.mem_append_right _ (List.mem_append_right _ hid))), Option.bind_some]
  simp only
  rw [hdj]
  simp only [cond_true]
  rw [hr, Option.bind_some]
  simp only
  rw [hle]
  simp only [cond_true]
  rw [hv', Option.bind_some, hws, Option.bind_some]
  cases hflat : (flat 8 v && hh.all (fun ob => ob.cells.all (flat 8))) with
  | true => rw [hflat] at h; exact h
  | false =>
   rw [hflat] at h
   simp only [cond_false] at h ⊢
   obtain ⟨cl, hcl, h⟩ := bind_some h
   rw [Qv8 hcl (fun id hid => key id (List.mem_append_right _ hid))]
   exact h
theorem Q19i {X : Orc} {e : Nat → PV} {fr : Nat} {io : IOp} {x : Eff} (h : iop X e H fr io = some x) (hi : ∀ id ∈ x.hr, H' id = H id) : iop X e H' fr io = some x := by
  cases io with
  | load n ag p =>
    simp only [iop, Qee] at h ⊢
    obtain ⟨c, hc, h⟩ := bind_some h
    obtain ⟨v, hv, h⟩ := bind_some h
    injection h with h
    subst h
    rw [Q13x hc hi, Option.bind_some, hv]
    rfl
  | store n p q =>
    simp only [iop, Qci] at h ⊢
    split at h
    · rename_i id off hid
      obtain ⟨ob, hob, h⟩ := bind_some h
      obtain ⟨hb, h⟩ := Q25 h
      injection h with h
      subst h
      rw [hi id List.mem_cons_self, hob, Option.bind_some, hb]
      rfl
    · cases h
  | append sz b p q =>
    simp only [iop, Q4q] at h ⊢
    obtain ⟨s, hs, h⟩ := bind_some h
    split at h
    · rename_i hp
      obtain ⟨hb, h⟩ := Q25 h
      have hx : x.hr = s.2.2 := by
        split at h <;> (injection h with h; subst h; rfl)
      rw [Qfq hs (fun id hid => hi id (by rw [hx]; exact hid)), Option.bind_some, hb]
      exact h
    · rename_i id sz' off len hp
      obtain ⟨ob, hob, h⟩ := bind_some h
      obtain ⟨hb, h⟩ := Q25 h
      obtain ⟨kc, hkc, h⟩ := bind_some h
      injection h with h
      subst h
      rw [Qfq hs (fun id hid => hi id (List.mem_cons_of_mem _ hid)), Option.bind_some]
      rw [hi id List.mem_cons_self, hob, Option.bind_some, hb, cond_true, hkc]
      rfl
    · cases h
  | clear sz z p =>
    simp only [iop, Qog] at h ⊢
    split at h
    · exact h
    · exact h
    · rename_i id sz' off len hp
      obtain ⟨ob, hob, h⟩ := bind_some h
      obtain ⟨hb, h⟩ := Q25 h
      injection h with h
      subst h
      rw [hi id List.mem_cons_self, hob, Option.bind_some, hb]
      rfl
    · cases h
  | call b f xs =>
    simp only [iop] at h ⊢
    obtain ⟨t, ht, h⟩ := bind_some h
    obtain ⟨x', h9, hx⟩ := bind_some h
    clear h
    injection hx with hx
    subst hx
    rw [ht, Option.bind_some, Q13p h9 hi, Option.bind_some, Q1c7 (x := x') hi]
  | _ => simp only [iop, opP, opA] at h ⊢; exact h
theorem Q1ze {X : Orc} {e : Nat → PV} {fr : Nat} {io : IOp} {x : Eff} (h : iop X e H fr io = some x) : ∀ y ∈ x.hw, (∃ ob, H y.1 = some ob) ∨ (fr ≤ y.1 ∧ y.1 < fr + 64) := by
  have pure_ : ∀ {io : IOp}, (opP e io).bind (fun v => some (⟨v, [], []⟩ : Eff)) = some x → ∀ y ∈ x.hw, (∃ ob, H y.1 = some ob) ∨ (fr ≤ y.1 ∧ y.1 < fr + 64) := by
    intro io h
    obtain ⟨v, _, h⟩ := bind_some h
    injection h with h
    subst h
    intro y hy
    exact absurd hy List.not_mem_nil
  have alloc_ : ∀ {io : IOp}, (opA e fr io).bind (fun y => some (⟨y.1, [(fr, some y.2)], []⟩ : Eff)) = some x → ∀ y ∈ x.hw, (∃ ob, H y.1 = some ob) ∨ (fr ≤ y.1 ∧ y.1 < fr + 64) := by
    intro io h
    obtain ⟨v, _, h⟩ := bind_some h
    injection h with h
    subst h
    intro y hy
    rw [List.mem_singleton] at hy
    subst hy
    exact .inr ⟨Nat.le_refl _, by omega⟩
  cases io with
  | box n p => exact alloc_ (io := .box n p) h
  | zero z => exact alloc_ (io := .zero z) h
  | lit a b c d => exact alloc_ (io := .lit a b c d) h
  | mks a b c d => exact alloc_ (io := .mks a b c d) h
  | load n ag p =>
    simp only [iop, Qee] at h
    obtain ⟨c, hc, h⟩ := bind_some h
    obtain ⟨v, hv, h⟩ := bind_some h
    injection h with h
    subst h
    intro y hy
    exact absurd hy List.not_mem_nil
  | store n p q =>
    simp only [iop, Qci] at h
    split at h
    · rename_i id off hid
      obtain ⟨ob, hob, h⟩ := bind_some h
      obtain ⟨hb, h⟩ := Q25 h
      injection h with h
      subst h
      intro y hy
      rw [List.mem_singleton] at hy
      subst hy
      exact .inl ⟨ob, hob⟩
    · cases h
  | append sz b p q =>
    simp only [iop, Q4q] at h
    obtain ⟨s, hs, h⟩ := bind_some h
    split at h
    · obtain ⟨hb, h⟩ := Q25 h
      split at h
      · injection h with h
        subst h
        intro y hy
        exact absurd hy List.not_mem_nil
      · injection h with h
        subst h
        intro y hy
        rw [List.mem_singleton] at hy
        subst hy
        exact .inr ⟨Nat.le_refl _, by show fr < fr + 64; omega⟩
    · rename_i id sz' off len hp
      obtain ⟨ob, hob, h⟩ := bind_some h
      obtain ⟨hb, h⟩ := Q25 h
      obtain ⟨kc, hkc, h⟩ := bind_some h
      injection h with h
      subst h
      intro y hy
      rcases List.mem_cons.1 hy with rfl | hy
      · exact .inl ⟨ob, hob⟩
      · rw [List.mem_singleton] at hy
        subst hy
        exact .inr ⟨Nat.le_refl _, by show fr < fr + 64; omega⟩
    · cases h
  | clear sz z p =>
    simp only [iop, Qog] at h
    split at h
    · injection h with h; subst h; intro y hy; exact absurd hy List.not_mem_nil
    · injection h with h; subst h; intro y hy; exact absurd hy List.not_mem_nil
    · rename_i id sz' off len hp
      obtain ⟨ob, hob, h⟩ := bind_some h
      obtain ⟨hb, h⟩ := Q25 h
      injection h with h
      subst h
      intro y hy
      rw [List.mem_singleton] at hy
      subst hy
      exact .inl ⟨ob, hob⟩
    · cases h
  | call b f xs =>
    simp only [iop] at h
    obtain ⟨t, ht, h⟩ := bind_some h
    obtain ⟨x', h9, hx⟩ := bind_some h
    clear h
    injection hx with hx
    subst hx
    have h := h9
    clear h9
    suffices hs : ∀ y ∈ x'.hw, (∃ ob, H y.1 = some ob) ∨ (fr ≤ y.1 ∧ y.1 < fr + 64) from fun y hy => hs y (Q1uh y hy)
    unfold Qfw at h
    obtain ⟨y, hy, h⟩ := bind_some h
    obtain ⟨z, hz, h⟩ := bind_some h
    obtain ⟨hdj, h⟩ := Q25 h
    obtain ⟨r, hr, h⟩ := bind_some h
    cases r with
    | st _ _ => cases h
    | ret v hh =>
      simp only at h
      obtain ⟨hle, h⟩ := Q25 h
      obtain ⟨v', hv', h⟩ := bind_some h
      obtain ⟨ws, hws, h⟩ := bind_some h
      rw [Bool.and_eq_true] at hle
      have hlen := Nat.le_of_ble_eq_true hle.1
      have h64 := Nat.le_of_ble_eq_true hle.2
      obtain ⟨wl, wsp⟩ := Qai 0 hh ws hws
      have hw1 : ∀ q ∈ ws, (∃ ob, H q.1 = some ob) ∨ (fr ≤ q.1 ∧ q.1 < fr + 64) := by
        intro q hq
        obtain ⟨j, hj⟩ := List.getElem?_of_mem hq
        obtain ⟨ob, l, e1, e2, e3⟩ := wsp j q hj
        have hjl := (List.getElem?_eq_some_iff.1 e1).1
        subst e3
        simp only [Nat.zero_add]
        unfold ren
        cases hp : z.2.1[j]? with
        | some id => exact .inl ((Q90 false false 16 0 y.2.1 z hz).2 j id (Nat.zero_le _) hp)
        | none =>
          have : z.2.1.length ≤ j := by simpa using hp
          exact .inr ⟨by simp, by simp only; omega⟩
      cases hflat : (flat 8 v && hh.all (fun ob => ob.cells.all (flat 8))) with
      | true =>
        rw [hflat] at h
        simp only [cond_true, Option.some.injEq] at h
        subst h
        exact hw1
      | false =>
        rw [hflat] at h
        simp only [cond_false] at h
        obtain ⟨cl, hcl, h⟩ := bind_some h
        injection h with h
        subst h
        intro q hq
        rcases List.mem_append.1 hq with hq | hq
        · exact hw1 q hq
        · obtain ⟨_, ob, h2, _⟩ := (Qet _ cl hcl).1 q hq
          exact .inl ⟨ob, h2⟩
  | mov p => exact pure_ (io := .mov p) h
  | pick p q r => exact pure_ (io := .pick p q r) h
  | build p q => exact pure_ (io := .build p q) h
  | bzero p => exact pure_ (io := .bzero p) h
  | aaddr p q r s => exact pure_ (io := .aaddr p q r s) h
  | nilck p => exact pure_ (io := .nilck p) h
  | bin p q r => exact pure_ (io := .bin p q r) h
  | eqs p q r s => exact pure_ (io := .eqs p q r s) h
  | un p q => exact pure_ (io := .un p q) h
  | conv p q => exact pure_ (io := .conv p q) h
  | mkfn p q r => exact pure_ (io := .mkfn p q r) h
  | slice p q r s t => exact pure_ (io := .slice p q r s t) h
  | cut p q r => exact pure_ (io := .cut p q r) h
  | faddr p q => exact pure_ (io := .faddr p q) h
  | field p q r s => exact pure_ (io := .field p q r s) h
  | iaddr p q r => exact pure_ (io := .iaddr p q r) h
  | index p q => exact pure_ (io := .index p q) h
  | extract p q => exact pure_ (io := .extract p q) h
  | len p q => exact pure_ (io := .len p q) h
  | eqb p q r => exact pure_ (io := .eqb p q r) h
  | mnmx p q r => exact pure_ (io := .mnmx p q r) h
theorem Q13r {X : Orc} {e e' : Nat → PV} {fr : Nat} {o : IOper} {x : Eff} (h : Q8z X e H fr o = some x) (he : ∀ t ∈ o.looks, e' t = e t) (hi : ∀ id ∈ x.hr, H' id = H id) : Q8z X e' H' fr o = some x := by
 unfold Q8z at *
 obtain ⟨b, hb, h⟩ := bind_some h
 have hb' : o.wanted e' = some b := by
  unfold IOper.wanted at *
  cases hg : o.guard with
  | none => rw [hg] at hb; exact hb
  | some g =>
   obtain ⟨s, want⟩ := g
   rw [hg] at hb
   simp only at hb ⊢
   rw [he s (by unfold IOper.looks; rw [hg]; exact List.mem_cons_self)]
   exact hb
 have hrd : ∀ t ∈ o.op.rd, e' t = e t := by
  intro t ht
  refine he t ?_
  unfold IOper.looks
  cases o.guard with
  | none => exact ht
  | some g => exact List.mem_cons_of_mem _ ht
 rw [hb', Option.bind_some]
 cases b with
 | true => simp only [cond_true] at h ⊢; rw [Q1h8 hrd]; exact Q19i h hi
 | false => exact h
theorem Q17h {X : Orc} {e : Nat → PV} {fr : Nat} {o : IOper} {x : Eff} (h : Q8z X e H fr o = some x) : ∀ y ∈ x.hw, (∃ ob, H y.1 = some ob) ∨ (fr ≤ y.1 ∧ y.1 < fr + 64) := by
 unfold Q8z at h
 obtain ⟨b, hb, h⟩ := bind_some h
 cases b with
 | true => simp only [cond_true] at h; exact Q1ze h
 | false =>
  simp only [cond_false, Option.some.injEq] at h
  subst h
  intro y hy
  exact absurd hy List.not_mem_nil
end
end Go.Pv
end

