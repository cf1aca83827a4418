/- Texts of the claim, merged by a program; what the statement does not reach is left out. -/
import Derived.Test.YtimjjohlpnkacaaGreatBWorkcodecDecodes2
import Derived.Test.YtimjjohlpnkacaaGreatProg
import Derived.KernelRfl

section
/- The seat's functions as the evaluator takes them; printed by a program, checked against the given ones in YtimjjohlpnkacaaGreatTie. -/
namespace Go.Proofs.YtimjjohlpnkacaaGreat.Ir
open Go.Pv
def o (d : Nat) (op : IOp) : IOper := ⟨some d, none, op, []⟩
def ob (d : Nat) (op : IOp) (b : List Nat) : IOper := ⟨some d, none, op, b⟩
def oM (d t : Nat) : IOper := o d (.mov (.t t))
def oX (d t k : Nat) : IOper := o d (.extract (.t t) k)
def oL (d n t : Nat) : IOper := o d (.load n true (.t t))
def oK (d n t : Nat) : IOper := o d (.load n false (.t t))
def oF (d n t : Nat) : IOper := o d (.faddr n (.t t))
def oS (n a b : Nat) : IOper := ⟨none, none, .store n (.t a) (.t b), []⟩
def oC (d f : Nat) (l : List Opd) : IOper := o d (.call false (.f f) l)
def oI (d n a b : Nat) : IOper := o d (.iaddr n (.t a) (.t b))
def oN (d t : Nat) : IOper := o d (.len false (.t t))
def oU (d t : Nat) : IOper := o d (.un .not (.t t))
def gT (d s : Nat) (x : IOp) : IOper := ⟨some d, some (s, true), x, []⟩
def gF (d s : Nat) (x : IOp) : IOper := ⟨some d, some (s, false), x, []⟩
def oD (d f : Nat) (l : List Opd) (b : List Nat) : IOper := ob d (.call false (.f f) l) b
def oE (d n t : Nat) (b : List Nat) : IOper := ob d (.load n false (.t t)) b
def oP (d a b : Nat) : IOper := o d (.pick (.t a) (.t b) (.c (.bool false)))
def oQ (d a b : Nat) : IOper := o d (.pick (.t a) (.c (.bool true)) (.t b))
def oA (d t : Nat) : IOper := o d (.bin .add (.t t) (.c (iN 1)))
def oJ (d n k a b : Nat) : IOper := o d (.append n k (.t a) (.t b))
def zS : PV := .str ⟨#[]⟩
def zI : PV := iN 0
def zB : PV := .bool false
def sA0 : Opd := .c (.str ⟨#[100, 101, 108, 97, 121]⟩)
def sA1 : Opd := .c (.str ⟨#[100, 101, 115, 105, 114, 101, 100]⟩)
def sA2 : Opd := .c (.str ⟨#[100, 101, 97, 100, 108, 105, 110, 101]⟩)
def sA3 : Opd := .c (.str ⟨#[100, 105, 115, 107]⟩)
def sA4 : Opd := .c (.str ⟨#[100, 105, 115, 114, 117, 112, 116, 101, 100]⟩)
def sA5 : Opd := .c (.str ⟨#[100, 111, 110, 101]⟩)
def sA6 : Opd := .c (.str ⟨#[100, 111, 119, 110, 83, 116, 101, 112]⟩)
def sA7 : Opd := .c (.str ⟨#[100, 111, 119, 110, 87, 105, 110, 100, 111, 119]⟩)
def sA8 : Opd := .c (.str ⟨#[101, 102, 102, 101, 99, 116]⟩)
def sA9 : Opd := .c (.str ⟨#[101, 120, 105, 115, 116, 115]⟩)
def sA10 : Opd := .c (.str ⟨#[101, 120, 112, 101, 99, 116, 101, 100]⟩)
def sA11 : Opd := .c (.str ⟨#[102, 105, 110, 105, 115, 104, 101, 100]⟩)
def sA12 : Opd := .c (.str ⟨#[102, 97, 105, 108, 101, 100]⟩)
def sA13 : Opd := .c (.str ⟨#[102, 97, 105, 108, 117, 114, 101]⟩)
def sA14 : Opd := .c (.str ⟨#[103, 114, 97, 99, 101]⟩)
def sA15 : Opd := .c (.str ⟨#[104, 101, 97, 108, 116, 104, 121]⟩)
def sA16 : Opd := .c (.str ⟨#[104, 105, 115, 116, 111, 114, 121]⟩)
def sA17 : Opd := .c (.str ⟨#[104, 97, 114, 100]⟩)
def sA18 : Opd := .c (.str ⟨#[104, 97, 115]⟩)
def sA19 : Opd := .c (.str ⟨#[105, 109, 97, 103, 101]⟩)
def sA20 : Opd := .c (.str ⟨#[105, 110, 100, 101, 120, 101, 100]⟩)
def sA21 : Opd := .c (.str ⟨#[106, 111, 98]⟩)
def sA22 : Opd := .c (.str ⟨#[107, 101, 101, 112, 68, 111, 110, 101]⟩)
def sA23 : Opd := .c (.str ⟨#[107, 101, 121]⟩)
def sA24 : Opd := .c (.str ⟨#[108, 105, 109, 105, 116]⟩)
def sA25 : Opd := .c (.str ⟨#[108, 105, 118, 101]⟩)
def sA26 : Opd := .c (.str ⟨#[108, 97, 115, 116]⟩)
def sA27 : Opd := .c (.str ⟨#[108, 97, 98, 101, 108, 115]⟩)
def sA28 : Opd := .c (.str ⟨#[109, 101, 109, 111, 114, 121]⟩)
def sA29 : Opd := .c (.str ⟨#[109, 101, 116, 114, 105, 99, 115]⟩)
def sA30 : Opd := .c (.str ⟨#[109, 105, 110, 65, 118, 97, 105, 108, 97, 98, 108, 101]⟩)
def sA31 : Opd := .c (.str ⟨#[109, 105, 110, 82, 101, 97, 100, 121]⟩)
def sA32 : Opd := .c (.str ⟨#[109, 105, 110]⟩)
def sA33 : Opd := .c (.str ⟨#[109, 97, 120, 83, 107, 101, 119]⟩)
def sA34 : Opd := .c (.str ⟨#[109, 97, 120, 85, 110, 97, 118, 97, 105, 108, 97, 98, 108, 101]⟩)
def sA35 : Opd := .c (.str ⟨#[109, 97, 120]⟩)
def sA36 : Opd := .c (.str ⟨#[110, 111, 100, 101, 83, 101, 108, 101, 99, 116, 111, 114]⟩)
def sA37 : Opd := .c (.str ⟨#[110, 111, 100, 101, 84, 101, 114, 109, 115]⟩)
def sA38 : Opd := .c (.str ⟨#[110, 111, 100, 101]⟩)
def sA39 : Opd := .c (.str ⟨#[110, 97, 109, 101]⟩)
def sA40 : Opd := .c (.str ⟨#[110]⟩)
def sA41 : Opd := .c (.str ⟨#[111, 112]⟩)
def sA42 : Opd := .c (.str ⟨#[111, 98, 115, 101, 114, 118, 101, 100]⟩)
def sA43 : Opd := .c (.str ⟨#[112, 101, 114, 105, 111, 100]⟩)
def sA44 : Opd := .c (.str ⟨#[112, 101, 114, 99, 101, 110, 116]⟩)
def sA45 : Opd := .c (.str ⟨#[112, 111, 100, 115]⟩)
def sA46 : Opd := .c (.str ⟨#[112, 111, 100, 84, 101, 114, 109, 115]⟩)
def sA47 : Opd := .c (.str ⟨#[112, 111, 108, 105, 99, 121]⟩)
def sA48 : Opd := .c (.str ⟨#[112, 114, 105, 111, 114, 105, 116, 121]⟩)
def sA49 : Opd := .c (.str ⟨#[112, 114, 111, 103, 114, 101, 115, 115]⟩)
def sA50 : Opd := .c (.str ⟨#[112, 97, 114, 97, 108, 108, 101, 108, 105, 115, 109]⟩)
def sA51 : Opd := .c (.str ⟨#[112, 97, 117, 115, 101, 100]⟩)
def sA52 : Opd := .c (.str ⟨#[114, 101, 112, 108, 105, 99, 97, 115]⟩)
def sA53 : Opd := .c (.str ⟨#[114, 101, 113, 117, 101, 115, 116]⟩)
def sA54 : Opd := .c (.str ⟨#[114, 101, 113, 117, 105, 114, 101, 100]⟩)
def sA55 : Opd := .c (.str ⟨#[114, 101, 115, 116, 97, 114, 116]⟩)
def sA56 : Opd := .c (.str ⟨#[114, 101, 115, 117, 108, 116]⟩)
def sA57 : Opd := .c (.str ⟨#[114, 101, 116, 114, 105, 101, 115]⟩)
def sA58 : Opd := .c (.str ⟨#[114, 101, 97, 100, 121]⟩)
def sA59 : Opd := .c (.str ⟨#[114, 101, 99, 114, 101, 97, 116, 101]⟩)
def sA60 : Opd := .c (.str ⟨#[115, 101, 108, 101, 99, 116, 111, 114]⟩)
def sA61 : Opd := .c (.str ⟨#[115, 101, 99, 111, 110, 100, 115]⟩)
def sA62 : Opd := .c (.str ⟨#[115, 112, 101, 99]⟩)
def sA63 : Opd := .c (.str ⟨#[115, 112, 114, 101, 97, 100]⟩)
def sA64 : Opd := .c (.str ⟨#[115, 116, 105, 99, 107, 121]⟩)
def sA65 : Opd := .c (.str ⟨#[115, 116, 97, 114, 116, 101, 100]⟩)
def sA66 : Opd := .c (.str ⟨#[115, 116, 97, 114, 116, 117, 112]⟩)
def sA67 : Opd := .c (.str ⟨#[115, 116, 97, 114, 116, 87, 105, 116, 104, 105, 110]⟩)
def sA68 : Opd := .c (.str ⟨#[115, 117, 114, 103, 101]⟩)
def sA69 : Opd := .c (.str ⟨#[115, 117, 115, 112, 101, 110, 100, 101, 100]⟩)
def sA70 : Opd := .c (.str ⟨#[115, 117, 99, 99, 101, 101, 100, 101, 100]⟩)
def sA71 : Opd := .c (.str ⟨#[115, 117, 99, 99, 101, 115, 115]⟩)
def sA72 : Opd := .c (.str ⟨#[115, 99, 104, 101, 100, 117, 108, 101]⟩)
def sA73 : Opd := .c (.str ⟨#[115, 99, 97, 108, 101, 100]⟩)
def sA74 : Opd := .c (.str ⟨#[116, 101, 109, 112, 108, 97, 116, 101]⟩)
def sA75 : Opd := .c (.str ⟨#[116, 111, 108, 101, 114, 97, 110, 99, 101]⟩)
def sA76 : Opd := .c (.str ⟨#[116, 111, 108, 101, 114, 97, 116, 105, 111, 110, 115]⟩)
def sA77 : Opd := .c (.str ⟨#[116, 111, 112, 111, 108, 111, 103, 121]⟩)
def sA78 : Opd := .c (.str ⟨#[116, 97, 114, 103, 101, 116, 75, 105, 110, 100]⟩)
def sA79 : Opd := .c (.str ⟨#[116, 97, 114, 103, 101, 116]⟩)
def sA80 : Opd := .c (.str ⟨#[117, 110, 100, 111]⟩)
def sA81 : Opd := .c (.str ⟨#[117, 110, 97, 118, 97, 105, 108, 97, 98, 108, 101]⟩)
def sA82 : Opd := .c (.str ⟨#[117, 112, 100, 97, 116, 101, 100]⟩)
def sA83 : Opd := .c (.str ⟨#[117, 112, 83, 116, 101, 112]⟩)
def sA84 : Opd := .c (.str ⟨#[117, 112, 87, 105, 110, 100, 111, 119]⟩)
def sA85 : Opd := .c (.str ⟨#[117, 115, 101, 100]⟩)
def sA86 : Opd := .c (.str ⟨#[118, 97, 108, 117, 101, 115]⟩)
def sA87 : Opd := .c (.str ⟨#[118, 97, 108, 117, 101]⟩)
def sA88 : Opd := .c (.str ⟨#[119, 101, 105, 103, 104, 116]⟩)
def sA89 : Opd := .c (.str ⟨#[65, 117, 116, 111, 115, 99, 97, 108, 101, 114]⟩)
def sA90 : Opd := .c (.str ⟨#[66, 117, 100, 103, 101, 116]⟩)
def sA91 : Opd := .c (.str ⟨#[67, 114, 111, 110, 74, 111, 98]⟩)
def sA92 : Opd := .c (.str ⟨#[68, 101, 112, 108, 111, 121, 109, 101, 110, 116]⟩)
def sA93 : Opd := .c (.str ⟨#[74, 111, 98]⟩)
def sA94 : Opd := .c (.str ⟨#[81, 117, 111, 116, 97]⟩)
def sA95 : Opd := .c (.str ⟨#[83, 101, 114, 118, 105, 99, 101]⟩)
def sA96 : Opd := .c (.str ⟨#[97, 100, 118, 105, 99, 101]⟩)
def sA97 : Opd := .c (.str ⟨#[97, 108, 108, 111, 119, 101, 100]⟩)
def sA98 : Opd := .c (.str ⟨#[97, 110, 116, 105]⟩)
def sA99 : Opd := .c (.str ⟨#[97, 116]⟩)
def Q1r1 : Opd := .c (.str ⟨#[97, 118, 97, 105, 108, 97, 98, 108, 101]⟩)
def Q1r2 : Opd := .c (.str ⟨#[97, 99, 116, 105, 118, 101]⟩)
def Q1r3 : Opd := .c (.str ⟨#[99, 111, 109, 112, 108, 101, 116, 105, 111, 110, 115]⟩)
def Q1r4 : Opd := .c (.str ⟨#[99, 111, 110, 116, 97, 105, 110, 101, 114, 115]⟩)
def Q1cm : Opd := .c (.str ⟨#[99, 112, 117]⟩)
def zL0 : List PV := [zS, zI, zI, zS, .ns 5, .ns 6]
def zL1 : List PV := [zI, zI, zS, .ns 5, .ns 6]
def zL2 : List PV := [zS, zS, zS, zI, zI, zI, zI, zB, zI, .ns 2, .ns 5, .ns 1, .ns 2, zS, zI, zI, zI, zB, zS, zS, zS, zI, zI, zI, zI, zB, zI, .ns 2, .ns 5, .ns 1, .ns 2, zI, zI, zI, zI, zB, zB, .ns 2, zS, zI, zI, zI, .ns 11, .ns 3, .ns 3, .ns 5, .ns 4, .ns 5, zI, zI, zI, zI, zI, .ns 1, zI, zI]
def zL3 : List PV := [zS, zS, zS, zI, zI, zI, zI, zB, zI, .ns 2, .ns 5, .ns 1, .ns 2, zI, zI, zI, zI, zB, zB, .ns 2, zS, zI, zI, zI, .ns 11, .ns 3, .ns 3, .ns 5, .ns 4, .ns 5, zI, zI, zI, zI, zI, .ns 1, zI]
def zL4 : List PV := [zS, zS, zS, zI, zI, zI, zI, zB, zI, .ns 2, .ns 5, .ns 1, .ns 2, zI, zI, zI, zI, .ns 3, .ns 2, zS, zI, zI, zI, .ns 11, .ns 3, .ns 3, .ns 5, .ns 4, .ns 5, zB, zB, zB, zI, zB, zI, zI, zI, zI, zI, zI, zI, zI, zB]
def zL5 : List PV := [zS, zS, zS, zI, zI, zI, zI, zB, zI, .ns 2, .ns 5, .ns 1, .ns 2, zI, zI, zS, .ns 5, .ns 6, zI, zI, zS, .ns 5, .ns 6]
def zL6 : List PV := [zS, zS, zS, zI, zI, zI, zI, zB, zI, .ns 2, .ns 5, .ns 1, .ns 2, zS, zS, zI, zI, .ns 2, zI, zI, zI, zB, zI, zB, zI, zI, .ns 2, zI]
def zL7 : List PV := [zS, zS, zS, zI, zI, zI, zI, zB, zI, .ns 2, .ns 5, .ns 1, .ns 2, .ns 3, .ns 2, .ns 2, zI, zI, zI, zI, zI, .ns 2]
def zL8 : List PV := [zS, zS, zS, zI, zI, zI, zI, zB, zI, .ns 2, .ns 5, .ns 1, .ns 2, zI, zI, zI, zI, zI, zI, zI, zI]
def zL9 : List PV := [zS, zS, zS, zI, zI, zI, zI, zB, zI, .ns 2, .ns 5, .ns 1, .ns 2, .ns 3, .ns 3, zB, zI]
def zL10 : List PV := [zS, zS, zI, zI, zI, zI, zI, zI, .ns 4, .ns 4, .ns 4]
def zL11 : List PV := [zS, zI, zI, zI, .ns 11, .ns 3, .ns 3, .ns 5, .ns 4, .ns 5]
def zL12 : List PV := [zS, zS, zS, zI, zI, zI, zI, zB, zI, .ns 2, .ns 5, .ns 1, .ns 2]
def zL13 : List PV := [zI, zI, zI, zI, zI, zI, zB]
def zL14 : List PV := [zB, zB, zB, zB, zB, zB, zB, zB, zB, zB]
def zL15 : List PV := [zB, zB, zB, zB, zB, zB, zB]
def rg1 (a : Nat) : Nat → List Nat
  | 0 => []
  | n + 1 => a :: rg1 (a + 1) n
def rg (a b : Nat) : List Nat := rg1 a (b - a)
def K1_c : IR :=
 .seq (.reg [o 1 (.box 23 0),
 o 2 (.mov (.c zB))] false)
 (.seq (.seq (.reg [oL 23 23 1,
 oC 24 11 ([23]),
 oU 25 24] false)
 (.cond 25 (.seq (.reg [oC 26 12 ([]),
 oM 2 26] false)
 (.ret))
 (.skip)))
 (.seq (.reg [oL 28 23 1,
 oC 29 13 ([28]),
 oM 27 29,
 oX 30 27 0,
 oX 31 27 1,
 o 3 (.zero zL4),
 oS 43 3 30,
 oM 4 31] false)
 (.seq (.reg [oL 33 23 1,
 oC 34 47 ([33]),
 oM 32 34,
 oX 35 32 0,
 oX 36 32 1,
 o 5 (.zero zL4),
 oS 43 5 35,
 oM 6 36] false)
 (.seq (.seq (.reg [oM 37 4,
 oM 38 6,
 ob 39 (.bin .neq 37 38) [0, 1],
 ob 40 (.mov 39) [0, 1, 2],
 ⟨(some 41), (some (40, false)), .load 43 true 3, [0, 1, 2, 3]⟩,
 ⟨(some 42), (some (40, false)), .call false (.f 9) [41], (rg 0 5)⟩,
 ⟨(some 43), (some (40, false)), .load 43 true 5, [0, 1, 2, 3]⟩,
 ⟨(some 44), (some (40, false)), .call false (.f 9) [43], (rg 0 7)⟩,
 ⟨(some 45), (some (40, false)), .call false (.f 17) [42, 44], (rg 0 8)⟩,
 ⟨(some 46), (some (40, false)), .un .not 45, (rg 0 9)⟩,
 ob 47 (.pick 40 (.c (.bool true)) 46) (rg 0 10)] true)
 (.cond 47 (.seq (.reg [o 2 (.mov (.c zB))] false)
 (.ret))
 (.skip)))
 (.seq (.reg [oL 49 23 1,
 oC 50 23 ([49]),
 oM 48 50,
 oX 51 48 0,
 oX 52 48 1,
 o 7 (.zero zL3),
 oS 37 7 51,
 oM 8 52] false)
 (.seq (.reg [oL 54 23 1,
 oC 55 48 ([54]),
 oM 53 55,
 oX 56 53 0,
 oX 57 53 1,
 o 9 (.zero zL3),
 oS 37 9 56,
 oM 10 57] false)
 (.seq (.seq (.reg [oM 58 8,
 oM 59 10,
 ob 60 (.bin .neq 58 59) [0, 1],
 ob 61 (.mov 60) [0, 1, 2],
 ⟨(some 62), (some (61, false)), .load 37 true 7, [0, 1, 2, 3]⟩,
 ⟨(some 63), (some (61, false)), .call false (.f 19) [62], (rg 0 5)⟩,
 ⟨(some 64), (some (61, false)), .load 37 true 9, [0, 1, 2, 3]⟩,
 ⟨(some 65), (some (61, false)), .call false (.f 19) [64], (rg 0 7)⟩,
 ⟨(some 66), (some (61, false)), .call false (.f 17) [63, 65], (rg 0 8)⟩,
 ⟨(some 67), (some (61, false)), .un .not 66, (rg 0 9)⟩,
 ob 68 (.pick 61 (.c (.bool true)) 67) (rg 0 10)] true)
 (.cond 68 (.seq (.reg [o 2 (.mov (.c zB))] false)
 (.ret))
 (.skip)))
 (.seq (.reg [oL 70 23 1,
 oC 71 49 ([70]),
 oM 69 71,
 oX 72 69 0,
 oX 73 69 1,
 o 11 (.zero zL2),
 oS 56 11 72,
 oM 12 73] false)
 (.seq (.reg [oL 75 23 1,
 oC 76 50 ([75]),
 oM 74 76,
 oX 77 74 0,
 oX 78 74 1,
 o 13 (.zero zL2),
 oS 56 13 77,
 oM 14 78] false)
 (.seq (.seq (.reg [oM 79 12,
 oM 80 14,
 ob 81 (.bin .neq 79 80) [0, 1],
 ob 82 (.mov 81) [0, 1, 2],
 ⟨(some 83), (some (82, false)), .load 56 true 11, [0, 1, 2, 3]⟩,
 ⟨(some 84), (some (82, false)), .call false (.f 51) [83], (rg 0 5)⟩,
 ⟨(some 85), (some (82, false)), .load 56 true 13, [0, 1, 2, 3]⟩,
 ⟨(some 86), (some (82, false)), .call false (.f 51) [85], (rg 0 7)⟩,
 ⟨(some 87), (some (82, false)), .call false (.f 17) [84, 86], (rg 0 8)⟩,
 ⟨(some 88), (some (82, false)), .un .not 87, (rg 0 9)⟩,
 ob 89 (.pick 82 (.c (.bool true)) 88) (rg 0 10)] true)
 (.cond 89 (.seq (.reg [o 2 (.mov (.c zB))] false)
 (.ret))
 (.skip)))
 (.seq (.reg [oL 91 23 1,
 oC 92 25 ([91]),
 oM 90 92,
 oX 93 90 0,
 oX 94 90 1,
 o 15 (.zero zL7),
 oS 22 15 93,
 oM 16 94] false)
 (.seq (.reg [oL 96 23 1,
 oC 97 52 ([96]),
 oM 95 97,
 oX 98 95 0,
 oX 99 95 1,
 o 17 (.zero zL7),
 oS 22 17 98,
 oM 18 99] false)
 (.seq (.seq (.reg [oM 100 16,
 oM 101 18,
 ob 102 (.bin .neq 100 101) [0, 1],
 ob 103 (.mov 102) [0, 1, 2],
 ⟨(some 104), (some (103, false)), .load 22 true 15, [0, 1, 2, 3]⟩,
 ⟨(some 105), (some (103, false)), .call false (.f 20) [104], (rg 0 5)⟩,
 ⟨(some 106), (some (103, false)), .load 22 true 17, [0, 1, 2, 3]⟩,
 ⟨(some 107), (some (103, false)), .call false (.f 20) [106], (rg 0 7)⟩,
 ⟨(some 108), (some (103, false)), .call false (.f 17) [105, 107], (rg 0 8)⟩,
 ⟨(some 109), (some (103, false)), .un .not 108, (rg 0 9)⟩,
 ob 110 (.pick 103 (.c (.bool true)) 109) (rg 0 10)] true)
 (.cond 110 (.seq (.reg [o 2 (.mov (.c zB))] false)
 (.ret))
 (.skip)))
 (.seq (.reg [oL 112 23 1,
 oC 113 15 ([112]),
 oM 111 113,
 oX 114 111 0,
 oX 115 111 1,
 o 19 (.zero zL6),
 oS 28 19 114,
 oM 20 115] false)
 (.seq (.reg [oL 117 23 1,
 oC 118 53 ([117]),
 oM 116 118,
 oX 119 116 0,
 oX 120 116 1,
 o 21 (.zero zL6),
 oS 28 21 119,
 oM 22 120] false)
 (.seq (.reg [oM 121 20,
 oM 122 22,
 ob 123 (.bin .eql 121 122) [0, 1],
 ob 124 (.mov 123) [0, 1, 2],
 ⟨(some 125), (some (124, true)), .load 28 true 19, [0, 1, 2, 3]⟩,
 ⟨(some 126), (some (124, true)), .call false (.f 10) [125], (rg 0 5)⟩,
 ⟨(some 127), (some (124, true)), .load 28 true 21, [0, 1, 2, 3]⟩,
 ⟨(some 128), (some (124, true)), .call false (.f 10) [127], (rg 0 7)⟩,
 ⟨(some 129), (some (124, true)), .call false (.f 17) [126, 128], (rg 0 8)⟩,
 ob 130 (.pick 124 129 (.c zB)) (rg 0 9),
 ob 131 (.mov 130) (rg 0 10),
 ⟨(some 132), (some (131, true)), .call false (.f 12) [], (rg 0 11)⟩,
 ob 133 (.pick 131 132 (.c zB)) (rg 0 12),
 ob 2 (.mov 133) (rg 0 13)] true)
 (.ret)))))))))))))))))
def K1 : IFn := ⟨1, 134, [.tmp 2], false, K1_c⟩
def Q24g : IR :=
 .seq (.reg [o 1 (.box 43 0),
 o 2 (.zero zL5)] false)
 (.seq (.reg [oF 3 0 1,
 ob 4 (.load 13 true 3) [0],
 oL 5 43 1,
 oD 6 59 ([5]) [2],
 oF 7 36 1,
 ob 8 (.load 7 true 7) [4],
 oD 9 60 ([8]) [2, 3, 4, 5],
 oD 10 58 ([sA92, 4, 6, 9]) (rg 0 7),
 ⟨none, none, .store 23 2 10, (rg 0 8)⟩] true)
 (.ret))
def K3o : IFn := ⟨1, 11, [.cell 2 23 true], false, Q24g⟩
def Q24d : IR :=
 .seq (.reg [o 1 (.box 28 0),
 o 2 (.zero zL5)] false)
 (.seq (.reg [oF 3 0 1,
 ob 4 (.load 13 true 3) [0],
 oL 5 28 1,
 oD 6 61 ([5]) [2],
 oL 7 28 1,
 oD 8 62 ([7]) [2, 3, 4],
 oD 9 58 ([sA89, 4, 6, 8]) (rg 0 6),
 ⟨none, none, .store 23 2 9, (rg 0 7)⟩] true)
 (.ret))
def K3k : IFn := ⟨1, 10, [.cell 2 23 true], false, Q24d⟩
def Qrh : List Nat := [100001, 1, 3, 4]
def Q1vn : IR :=
 .seq (.seq (.reg [oM 29 4,
 oF 30 12 3,
 oK 31 1 30,
 oN 32 31,
 o 33 (.bin .lss 29 32)] false)
 (.cond 33 (.skip)
 (.exit 0)))
 (.seq (.block 1 (.seq (.reg [oF 36 12 3,
 oK 37 1 36,
 oM 38 4,
 oI 39 2 37 38,
 oF 40 1 39,
 oK 41 1 40,
 oN 42 41,
 o 43 (.bin .gtr 42 (.c (iN 60)))] false)
 (.cond 43 (.seq (.reg [o 2 (.mov (.c zB))] false)
 (.ret))
 (.skip))))
 (.reg [oM 34 4,
 oA 35 34,
 oM 4 35] false))
def K8_c : IR :=
 .seq (.reg [o 1 (.box 23 0),
 o 2 (.mov (.c zB))] false)
 (.seq (.reg [oF 5 0 1,
 oL 6 13 5,
 o 3 (.zero zL12),
 oS 13 3 6] false)
 (.seq (.seq (.reg [oF 7 9 3,
 oK 8 1 7,
 oN 9 8,
 o 10 (.bin .gtr 9 (.c (iN 40))),
 oM 11 10,
 gF 12 11 (.faddr 10 3),
 gF 13 11 (.load 1 false 12),
 gF 14 11 (.len false 13),
 gF 15 11 (.bin .gtr 14 (.c (iN 40))),
 oQ 16 11 15,
 oM 17 16,
 gF 18 17 (.faddr 11 3),
 gF 19 17 (.load 1 false 18),
 gF 20 17 (.len false 19),
 gF 21 17 (.bin .gtr 20 (.c (iN 40))),
 oQ 22 17 21,
 oM 23 22,
 gF 24 23 (.faddr 12 3),
 gF 25 23 (.load 1 false 24),
 gF 26 23 (.len false 25),
 gF 27 23 (.bin .gtr 26 (.c (iN 40))),
 oQ 28 23 27] false)
 (.cond 28 (.seq (.reg [o 2 (.mov (.c zB))] false)
 (.ret))
 (.skip)))
 (.seq (.seq (.reg [o 4 (.mov (.c zI))] false)
 (.block 0 (.loop Qrh Q1vn)))
 (.seq (.reg [oF 44 13 1,
 oL 45 5 44,
 oC 46 63 ([45, .c (iN 900)]),
 oM 47 46,
 gT 48 47 (.faddr 18 1),
 gT 49 47 (.load 5 true 48),
 gT 50 47 (.call false (.f 63) [49, .c (iN 300)]),
 oP 51 47 50,
 oM 2 51] false)
 (.ret)))))
def K8 : IFn := ⟨1, 52, [.tmp 2], false, K8_c⟩
def K6_c : IR :=
 .seq (.reg [o 0 (.mov (.c zB))] false)
 (.seq (.reg [o 15 (.build [zI, zI, zI] [(0, 1, .c (iN 1000))]),
 o 16 (.build zL8 [(13, 3, 15), (19, 1, .c (iN 2))]),
 oC 17 64 ([16]),
 o 1 (.zero zL5),
 oS 23 1 17] false)
 (.seq (.reg [oF 19 13 1,
 oL 20 5 19,
 oC 21 65 ([20, sA17]),
 oM 18 21,
 oX 22 18 0,
 oX 23 18 1,
 o 2 (.zero zL1),
 oS 5 2 22,
 oM 3 23] false)
 (.seq (.reg [oL 25 5 2,
 oC 26 65 ([25, Q1cm]),
 oM 24 26,
 oX 27 24 0,
 oX 28 24 1,
 o 4 (.zero zL1),
 oS 5 4 27,
 oM 5 28] false)
 (.seq (.reg [oL 30 23 1,
 oC 31 43 ([30]),
 oM 29 31,
 oX 32 29 0,
 oX 33 29 1,
 o 6 (.zero zL8),
 oS 21 6 32,
 oM 7 33] false)
 (.seq (.reg [oC 34 67 ([.c (iN 1)]),
 o 35 (.build zL0 [(0, 1, sA64), (1, 5, 34)]),
 o 36 (.lit 6 1 zL0 [(0, 35)]),
 oC 37 66 ([36]),
 o 8 (.zero zL1),
 oS 5 8 37] false)
 (.seq (.reg [o 39 (.build zL12 [(0, 1, sA95)]),
 oL 40 5 8,
 o 41 (.build zL5 [(0, 13, 39), (13, 5, 40)]),
 oC 42 35 ([41]),
 oM 38 42,
 oX 43 38 0,
 oX 44 38 1,
 o 9 (.zero zL9),
 oS 17 9 43,
 oM 10 44] false)
 (.seq (.reg [o 46 (.build zL12 [(0, 1, sA95)]),
 o 47 (.build zL5 [(0, 13, 46)]),
 oC 48 35 ([47]),
 oM 45 48,
 oX 49 45 0,
 oX 50 45 1,
 o 11 (.zero zL9),
 oS 17 11 49,
 oM 12 50] false)
 (.seq (.reg [o 52 (.build zL5 []),
 oC 53 43 ([52]),
 oM 51 53,
 oX 54 51 0,
 oX 55 51 1,
 o 13 (.zero zL8),
 oS 21 13 54,
 oM 14 55] false)
 (.seq (.reg [oF 56 0 1,
 oF 57 0 56,
 oK 58 1 57,
 o 59 (.bin .eql 58 (sA94)),
 oM 60 59,
 gT 61 60 (.faddr 13 1),
 gT 62 60 (.faddr 4 61),
 gT 63 60 (.load 1 false 62),
 gT 64 60 (.len false 63),
 gT 65 60 (.bin .eql 64 (.c (iN 2))),
 oP 66 60 65,
 oM 67 66,
 gT 68 67 (.mov 3),
 oP 69 67 68,
 oM 70 69,
 gT 71 70 (.mov 5),
 oP 72 70 71,
 oM 73 72,
 gT 74 73 (.faddr 1 4),
 gT 75 73 (.load 1 false 74),
 gT 76 73 (.bin .eql 75 (.c (iN 1000))),
 oP 77 73 76,
 oM 78 77,
 gT 79 78 (.mov 7),
 gT 80 78 (.bin .eql 79 (.c zI)),
 oP 81 78 80,
 oM 82 81,
 gT 83 82 (.faddr 13 6),
 gT 84 82 (.faddr 0 83),
 gT 85 82 (.load 1 false 84),
 gT 86 82 (.bin .eql 85 (.c (iN 1000))),
 oP 87 82 86,
 oM 88 87,
 gT 89 88 (.faddr 19 6),
 gT 90 88 (.load 1 false 89),
 gT 91 88 (.bin .eql 90 (.c (iN 2))),
 oP 92 88 91,
 oM 93 92,
 gT 94 93 (.mov 10),
 gT 95 93 (.bin .eql 94 (.c (iN 6))),
 oP 96 93 95,
 oM 97 96,
 gT 98 97 (.mov 12),
 gT 99 97 (.bin .eql 98 (.c zI)),
 oP 100 97 99,
 oM 101 100,
 gT 102 101 (.faddr 15 11),
 gT 103 101 (.load 1 false 102),
 gT 104 101 (.un .not 103),
 oP 105 101 104,
 oM 106 105,
 gT 107 106 (.mov 14),
 gT 108 106 (.bin .eql 107 (.c (iN 6))),
 oP 109 106 108,
 oM 0 109] false)
 (.ret))))))))))
def K6 : IFn := ⟨0, 110, [.tmp 0], false, K6_c⟩
def Q25l : IR :=
 .seq (.reg [o 1 (.box 23 0),
 o 2 (.zero zL4),
 o 3 (.mov (.c zI))] false)
 (.seq (.reg [oL 6 23 1,
 oD 7 68 ([6, sA92]) [0],
 oF 8 13 1,
 ob 9 (.load 5 true 8) [2],
 o 5 (.zero zL1),
 ob 4 (.mov 7) [0, 1, 4],
 ⟨none, none, .store 5 5 9, (rg 0 6)⟩] true)
 (.seq (.reg [oM 10 4,
 oF 11 0 1,
 ob 12 (.load 13 true 11) [1],
 oD 13 70 ([12]) [1, 2],
 oM 14 4,
 oL 15 5 5,
 oD 16 71 ([14, 15, sA52]) (rg 1 6),
 oM 17 4,
 oL 18 5 5,
 oD 19 71 ([17, 18, sA31]) (rg 1 9),
 oM 20 4,
 oL 21 5 5,
 oD 22 71 ([20, 21, sA16]) (rg 1 12),
 oM 23 4,
 oL 24 5 5,
 oD 25 71 ([23, 24, sA2]) (rg 1 15),
 oM 26 4,
 oL 27 5 5,
 oD 28 72 ([26, 27]) (rg 1 18),
 oM 29 4,
 oL 30 5 5,
 oD 31 73 ([29, 30]) (rg 1 21),
 oM 32 4,
 oL 33 5 5,
 oD 34 74 ([32, 33, sA59]) (rg 1 24),
 oM 35 4,
 oL 36 5 5,
 oD 37 74 ([35, 36, sA51]) (rg 1 27),
 oM 38 4,
 oM 39 4,
 oL 40 5 5,
 oD 41 76 ([39, 40, sA68]) (rg 1 28 ++ [29, 30]),
 oD 42 75 ([38, 41]) (rg 1 32),
 oM 43 4,
 oM 44 4,
 oL 45 5 5,
 oD 46 76 ([44, 45, sA81]) (rg 1 33 ++ [34, 35]),
 oD 47 75 ([43, 46]) (rg 1 37),
 oM 48 4,
 oL 49 5 5,
 oD 50 71 ([48, 49, sA80]) (rg 1 40),
 oM 51 4,
 oF 52 18 1,
 ob 53 (.load 5 true 52) [42],
 oD 54 77 ([51, 53]) (rg 1 44),
 ob 55 (.build zL4 [(0, 13, 13), (13, 1, 16), (14, 1, 19), (15, 1, 22), (16, 1, 25), (17, 1, 28), (18, 11, 31), (29, 1, 34), (30, 1, 37), (31, 2, 42), (33, 2, 47), (35, 1, 50), (36, 7, 54)]) (rg 1 45),
 oD 56 69 ([10, 55]) (rg 0 46),
 ob 57 (.extract 56 0) (rg 0 47),
 ob 58 (.extract 56 1) (rg 0 47),
 ⟨none, none, .store 43 2 57, (rg 0 49)⟩,
 ob 3 (.mov 58) (rg 0 50)] true)
 (.ret)))
def K5o : IFn := ⟨1, 59, [.cell 2 43 true, .tmp 3], false, Q25l⟩
def Q25e : IR :=
 .seq (.reg [o 1 (.box 23 0),
 o 2 (.zero zL6),
 o 3 (.mov (.c zI))] false)
 (.seq (.reg [oL 8 23 1,
 oD 9 68 ([8, sA89]) [0],
 oF 10 13 1,
 ob 11 (.load 5 true 10) [2],
 o 4 (.zero [.np]),
 o 5 (.zero zL1),
 ⟨none, none, .store 1 4 9, [0, 1, 4, 5]⟩,
 ⟨none, none, .store 5 5 11, (rg 0 7)⟩] true)
 (.seq (.reg [oK 12 1 4,
 oL 13 5 5,
 o 14 (.mkfn 88 [] [4]),
 oC 15 87 ([12, 13, sA29, 14]),
 oM 6 15] false)
 (.seq (.reg [oK 16 1 4,
 oF 17 18 1,
 oL 18 5 17,
 o 19 (.mkfn 91 [] [4]),
 oC 20 90 ([16, 18, sA96, 19]),
 oM 7 20] false)
 (.seq (.reg [oK 21 1 4,
 oF 22 0 1,
 ob 23 (.load 13 true 22) [1],
 oD 24 70 ([23]) [1, 2],
 oK 25 1 4,
 oL 26 5 5,
 oD 27 89 ([25, 26, sA78]) (rg 1 6),
 oK 28 1 4,
 oL 29 5 5,
 oD 30 89 ([28, 29, sA79]) (rg 1 9),
 oK 31 1 4,
 oL 32 5 5,
 oD 33 71 ([31, 32, sA32]) (rg 1 12),
 oK 34 1 4,
 oL 35 5 5,
 oD 36 71 ([34, 35, sA35]) (rg 1 15),
 oM 37 6,
 oK 38 1 4,
 oL 39 5 5,
 oD 40 71 ([38, 39, sA75]) (rg 1 16 ++ [17, 18]),
 oK 41 1 4,
 oL 42 5 5,
 oD 43 71 ([41, 42, sA84]) (rg 1 16 ++ rg 17 22),
 oK 44 1 4,
 oL 45 5 5,
 oD 46 71 ([44, 45, sA7]) (rg 1 16 ++ rg 17 25),
 oK 47 1 4,
 oK 48 1 4,
 oL 49 5 5,
 oD 50 76 ([48, 49, sA83]) (rg 1 16 ++ rg 17 26 ++ [27, 28]),
 oD 51 75 ([47, 50]) (rg 1 16 ++ rg 17 30),
 oK 52 1 4,
 oK 53 1 4,
 oL 54 5 5,
 oD 55 76 ([53, 54, sA6]) (rg 1 16 ++ rg 17 31 ++ [32, 33]),
 oD 56 75 ([52, 55]) (rg 1 16 ++ rg 17 35),
 oK 57 1 4,
 oL 58 5 5,
 oD 59 71 ([57, 58, sA43]) (rg 1 16 ++ rg 17 38),
 oM 60 7,
 oK 61 1 4,
 oF 62 18 1,
 ob 63 (.load 5 true 62) [41],
 oD 64 71 ([61, 63, sA73]) (rg 1 16 ++ rg 17 39 ++ [40, 41, 42]),
 ob 65 (.build zL6 [(0, 13, 24), (13, 1, 27), (14, 1, 30), (15, 1, 33), (16, 1, 36), (17, 1, 37), (18, 1, 40), (19, 1, 43), (20, 1, 46), (21, 2, 51), (23, 2, 56), (25, 1, 59), (26, 1, 60), (27, 1, 64)]) (rg 1 44),
 oD 66 92 ([21, 65]) (rg 0 45),
 ob 67 (.extract 66 0) (rg 0 46),
 ob 68 (.extract 66 1) (rg 0 46),
 ⟨none, none, .store 28 2 67, (rg 0 48)⟩,
 ob 3 (.mov 68) (rg 0 49)] true)
 (.ret)))))
def K5g : IFn := ⟨1, 69, [.cell 2 28 true, .tmp 3], false, Q25e⟩
def Q22x : IR :=
 .seq (.reg [o 2 (.box 23 0),
 o 3 (.box 23 1),
 o 4 (.mov (.c zB))] false)
 (.seq (.reg [oF 5 0 2,
 oL 6 13 5,
 oF 7 0 3,
 oL 8 13 7,
 oC 9 27 ([6, 8]),
 oM 10 9,
 gT 11 10 (.faddr 13 2),
 gT 12 10 (.load 5 true 11),
 gT 13 10 (.faddr 13 3),
 gT 14 10 (.load 5 true 13),
 gT 15 10 (.call false (.f 98) [12, 14]),
 oP 16 10 15,
 oM 17 16,
 gT 18 17 (.faddr 18 2),
 gT 19 17 (.load 5 true 18),
 gT 20 17 (.faddr 18 3),
 gT 21 17 (.load 5 true 20),
 gT 22 17 (.call false (.f 98) [19, 21]),
 oP 23 17 22,
 oM 4 23] false)
 (.ret))
def K1v : IFn := ⟨2, 24, [.tmp 4], false, Q22x⟩
def Q24h : IR :=
 .seq (.reg [o 1 (.box 37 0),
 o 2 (.zero zL5)] false)
 (.seq (.reg [oF 3 0 1,
 ob 4 (.load 13 true 3) [0],
 oL 5 37 1,
 oD 6 100 ([5]) [2],
 oL 7 37 1,
 oD 8 101 ([7]) [2, 3, 4],
 oD 9 58 ([sA93, 4, 6, 8]) (rg 0 6),
 ⟨none, none, .store 23 2 9, (rg 0 7)⟩] true)
 (.ret))
def K3q : IFn := ⟨1, 10, [.cell 2 23 true], false, Q24h⟩
def Q24e : IR :=
 .seq (.reg [o 1 (.box 22 0),
 o 2 (.zero zL5)] false)
 (.seq (.reg [oF 3 0 1,
 ob 4 (.load 13 true 3) [0],
 oL 5 22 1,
 oD 6 102 ([5]) [2],
 oL 7 22 1,
 oD 8 103 ([7]) [2, 3, 4],
 oD 9 58 ([sA90, 4, 6, 8]) (rg 0 6),
 ⟨none, none, .store 23 2 9, (rg 0 7)⟩] true)
 (.ret))
def K3l : IFn := ⟨1, 10, [.cell 2 23 true], false, Q24e⟩
def Q25m : IR :=
 .seq (.reg [o 1 (.box 23 0),
 o 2 (.zero zL3),
 o 3 (.mov (.c zI))] false)
 (.seq (.reg [oL 7 23 1,
 oD 8 68 ([7, sA93]) [0],
 oF 9 18 1,
 ob 10 (.load 5 true 9) [2],
 o 5 (.zero zL1),
 ob 4 (.mov 8) [0, 1, 4],
 ⟨none, none, .store 5 5 10, (rg 0 6)⟩] true)
 (.seq (.reg [oM 11 4,
 oF 12 13 1,
 oL 13 5 12,
 oC 14 105 ([11, 13]),
 o 6 (.zero zL3),
 oS 37 6 14] false)
 (.seq (.reg [oF 15 0 1,
 oL 16 13 15,
 oC 17 70 ([16]),
 oF 18 0 6,
 oS 13 18 17] false)
 (.seq (.reg [oM 19 4,
 oL 20 5 5,
 oD 21 71 ([19, 20, Q1r2]) [0, 1],
 oM 22 4,
 oL 23 5 5,
 oD 24 71 ([22, 23, sA70]) (rg 0 5),
 oM 25 4,
 oL 26 5 5,
 oD 27 71 ([25, 26, sA12]) (rg 0 8),
 oM 28 4,
 oL 29 5 5,
 oD 30 71 ([28, 29, sA65]) (rg 0 11),
 oM 31 4,
 oL 32 5 5,
 oD 33 71 ([31, 32, sA11]) (rg 0 14),
 ob 34 (.faddr 30 6) [0, 1, 2],
 ⟨none, none, .store 1 34 21, (rg 0 16)⟩,
 ob 35 (.faddr 31 6) (rg 0 17),
 ⟨none, none, .store 1 35 24, (rg 0 18)⟩,
 ob 36 (.faddr 32 6) (rg 0 19),
 ⟨none, none, .store 1 36 27, (rg 0 20)⟩,
 ob 37 (.faddr 33 6) (rg 0 21),
 ⟨none, none, .store 1 37 30, (rg 0 22)⟩,
 ob 38 (.faddr 34 6) (rg 0 23),
 ⟨none, none, .store 1 38 33, (rg 0 24)⟩] true)
 (.seq (.reg [oM 39 4,
 oL 40 5 5,
 oD 41 106 ([39, 40, sA5]) [0, 1],
 oM 42 4,
 oL 43 5 5,
 oD 44 71 ([42, 43, sA56]) (rg 0 5),
 ob 45 (.faddr 35 6) [0, 1, 2],
 ⟨none, none, .store 1 45 41, (rg 0 7)⟩,
 ob 46 (.faddr 36 6) (rg 0 8),
 ⟨none, none, .store 1 46 44, (rg 0 9)⟩] true)
 (.seq (.reg [oM 47 4,
 oL 48 37 6,
 oC 49 107 ([47, 48]),
 oX 50 49 0,
 oX 51 49 1,
 oS 37 2 50,
 oM 3 51] false)
 (.ret)))))))
def K5r : IFn := ⟨1, 52, [.cell 2 37 true, .tmp 3], false, Q25m⟩
def Q25h : IR :=
 .seq (.reg [o 1 (.box 23 0),
 o 2 (.zero zL7),
 o 3 (.mov (.c zI))] false)
 (.seq (.reg [oL 9 23 1,
 oD 10 68 ([9, sA90]) [0],
 oF 11 13 1,
 ob 12 (.load 5 true 11) [2],
 oF 13 18 1,
 ob 14 (.load 5 true 13) [4],
 o 4 (.zero [.np]),
 o 5 (.zero zL1),
 o 6 (.zero zL1),
 ⟨none, none, .store 1 4 10, [0, 1, 6, 7, 8]⟩,
 ⟨none, none, .store 5 5 12, (rg 0 4 ++ rg 6 10)⟩,
 ⟨none, none, .store 5 6 14, (rg 0 11)⟩] true)
 (.seq (.reg [oK 15 1 4,
 oL 16 5 6,
 o 17 (.mkfn 112 [] [4]),
 oC 18 111 ([15, 16, sA4, 17]),
 oM 7 18] false)
 (.seq (.reg [o 19 (.mkfn 113 [] [4]),
 oM 8 19] false)
 (.seq (.reg [oK 20 1 4,
 oF 21 0 1,
 ob 22 (.load 13 true 21) [1],
 oD 23 70 ([22]) [1, 2],
 oK 24 1 4,
 oL 25 5 5,
 oD 26 72 ([24, 25]) (rg 1 6),
 oK 27 1 4,
 oL 28 5 5,
 oM 29 8,
 oD 30 115 ([27, 28, sA30, 29]) (rg 1 10),
 oK 31 1 4,
 oL 32 5 5,
 oM 33 8,
 oD 34 115 ([31, 32, sA34, 33]) (rg 1 14),
 oK 35 1 4,
 oL 36 5 6,
 oD 37 71 ([35, 36, sA42]) (rg 1 17),
 oK 38 1 4,
 oL 39 5 6,
 oD 40 71 ([38, 39, sA15]) (rg 1 20),
 oK 41 1 4,
 oL 42 5 6,
 oD 43 71 ([41, 42, sA1]) (rg 1 23),
 oK 44 1 4,
 oL 45 5 6,
 oD 46 71 ([44, 45, sA10]) (rg 1 26),
 oK 47 1 4,
 oL 48 5 6,
 oD 49 71 ([47, 48, sA97]) (rg 1 29),
 oM 50 7,
 ob 51 (.build zL7 [(0, 13, 23), (13, 1, 26), (14, 1, 30), (15, 1, 34), (16, 1, 37), (17, 1, 40), (18, 1, 43), (19, 1, 46), (20, 1, 49), (21, 1, 50)]) (rg 1 31),
 oD 52 114 ([20, 51]) (rg 0 32),
 ob 53 (.extract 52 0) (rg 0 33),
 ob 54 (.extract 52 1) (rg 0 33),
 ⟨none, none, .store 22 2 53, (rg 0 35)⟩,
 ob 3 (.mov 54) (rg 0 36)] true)
 (.ret)))))
def K5j : IFn := ⟨1, 55, [.cell 2 22 true, .tmp 3], false, Q25h⟩
def Qkx : List Nat := [100004, 2, 3, 7]
def Q1ni : IR :=
 .seq (.seq (.reg [oM 138 7,
 oF 139 12 2,
 oK 140 1 139,
 oN 141 140,
 o 142 (.bin .lss 138 141)] false)
 (.cond 142 (.skip)
 (.exit 4)))
 (.seq (.block 5 (.seq (.reg [oF 145 12 2,
 oE 146 1 145 [0],
 oM 147 7,
 ob 148 (.iaddr 2 146 147) [0, 1, 2],
 ob 149 (.faddr 0 148) [0, 1, 2, 3],
 oE 150 1 149 (rg 0 5),
 oF 151 12 3,
 oE 152 1 151 [6],
 oM 153 7,
 ob 154 (.iaddr 2 152 153) [6, 7, 8],
 ob 155 (.faddr 0 154) [6, 7, 8, 9],
 oE 156 1 155 (rg 6 11),
 ob 157 (.bin .neq 150 156) (rg 0 12),
 ob 158 (.mov 157) (rg 0 13),
 ⟨(some 159), (some (158, false)), .faddr 12 2, (rg 0 14)⟩,
 ⟨(some 160), (some (158, false)), .load 1 false 159, (rg 0 15)⟩,
 ⟨(some 161), (some (158, false)), .mov 7, (rg 0 14)⟩,
 ⟨(some 162), (some (158, false)), .iaddr 2 160 161, (rg 0 17)⟩,
 ⟨(some 163), (some (158, false)), .faddr 1 162, (rg 0 18)⟩,
 ⟨(some 164), (some (158, false)), .load 1 false 163, (rg 0 19)⟩,
 ⟨(some 165), (some (158, false)), .faddr 12 3, (rg 0 14)⟩,
 ⟨(some 166), (some (158, false)), .load 1 false 165, (rg 0 14 ++ [20])⟩,
 ⟨(some 167), (some (158, false)), .mov 7, (rg 0 14)⟩,
 ⟨(some 168), (some (158, false)), .iaddr 2 166 167, (rg 0 14 ++ [20, 21, 22])⟩,
 ⟨(some 169), (some (158, false)), .faddr 1 168, (rg 0 14 ++ rg 20 24)⟩,
 ⟨(some 170), (some (158, false)), .load 1 false 169, (rg 0 14 ++ rg 20 25)⟩,
 ⟨(some 171), (some (158, false)), .call false (.f 120) [164, 170], (rg 0 26)⟩,
 ⟨(some 172), (some (158, false)), .un .not 171, (rg 0 27)⟩,
 ob 173 (.pick 158 (.c (.bool true)) 172) (rg 0 28)] true)
 (.cond 173 (.seq (.reg [o 4 (.mov (.c zB))] false)
 (.ret))
 (.skip))))
 (.reg [oM 143 7,
 oA 144 143,
 oM 7 144] false))
def Qkw : List Nat := [100003, 2, 3, 6]
def Q1nh : IR :=
 .seq (.seq (.reg [oM 120 6,
 oF 121 10 2,
 oK 122 1 121,
 oN 123 122,
 o 124 (.bin .lss 120 123)] false)
 (.cond 124 (.skip)
 (.exit 2)))
 (.seq (.block 3 (.seq (.reg [oF 127 10 2,
 oE 128 1 127 [0],
 oM 129 6,
 ob 130 (.iaddr 5 128 129) [0, 1, 2],
 ob 131 (.load 5 true 130) [0, 1, 2, 3],
 oF 132 10 3,
 oE 133 1 132 [5],
 oM 134 6,
 ob 135 (.iaddr 5 133 134) [5, 6, 7],
 ob 136 (.load 5 true 135) [5, 6, 7, 8],
 ob 137 (.eqs (.st [(0, 1, .str), (1, 1, .str), (2, 1, .int), (3, 1, .bool), (4, 1, .bool)]) true 131 136) (rg 0 10)] true)
 (.cond 137 (.seq (.reg [o 4 (.mov (.c zB))] false)
 (.ret))
 (.skip))))
 (.reg [oM 125 6,
 oA 126 125,
 oM 6 126] false))
def Qkv : List Nat := [100002, 2, 3, 5]
def Q1ng : IR :=
 .seq (.seq (.reg [oM 102 5,
 oF 103 9 2,
 oK 104 1 103,
 oN 105 104,
 o 106 (.bin .lss 102 105)] false)
 (.cond 106 (.skip)
 (.exit 0)))
 (.seq (.block 1 (.seq (.reg [oF 109 9 2,
 oE 110 1 109 [0],
 oM 111 5,
 ob 112 (.iaddr 2 110 111) [0, 1, 2],
 ob 113 (.load 2 true 112) [0, 1, 2, 3],
 oF 114 9 3,
 oE 115 1 114 [5],
 oM 116 5,
 ob 117 (.iaddr 2 115 116) [5, 6, 7],
 ob 118 (.load 2 true 117) [5, 6, 7, 8],
 ob 119 (.eqs (.st [(0, 1, .str), (1, 1, .str)]) true 113 118) (rg 0 10)] true)
 (.cond 119 (.seq (.reg [o 4 (.mov (.c zB))] false)
 (.ret))
 (.skip))))
 (.reg [oM 107 5,
 oA 108 107,
 oM 5 108] false))
def Q230 : IR :=
 .seq (.reg [o 2 (.box 13 0),
 o 3 (.box 13 1),
 o 4 (.mov (.c zB))] false)
 (.seq (.seq (.reg [oL 8 13 2,
 oD 9 119 ([8]) [0],
 oL 10 13 3,
 oD 11 119 ([10]) [0, 1, 2],
 ob 12 (.bin .neq 9 11) [0, 1, 2, 3],
 ob 13 (.mov 12) (rg 0 5),
 ⟨(some 14), (some (13, false)), .faddr 0 2, (rg 0 6)⟩,
 ⟨(some 15), (some (13, false)), .load 1 false 14, (rg 0 7)⟩,
 ⟨(some 16), (some (13, false)), .faddr 0 3, (rg 0 6)⟩,
 ⟨(some 17), (some (13, false)), .load 1 false 16, (rg 0 6 ++ [8])⟩,
 ⟨(some 18), (some (13, false)), .bin .neq 15 17, (rg 0 10)⟩,
 ob 19 (.pick 13 (.c (.bool true)) 18) (rg 0 11),
 ob 20 (.mov 19) (rg 0 12),
 ⟨(some 21), (some (20, false)), .faddr 1 2, (rg 0 13)⟩,
 ⟨(some 22), (some (20, false)), .load 1 false 21, (rg 0 14)⟩,
 ⟨(some 23), (some (20, false)), .faddr 1 3, (rg 0 13)⟩,
 ⟨(some 24), (some (20, false)), .load 1 false 23, (rg 0 13 ++ [15])⟩,
 ⟨(some 25), (some (20, false)), .bin .neq 22 24, (rg 0 17)⟩,
 ob 26 (.pick 20 (.c (.bool true)) 25) (rg 0 18),
 ob 27 (.mov 26) (rg 0 19),
 ⟨(some 28), (some (27, false)), .faddr 3 2, (rg 0 20)⟩,
 ⟨(some 29), (some (27, false)), .load 1 false 28, (rg 0 21)⟩,
 ⟨(some 30), (some (27, false)), .faddr 3 3, (rg 0 20)⟩,
 ⟨(some 31), (some (27, false)), .load 1 false 30, (rg 0 20 ++ [22])⟩,
 ⟨(some 32), (some (27, false)), .bin .neq 29 31, (rg 0 24)⟩,
 ob 33 (.pick 27 (.c (.bool true)) 32) (rg 0 25),
 ob 34 (.mov 33) (rg 0 26),
 ⟨(some 35), (some (34, false)), .faddr 4 2, (rg 0 27)⟩,
 ⟨(some 36), (some (34, false)), .load 1 false 35, (rg 0 28)⟩,
 ⟨(some 37), (some (34, false)), .faddr 4 3, (rg 0 27)⟩,
 ⟨(some 38), (some (34, false)), .load 1 false 37, (rg 0 27 ++ [29])⟩,
 ⟨(some 39), (some (34, false)), .bin .neq 36 38, (rg 0 31)⟩,
 ob 40 (.pick 34 (.c (.bool true)) 39) (rg 0 32),
 ob 41 (.mov 40) (rg 0 33),
 ⟨(some 42), (some (41, false)), .faddr 5 2, (rg 0 34)⟩,
 ⟨(some 43), (some (41, false)), .load 1 false 42, (rg 0 35)⟩,
 ⟨(some 44), (some (41, false)), .faddr 5 3, (rg 0 34)⟩,
 ⟨(some 45), (some (41, false)), .load 1 false 44, (rg 0 34 ++ [36])⟩,
 ⟨(some 46), (some (41, false)), .bin .neq 43 45, (rg 0 38)⟩,
 ob 47 (.pick 41 (.c (.bool true)) 46) (rg 0 39),
 ob 48 (.mov 47) (rg 0 40),
 ⟨(some 49), (some (48, false)), .faddr 6 2, (rg 0 41)⟩,
 ⟨(some 50), (some (48, false)), .load 1 false 49, (rg 0 42)⟩,
 ⟨(some 51), (some (48, false)), .faddr 6 3, (rg 0 41)⟩,
 ⟨(some 52), (some (48, false)), .load 1 false 51, (rg 0 41 ++ [43])⟩,
 ⟨(some 53), (some (48, false)), .bin .neq 50 52, (rg 0 45)⟩,
 ob 54 (.pick 48 (.c (.bool true)) 53) (rg 0 46),
 ob 55 (.mov 54) (rg 0 47),
 ⟨(some 56), (some (55, false)), .faddr 7 2, (rg 0 48)⟩,
 ⟨(some 57), (some (55, false)), .load 1 false 56, (rg 0 49)⟩,
 ⟨(some 58), (some (55, false)), .faddr 7 3, (rg 0 48)⟩,
 ⟨(some 59), (some (55, false)), .load 1 false 58, (rg 0 48 ++ [50])⟩,
 ⟨(some 60), (some (55, false)), .eqb true 57 59, (rg 0 52)⟩,
 ob 61 (.pick 55 (.c (.bool true)) 60) (rg 0 53),
 ob 62 (.mov 61) (rg 0 54),
 ⟨(some 63), (some (62, false)), .faddr 8 2, (rg 0 55)⟩,
 ⟨(some 64), (some (62, false)), .load 1 false 63, (rg 0 56)⟩,
 ⟨(some 65), (some (62, false)), .faddr 8 3, (rg 0 55)⟩,
 ⟨(some 66), (some (62, false)), .load 1 false 65, (rg 0 55 ++ [57])⟩,
 ⟨(some 67), (some (62, false)), .bin .neq 64 66, (rg 0 59)⟩,
 ob 68 (.pick 62 (.c (.bool true)) 67) (rg 0 60)] true)
 (.cond 68 (.seq (.reg [o 4 (.mov (.c zB))] false)
 (.ret))
 (.skip)))
 (.seq (.seq (.reg [oF 69 9 2,
 oK 70 1 69,
 oN 71 70,
 oF 72 9 3,
 oK 73 1 72,
 oN 74 73,
 o 75 (.bin .neq 71 74),
 oM 76 75,
 gF 77 76 (.faddr 10 2),
 gF 78 76 (.load 1 false 77),
 gF 79 76 (.len false 78),
 gF 80 76 (.faddr 10 3),
 gF 81 76 (.load 1 false 80),
 gF 82 76 (.len false 81),
 gF 83 76 (.bin .neq 79 82),
 oQ 84 76 83,
 oM 85 84,
 gF 86 85 (.faddr 12 2),
 gF 87 85 (.load 1 false 86),
 gF 88 85 (.len false 87),
 gF 89 85 (.faddr 12 3),
 gF 90 85 (.load 1 false 89),
 gF 91 85 (.len false 90),
 gF 92 85 (.bin .neq 88 91),
 oQ 93 85 92,
 oM 94 93,
 gF 95 94 (.faddr 11 2),
 gF 96 94 (.load 1 false 95),
 gF 97 94 (.faddr 11 3),
 gF 98 94 (.load 1 false 97),
 gF 99 94 (.call false (.f 120) [96, 98]),
 gF 100 94 (.un .not 99),
 oQ 101 94 100] false)
 (.cond 101 (.seq (.reg [o 4 (.mov (.c zB))] false)
 (.ret))
 (.skip)))
 (.seq (.seq (.reg [o 5 (.mov (.c zI))] false)
 (.block 0 (.loop Qkv Q1ng)))
 (.seq (.seq (.reg [o 6 (.mov (.c zI))] false)
 (.block 2 (.loop Qkw Q1nh)))
 (.seq (.seq (.reg [o 7 (.mov (.c zI))] false)
 (.block 4 (.loop Qkx Q1ni)))
 (.seq (.reg [o 4 (.mov (.c (.bool true)))] false)
 (.ret)))))))
def K1y : IFn := ⟨2, 174, [.tmp 4], false, Q230⟩
def Q25o : IR :=
 .seq (.reg [o 1 (.box 23 0),
 o 2 (.zero zL9),
 o 3 (.mov (.c zI))] false)
 (.seq (.reg [oL 6 23 1,
 oD 7 68 ([6, sA95]) [0],
 oF 8 13 1,
 ob 9 (.load 5 true 8) [2],
 o 5 (.zero zL1),
 ob 4 (.mov 7) [0, 1, 4],
 ⟨none, none, .store 5 5 9, (rg 0 6)⟩] true)
 (.seq (.reg [oM 10 4,
 oF 11 0 1,
 ob 12 (.load 13 true 11) [1],
 oD 13 70 ([12]) [1, 2],
 oM 14 4,
 oL 15 5 5,
 oD 16 72 ([14, 15]) (rg 1 6),
 oM 17 4,
 oL 18 5 5,
 oD 19 135 ([17, 18]) (rg 1 9),
 oM 20 4,
 oL 21 5 5,
 oD 22 74 ([20, 21, sA64]) (rg 1 12),
 oM 23 4,
 oF 24 18 1,
 ob 25 (.load 5 true 24) [14],
 oD 26 71 ([23, 25, .c (.str ⟨#[97, 100, 100, 114, 101, 115, 115]⟩)]) (rg 1 16),
 ob 27 (.build zL9 [(0, 13, 13), (13, 1, 16), (14, 1, 19), (15, 1, 22), (16, 1, 26)]) (rg 1 17),
 oD 28 134 ([10, 27]) (rg 0 18),
 ob 29 (.extract 28 0) (rg 0 19),
 ob 30 (.extract 28 1) (rg 0 19),
 ⟨none, none, .store 17 2 29, (rg 0 21)⟩,
 ob 3 (.mov 30) (rg 0 22)] true)
 (.ret)))
def K5x : IFn := ⟨1, 31, [.cell 2 17 true, .tmp 3], false, Q25o⟩
def Q25n : IR :=
 .seq (.reg [o 1 (.box 23 0),
 o 2 (.zero zL8),
 o 3 (.mov (.c zI))] false)
 (.seq (.reg [oL 6 23 1,
 oD 7 68 ([6, sA94]) [0],
 oF 8 13 1,
 ob 9 (.load 5 true 8) [2],
 o 5 (.zero zL1),
 ob 4 (.mov 7) [0, 1, 4],
 ⟨none, none, .store 5 5 9, (rg 0 6)⟩] true)
 (.seq (.reg [oM 10 4,
 oF 11 0 1,
 ob 12 (.load 13 true 11) [1],
 oD 13 70 ([12]) [1, 2],
 oM 14 4,
 oM 15 4,
 oL 16 5 5,
 oD 17 76 ([15, 16, sA17]) [1, 2, 3, 5, 6],
 oD 18 153 ([14, 17]) (rg 1 8),
 oM 19 4,
 oL 20 5 5,
 oD 21 71 ([19, 20, sA45]) (rg 1 11),
 oM 22 4,
 oM 23 4,
 oF 24 18 1,
 ob 25 (.load 5 true 24) [14],
 oD 26 76 ([23, 25, sA85]) (rg 1 12 ++ [13, 14, 15]),
 oD 27 153 ([22, 26]) (rg 1 17),
 oM 28 4,
 oF 29 18 1,
 ob 30 (.load 5 true 29) [19],
 oD 31 71 ([28, 30, sA18]) (rg 1 21),
 ob 32 (.build zL8 [(0, 13, 13), (13, 3, 18), (19, 1, 21), (16, 3, 27), (20, 1, 31)]) (rg 1 22),
 oD 33 152 ([10, 32]) (rg 0 23),
 ob 34 (.extract 33 0) (rg 0 24),
 ob 35 (.extract 33 1) (rg 0 24),
 ⟨none, none, .store 21 2 34, (rg 0 26)⟩,
 ob 3 (.mov 35) (rg 0 27)] true)
 (.ret)))
def K5v : IFn := ⟨1, 36, [.cell 2 21 true, .tmp 3], false, Q25n⟩
def Q24l : IR :=
 .seq (.reg [o 1 (.box 23 0),
 o 2 (.zero zL4),
 o 3 (.mov (.c zI))] false)
 (.seq (.reg [oL 8 23 1,
 oC 9 121 ([8, sA92]),
 oM 7 9,
 oX 10 7 0,
 oX 11 7 1,
 oM 4 10,
 oM 5 11] false)
 (.seq (.reg [oF 12 0 1,
 ob 13 (.load 13 true 12) [0],
 oM 14 4,
 oD 15 122 ([14, sA52]) [2],
 oM 16 4,
 oD 17 122 ([16, sA31]) [2, 3, 4],
 oM 18 4,
 oD 19 122 ([18, sA16]) (rg 2 7),
 oM 20 4,
 oD 21 122 ([20, sA2]) (rg 2 9),
 oM 22 4,
 oD 23 123 ([22]) (rg 2 11),
 oM 24 4,
 oD 25 124 ([24]) (rg 2 13),
 oM 26 4,
 oD 27 128 ([26, sA59]) (rg 2 15),
 oM 28 4,
 oD 29 128 ([28, sA51]) (rg 2 17),
 oM 30 4,
 oM 31 4,
 oD 32 131 ([31, sA68]) (rg 2 18 ++ [19]),
 oD 33 130 ([30, 32]) (rg 2 21),
 oM 34 4,
 oM 35 4,
 oD 36 131 ([35, sA81]) (rg 2 22 ++ [23]),
 oD 37 130 ([34, 36]) (rg 2 25),
 oM 38 4,
 oD 39 122 ([38, sA80]) (rg 2 27),
 oM 40 5,
 oD 41 125 ([40]) (rg 2 29),
 ob 42 (.build zL4 [(0, 13, 13), (13, 1, 15), (14, 1, 17), (15, 1, 19), (16, 1, 21), (17, 1, 23), (18, 11, 25), (29, 1, 27), (30, 1, 29), (31, 2, 33), (33, 2, 37), (35, 1, 39), (36, 7, 41)]) (rg 0 30),
 o 6 (.zero zL4),
 ⟨none, none, .store 43 6 42, (rg 0 32)⟩] true)
 (.seq (.seq (.reg [oM 43 4,
 oM 44 5,
 oC 45 126 ([43, 44])] false)
 (.cond 45 (.seq (.reg [o 46 (.build zL4 []),
 oS 43 2 46,
 o 3 (.mov (.c (iN 6)))] false)
 (.ret))
 (.skip)))
 (.seq (.reg [oL 47 43 6,
 oS 43 2 47,
 o 3 (.mov (.c zI))] false)
 (.ret)))))
def K40 : IFn := ⟨1, 48, [.cell 2 43 true, .tmp 3], false, Q24l⟩
def Q24m : IR :=
 .seq (.reg [o 1 (.box 23 0),
 o 2 (.zero zL3),
 o 3 (.mov (.c zI))] false)
 (.seq (.reg [oL 8 23 1,
 oC 9 121 ([8, sA93]),
 oM 7 9,
 oX 10 7 0,
 oX 11 7 1,
 oM 4 10,
 oM 5 11] false)
 (.seq (.reg [oM 12 4,
 oC 13 158 ([12]),
 o 6 (.zero zL3),
 oS 37 6 13] false)
 (.seq (.reg [oF 14 0 1,
 oL 15 13 14,
 oF 16 0 6,
 oS 13 16 15] false)
 (.seq (.reg [oM 17 5,
 oC 18 122 ([17, Q1r2]),
 oF 19 30 6,
 oS 1 19 18] false)
 (.seq (.reg [oM 20 5,
 oC 21 122 ([20, sA70]),
 oF 22 31 6,
 oS 1 22 21] false)
 (.seq (.reg [oM 23 5,
 oC 24 122 ([23, sA12]),
 oF 25 32 6,
 oS 1 25 24] false)
 (.seq (.reg [oM 26 5,
 oC 27 122 ([26, sA65]),
 oF 28 33 6,
 oS 1 28 27] false)
 (.seq (.reg [oM 29 5,
 oC 30 122 ([29, sA11]),
 oF 31 34 6,
 oS 1 31 30] false)
 (.seq (.reg [oM 32 5,
 oC 33 159 ([32, sA5]),
 oF 34 35 6,
 oS 1 34 33] false)
 (.seq (.reg [oM 35 5,
 oC 36 122 ([35, sA56]),
 oF 37 36 6,
 oS 1 37 36] false)
 (.seq (.seq (.reg [oM 38 4,
 oM 39 5,
 oC 40 126 ([38, 39])] false)
 (.cond 40 (.seq (.reg [o 41 (.build zL3 []),
 oS 37 2 41,
 o 3 (.mov (.c (iN 6)))] false)
 (.ret))
 (.skip)))
 (.seq (.reg [oL 42 37 6,
 oS 37 2 42,
 o 3 (.mov (.c zI))] false)
 (.ret)))))))))))))
def K42 : IFn := ⟨1, 43, [.cell 2 37 true, .tmp 3], false, Q24m⟩
def Q25k : IR :=
 .seq (.reg [o 1 (.box 23 0),
 o 2 (.zero zL2),
 o 3 (.mov (.c zI))] false)
 (.seq (.reg [oL 6 23 1,
 oD 7 68 ([6, sA91]) [0],
 oF 8 13 1,
 ob 9 (.load 5 true 8) [2],
 o 5 (.zero zL1),
 ob 4 (.mov 7) [0, 1, 4],
 ⟨none, none, .store 5 5 9, (rg 0 6)⟩] true)
 (.seq (.reg [oM 10 4,
 oF 11 0 1,
 ob 12 (.load 13 true 11) [1],
 oD 13 70 ([12]) [1, 2],
 oM 14 4,
 oL 15 5 5,
 oD 16 89 ([14, 15, sA72]) (rg 1 6),
 oM 17 4,
 oL 18 5 5,
 oD 19 71 ([17, 18, sA47]) (rg 1 9),
 oM 20 4,
 oL 21 5 5,
 oD 22 71 ([20, 21, sA67]) (rg 1 12),
 oM 23 4,
 oL 24 5 5,
 oD 25 71 ([23, 24, sA22]) (rg 1 15),
 oM 26 4,
 oL 27 5 5,
 oD 28 74 ([26, 27, sA69]) (rg 1 18),
 oM 29 4,
 oM 30 4,
 oL 31 5 5,
 oD 32 76 ([30, 31, sA21]) (rg 1 19 ++ [20, 21]),
 oD 33 105 ([29, 32]) (rg 1 23),
 oM 34 4,
 oF 35 18 1,
 ob 36 (.load 5 true 35) [25],
 oD 37 71 ([34, 36, sA26]) (rg 1 27),
 ob 38 (.build zL2 [(0, 13, 13), (13, 1, 16), (14, 1, 19), (15, 1, 22), (16, 1, 25), (17, 1, 28), (18, 37, 33), (55, 1, 37)]) (rg 1 28),
 oD 39 160 ([10, 38]) (rg 0 29),
 ob 40 (.extract 39 0) (rg 0 30),
 ob 41 (.extract 39 1) (rg 0 30),
 ⟨none, none, .store 56 2 40, (rg 0 32)⟩,
 ob 3 (.mov 41) (rg 0 33)] true)
 (.ret)))
def K5m : IFn := ⟨1, 42, [.cell 2 56 true, .tmp 3], false, Q25k⟩
def Q24k : IR :=
 .seq (.reg [o 1 (.box 23 0),
 o 2 (.zero zL2),
 o 3 (.mov (.c zI))] false)
 (.seq (.reg [oL 9 23 1,
 oC 10 121 ([9, sA91]),
 oM 8 10,
 oX 11 8 0,
 oX 12 8 1,
 oM 4 11,
 oM 5 12] false)
 (.seq (.reg [oM 13 4,
 oC 14 131 ([13, sA21]),
 oM 6 14] false)
 (.seq (.reg [oF 15 0 1,
 ob 16 (.load 13 true 15) [0],
 oM 17 4,
 oD 18 142 ([17, sA72]) [2],
 oM 19 4,
 oD 20 122 ([19, sA47]) [2, 3, 4],
 oM 21 4,
 oD 22 122 ([21, sA67]) (rg 2 7),
 oM 23 4,
 oD 24 122 ([23, sA22]) (rg 2 9),
 oM 25 4,
 oD 26 128 ([25, sA69]) (rg 2 11),
 oM 27 6,
 oD 28 158 ([27]) (rg 2 13),
 oM 29 5,
 oD 30 122 ([29, sA26]) (rg 2 15),
 ob 31 (.build zL2 [(0, 13, 16), (13, 1, 18), (14, 1, 20), (15, 1, 22), (16, 1, 24), (17, 1, 26), (18, 37, 28), (55, 1, 30)]) (rg 0 16),
 o 7 (.zero zL2),
 ⟨none, none, .store 56 7 31, (rg 0 18)⟩] true)
 (.seq (.seq (.reg [oM 32 4,
 oM 33 5,
 oC 34 126 ([32, 33]),
 oM 35 34,
 gF 36 35 (.mov 6),
 gF 37 35 (.nilck 36),
 gF 38 35 (.faddr 5 37),
 gF 39 35 (.load 1 false 38),
 oQ 40 35 39] false)
 (.cond 40 (.seq (.reg [o 41 (.build zL2 []),
 oS 56 2 41,
 o 3 (.mov (.c (iN 6)))] false)
 (.ret))
 (.skip)))
 (.seq (.reg [oL 42 56 7,
 oS 56 2 42,
 o 3 (.mov (.c zI))] false)
 (.ret))))))
def K3y : IFn := ⟨1, 43, [.cell 2 56 true, .tmp 3], false, Q24k⟩
def Q24f : IR :=
 .seq (.reg [o 1 (.box 56 0),
 o 2 (.zero zL5)] false)
 (.seq (.reg [oF 3 0 1,
 ob 4 (.load 13 true 3) [0],
 oL 5 56 1,
 oD 6 161 ([5]) [2],
 oF 7 55 1,
 oE 8 1 7 [4],
 oD 9 67 ([8]) [2, 3, 4, 5],
 ob 10 (.build zL0 [(0, 1, sA26), (1, 5, 9)]) (rg 2 7),
 ob 11 (.lit 6 1 zL0 [(0, 10)]) (rg 2 8),
 oD 12 66 ([11]) (rg 2 9),
 oD 13 58 ([sA91, 4, 6, 12]) (rg 0 10),
 ⟨none, none, .store 23 2 13, (rg 0 11)⟩] true)
 (.ret))
def K3m : IFn := ⟨1, 14, [.cell 2 23 true], false, Q24f⟩
def Qls : List Nat := [100007, 2, 4, 5, 6, 7, 8]
def Q1od : IR :=
 .seq (.seq (.reg [oM 36 8,
 oM 37 7,
 oN 38 37,
 o 39 (.bin .lss 36 38)] false)
 (.cond 39 (.skip)
 (.exit 0)))
 (.seq (.block 1 (.seq (.reg [oM 42 7,
 oM 43 8,
 oI 44 5 42 43,
 oL 45 5 44,
 oC 46 141 ([45]),
 oM 9 46] false)
 (.seq (.reg [oF 47 21 6,
 oE 48 1 47 [0],
 oM 49 9,
 oD 50 142 ([49, sA23]) [2],
 oM 51 9,
 oD 52 122 ([51, sA99]) [2, 3, 4],
 ob 53 (.build [zS, zI] [(0, 1, 50), (1, 1, 52)]) [2, 3, 4, 5],
 ob 54 (.lit 2 1 [zS, zI] [(0, 53)]) (rg 2 7),
 ob 55 (.append 2 24 48 54) (rg 0 8),
 ob 56 (.faddr 21 6) (rg 0 9),
 ⟨none, none, .store 1 56 55, (rg 0 10)⟩] true)
 (.reg [oM 57 5,
 oM 58 9,
 o 59 (.nilck 58),
 oF 60 5 59,
 oK 61 1 60,
 oU 62 61,
 oC 63 143 ([57, 62])] false))))
 (.reg [oM 40 8,
 oA 41 40,
 oM 8 41] false))
def Q24j : IR :=
 .seq (.reg [o 1 (.box 23 0),
 o 2 (.zero zL7),
 o 3 (.mov (.c zI))] false)
 (.seq (.reg [oL 11 23 1,
 oC 12 121 ([11, sA90]),
 oM 10 12,
 oX 13 10 0,
 oX 14 10 1,
 oM 4 13,
 oM 5 14] false)
 (.seq (.reg [oF 15 0 1,
 ob 16 (.load 13 true 15) [0],
 oM 17 4,
 oD 18 123 ([17]) [2],
 oM 19 4,
 oD 20 162 ([19, sA30]) [2, 3, 4],
 oM 21 4,
 oD 22 162 ([21, sA34]) (rg 2 7),
 oM 23 5,
 oD 24 122 ([23, sA42]) (rg 2 9),
 oM 25 5,
 oD 26 122 ([25, sA15]) (rg 2 11),
 oM 27 5,
 oD 28 122 ([27, sA1]) (rg 2 13),
 oM 29 5,
 oD 30 122 ([29, sA10]) (rg 2 15),
 oM 31 5,
 oD 32 122 ([31, sA97]) (rg 2 17),
 ob 33 (.build zL7 [(0, 13, 16), (13, 1, 18), (14, 1, 20), (15, 1, 22), (16, 1, 24), (17, 1, 26), (18, 1, 28), (19, 1, 30), (20, 1, 32)]) (rg 0 18),
 o 6 (.zero zL7),
 ⟨none, none, .store 22 6 33, (rg 0 20)⟩] true)
 (.seq (.reg [oM 34 5,
 oC 35 140 ([34, sA4]),
 oM 7 35] false)
 (.seq (.seq (.reg [o 8 (.mov (.c zI))] false)
 (.block 0 (.loop Qls Q1od)))
 (.seq (.seq (.reg [oM 64 4,
 oM 65 5,
 oC 66 126 ([64, 65])] false)
 (.cond 66 (.seq (.reg [o 67 (.build zL7 []),
 oS 22 2 67,
 o 3 (.mov (.c (iN 6)))] false)
 (.ret))
 (.skip)))
 (.seq (.reg [oL 68 22 6,
 oS 22 2 68,
 o 3 (.mov (.c zI))] false)
 (.ret)))))))
def K3x : IFn := ⟨1, 69, [.cell 2 22 true, .tmp 3], false, Q24j⟩
def Qlr : List Nat := [100009, 2, 4, 5, 6, 7, 10]
def Q1oc : IR :=
 .seq (.seq (.reg [oM 78 10,
 oM 79 7,
 oN 80 79,
 o 81 (.bin .lss 78 80)] false)
 (.cond 81 (.skip)
 (.exit 2)))
 (.seq (.block 3 (.seq (.reg [oM 84 7,
 oM 85 10,
 oI 86 5 84 85,
 oL 87 5 86,
 oC 88 141 ([87]),
 oM 11 88] false)
 (.seq (.reg [oF 89 26 6,
 oE 90 1 89 [0],
 oM 91 11,
 oD 92 122 ([91, sA99]) [2],
 oM 93 11,
 oD 94 122 ([93, sA52]) [2, 3, 4],
 ob 95 (.build [zI, zI] [(0, 1, 92), (1, 1, 94)]) [2, 3, 4, 5],
 ob 96 (.lit 2 1 [zI, zI] [(0, 95)]) (rg 2 7),
 ob 97 (.append 2 16 90 96) (rg 0 8),
 ob 98 (.faddr 26 6) (rg 0 9),
 ⟨none, none, .store 1 98 97, (rg 0 10)⟩] true)
 (.reg [oM 99 5,
 oM 100 11,
 o 101 (.nilck 100),
 oF 102 5 101,
 oK 103 1 102,
 oU 104 103,
 oC 105 143 ([99, 104])] false))))
 (.reg [oM 82 10,
 oA 83 82,
 oM 10 83] false))
def Qlq : List Nat := [100008, 2, 4, 5, 6, 7, 8]
def Q1ob : IR :=
 .seq (.seq (.reg [oM 48 8,
 oM 49 7,
 oN 50 49,
 o 51 (.bin .lss 48 50)] false)
 (.cond 51 (.skip)
 (.exit 0)))
 (.seq (.block 1 (.seq (.reg [oM 54 7,
 oM 55 8,
 oI 56 5 54 55,
 oL 57 5 56,
 oC 58 141 ([57]),
 oM 9 58] false)
 (.seq (.reg [oF 59 17 6,
 oE 60 1 59 [0],
 oM 61 9,
 oD 62 142 ([61, sA39]) [2],
 oM 63 9,
 oD 64 122 ([63, sA79]) [2, 3, 4],
 ob 65 (.build [zS, zI] [(0, 1, 62), (1, 1, 64)]) [2, 3, 4, 5],
 ob 66 (.lit 2 1 [zS, zI] [(0, 65)]) (rg 2 7),
 ob 67 (.append 2 24 60 66) (rg 0 8),
 ob 68 (.faddr 17 6) (rg 0 9),
 ⟨none, none, .store 1 68 67, (rg 0 10)⟩] true)
 (.reg [oM 69 4,
 oM 70 9,
 o 71 (.nilck 70),
 oF 72 5 71,
 oK 73 1 72,
 oU 74 73,
 oC 75 143 ([69, 74])] false))))
 (.reg [oM 52 8,
 oA 53 52,
 oM 8 53] false))
def Q24i : IR :=
 .seq (.reg [o 1 (.box 23 0),
 o 2 (.zero zL6),
 o 3 (.mov (.c zI))] false)
 (.seq (.reg [oL 13 23 1,
 oC 14 121 ([13, sA89]),
 oM 12 14,
 oX 15 12 0,
 oX 16 12 1,
 oM 4 15,
 oM 5 16] false)
 (.seq (.reg [oF 17 0 1,
 ob 18 (.load 13 true 17) [0],
 oM 19 4,
 oD 20 142 ([19, sA78]) [2],
 oM 21 4,
 oD 22 142 ([21, sA79]) [2, 3, 4],
 oM 23 4,
 oD 24 122 ([23, sA32]) (rg 2 7),
 oM 25 4,
 oD 26 122 ([25, sA35]) (rg 2 9),
 oM 27 4,
 oD 28 122 ([27, sA75]) (rg 2 11),
 oM 29 4,
 oD 30 122 ([29, sA84]) (rg 2 13),
 oM 31 4,
 oD 32 122 ([31, sA7]) (rg 2 15),
 oM 33 4,
 oM 34 4,
 oD 35 131 ([34, sA83]) (rg 2 16 ++ [17]),
 oD 36 130 ([33, 35]) (rg 2 19),
 oM 37 4,
 oM 38 4,
 oD 39 131 ([38, sA6]) (rg 2 20 ++ [21]),
 oD 40 130 ([37, 39]) (rg 2 23),
 oM 41 4,
 oD 42 122 ([41, sA43]) (rg 2 25),
 oM 43 5,
 oD 44 122 ([43, sA73]) (rg 2 27),
 ob 45 (.build zL6 [(0, 13, 18), (13, 1, 20), (14, 1, 22), (15, 1, 24), (16, 1, 26), (18, 1, 28), (19, 1, 30), (20, 1, 32), (21, 2, 36), (23, 2, 40), (25, 1, 42), (27, 1, 44)]) (rg 0 28),
 o 6 (.zero zL6),
 ⟨none, none, .store 28 6 45, (rg 0 30)⟩] true)
 (.seq (.reg [oM 46 4,
 oC 47 140 ([46, sA29]),
 oM 7 47] false)
 (.seq (.seq (.reg [o 8 (.mov (.c zI))] false)
 (.block 0 (.loop Qlq Q1ob)))
 (.seq (.reg [oM 76 5,
 oC 77 140 ([76, sA96]),
 oM 7 77] false)
 (.seq (.seq (.reg [o 10 (.mov (.c zI))] false)
 (.block 2 (.loop Qlr Q1oc)))
 (.seq (.seq (.reg [oM 106 4,
 oM 107 5,
 oC 108 126 ([106, 107])] false)
 (.cond 108 (.seq (.reg [o 109 (.build zL6 []),
 oS 28 2 109,
 o 3 (.mov (.c (iN 6)))] false)
 (.ret))
 (.skip)))
 (.seq (.reg [oL 110 28 6,
 oS 28 2 110,
 o 3 (.mov (.c zI))] false)
 (.ret)))))))))
def K3w : IFn := ⟨1, 111, [.cell 2 28 true, .tmp 3], false, Q24i⟩
def Q24o : IR :=
 .seq (.reg [o 5 (.box 13 1),
 o 6 (.box 5 2),
 o 7 (.box 5 3),
 o 8 (.zero zL5)] false)
 (.seq (.reg [oM 9 0,
 oF 10 0 5,
 oS 1 10 9] false)
 (.seq (.reg [oL 11 13 5,
 oL 12 5 6,
 oL 13 5 7,
 o 14 (.build zL5 [(0, 13, 11), (13, 5, 12), (18, 5, 13)]),
 oS 23 8 14] false)
 (.ret)))
def K49 : IFn := ⟨4, 15, [.cell 8 23 true], false, Q24o⟩
def Q23b : IR :=
 .seq (.reg [o 1 (.box 43 0),
 o 2 (.zero zL1)] false)
 (.seq (.reg [oF 3 13 1,
 oE 4 1 3 [0],
 oD 5 164 ([4]) [0, 1],
 ob 6 (.build zL0 [(0, 1, sA52), (1, 5, 5)]) [0, 1, 2],
 oF 7 14 1,
 oE 8 1 7 [4],
 oD 9 164 ([8]) [0, 1, 2, 4, 5],
 ob 10 (.build zL0 [(0, 1, sA31), (1, 5, 9)]) [0, 1, 2, 4, 5, 6],
 oF 11 15 1,
 oE 12 1 11 [8],
 oD 13 164 ([12]) [0, 1, 2, 4, 5, 6, 8, 9],
 ob 14 (.build zL0 [(0, 1, sA16), (1, 5, 13)]) [0, 1, 2, 4, 5, 6, 8, 9, 10],
 oF 15 16 1,
 oE 16 1 15 [12],
 oD 17 164 ([16]) [0, 1, 2, 4, 5, 6, 8, 9, 10, 12, 13],
 ob 18 (.build zL0 [(0, 1, sA2), (1, 5, 17)]) [0, 1, 2, 4, 5, 6, 8, 9, 10, 12, 13, 14],
 oF 19 17 1,
 oE 20 1 19 [16],
 oD 21 165 ([20]) [0, 1, 2, 4, 5, 6, 8, 9, 10, 12, 13, 14, 16, 17],
 ob 22 (.build zL0 [(0, 1, sA60), (1, 5, 21)]) [0, 1, 2, 4, 5, 6, 8, 9, 10, 12, 13, 14, 16, 17, 18],
 oF 23 18 1,
 ob 24 (.load 11 true 23) [20],
 oD 25 166 ([24]) [0, 1, 2, 4, 5, 6, 8, 9, 10, 12, 13, 14, 16, 17, 18, 20, 21],
 ob 26 (.build zL0 [(0, 1, sA74), (1, 5, 25)]) [0, 1, 2, 4, 5, 6, 8, 9, 10, 12, 13, 14, 16, 17, 18, 20, 21, 22],
 oF 27 29 1,
 oE 28 1 27 [24],
 oD 29 167 ([28]) [0, 1, 2, 4, 5, 6, 8, 9, 10, 12, 13, 14, 16, 17, 18, 20, 21, 22, 24, 25],
 ob 30 (.build zL0 [(0, 1, sA59), (1, 5, 29)]) [0, 1, 2, 4, 5, 6, 8, 9, 10, 12, 13, 14, 16, 17, 18, 20, 21, 22, 24, 25, 26],
 oF 31 30 1,
 oE 32 1 31 [28],
 oD 33 167 ([32]) [0, 1, 2, 4, 5, 6, 8, 9, 10, 12, 13, 14, 16, 17, 18, 20, 21, 22, 24, 25, 26, 28, 29],
 ob 34 (.build zL0 [(0, 1, sA51), (1, 5, 33)]) [0, 1, 2, 4, 5, 6, 8, 9, 10, 12, 13, 14, 16, 17, 18, 20, 21, 22, 24, 25, 26, 28, 29, 30],
 oF 35 31 1,
 ob 36 (.load 2 true 35) [32],
 oD 37 168 ([36]) [0, 1, 2, 4, 5, 6, 8, 9, 10, 12, 13, 14, 16, 17, 18, 20, 21, 22, 24, 25, 26, 28, 29, 30, 32, 33],
 ob 38 (.build zL0 [(0, 1, sA68), (1, 5, 37)]) [0, 1, 2, 4, 5, 6, 8, 9, 10, 12, 13, 14, 16, 17, 18, 20, 21, 22, 24, 25, 26, 28, 29, 30, 32, 33, 34],
 oF 39 33 1,
 ob 40 (.load 2 true 39) [36],
 oD 41 168 ([40]) [0, 1, 2, 4, 5, 6, 8, 9, 10, 12, 13, 14, 16, 17, 18, 20, 21, 22, 24, 25, 26, 28, 29, 30, 32, 33, 34, 36, 37],
 ob 42 (.build zL0 [(0, 1, sA81), (1, 5, 41)]) [0, 1, 2, 4, 5, 6, 8, 9, 10, 12, 13, 14, 16, 17, 18, 20, 21, 22, 24, 25, 26, 28, 29, 30, 32, 33, 34, 36, 37, 38],
 oF 43 35 1,
 oE 44 1 43 [40],
 oD 45 164 ([44]) [0, 1, 2, 4, 5, 6, 8, 9, 10, 12, 13, 14, 16, 17, 18, 20, 21, 22, 24, 25, 26, 28, 29, 30, 32, 33, 34, 36, 37, 38, 40, 41],
 ob 46 (.build zL0 [(0, 1, sA80), (1, 5, 45)]) [0, 1, 2, 4, 5, 6, 8, 9, 10, 12, 13, 14, 16, 17, 18, 20, 21, 22, 24, 25, 26, 28, 29, 30, 32, 33, 34, 36, 37, 38, 40, 41, 42],
 ob 47 (.lit 6 11 zL0 [(0, 6), (1, 10), (2, 14), (3, 18), (4, 22), (5, 26), (6, 30), (7, 34), (8, 38), (9, 42), (10, 46)]) (rg 0 44),
 oD 48 163 ([47]) (rg 0 45),
 ⟨none, none, .store 5 2 48, (rg 0 46)⟩] true)
 (.ret))
def K2a : IFn := ⟨1, 49, [.cell 2 5 true], false, Q23b⟩
def Q23t : IR :=
 .seq (.reg [o 1 (.box 7 0),
 o 2 (.zero zL1)] false)
 (.seq (.reg [oF 3 0 1,
 oE 4 1 3 [0],
 oD 5 164 ([4]) [0, 1],
 ob 6 (.build zL0 [(0, 1, sA42), (1, 5, 5)]) [0, 1, 2],
 oF 7 1 1,
 oE 8 1 7 [4],
 oD 9 164 ([8]) [0, 1, 2, 4, 5],
 ob 10 (.build zL0 [(0, 1, sA52), (1, 5, 9)]) [0, 1, 2, 4, 5, 6],
 oF 11 2 1,
 oE 12 1 11 [8],
 oD 13 164 ([12]) [0, 1, 2, 4, 5, 6, 8, 9],
 ob 14 (.build zL0 [(0, 1, sA82), (1, 5, 13)]) [0, 1, 2, 4, 5, 6, 8, 9, 10],
 oF 15 3 1,
 oE 16 1 15 [12],
 oD 17 164 ([16]) [0, 1, 2, 4, 5, 6, 8, 9, 10, 12, 13],
 ob 18 (.build zL0 [(0, 1, sA58), (1, 5, 17)]) [0, 1, 2, 4, 5, 6, 8, 9, 10, 12, 13, 14],
 oF 19 4 1,
 oE 20 1 19 [16],
 oD 21 164 ([20]) [0, 1, 2, 4, 5, 6, 8, 9, 10, 12, 13, 14, 16, 17],
 ob 22 (.build zL0 [(0, 1, Q1r1), (1, 5, 21)]) [0, 1, 2, 4, 5, 6, 8, 9, 10, 12, 13, 14, 16, 17, 18],
 oF 23 5 1,
 oE 24 1 23 [20],
 oD 25 164 ([24]) [0, 1, 2, 4, 5, 6, 8, 9, 10, 12, 13, 14, 16, 17, 18, 20, 21],
 ob 26 (.build zL0 [(0, 1, sA49), (1, 5, 25)]) [0, 1, 2, 4, 5, 6, 8, 9, 10, 12, 13, 14, 16, 17, 18, 20, 21, 22],
 oF 27 6 1,
 oE 28 1 27 [24],
 oD 29 167 ([28]) [0, 1, 2, 4, 5, 6, 8, 9, 10, 12, 13, 14, 16, 17, 18, 20, 21, 22, 24, 25],
 ob 30 (.build zL0 [(0, 1, sA12), (1, 5, 29)]) [0, 1, 2, 4, 5, 6, 8, 9, 10, 12, 13, 14, 16, 17, 18, 20, 21, 22, 24, 25, 26],
 ob 31 (.lit 6 7 zL0 [(0, 6), (1, 10), (2, 14), (3, 18), (4, 22), (5, 26), (6, 30)]) (rg 0 28),
 oD 32 163 ([31]) (rg 0 29),
 ⟨none, none, .store 5 2 32, (rg 0 30)⟩] true)
 (.ret))
def K30 : IFn := ⟨1, 33, [.cell 2 5 true], false, Q23t⟩
def Ql0 : List Nat := [100010, 1, 2, 3, 4]
def Q1nl : IR :=
 .seq (.seq (.reg [oM 5 4,
 oF 6 17 1,
 oK 7 1 6,
 oN 8 7,
 o 9 (.bin .lss 5 8)] false)
 (.cond 9 (.skip)
 (.exit 0)))
 (.seq (.block 1 (.reg [oM 12 3,
 oF 13 17 1,
 oE 14 1 13 [1],
 oM 15 4,
 ob 16 (.iaddr 2 14 15) [1, 2, 3],
 ob 17 (.faddr 0 16) [1, 2, 3, 4],
 oE 18 1 17 (rg 1 6),
 oD 19 169 ([18]) (rg 1 7),
 ob 20 (.build zL0 [(0, 1, sA39), (1, 5, 19)]) (rg 1 8),
 oF 21 17 1,
 oE 22 1 21 [9],
 oM 23 4,
 ob 24 (.iaddr 2 22 23) [9, 10, 11],
 ob 25 (.faddr 1 24) [9, 10, 11, 12],
 oE 26 1 25 (rg 9 14),
 oD 27 164 ([26]) (rg 1 8 ++ rg 9 15),
 ob 28 (.build zL0 [(0, 1, sA79), (1, 5, 27)]) (rg 1 8 ++ rg 9 16),
 ob 29 (.lit 6 2 zL0 [(0, 20), (1, 28)]) (rg 1 17),
 oD 30 163 ([29]) (rg 1 18),
 ob 31 (.lit 5 1 zL1 [(0, 30)]) (rg 1 19),
 ob 32 (.append 5 80 12 31) (rg 0 20),
 ob 3 (.mov 32) (rg 0 21)] true))
 (.reg [oM 10 4,
 oA 11 10,
 oM 4 11] false))
def Q234 : IR :=
 .seq (.reg [o 1 (.box 28 0),
 o 2 (.zero zL1)] false)
 (.seq (.reg [o 3 (.mov (.c (.ns 5)))] false)
 (.seq (.seq (.reg [o 4 (.mov (.c zI))] false)
 (.block 0 (.loop Ql0 Q1nl)))
 (.seq (.reg [oF 33 13 1,
 oE 34 1 33 [0],
 oD 35 169 ([34]) [0, 1],
 ob 36 (.build zL0 [(0, 1, sA78), (1, 5, 35)]) [0, 1, 2],
 oF 37 14 1,
 oE 38 1 37 [4],
 oD 39 169 ([38]) [0, 1, 2, 4, 5],
 ob 40 (.build zL0 [(0, 1, sA79), (1, 5, 39)]) [0, 1, 2, 4, 5, 6],
 oF 41 15 1,
 oE 42 1 41 [8],
 oD 43 164 ([42]) [0, 1, 2, 4, 5, 6, 8, 9],
 ob 44 (.build zL0 [(0, 1, sA32), (1, 5, 43)]) [0, 1, 2, 4, 5, 6, 8, 9, 10],
 oF 45 16 1,
 oE 46 1 45 [12],
 oD 47 164 ([46]) [0, 1, 2, 4, 5, 6, 8, 9, 10, 12, 13],
 ob 48 (.build zL0 [(0, 1, sA35), (1, 5, 47)]) [0, 1, 2, 4, 5, 6, 8, 9, 10, 12, 13, 14],
 oM 49 3,
 ob 50 (.build zL1 [(0, 1, .c (iN 4)), (3, 1, 49)]) [16],
 ob 51 (.build zL0 [(0, 1, sA29), (1, 5, 50)]) [16, 17],
 oF 52 18 1,
 oE 53 1 52 [19],
 oD 54 164 ([53]) [0, 1, 2, 4, 5, 6, 8, 9, 10, 12, 13, 14, 19, 20],
 ob 55 (.build zL0 [(0, 1, sA75), (1, 5, 54)]) [0, 1, 2, 4, 5, 6, 8, 9, 10, 12, 13, 14, 19, 20, 21],
 oF 56 19 1,
 oE 57 1 56 [23],
 oD 58 164 ([57]) [0, 1, 2, 4, 5, 6, 8, 9, 10, 12, 13, 14, 19, 20, 21, 23, 24],
 ob 59 (.build zL0 [(0, 1, sA84), (1, 5, 58)]) [0, 1, 2, 4, 5, 6, 8, 9, 10, 12, 13, 14, 19, 20, 21, 23, 24, 25],
 oF 60 20 1,
 oE 61 1 60 [27],
 oD 62 164 ([61]) [0, 1, 2, 4, 5, 6, 8, 9, 10, 12, 13, 14, 19, 20, 21, 23, 24, 25, 27, 28],
 ob 63 (.build zL0 [(0, 1, sA7), (1, 5, 62)]) [0, 1, 2, 4, 5, 6, 8, 9, 10, 12, 13, 14, 19, 20, 21, 23, 24, 25, 27, 28, 29],
 oF 64 21 1,
 ob 65 (.load 2 true 64) [31],
 oD 66 168 ([65]) [0, 1, 2, 4, 5, 6, 8, 9, 10, 12, 13, 14, 19, 20, 21, 23, 24, 25, 27, 28, 29, 31, 32],
 ob 67 (.build zL0 [(0, 1, sA83), (1, 5, 66)]) [0, 1, 2, 4, 5, 6, 8, 9, 10, 12, 13, 14, 19, 20, 21, 23, 24, 25, 27, 28, 29, 31, 32, 33],
 oF 68 23 1,
 ob 69 (.load 2 true 68) [35],
 oD 70 168 ([69]) [0, 1, 2, 4, 5, 6, 8, 9, 10, 12, 13, 14, 19, 20, 21, 23, 24, 25, 27, 28, 29, 31, 32, 33, 35, 36],
 ob 71 (.build zL0 [(0, 1, sA6), (1, 5, 70)]) [0, 1, 2, 4, 5, 6, 8, 9, 10, 12, 13, 14, 19, 20, 21, 23, 24, 25, 27, 28, 29, 31, 32, 33, 35, 36, 37],
 oF 72 25 1,
 oE 73 1 72 [39],
 oD 74 164 ([73]) [0, 1, 2, 4, 5, 6, 8, 9, 10, 12, 13, 14, 19, 20, 21, 23, 24, 25, 27, 28, 29, 31, 32, 33, 35, 36, 37, 39, 40],
 ob 75 (.build zL0 [(0, 1, sA43), (1, 5, 74)]) [0, 1, 2, 4, 5, 6, 8, 9, 10, 12, 13, 14, 19, 20, 21, 23, 24, 25, 27, 28, 29, 31, 32, 33, 35, 36, 37, 39, 40, 41],
 ob 76 (.lit 6 11 zL0 [(0, 36), (1, 40), (2, 44), (3, 48), (4, 51), (5, 55), (6, 59), (7, 63), (8, 67), (9, 71), (10, 75)]) (rg 0 43),
 oD 77 163 ([76]) (rg 0 44),
 ⟨none, none, .store 5 2 77, (rg 0 45)⟩] true)
 (.ret))))
def K22 : IFn := ⟨1, 78, [.cell 2 5 true], false, Q234⟩
def Ql1 : List Nat := [100011, 1, 2, 3, 4]
def Q1nm : IR :=
 .seq (.seq (.reg [oM 5 4,
 oF 6 26 1,
 oK 7 1 6,
 oN 8 7,
 o 9 (.bin .lss 5 8)] false)
 (.cond 9 (.skip)
 (.exit 0)))
 (.seq (.block 1 (.reg [oM 12 3,
 oF 13 26 1,
 oE 14 1 13 [1],
 oM 15 4,
 ob 16 (.iaddr 2 14 15) [1, 2, 3],
 ob 17 (.faddr 0 16) [1, 2, 3, 4],
 oE 18 1 17 (rg 1 6),
 oD 19 164 ([18]) (rg 1 7),
 ob 20 (.build zL0 [(0, 1, sA99), (1, 5, 19)]) (rg 1 8),
 oF 21 26 1,
 oE 22 1 21 [9],
 oM 23 4,
 ob 24 (.iaddr 2 22 23) [9, 10, 11],
 ob 25 (.faddr 1 24) [9, 10, 11, 12],
 oE 26 1 25 (rg 9 14),
 oD 27 164 ([26]) (rg 1 8 ++ rg 9 15),
 ob 28 (.build zL0 [(0, 1, sA52), (1, 5, 27)]) (rg 1 8 ++ rg 9 16),
 ob 29 (.lit 6 2 zL0 [(0, 20), (1, 28)]) (rg 1 17),
 oD 30 163 ([29]) (rg 1 18),
 ob 31 (.lit 5 1 zL1 [(0, 30)]) (rg 1 19),
 ob 32 (.append 5 80 12 31) (rg 0 20),
 ob 3 (.mov 32) (rg 0 21)] true))
 (.reg [oM 10 4,
 oA 11 10,
 oM 4 11] false))
def Q235 : IR :=
 .seq (.reg [o 1 (.box 28 0),
 o 2 (.zero zL1)] false)
 (.seq (.reg [o 3 (.mov (.c (.ns 5)))] false)
 (.seq (.seq (.reg [o 4 (.mov (.c zI))] false)
 (.block 0 (.loop Ql1 Q1nm)))
 (.seq (.reg [oM 33 3,
 o 34 (.build zL1 [(0, 1, .c (iN 4)), (3, 1, 33)]),
 o 35 (.build zL0 [(0, 1, sA96), (1, 5, 34)]),
 oF 36 27 1,
 oK 37 1 36,
 oC 38 164 ([37]),
 o 39 (.build zL0 [(0, 1, sA73), (1, 5, 38)]),
 o 40 (.lit 6 2 zL0 [(0, 35), (1, 39)]),
 oC 41 163 ([40]),
 oS 5 2 41] false)
 (.ret))))
def K23 : IFn := ⟨1, 42, [.cell 2 5 true], false, Q235⟩
def Q22t : IR :=
 .seq (.reg [o 2 (.box 5 0),
 o 4 (.mov (.c zB))] false)
 (.seq (.reg [oL 5 5 2,
 oM 6 1,
 oM 7 1,
 oC 8 170 ([5, 6, 7]),
 o 9 (.bin .geq 8 (.c zI)),
 oM 4 9] false)
 (.ret))
def K1r : IFn := ⟨2, 10, [.tmp 4], false, Q22t⟩
def Q25d : IR :=
 .seq (.reg [o 1 (.box 21 0),
 o 2 (.zero zL5)] false)
 (.seq (.reg [oF 3 0 1,
 ob 4 (.load 13 true 3) [0],
 oF 5 13 1,
 ob 6 (.load 3 true 5) [2],
 oD 7 171 ([6]) [2, 3],
 oD 8 83 ([sA17, 7]) [2, 3, 4],
 oF 9 19 1,
 oE 10 1 9 [6],
 oD 11 79 ([sA45, 10]) (rg 2 8),
 ob 12 (.lit 6 2 zL0 [(0, 8), (1, 11)]) (rg 2 9),
 oD 13 78 ([12]) (rg 2 10),
 oF 14 16 1,
 ob 15 (.load 3 true 14) [11],
 oD 16 171 ([15]) (rg 2 13),
 oD 17 83 ([sA85, 16]) (rg 2 14),
 oF 18 20 1,
 oE 19 1 18 [15],
 oD 20 79 ([sA18, 19]) (rg 2 17),
 ob 21 (.lit 6 2 zL0 [(0, 17), (1, 20)]) (rg 2 18),
 oD 22 78 ([21]) (rg 2 19),
 oD 23 85 ([sA94, 4, 13, 22]) (rg 0 20),
 ⟨none, none, .store 23 2 23, (rg 0 21)⟩] true)
 (.ret))
def K5d : IFn := ⟨1, 24, [.cell 2 23 true], false, Q25d⟩
def Q148 : List Nat := [100012, 1, 2, 4, 6]
def Q1vf : IR :=
 .seq (.seq (.reg [oM 10 6,
 oF 11 4 2,
 oK 12 1 11,
 oN 13 12,
 o 14 (.bin .lss 10 13)] false)
 (.cond 14 (.skip)
 (.exit 0)))
 (.seq (.block 1 (.seq (.reg [oF 17 4 2,
 oK 18 1 17,
 oM 19 6,
 oI 20 6 18 19,
 oF 21 0 20,
 oK 22 1 21,
 oM 23 1,
 o 24 (.bin .eql 22 23)] false)
 (.cond 24 (.seq (.reg [oF 25 4 2,
 oK 26 1 25,
 oM 27 6,
 oI 28 6 26 27,
 oF 29 1 28,
 oL 30 5 29,
 oC 31 172 ([30]),
 oS 5 4 31,
 o 5 (.mov (.c (.bool true)))] false)
 (.ret))
 (.skip))))
 (.reg [oM 15 6,
 oA 16 15,
 oM 6 16] false))
def Q22q : IR :=
 .seq (.reg [o 2 (.box 5 0),
 o 4 (.zero zL1),
 o 5 (.mov (.c zB))] false)
 (.seq (.seq (.reg [oF 7 0 2,
 oK 8 1 7,
 o 9 (.bin .eql 8 (.c (iN 5)))] false)
 (.cond 9 (.seq (.reg [o 6 (.mov (.c zI))] false)
 (.block 0 (.loop Q148 Q1vf)))
 (.skip)))
 (.seq (.reg [o 32 (.build zL1 []),
 oS 5 4 32,
 o 5 (.mov (.c zB))] false)
 (.ret)))
def K1o : IFn := ⟨2, 33, [.cell 4 5 true, .tmp 5], false, Q22q⟩
def Qkr : List Nat := [100013, 0, 2, 3, 4, 200001]
def Q1nc : IR :=
 .seq (.seq (.reg [oM 6 4,
 oM 7 0,
 oN 8 7,
 o 9 (.bin .lss 6 8)] false)
 (.cond 9 (.skip)
 (.exit 0)))
 (.seq (.block 1 (.reg [oF 12 4 3,
 oE 13 1 12 [0],
 oM 14 0,
 oM 15 4,
 ob 16 (.iaddr 6 14 15) [2, 3],
 ob 17 (.faddr 0 16) [2, 3, 4],
 oE 18 1 17 [2, 3, 4, 5],
 oM 19 0,
 oM 20 4,
 ob 21 (.iaddr 6 19 20) [7, 8],
 ob 22 (.faddr 1 21) [7, 8, 9],
 ob 23 (.load 5 true 22) [7, 8, 9, 10],
 oD 24 172 ([23]) (rg 7 12),
 ob 25 (.build zL0 [(0, 1, 18), (1, 5, 24)]) (rg 2 13),
 oD 26 173 ([13, 25]) (rg 0 14),
 ob 27 (.faddr 4 3) (rg 0 15),
 ⟨none, none, .store 1 27 26, (rg 0 16)⟩] true))
 (.reg [oM 10 4,
 oA 11 10,
 oM 4 11] false))
def Q22s : IR :=
 .seq (.reg [o 2 (.zero zL1)] false)
 (.seq (.reg [o 5 (.build zL1 [(0, 1, .c (iN 5))]),
 o 3 (.zero zL1),
 oS 5 3 5] false)
 (.seq (.seq (.reg [o 4 (.mov (.c zI))] false)
 (.block 0 (.loop Qkr Q1nc)))
 (.seq (.reg [oL 28 5 3,
 oS 5 2 28] false)
 (.ret))))
def K1q : IFn := ⟨1, 29, [.cell 2 5 true], false, Q22s⟩
def Q22r : IR :=
 .seq (.reg [o 2 (.zero zL1)] false)
 (.seq (.reg [oM 3 0,
 o 4 (.build zL1 [(0, 1, .c (iN 2)), (1, 1, 3)]),
 oS 5 2 4] false)
 (.ret))
def K1p : IFn := ⟨1, 5, [.cell 2 5 true], false, Q22r⟩
def Q26i : IR :=
 .seq (.reg [o 2 (.box 23 0),
 o 4 (.mov (.c (.np)))] false)
 (.seq (.reg [o 6 (.build [zI] []),
 o 7 (.box 1 6),
 oM 5 7] false)
 (.seq (.seq (.reg [oF 8 0 2,
 oF 9 0 8,
 oK 10 1 9,
 oM 11 1,
 o 12 (.bin .neq 10 11)] false)
 (.cond 12 (.reg [oM 13 5,
 o 14 (.nilck 13),
 oF 15 0 14,
 oK 16 1 15,
 oA 17 16,
 o 18 (.nilck 13),
 oF 19 0 18,
 oS 1 19 17] false)
 (.skip)))
 (.seq (.reg [oM 20 5,
 oF 21 13 2,
 oL 22 5 21,
 oC 23 174 ([20, 22, .c (iN 5)])] false)
 (.seq (.reg [oM 24 5,
 oF 25 18 2,
 oL 26 5 25,
 oC 27 174 ([24, 26, .c (iN 5)])] false)
 (.seq (.reg [oM 28 5,
 oM 4 28] false)
 (.ret))))))
def K77 : IFn := ⟨2, 29, [.tmp 4], false, Q26i⟩
def Q26k : IR :=
 .seq (.reg [o 3 (.box 43 1),
 o 4 (.zero zL4),
 o 5 (.mov (.c zI))] false)
 (.seq (.seq (.reg [oM 7 0,
 o 8 (.nilck 7),
 oF 9 0 8,
 oK 10 1 9,
 o 11 (.bin .gtr 10 (.c zI))] false)
 (.cond 11 (.seq (.reg [o 6 (.zero zL4)] false)
 (.seq (.reg [oL 12 43 6,
 oS 43 4 12,
 o 5 (.mov (.c (iN 6)))] false)
 (.ret)))
 (.skip)))
 (.seq (.reg [oL 13 43 3,
 oS 43 4 13,
 o 5 (.mov (.c zI))] false)
 (.ret)))
def K79 : IFn := ⟨2, 14, [.cell 4 43 true, .tmp 5], false, Q26k⟩
def Qly : List Nat := [100014, 1, 2, 22, 23, 24]
def Q1oj : IR :=
 .seq (.reg [o 25 (.bin .lss 24 23)] false)
 (.seq (.cond 25 (.skip)
 (.exit 0))
 (.seq (.block 1 (.seq (.reg [oM 26 24,
 oI 27 2 22 24,
 oL 28 2 27,
 o 4 (.zero [zS, .ns 1]),
 oM 3 26,
 oS 2 4 28] false)
 (.reg [oF 29 12 1,
 oE 30 1 29 [0],
 oM 31 3,
 oF 32 1 4,
 oE 33 1 32 [3],
 oD 34 177 ([33]) [3, 4],
 ob 35 (.iaddr 2 30 31) (rg 0 6),
 ob 36 (.faddr 1 35) (rg 0 7),
 ⟨none, none, .store 1 36 34, (rg 0 8)⟩] true)))
 (.reg [oA 37 24,
 oM 24 37] false)))
def Q25p : IR :=
 .seq (.reg [o 1 (.box 13 0),
 o 2 (.zero zL12)] false)
 (.seq (.reg [oF 5 9 1,
 oE 6 1 5 [0],
 oD 7 175 ([6]) [0, 1],
 oF 8 10 1,
 oE 9 1 8 [3],
 oD 10 176 ([9]) (rg 0 5),
 oF 11 11 1,
 oE 12 1 11 [6],
 oD 13 177 ([12]) (rg 0 8),
 oF 14 12 1,
 oE 15 1 14 [9],
 oD 16 178 ([15]) (rg 0 11),
 ob 17 (.faddr 9 1) (rg 0 5 ++ [6, 7, 9, 10]),
 ⟨none, none, .store 1 17 7, (rg 0 13)⟩,
 ob 18 (.faddr 10 1) (rg 0 14),
 ⟨none, none, .store 1 18 10, (rg 0 15)⟩,
 ob 19 (.faddr 11 1) (rg 0 16),
 ⟨none, none, .store 1 19 13, (rg 0 17)⟩,
 ob 20 (.faddr 12 1) (rg 0 18),
 ⟨none, none, .store 1 20 16, (rg 0 19)⟩] true)
 (.seq (.seq (.reg [oF 21 12 1,
 oK 22 1 21,
 oN 23 22,
 o 24 (.mov (.c zI))] false)
 (.block 0 (.loop Qly Q1oj)))
 (.seq (.reg [oL 38 13 1,
 oS 13 2 38] false)
 (.ret))))
def K5z : IFn := ⟨1, 39, [.cell 2 13 true], false, Q25p⟩
def Q25w : IR :=
 .seq (.reg [o 4 (.box 5 1),
 o 6 (.mov (.c zI))] false)
 (.seq (.reg [oM 7 0,
 oM 8 0,
 oL 9 5 4,
 oM 10 2,
 oC 11 76 ([8, 9, 10]),
 oC 12 174 ([7, 11, .c (iN 2)]),
 o 13 (.field 1 1 false 12),
 oM 6 13] false)
 (.ret))
def K66 : IFn := ⟨3, 14, [.tmp 6], false, Q25w⟩
def Q260 : IR :=
 .seq (.reg [o 2 (.box 1 0),
 o 3 (.box 5 1),
 o 4 (.mov (.c (.ns 3)))] false)
 (.seq (.reg [oK 5 1 2,
 oL 6 5 3,
 o 7 (.mkfn 180 [] [2]),
 oC 8 179 ([5, 6, sA60, 7]),
 oM 4 8] false)
 (.ret))
def K6a : IFn := ⟨2, 9, [.tmp 4], false, Q260⟩
def Q264 : IR :=
 .seq (.reg [o 3 (.box 5 1),
 o 4 (.zero [.ns 2, zS, zI, zI, zI, .ns 11, .ns 3, .ns 3, .ns 5, .ns 4, .ns 5])] false)
 (.seq (.reg [oM 8 0,
 oL 9 5 3,
 oC 10 76 ([8, 9, sA74]),
 o 5 (.zero zL1),
 oS 5 5 10] false)
 (.seq (.seq (.reg [oF 11 0 5,
 oK 12 1 11,
 o 13 (.bin .eql 12 (.c zI))] false)
 (.cond 13 (.seq (.reg [o 14 (.build [.ns 2, zS, zI, zI, zI, .ns 11, .ns 3, .ns 3, .ns 5, .ns 4, .ns 5] []),
 oS 11 4 14] false)
 (.ret))
 (.skip)))
 (.seq (.reg [oL 16 5 5,
 oC 17 183 ([16]),
 oM 15 17,
 oX 18 15 0,
 oX 19 15 1,
 o 6 (.zero [.ns 2, zS, zI, zI, zI, .ns 11, .ns 3, .ns 3, .ns 5, .ns 4, .ns 5]),
 oS 11 6 18,
 oM 7 19] false)
 (.seq (.seq (.reg [oM 20 7,
 o 21 (.bin .neq 20 (.c zI))] false)
 (.cond 21 (.reg [oM 22 0,
 o 23 (.nilck 22),
 oF 24 0 23,
 oK 25 1 24,
 oA 26 25,
 o 27 (.nilck 22),
 oF 28 0 27,
 oS 1 28 26] false)
 (.skip)))
 (.seq (.reg [oL 29 11 6,
 oS 11 4 29] false)
 (.ret))))))
def K6e : IFn := ⟨2, 30, [.cell 4 11 true], false, Q264⟩
def Q266 : IR :=
 .seq (.reg [o 4 (.box 5 1),
 o 6 (.mov (.c zB))] false)
 (.seq (.reg [oM 7 0,
 oM 8 0,
 oL 9 5 4,
 oM 10 2,
 oC 11 76 ([8, 9, 10]),
 oC 12 174 ([7, 11, .c (iN 1)]),
 o 13 (.field 1 1 false 12),
 o 14 (.bin .neq 13 (.c zI)),
 oM 6 14] false)
 (.ret))
def K6g : IFn := ⟨3, 15, [.tmp 6], false, Q266⟩
def Q25q : IR :=
 .seq (.reg [o 3 (.box 5 1),
 o 4 (.zero [zB, zI])] false)
 (.seq (.reg [oM 5 0,
 oL 6 5 3,
 oD 7 74 ([5, 6, sA44]) [0, 1],
 oM 8 0,
 oL 9 5 3,
 oD 10 71 ([8, 9, sA40]) (rg 0 5),
 ob 11 (.build [zB, zI] [(0, 1, 7), (1, 1, 10)]) (rg 0 6),
 ⟨none, none, .store 2 4 11, (rg 0 7)⟩] true)
 (.ret))
def K60 : IFn := ⟨2, 12, [.cell 4 2 true], false, Q25q⟩
def Q25s : IR :=
 .seq (.reg [o 4 (.box 5 1),
 o 6 (.zero zL1)] false)
 (.seq (.reg [oM 10 0,
 oL 11 5 4,
 oC 12 174 ([10, 11, .c (iN 5)]),
 oM 13 2,
 oC 14 184 ([12, 13]),
 oM 9 14,
 oX 15 9 0,
 oX 16 9 1,
 o 7 (.zero zL1),
 oS 5 7 15,
 oM 8 16] false)
 (.seq (.reg [oL 17 5 7,
 oS 5 6 17] false)
 (.ret)))
def K62 : IFn := ⟨3, 18, [.cell 6 5 true], false, Q25s⟩
def Q265 : IR :=
 .seq (.reg [o 3 (.box 5 1),
 o 4 (.zero zL13)] false)
 (.seq (.reg [oM 5 0,
 oL 6 5 3,
 oD 7 71 ([5, 6, sA42]) [0, 1],
 oM 8 0,
 oL 9 5 3,
 oD 10 71 ([8, 9, sA52]) (rg 0 5),
 oM 11 0,
 oL 12 5 3,
 oD 13 71 ([11, 12, sA82]) (rg 0 8),
 oM 14 0,
 oL 15 5 3,
 oD 16 71 ([14, 15, sA58]) (rg 0 11),
 oM 17 0,
 oL 18 5 3,
 oD 19 71 ([17, 18, Q1r1]) (rg 0 14),
 oM 20 0,
 oL 21 5 3,
 oD 22 71 ([20, 21, sA49]) (rg 0 17),
 oM 23 0,
 oL 24 5 3,
 oD 25 74 ([23, 24, sA12]) (rg 0 20),
 ob 26 (.build zL13 [(0, 1, 7), (1, 1, 10), (2, 1, 13), (3, 1, 16), (4, 1, 19), (5, 1, 22), (6, 1, 25)]) (rg 0 21),
 ⟨none, none, .store 7 4 26, (rg 0 22)⟩] true)
 (.ret))
def K6f : IFn := ⟨2, 27, [.cell 4 7 true], false, Q265⟩
def Q14e : List Nat := [100015, 2, 3, 4, 12, 13, 14]
def Q1vl : IR :=
 .seq (.reg [o 15 (.bin .lss 14 13)] false)
 (.seq (.cond 15 (.skip)
 (.exit 0))
 (.seq (.block 1 (.seq (.reg [oM 16 14,
 oI 17 6 12 14,
 oL 18 6 17,
 o 6 (.zero zL0),
 oM 5 16,
 oS 6 6 18] false)
 (.seq (.reg [oM 19 5,
 ob 20 (.bin .add 19 (.c (iN 1))) [0],
 oM 21 3,
 ob 22 (.len false 21) [2],
 ob 23 (.bin .eql 20 22) [0, 1, 2, 3],
 ob 24 (.mov 23) (rg 0 5),
 ⟨(some 25), (some (24, false)), .mov 3, (rg 0 6)⟩,
 ⟨(some 26), (some (24, false)), .mov 5, (rg 0 6)⟩,
 ⟨(some 27), (some (24, false)), .bin .add 26 (.c (iN 1)), (rg 0 6 ++ [7])⟩,
 ⟨(some 28), (some (24, false)), .iaddr 6 25 27, (rg 0 9)⟩,
 ⟨(some 29), (some (24, false)), .faddr 0 28, (rg 0 10)⟩,
 ⟨(some 30), (some (24, false)), .load 1 false 29, (rg 0 11)⟩,
 ⟨(some 31), (some (24, false)), .faddr 0 6, (rg 0 6)⟩,
 ⟨(some 32), (some (24, false)), .load 1 false 31, (rg 0 6 ++ [12])⟩,
 ⟨(some 33), (some (24, false)), .bin .neq 30 32, (rg 0 14)⟩,
 ob 34 (.pick 24 (.c (.bool true)) 33) (rg 0 15)] true)
 (.cond 34 (.reg [oF 35 4 4,
 oK 36 1 35,
 oL 37 6 6,
 o 38 (.lit 6 1 zL0 [(0, 37)]),
 oJ 39 6 96 36 38,
 oF 40 4 4,
 oS 1 40 39] false)
 (.skip)))))
 (.reg [oA 41 14,
 oM 14 41] false)))
def Q25a : IR :=
 .seq (.reg [o 2 (.zero zL1)] false)
 (.seq (.reg [oM 7 0,
 oC 8 185 ([7]),
 oM 3 8] false)
 (.seq (.reg [oM 9 3,
 o 10 (.call true (.f 186) [9, .f 187])] false)
 (.seq (.reg [o 11 (.build zL1 [(0, 1, .c (iN 5))]),
 o 4 (.zero zL1),
 oS 5 4 11] false)
 (.seq (.seq (.reg [oM 12 3,
 oN 13 12,
 o 14 (.mov (.c zI))] false)
 (.block 0 (.loop Q14e Q1vl)))
 (.seq (.reg [oL 42 5 4,
 oC 43 189 ([42]),
 oS 5 2 43] false)
 (.ret))))))
def K50 : IFn := ⟨1, 44, [.cell 2 5 true], false, Q25a⟩
def Q26g : IR :=
 .seq (.reg [o 4 (.zero zL0)] false)
 (.seq (.reg [oM 5 0,
 oM 6 1,
 oC 7 109 ([6]),
 oC 8 83 ([5, 7]),
 oS 6 4 8] false)
 (.ret))
def K75 : IFn := ⟨2, 9, [.cell 4 6 true], false, Q26g⟩
def Q26j : IR :=
 .seq (.reg [o 3 (.box 5 1),
 o 4 (.zero zL0)] false)
 (.seq (.reg [oM 5 0,
 oL 6 5 3,
 o 7 (.build zL0 [(0, 1, 5), (1, 5, 6)]),
 oS 6 4 7] false)
 (.ret))
def K78 : IFn := ⟨2, 8, [.cell 4 6 true], false, Q26j⟩
def Q26h : IR :=
 .seq (.reg [o 5 (.box 13 1),
 o 6 (.box 5 2),
 o 7 (.box 5 3),
 o 8 (.zero zL5)] false)
 (.seq (.reg [oL 9 13 5,
 oC 10 70 ([9]),
 oS 13 5 10] false)
 (.seq (.reg [oM 11 0,
 oF 12 0 5,
 oS 1 12 11] false)
 (.seq (.reg [oL 13 13 5,
 oL 14 5 6,
 oL 15 5 7,
 o 16 (.build zL5 [(0, 13, 13), (13, 5, 14), (18, 5, 15)]),
 oS 23 8 16] false)
 (.ret))))
def K76 : IFn := ⟨4, 17, [.cell 8 23 true], false, Q26h⟩
def Qlz : List Nat := [100016, 3, 9, 18, 19, 20]
def Q1ok : IR :=
 .seq (.reg [o 21 (.bin .lss 20 19)] false)
 (.seq (.cond 21 (.skip)
 (.exit 0))
 (.seq (.block 1 (.seq (.reg [oI 22 5 18 20,
 oL 23 5 22,
 o 11 (.zero zL1),
 oS 5 11 23] false)
 (.reg [oM 24 9,
 oM 25 3,
 oL 26 5 11,
 o 27 (.call false 25 [26]),
 o 28 (.lit 2 1 [zS, zI] [(0, 27)]),
 oJ 29 2 24 24 28,
 oM 9 29] false)))
 (.reg [oA 30 20,
 oM 20 30] false)))
def Q267 : IR :=
 .seq (.reg [o 5 (.box 5 1),
 o 8 (.mov (.c (.ns 2)))] false)
 (.seq (.reg [o 9 (.mov (.c (.ns 2)))] false)
 (.seq (.seq (.reg [oM 12 0,
 oM 13 0,
 oL 14 5 5,
 oM 15 2,
 oC 16 76 ([13, 14, 15]),
 oC 17 174 ([12, 16, .c (iN 4)]),
 o 18 (.field 3 1 false 17),
 oN 19 18,
 o 20 (.mov (.c zI))] false)
 (.block 0 (.loop Qlz Q1ok)))
 (.seq (.reg [oM 31 9,
 oM 8 31] false)
 (.ret))))
def K6h : IFn := ⟨4, 32, [.tmp 8], false, Q267⟩
def Q25f : IR :=
 .seq (.reg [o 2 (.box 5 0),
 o 3 (.zero [zS, zI])] false)
 (.seq (.reg [oK 4 1 1,
 oL 5 5 2,
 oD 6 89 ([4, 5, sA39]) [0, 1],
 oK 7 1 1,
 oL 8 5 2,
 oD 9 71 ([7, 8, sA79]) (rg 0 5),
 ob 10 (.build [zS, zI] [(0, 1, 6), (1, 1, 9)]) (rg 0 6),
 ⟨none, none, .store 2 3 10, (rg 0 7)⟩] true)
 (.ret))
def K5h : IFn := ⟨2, 11, [.cell 3 2 true], false, Q25f⟩
def Q263 : IR :=
 .seq (.reg [o 4 (.box 5 1),
 o 6 (.mov (.c (zS)))] false)
 (.seq (.reg [oM 7 0,
 oM 8 0,
 oL 9 5 4,
 oM 10 2,
 oC 11 76 ([8, 9, 10]),
 oC 12 174 ([7, 11, .c (iN 3)]),
 o 13 (.field 2 1 false 12),
 oM 6 13] false)
 (.ret))
def K6d : IFn := ⟨3, 14, [.tmp 6], false, Q263⟩
def Qm5 : List Nat := [100017, 3, 9, 18, 19, 20]
def Q1oq : IR :=
 .seq (.reg [o 21 (.bin .lss 20 19)] false)
 (.seq (.cond 21 (.skip)
 (.exit 0))
 (.seq (.block 1 (.seq (.reg [oI 22 5 18 20,
 oL 23 5 22,
 o 11 (.zero zL1),
 oS 5 11 23] false)
 (.reg [oM 24 9,
 oM 25 3,
 oL 26 5 11,
 o 27 (.call false 25 [26]),
 o 28 (.lit 2 1 [zI, zI] [(0, 27)]),
 oJ 29 2 16 24 28,
 oM 9 29] false)))
 (.reg [oA 30 20,
 oM 20 30] false)))
def Q26e : IR :=
 .seq (.reg [o 5 (.box 5 1),
 o 8 (.mov (.c (.ns 2)))] false)
 (.seq (.reg [o 9 (.mov (.c (.ns 2)))] false)
 (.seq (.seq (.reg [oM 12 0,
 oM 13 0,
 oL 14 5 5,
 oM 15 2,
 oC 16 76 ([13, 14, 15]),
 oC 17 174 ([12, 16, .c (iN 4)]),
 o 18 (.field 3 1 false 17),
 oN 19 18,
 o 20 (.mov (.c zI))] false)
 (.block 0 (.loop Qm5 Q1oq)))
 (.seq (.reg [oM 31 9,
 oM 8 31] false)
 (.ret))))
def K6r : IFn := ⟨4, 32, [.tmp 8], false, Q26e⟩
def Q25g : IR :=
 .seq (.reg [o 2 (.box 5 0),
 o 3 (.zero [zI, zI])] false)
 (.seq (.reg [oK 4 1 1,
 oL 5 5 2,
 oD 6 71 ([4, 5, sA99]) [0, 1],
 oK 7 1 1,
 oL 8 5 2,
 oD 9 71 ([7, 8, sA52]) (rg 0 5),
 ob 10 (.build [zI, zI] [(0, 1, 6), (1, 1, 9)]) (rg 0 6),
 ⟨none, none, .store 2 3 10, (rg 0 7)⟩] true)
 (.ret))
def K5i : IFn := ⟨2, 11, [.cell 3 2 true], false, Q25g⟩
def Q26q : IR :=
 .seq (.reg [o 3 (.box 28 1),
 o 4 (.zero zL6),
 o 5 (.mov (.c zI))] false)
 (.seq (.seq (.reg [oM 7 0,
 o 8 (.nilck 7),
 oF 9 0 8,
 oK 10 1 9,
 o 11 (.bin .gtr 10 (.c zI))] false)
 (.cond 11 (.seq (.reg [o 6 (.zero zL6)] false)
 (.seq (.reg [oL 12 28 6,
 oS 28 4 12,
 o 5 (.mov (.c (iN 6)))] false)
 (.ret)))
 (.skip)))
 (.seq (.reg [oL 13 28 3,
 oS 28 4 13,
 o 5 (.mov (.c zI))] false)
 (.ret)))
def K7k : IFn := ⟨2, 14, [.cell 4 28 true, .tmp 5], false, Q26q⟩
def Q22p : IR :=
 .seq (.reg [o 2 (.box 5 0),
 o 3 (.box 5 1),
 o 4 (.mov (.c zB))] false)
 (.seq (.reg [oL 5 5 2,
 oL 6 5 3,
 oC 7 194 ([5, 6]),
 o 8 (.bin .eql 7 (.c zI)),
 oM 4 8] false)
 (.ret))
def K1n : IFn := ⟨2, 9, [.tmp 4], false, Q22p⟩
def Q23e : IR :=
 .seq (.reg [o 1 (.box 37 0),
 o 2 (.zero zL1)] false)
 (.seq (.reg [oF 3 13 1,
 oE 4 1 3 [0],
 oD 5 164 ([4]) [0, 1],
 ob 6 (.build zL0 [(0, 1, Q1r3), (1, 5, 5)]) [0, 1, 2],
 oF 7 14 1,
 oE 8 1 7 [4],
 oD 9 164 ([8]) [0, 1, 2, 4, 5],
 ob 10 (.build zL0 [(0, 1, sA50), (1, 5, 9)]) [0, 1, 2, 4, 5, 6],
 oF 11 15 1,
 oE 12 1 11 [8],
 oD 13 164 ([12]) [0, 1, 2, 4, 5, 6, 8, 9],
 ob 14 (.build zL0 [(0, 1, sA57), (1, 5, 13)]) [0, 1, 2, 4, 5, 6, 8, 9, 10],
 oF 15 16 1,
 oE 16 1 15 [12],
 oD 17 164 ([16]) [0, 1, 2, 4, 5, 6, 8, 9, 10, 12, 13],
 ob 18 (.build zL0 [(0, 1, sA2), (1, 5, 17)]) [0, 1, 2, 4, 5, 6, 8, 9, 10, 12, 13, 14],
 oF 19 17 1,
 oE 20 1 19 [16],
 oD 21 167 ([20]) [0, 1, 2, 4, 5, 6, 8, 9, 10, 12, 13, 14, 16, 17],
 ob 22 (.build zL0 [(0, 1, sA20), (1, 5, 21)]) [0, 1, 2, 4, 5, 6, 8, 9, 10, 12, 13, 14, 16, 17, 18],
 oF 23 18 1,
 oE 24 1 23 [20],
 oD 25 167 ([24]) [0, 1, 2, 4, 5, 6, 8, 9, 10, 12, 13, 14, 16, 17, 18, 20, 21],
 ob 26 (.build zL0 [(0, 1, sA69), (1, 5, 25)]) [0, 1, 2, 4, 5, 6, 8, 9, 10, 12, 13, 14, 16, 17, 18, 20, 21, 22],
 oF 27 19 1,
 ob 28 (.load 11 true 27) [24],
 oD 29 166 ([28]) [0, 1, 2, 4, 5, 6, 8, 9, 10, 12, 13, 14, 16, 17, 18, 20, 21, 22, 24, 25],
 ob 30 (.build zL0 [(0, 1, sA74), (1, 5, 29)]) [0, 1, 2, 4, 5, 6, 8, 9, 10, 12, 13, 14, 16, 17, 18, 20, 21, 22, 24, 25, 26],
 ob 31 (.lit 6 7 zL0 [(0, 6), (1, 10), (2, 14), (3, 18), (4, 22), (5, 26), (6, 30)]) (rg 0 28),
 oD 32 163 ([31]) (rg 0 29),
 ⟨none, none, .store 5 2 32, (rg 0 30)⟩] true)
 (.ret))
def K2e : IFn := ⟨1, 33, [.cell 2 5 true], false, Q23e⟩
def Q23f : IR :=
 .seq (.reg [o 1 (.box 37 0),
 o 2 (.zero zL1)] false)
 (.seq (.reg [oF 3 30 1,
 oE 4 1 3 [0],
 oD 5 164 ([4]) [0, 1],
 ob 6 (.build zL0 [(0, 1, Q1r2), (1, 5, 5)]) [0, 1, 2],
 oF 7 31 1,
 oE 8 1 7 [4],
 oD 9 164 ([8]) [0, 1, 2, 4, 5],
 ob 10 (.build zL0 [(0, 1, sA70), (1, 5, 9)]) [0, 1, 2, 4, 5, 6],
 oF 11 32 1,
 oE 12 1 11 [8],
 oD 13 164 ([12]) [0, 1, 2, 4, 5, 6, 8, 9],
 ob 14 (.build zL0 [(0, 1, sA12), (1, 5, 13)]) [0, 1, 2, 4, 5, 6, 8, 9, 10],
 oF 15 33 1,
 oE 16 1 15 [12],
 oD 17 164 ([16]) [0, 1, 2, 4, 5, 6, 8, 9, 10, 12, 13],
 ob 18 (.build zL0 [(0, 1, sA65), (1, 5, 17)]) [0, 1, 2, 4, 5, 6, 8, 9, 10, 12, 13, 14],
 oF 19 34 1,
 oE 20 1 19 [16],
 oD 21 164 ([20]) [0, 1, 2, 4, 5, 6, 8, 9, 10, 12, 13, 14, 16, 17],
 ob 22 (.build zL0 [(0, 1, sA11), (1, 5, 21)]) [0, 1, 2, 4, 5, 6, 8, 9, 10, 12, 13, 14, 16, 17, 18],
 oF 23 35 1,
 oE 24 1 23 [20],
 oD 25 195 ([24]) [0, 1, 2, 4, 5, 6, 8, 9, 10, 12, 13, 14, 16, 17, 18, 20, 21],
 ob 26 (.build zL0 [(0, 1, sA5), (1, 5, 25)]) [0, 1, 2, 4, 5, 6, 8, 9, 10, 12, 13, 14, 16, 17, 18, 20, 21, 22],
 oF 27 36 1,
 oE 28 1 27 [24],
 oD 29 164 ([28]) [0, 1, 2, 4, 5, 6, 8, 9, 10, 12, 13, 14, 16, 17, 18, 20, 21, 22, 24, 25],
 ob 30 (.build zL0 [(0, 1, sA56), (1, 5, 29)]) [0, 1, 2, 4, 5, 6, 8, 9, 10, 12, 13, 14, 16, 17, 18, 20, 21, 22, 24, 25, 26],
 ob 31 (.lit 6 7 zL0 [(0, 6), (1, 10), (2, 14), (3, 18), (4, 22), (5, 26), (6, 30)]) (rg 0 28),
 oD 32 163 ([31]) (rg 0 29),
 ⟨none, none, .store 5 2 32, (rg 0 30)⟩] true)
 (.ret))
def K2f : IFn := ⟨1, 33, [.cell 2 5 true], false, Q23f⟩
def Q237 : IR :=
 .seq (.reg [o 1 (.box 22 0),
 o 2 (.zero zL1)] false)
 (.seq (.reg [oF 3 13 1,
 oE 4 1 3 [0],
 oD 5 165 ([4]) [0, 1],
 ob 6 (.build zL0 [(0, 1, sA60), (1, 5, 5)]) [0, 1, 2],
 oF 7 14 1,
 oE 8 1 7 [4],
 oD 9 196 ([8]) [0, 1, 2, 4, 5],
 ob 10 (.build zL0 [(0, 1, sA30), (1, 5, 9)]) [0, 1, 2, 4, 5, 6],
 oF 11 15 1,
 oE 12 1 11 [8],
 oD 13 196 ([12]) [0, 1, 2, 4, 5, 6, 8, 9],
 ob 14 (.build zL0 [(0, 1, sA34), (1, 5, 13)]) [0, 1, 2, 4, 5, 6, 8, 9, 10],
 ob 15 (.lit 6 3 zL0 [(0, 6), (1, 10), (2, 14)]) (rg 0 12),
 oD 16 163 ([15]) (rg 0 13),
 ⟨none, none, .store 5 2 16, (rg 0 14)⟩] true)
 (.ret))
def K25 : IFn := ⟨1, 17, [.cell 2 5 true], false, Q237⟩
def Ql2 : List Nat := [100020, 1, 2, 3, 4]
def Q1nn : IR :=
 .seq (.seq (.reg [oM 5 4,
 oF 6 21 1,
 oK 7 1 6,
 oN 8 7,
 o 9 (.bin .lss 5 8)] false)
 (.cond 9 (.skip)
 (.exit 0)))
 (.seq (.block 1 (.reg [oM 12 3,
 oF 13 21 1,
 oE 14 1 13 [1],
 oM 15 4,
 ob 16 (.iaddr 2 14 15) [1, 2, 3],
 ob 17 (.faddr 0 16) [1, 2, 3, 4],
 oE 18 1 17 (rg 1 6),
 oD 19 169 ([18]) (rg 1 7),
 ob 20 (.build zL0 [(0, 1, sA23), (1, 5, 19)]) (rg 1 8),
 oF 21 21 1,
 oE 22 1 21 [9],
 oM 23 4,
 ob 24 (.iaddr 2 22 23) [9, 10, 11],
 ob 25 (.faddr 1 24) [9, 10, 11, 12],
 oE 26 1 25 (rg 9 14),
 oD 27 164 ([26]) (rg 1 8 ++ rg 9 15),
 ob 28 (.build zL0 [(0, 1, sA99), (1, 5, 27)]) (rg 1 8 ++ rg 9 16),
 ob 29 (.lit 6 2 zL0 [(0, 20), (1, 28)]) (rg 1 17),
 oD 30 163 ([29]) (rg 1 18),
 ob 31 (.lit 5 1 zL1 [(0, 30)]) (rg 1 19),
 ob 32 (.append 5 80 12 31) (rg 0 20),
 ob 3 (.mov 32) (rg 0 21)] true))
 (.reg [oM 10 4,
 oA 11 10,
 oM 4 11] false))
def Q238 : IR :=
 .seq (.reg [o 1 (.box 22 0),
 o 2 (.zero zL1)] false)
 (.seq (.reg [o 3 (.mov (.c (.ns 5)))] false)
 (.seq (.seq (.reg [o 4 (.mov (.c zI))] false)
 (.block 0 (.loop Ql2 Q1nn)))
 (.seq (.reg [oF 33 16 1,
 oE 34 1 33 [0],
 oD 35 164 ([34]) [0, 1],
 ob 36 (.build zL0 [(0, 1, sA42), (1, 5, 35)]) [0, 1, 2],
 oF 37 17 1,
 oE 38 1 37 [4],
 oD 39 164 ([38]) [0, 1, 2, 4, 5],
 ob 40 (.build zL0 [(0, 1, sA15), (1, 5, 39)]) [0, 1, 2, 4, 5, 6],
 oF 41 18 1,
 oE 42 1 41 [8],
 oD 43 164 ([42]) [0, 1, 2, 4, 5, 6, 8, 9],
 ob 44 (.build zL0 [(0, 1, sA1), (1, 5, 43)]) [0, 1, 2, 4, 5, 6, 8, 9, 10],
 oF 45 19 1,
 oE 46 1 45 [12],
 oD 47 164 ([46]) [0, 1, 2, 4, 5, 6, 8, 9, 10, 12, 13],
 ob 48 (.build zL0 [(0, 1, sA10), (1, 5, 47)]) [0, 1, 2, 4, 5, 6, 8, 9, 10, 12, 13, 14],
 oF 49 20 1,
 oE 50 1 49 [16],
 oD 51 164 ([50]) [0, 1, 2, 4, 5, 6, 8, 9, 10, 12, 13, 14, 16, 17],
 ob 52 (.build zL0 [(0, 1, sA97), (1, 5, 51)]) [0, 1, 2, 4, 5, 6, 8, 9, 10, 12, 13, 14, 16, 17, 18],
 oM 53 3,
 ob 54 (.build zL1 [(0, 1, .c (iN 4)), (3, 1, 53)]) [20],
 ob 55 (.build zL0 [(0, 1, sA4), (1, 5, 54)]) [20, 21],
 ob 56 (.lit 6 6 zL0 [(0, 36), (1, 40), (2, 44), (3, 48), (4, 52), (5, 55)]) (rg 0 23),
 oD 57 163 ([56]) (rg 0 24),
 ⟨none, none, .store 5 2 57, (rg 0 25)⟩] true)
 (.ret))))
def K26 : IFn := ⟨1, 58, [.cell 2 5 true], false, Q238⟩
def Q25v : IR :=
 .seq (.reg [o 3 (.box 5 1),
 o 4 (.zero zL3)] false)
 (.seq (.reg [oM 5 0,
 oL 6 5 3,
 oD 7 71 ([5, 6, Q1r3]) [0, 1],
 oM 8 0,
 oL 9 5 3,
 oD 10 71 ([8, 9, sA50]) (rg 0 5),
 oM 11 0,
 oL 12 5 3,
 oD 13 71 ([11, 12, sA57]) (rg 0 8),
 oM 14 0,
 oL 15 5 3,
 oD 16 71 ([14, 15, sA2]) (rg 0 11),
 oM 17 0,
 oL 18 5 3,
 oD 19 74 ([17, 18, sA20]) (rg 0 14),
 oM 20 0,
 oL 21 5 3,
 oD 22 74 ([20, 21, sA69]) (rg 0 17),
 oM 23 0,
 oL 24 5 3,
 oD 25 73 ([23, 24]) (rg 0 20),
 ob 26 (.build zL3 [(13, 1, 7), (14, 1, 10), (15, 1, 13), (16, 1, 16), (17, 1, 19), (18, 1, 22), (19, 11, 25)]) (rg 0 21),
 ⟨none, none, .store 37 4 26, (rg 0 22)⟩] true)
 (.ret))
def K65 : IFn := ⟨2, 27, [.cell 4 37 true], false, Q25v⟩
def Q25t : IR :=
 .seq (.reg [o 3 (.box 1 0),
 o 4 (.box 5 1),
 o 6 (.mov (.c (.ns 1)))] false)
 (.seq (.reg [oK 7 1 3,
 oL 8 5 4,
 oM 9 2,
 o 10 (.mkfn 198 [] [3]),
 oC 11 197 ([7, 8, 9, 10]),
 oM 6 11] false)
 (.ret))
def K63 : IFn := ⟨3, 12, [.tmp 6], false, Q25t⟩
def Q26l : IR :=
 .seq (.reg [o 3 (.box 37 1),
 o 4 (.zero zL3),
 o 5 (.mov (.c zI))] false)
 (.seq (.seq (.reg [oM 7 0,
 o 8 (.nilck 7),
 oF 9 0 8,
 oK 10 1 9,
 o 11 (.bin .gtr 10 (.c zI))] false)
 (.cond 11 (.seq (.reg [o 6 (.zero zL3)] false)
 (.seq (.reg [oL 12 37 6,
 oS 37 4 12,
 o 5 (.mov (.c (iN 6)))] false)
 (.ret)))
 (.skip)))
 (.seq (.reg [oL 13 37 3,
 oS 37 4 13,
 o 5 (.mov (.c zI))] false)
 (.ret)))
def K7b : IFn := ⟨2, 14, [.cell 4 37 true, .tmp 5], false, Q26l⟩
def Q259 : IR :=
 .seq (.reg [o 2 (.zero zL1)] false)
 (.seq (.reg [oM 3 0,
 o 4 (.build zL1 [(0, 1, .c (iN 2)), (1, 1, 3)]),
 oS 5 2 4] false)
 (.ret))
def K4y : IFn := ⟨1, 5, [.cell 2 5 true], false, Q259⟩
def Qm0 : List Nat := [100022, 3, 9, 18, 19, 20]
def Q1ol : IR :=
 .seq (.reg [o 21 (.bin .lss 20 19)] false)
 (.seq (.cond 21 (.skip)
 (.exit 0))
 (.seq (.block 1 (.seq (.reg [oI 22 5 18 20,
 oL 23 5 22,
 o 11 (.zero zL1),
 oS 5 11 23] false)
 (.reg [oM 24 9,
 oM 25 3,
 oL 26 5 11,
 o 27 (.call false 25 [26]),
 o 28 (.lit 2 1 [zS, zI] [(0, 27)]),
 oJ 29 2 24 24 28,
 oM 9 29] false)))
 (.reg [oA 30 20,
 oM 20 30] false)))
def Q268 : IR :=
 .seq (.reg [o 5 (.box 5 1),
 o 8 (.mov (.c (.ns 2)))] false)
 (.seq (.reg [o 9 (.mov (.c (.ns 2)))] false)
 (.seq (.seq (.reg [oM 12 0,
 oM 13 0,
 oL 14 5 5,
 oM 15 2,
 oC 16 76 ([13, 14, 15]),
 oC 17 174 ([12, 16, .c (iN 4)]),
 o 18 (.field 3 1 false 17),
 oN 19 18,
 o 20 (.mov (.c zI))] false)
 (.block 0 (.loop Qm0 Q1ol)))
 (.seq (.reg [oM 31 9,
 oM 8 31] false)
 (.ret))))
def K6i : IFn := ⟨4, 32, [.tmp 8], false, Q268⟩
def Q25i : IR :=
 .seq (.reg [o 2 (.box 5 0),
 o 3 (.zero [zS, zI])] false)
 (.seq (.reg [oK 4 1 1,
 oL 5 5 2,
 oD 6 89 ([4, 5, sA23]) [0, 1],
 oK 7 1 1,
 oL 8 5 2,
 oD 9 71 ([7, 8, sA99]) (rg 0 5),
 ob 10 (.build [zS, zI] [(0, 1, 6), (1, 1, 9)]) (rg 0 6),
 ⟨none, none, .store 2 3 10, (rg 0 7)⟩] true)
 (.ret))
def K5k : IFn := ⟨2, 11, [.cell 3 2 true], false, Q25i⟩
def Q25j : IR :=
 .seq (.reg [o 2 (.box 5 0),
 o 3 (.zero [zB, zI])] false)
 (.seq (.reg [oK 4 1 1,
 oL 5 5 2,
 oC 6 75 ([4, 5]),
 oS 2 3 6] false)
 (.ret))
def K5l : IFn := ⟨2, 7, [.cell 3 2 true], false, Q25j⟩
def Q26m : IR :=
 .seq (.reg [o 3 (.box 22 1),
 o 4 (.zero zL7),
 o 5 (.mov (.c zI))] false)
 (.seq (.seq (.reg [oM 7 0,
 o 8 (.nilck 7),
 oF 9 0 8,
 oK 10 1 9,
 o 11 (.bin .gtr 10 (.c zI))] false)
 (.cond 11 (.seq (.reg [o 6 (.zero zL7)] false)
 (.seq (.reg [oL 12 22 6,
 oS 22 4 12,
 o 5 (.mov (.c (iN 6)))] false)
 (.ret)))
 (.skip)))
 (.seq (.reg [oL 13 22 3,
 oS 22 4 13,
 o 5 (.mov (.c zI))] false)
 (.ret)))
def K7c : IFn := ⟨2, 14, [.cell 4 22 true, .tmp 5], false, Q26m⟩
def Qm1 : List Nat := [100023, 3, 9, 18, 19, 20]
def Q1om : IR :=
 .seq (.reg [o 21 (.bin .lss 20 19)] false)
 (.seq (.cond 21 (.skip)
 (.exit 0))
 (.seq (.block 1 (.seq (.reg [oI 22 5 18 20,
 oL 23 5 22,
 o 11 (.zero zL1),
 oS 5 11 23] false)
 (.reg [oM 24 9,
 oM 25 3,
 oL 26 5 11,
 o 27 (.call false 25 [26]),
 o 28 (.lit 2 1 [zB, zI] [(0, 27)]),
 oJ 29 2 16 24 28,
 oM 9 29] false)))
 (.reg [oA 30 20,
 oM 20 30] false)))
def Q269 : IR :=
 .seq (.reg [o 5 (.box 5 1),
 o 8 (.mov (.c (.ns 2)))] false)
 (.seq (.reg [o 9 (.mov (.c (.ns 2)))] false)
 (.seq (.seq (.reg [oM 12 0,
 oM 13 0,
 oL 14 5 5,
 oM 15 2,
 oC 16 76 ([13, 14, 15]),
 oC 17 174 ([12, 16, .c (iN 4)]),
 o 18 (.field 3 1 false 17),
 oN 19 18,
 o 20 (.mov (.c zI))] false)
 (.block 0 (.loop Qm1 Q1om)))
 (.seq (.reg [oM 31 9,
 oM 8 31] false)
 (.ret))))
def K6j : IFn := ⟨4, 32, [.tmp 8], false, Q269⟩
def Q22z : IR :=
 .seq (.reg [o 1 (.box 13 0),
 o 2 (.mov (.c (zS)))] false)
 (.seq (.reg [oF 3 0 1,
 oK 4 1 3,
 oF 5 1 1,
 oK 6 1 5,
 oF 7 2 1,
 oK 8 1 7,
 oC 9 199 ([4, 6, 8]),
 oM 2 9] false)
 (.ret))
def K1x : IFn := ⟨1, 10, [.tmp 2], false, Q22z⟩
def Qky : List Nat := [100026, 0, 1, 5]
def Q1nj : IR :=
 .seq (.seq (.reg [oM 11 5,
 oM 12 0,
 oN 13 12,
 o 14 (.bin .lss 11 13)] false)
 (.cond 14 (.skip)
 (.exit 0)))
 (.seq (.block 1 (.seq (.reg [oM 17 0,
 oM 18 5,
 ob 19 (.iaddr 1 17 18) [0, 1],
 oE 20 1 19 [0, 1, 2],
 oM 21 1,
 oM 22 5,
 ob 23 (.iaddr 1 21 22) [4, 5],
 oE 24 1 23 [4, 5, 6],
 ob 25 (.bin .neq 20 24) (rg 0 8)] true)
 (.cond 25 (.seq (.reg [o 4 (.mov (.c zB))] false)
 (.ret))
 (.skip))))
 (.reg [oM 15 5,
 oA 16 15,
 oM 5 16] false))
def Q231 : IR :=
 .seq (.reg [o 4 (.mov (.c zB))] false)
 (.seq (.seq (.reg [oM 6 0,
 oN 7 6,
 oM 8 1,
 oN 9 8,
 o 10 (.bin .neq 7 9)] false)
 (.cond 10 (.seq (.reg [o 4 (.mov (.c zB))] false)
 (.ret))
 (.skip)))
 (.seq (.seq (.reg [o 5 (.mov (.c zI))] false)
 (.block 0 (.loop Qky Q1nj)))
 (.seq (.reg [o 4 (.mov (.c (.bool true)))] false)
 (.ret))))
def K1z : IFn := ⟨2, 26, [.tmp 4], false, Q231⟩
def Q24p : IR :=
 .seq (.reg [o 2 (.box 23 0),
 o 4 (.mov (.c (.np))),
 o 5 (.mov (.c (.np)))] false)
 (.seq (.reg [oF 8 13 2,
 ob 9 (.load 5 true 8) [0],
 oD 10 141 ([9]) [0, 1],
 oF 11 18 2,
 ob 12 (.load 5 true 11) [3],
 oD 13 141 ([12]) (rg 0 5),
 ob 6 (.mov 10) (rg 0 6),
 ob 7 (.mov 13) (rg 0 7)] true)
 (.seq (.reg [oM 14 6,
 oF 15 0 2,
 oF 16 0 15,
 oK 17 1 16,
 oM 18 1,
 o 19 (.bin .eql 17 18),
 oC 20 143 ([14, 19])] false)
 (.seq (.reg [oM 21 6,
 oM 22 7,
 oM 4 21,
 oM 5 22] false)
 (.ret))))
def K4a : IFn := ⟨2, 23, [.tmp 4, .tmp 5], false, Q24p⟩
def Q24y : IR :=
 .seq (.reg [o 4 (.mov (.c zI))] false)
 (.seq (.reg [oM 8 0,
 o 9 (.nilck 8),
 oF 10 0 9,
 oL 11 5 10,
 oM 12 1,
 oC 13 200 ([11, 12]),
 oM 7 13,
 oX 14 7 0,
 oX 15 7 1,
 oM 5 14,
 oM 6 15] false)
 (.seq (.reg [oM 16 0,
 oM 17 6,
 oC 18 143 ([16, 17])] false)
 (.seq (.reg [oM 19 5,
 oM 4 19] false)
 (.ret))))
def K4j : IFn := ⟨2, 20, [.tmp 4], false, Q24y⟩
def Q24z : IR :=
 .seq (.reg [o 2 (.mov (.c (.ns 3)))] false)
 (.seq (.reg [oM 6 0,
 o 7 (.nilck 6),
 oF 8 0 7,
 oL 9 5 8,
 oC 10 201 ([9, sA60]),
 oM 5 10,
 oX 11 5 0,
 oX 12 5 1,
 oM 3 11,
 oM 4 12] false)
 (.seq (.reg [oM 13 0,
 oM 14 4,
 oC 15 143 ([13, 14])] false)
 (.seq (.reg [oM 16 3,
 oM 2 16] false)
 (.ret))))
def K4m : IFn := ⟨1, 17, [.tmp 2], false, Q24z⟩
def Q252 : IR :=
 .seq (.reg [o 2 (.zero [.ns 2, zS, zI, zI, zI, .ns 11, .ns 3, .ns 3, .ns 5, .ns 4, .ns 5])] false)
 (.seq (.reg [oM 6 0,
 o 7 (.nilck 6),
 oF 8 0 7,
 oL 9 5 8,
 oC 10 203 ([9, sA74]),
 oC 11 202 ([10]),
 oM 5 11,
 oX 12 5 0,
 oX 13 5 1,
 o 3 (.zero [.ns 2, zS, zI, zI, zI, .ns 11, .ns 3, .ns 3, .ns 5, .ns 4, .ns 5]),
 oS 11 3 12,
 oM 4 13] false)
 (.seq (.reg [oM 14 0,
 oM 15 4,
 o 16 (.bin .eql 15 (.c zI)),
 oC 17 143 ([14, 16])] false)
 (.seq (.reg [oL 18 11 3,
 oS 11 2 18] false)
 (.ret))))
def K4p : IFn := ⟨1, 19, [.cell 2 11 true], false, Q252⟩
def Q253 : IR :=
 .seq (.reg [o 2 (.zero zL13)] false)
 (.seq (.reg [oM 3 0,
 oC 4 122 ([3, sA42]),
 oM 5 0,
 oC 6 122 ([5, sA52]),
 oM 7 0,
 oC 8 122 ([7, sA82]),
 oM 9 0,
 oC 10 122 ([9, sA58]),
 oM 11 0,
 oC 12 122 ([11, Q1r1]),
 oM 13 0,
 oC 14 122 ([13, sA49]),
 oM 15 0,
 oC 16 128 ([15, sA12]),
 o 17 (.build zL13 [(0, 1, 4), (1, 1, 6), (2, 1, 8), (3, 1, 10), (4, 1, 12), (5, 1, 14), (6, 1, 16)]),
 oS 7 2 17] false)
 (.ret))
def K4q : IFn := ⟨1, 18, [.cell 2 7 true], false, Q253⟩
def Q24n : IR :=
 .seq (.reg [o 4 (.mov (.c zB))] false)
 (.seq (.reg [oM 5 0,
 o 6 (.nilck 5),
 oF 7 5 6,
 oK 8 1 7,
 oM 9 8,
 gF 10 9 (.mov 1),
 gF 11 9 (.nilck 10),
 gF 12 9 (.faddr 5 11),
 gF 13 9 (.load 1 false 12),
 oQ 14 9 13,
 oM 4 14] false)
 (.ret))
def K48 : IFn := ⟨2, 15, [.tmp 4], false, Q24n⟩
def Q24u : IR :=
 .seq (.reg [o 4 (.mov (.c zB))] false)
 (.seq (.reg [oM 8 0,
 o 9 (.nilck 8),
 oF 10 0 9,
 oL 11 5 10,
 oM 12 1,
 oC 13 204 ([11, 12]),
 oM 7 13,
 oX 14 7 0,
 oX 15 7 1,
 oM 5 14,
 oM 6 15] false)
 (.seq (.reg [oM 16 0,
 oM 17 6,
 oC 18 143 ([16, 17])] false)
 (.seq (.reg [oM 19 5,
 oM 4 19] false)
 (.ret))))
def K4f : IFn := ⟨2, 20, [.tmp 4], false, Q24u⟩
def Q24r : IR :=
 .seq (.reg [o 4 (.zero [zB, zI])] false)
 (.seq (.reg [oM 6 1,
 oC 7 128 ([6, sA44]),
 oM 8 1,
 oC 9 122 ([8, sA40]),
 o 10 (.build [zB, zI] [(0, 1, 7), (1, 1, 9)]),
 o 5 (.zero [zB, zI]),
 oS 2 5 10] false)
 (.seq (.reg [oM 11 0,
 oM 12 1,
 o 13 (.nilck 12),
 oF 14 5 13,
 oK 15 1 14,
 oU 16 15,
 oC 17 143 ([11, 16])] false)
 (.seq (.reg [oL 18 2 5,
 oS 2 4 18] false)
 (.ret))))
def K4c : IFn := ⟨2, 19, [.cell 4 2 true], false, Q24r⟩
def Q251 : IR :=
 .seq (.reg [o 4 (.mov (.c (.np)))] false)
 (.seq (.reg [oM 5 0,
 o 6 (.nilck 5),
 oF 7 0 6,
 oL 8 5 7,
 oM 9 1,
 oC 10 203 ([8, 9]),
 oC 11 141 ([10]),
 oM 4 11] false)
 (.ret))
def K4o : IFn := ⟨2, 12, [.tmp 4], false, Q251⟩
def Q26n : IR :=
 .seq (.reg [o 3 (.box 17 1),
 o 4 (.zero zL9),
 o 5 (.mov (.c zI))] false)
 (.seq (.seq (.reg [oM 7 0,
 o 8 (.nilck 7),
 oF 9 0 8,
 oK 10 1 9,
 o 11 (.bin .gtr 10 (.c zI))] false)
 (.cond 11 (.seq (.reg [o 6 (.zero zL9)] false)
 (.seq (.reg [oL 12 17 6,
 oS 17 4 12,
 o 5 (.mov (.c (iN 6)))] false)
 (.ret)))
 (.skip)))
 (.seq (.reg [oL 13 17 3,
 oS 17 4 13,
 o 5 (.mov (.c zI))] false)
 (.ret)))
def K7f : IFn := ⟨2, 14, [.cell 4 17 true, .tmp 5], false, Q26n⟩
def Q25x : IR :=
 .seq (.reg [o 2 (.box 1 0),
 o 3 (.box 5 1),
 o 4 (.mov (.c (.ns 3)))] false)
 (.seq (.reg [oK 5 1 2,
 oL 6 5 3,
 o 7 (.mkfn 206 [] [2]),
 oC 8 205 ([5, 6, .c (.str ⟨#[112, 111, 114, 116, 115]⟩), 7]),
 oM 4 8] false)
 (.ret))
def K67 : IFn := ⟨2, 9, [.tmp 4], false, Q25x⟩
def Q24x : IR :=
 .seq (.reg [o 4 (.mov (.c (.ns 5)))] false)
 (.seq (.reg [oM 8 0,
 o 9 (.nilck 8),
 oF 10 0 9,
 oL 11 5 10,
 oM 12 1,
 oC 13 207 ([11, 12]),
 oM 7 13,
 oX 14 7 0,
 oX 15 7 1,
 oM 5 14,
 oM 6 15] false)
 (.seq (.reg [oM 16 0,
 oM 17 6,
 oC 18 143 ([16, 17])] false)
 (.seq (.reg [oM 19 5,
 oM 4 19] false)
 (.ret))))
def K4i : IFn := ⟨2, 20, [.tmp 4], false, Q24x⟩
def Q24q : IR :=
 .seq (.reg [o 1 (.box 5 0),
 o 2 (.mov (.c (.np)))] false)
 (.seq (.reg [oL 3 5 1,
 oL 4 5 1,
 oD 5 208 ([4]) [1],
 ob 6 (.un .not 5) [1, 2],
 ob 7 (.build [zI, zI, zS, .ns 5, .ns 6, zB] [(0, 5, 3), (5, 1, 6)]) [0, 1, 2, 3],
 ob 8 (.box 6 7) (rg 0 5),
 ob 2 (.mov 8) (rg 0 6)] true)
 (.ret))
def K4b : IFn := ⟨1, 9, [.tmp 2], false, Q24q⟩
def Q250 : IR :=
 .seq (.reg [o 4 (.mov (.c (zS)))] false)
 (.seq (.reg [oM 8 0,
 o 9 (.nilck 8),
 oF 10 0 9,
 oL 11 5 10,
 oM 12 1,
 oC 13 209 ([11, 12]),
 oM 7 13,
 oX 14 7 0,
 oX 15 7 1,
 oM 5 14,
 oM 6 15] false)
 (.seq (.reg [oM 16 0,
 oM 17 6,
 oC 18 143 ([16, 17])] false)
 (.seq (.reg [oM 19 5,
 oM 4 19] false)
 (.ret))))
def K4n : IFn := ⟨2, 20, [.tmp 4], false, Q250⟩
def Q24t : IR :=
 .seq (.reg [oM 4 1,
 oU 5 4] false)
 (.cond 5 (.reg [oM 6 0,
 o 7 (.nilck 6),
 oF 8 5 7,
 ⟨none, none, .store 1 8 (.c (.bool true)), []⟩] false)
 (.skip))
def K4e : IFn := ⟨2, 9, [], false, Q24t⟩
def Q26o : IR :=
 .seq (.reg [o 3 (.box 21 1),
 o 4 (.zero zL8),
 o 5 (.mov (.c zI))] false)
 (.seq (.seq (.reg [oM 7 0,
 o 8 (.nilck 7),
 oF 9 0 8,
 oK 10 1 9,
 o 11 (.bin .gtr 10 (.c zI))] false)
 (.cond 11 (.seq (.reg [o 6 (.zero zL8)] false)
 (.seq (.reg [oL 12 21 6,
 oS 21 4 12,
 o 5 (.mov (.c (iN 6)))] false)
 (.ret)))
 (.skip)))
 (.seq (.reg [oL 13 21 3,
 oS 21 4 13,
 o 5 (.mov (.c zI))] false)
 (.ret)))
def K7i : IFn := ⟨2, 14, [.cell 4 21 true, .tmp 5], false, Q26o⟩
def Q25z : IR :=
 .seq (.reg [o 3 (.box 5 1),
 o 4 (.zero [zI, zI, zI])] false)
 (.seq (.reg [oM 5 0,
 oL 6 5 3,
 oD 7 71 ([5, 6, Q1cm]) [0, 1],
 oM 8 0,
 oL 9 5 3,
 oD 10 71 ([8, 9, sA28]) (rg 0 5),
 oM 11 0,
 oL 12 5 3,
 oD 13 71 ([11, 12, sA3]) (rg 0 8),
 ob 14 (.build [zI, zI, zI] [(0, 1, 7), (1, 1, 10), (2, 1, 13)]) (rg 0 9),
 ⟨none, none, .store 3 4 14, (rg 0 10)⟩] true)
 (.ret))
def K69 : IFn := ⟨2, 15, [.cell 4 3 true], false, Q25z⟩
def Q24w : IR :=
 .seq (.reg [o 2 (.zero zL3)] false)
 (.seq (.reg [oM 3 0,
 oC 4 122 ([3, Q1r3]),
 oM 5 0,
 oC 6 122 ([5, sA50]),
 oM 7 0,
 oC 8 122 ([7, sA57]),
 oM 9 0,
 oC 10 122 ([9, sA2]),
 oM 11 0,
 oC 12 128 ([11, sA20]),
 oM 13 0,
 oC 14 128 ([13, sA69]),
 oM 15 0,
 oC 16 124 ([15]),
 o 17 (.build zL3 [(13, 1, 4), (14, 1, 6), (15, 1, 8), (16, 1, 10), (17, 1, 12), (18, 1, 14), (19, 11, 16)]),
 oS 37 2 17] false)
 (.ret))
def K4h : IFn := ⟨1, 18, [.cell 2 37 true], false, Q24w⟩
def Qlu : List Nat := [100035, 0, 5, 6, 7]
def Q1of : IR :=
 .seq (.seq (.reg [oM 12 7,
 oM 13 6,
 oN 14 13,
 o 15 (.bin .lss 12 14)] false)
 (.cond 15 (.skip)
 (.exit 0)))
 (.seq (.block 1 (.seq (.reg [o 8 (.mov (.c zI))] false)
 (.seq (.seq (.reg [oM 18 6,
 oM 19 7,
 oI 20 5 18 19,
 oF 21 0 20,
 oK 22 1 21,
 o 23 (.bin .eql 22 (.c (iN 2)))] false)
 (.cond 23 (.reg [oM 24 6,
 oM 25 7,
 oI 26 5 24 25,
 oF 27 1 26,
 oK 28 1 27,
 oM 8 28] false)
 (.skip)))
 (.seq (.reg [oM 29 0,
 oM 30 6,
 oM 31 7,
 oI 32 5 30 31,
 oF 33 0 32,
 oK 34 1 33,
 o 35 (.bin .eql 34 (.c (iN 2))),
 oM 36 35,
 gF 37 36 (.mov 6),
 gF 38 36 (.mov 7),
 gF 39 36 (.iaddr 5 37 38),
 gF 40 36 (.faddr 0 39),
 gF 41 36 (.load 1 false 40),
 gF 42 36 (.bin .eql 41 (.c zI)),
 oQ 43 36 42,
 oC 44 143 ([29, 43])] false)
 (.reg [oM 45 5,
 oM 46 8,
 o 47 (.lit 1 1 [zI] [(0, 46)]),
 oJ 48 1 8 45 47,
 oM 5 48] false)))))
 (.reg [oM 16 7,
 oA 17 16,
 oM 7 17] false))
def Q24v : IR :=
 .seq (.reg [o 4 (.mov (.c (.ns 1)))] false)
 (.seq (.reg [o 5 (.mov (.c (.ns 1)))] false)
 (.seq (.reg [oM 9 0,
 oM 10 1,
 oC 11 140 ([9, 10]),
 oM 6 11] false)
 (.seq (.seq (.reg [o 7 (.mov (.c zI))] false)
 (.block 0 (.loop Qlu Q1of)))
 (.seq (.reg [oM 49 5,
 oM 4 49] false)
 (.ret)))))
def K4g : IFn := ⟨2, 50, [.tmp 4], false, Q24v⟩
def Q26p : IR :=
 .seq (.reg [o 3 (.box 56 1),
 o 4 (.zero zL2),
 o 5 (.mov (.c zI))] false)
 (.seq (.seq (.reg [oM 7 0,
 o 8 (.nilck 7),
 oF 9 0 8,
 oK 10 1 9,
 o 11 (.bin .gtr 10 (.c zI))] false)
 (.cond 11 (.seq (.reg [o 6 (.zero zL2)] false)
 (.seq (.reg [oL 12 56 6,
 oS 56 4 12,
 o 5 (.mov (.c (iN 6)))] false)
 (.ret)))
 (.skip)))
 (.seq (.reg [oL 13 56 3,
 oS 56 4 13,
 o 5 (.mov (.c zI))] false)
 (.ret)))
def K7j : IFn := ⟨2, 14, [.cell 4 56 true, .tmp 5], false, Q26p⟩
def Q23a : IR :=
 .seq (.reg [o 1 (.box 56 0),
 o 2 (.zero zL1)] false)
 (.seq (.reg [oF 3 13 1,
 oE 4 1 3 [0],
 oD 5 169 ([4]) [0, 1],
 ob 6 (.build zL0 [(0, 1, sA72), (1, 5, 5)]) [0, 1, 2],
 oF 7 14 1,
 oE 8 1 7 [4],
 oD 9 164 ([8]) [0, 1, 2, 4, 5],
 ob 10 (.build zL0 [(0, 1, sA47), (1, 5, 9)]) [0, 1, 2, 4, 5, 6],
 oF 11 15 1,
 oE 12 1 11 [8],
 oD 13 164 ([12]) [0, 1, 2, 4, 5, 6, 8, 9],
 ob 14 (.build zL0 [(0, 1, sA67), (1, 5, 13)]) [0, 1, 2, 4, 5, 6, 8, 9, 10],
 oF 15 16 1,
 oE 16 1 15 [12],
 oD 17 164 ([16]) [0, 1, 2, 4, 5, 6, 8, 9, 10, 12, 13],
 ob 18 (.build zL0 [(0, 1, sA22), (1, 5, 17)]) [0, 1, 2, 4, 5, 6, 8, 9, 10, 12, 13, 14],
 oF 19 17 1,
 oE 20 1 19 [16],
 oD 21 167 ([20]) [0, 1, 2, 4, 5, 6, 8, 9, 10, 12, 13, 14, 16, 17],
 ob 22 (.build zL0 [(0, 1, sA69), (1, 5, 21)]) [0, 1, 2, 4, 5, 6, 8, 9, 10, 12, 13, 14, 16, 17, 18],
 oF 23 18 1,
 ob 24 (.load 37 true 23) [20],
 oD 25 100 ([24]) [0, 1, 2, 4, 5, 6, 8, 9, 10, 12, 13, 14, 16, 17, 18, 20, 21],
 ob 26 (.build zL0 [(0, 1, sA21), (1, 5, 25)]) [0, 1, 2, 4, 5, 6, 8, 9, 10, 12, 13, 14, 16, 17, 18, 20, 21, 22],
 ob 27 (.lit 6 6 zL0 [(0, 6), (1, 10), (2, 14), (3, 18), (4, 22), (5, 26)]) (rg 0 24),
 oD 28 163 ([27]) (rg 0 25),
 ⟨none, none, .store 5 2 28, (rg 0 26)⟩] true)
 (.ret))
def K28 : IFn := ⟨1, 29, [.cell 2 5 true], false, Q23a⟩
def Qlt : List Nat := [100036, 0, 5, 6, 7]
def Q1oe : IR :=
 .seq (.seq (.reg [oM 11 7,
 oM 12 6,
 oN 13 12,
 o 14 (.bin .lss 11 13)] false)
 (.cond 14 (.skip)
 (.exit 0)))
 (.seq (.block 1 (.reg [oM 17 5,
 oM 18 0,
 oM 19 6,
 oM 20 7,
 oI 21 5 19 20,
 oL 22 5 21,
 oC 23 141 ([22]),
 oC 24 130 ([18, 23]),
 o 25 (.lit 2 1 [zB, zI] [(0, 24)]),
 oJ 26 2 16 17 25,
 oM 5 26] false))
 (.reg [oM 15 7,
 oA 16 15,
 oM 7 16] false))
def Q24s : IR :=
 .seq (.reg [o 4 (.mov (.c (.ns 2)))] false)
 (.seq (.reg [o 5 (.mov (.c (.ns 2)))] false)
 (.seq (.reg [oM 8 0,
 oM 9 1,
 oC 10 140 ([8, 9]),
 oM 6 10] false)
 (.seq (.seq (.reg [o 7 (.mov (.c zI))] false)
 (.block 0 (.loop Qlt Q1oe)))
 (.seq (.reg [oM 27 5,
 oM 4 27] false)
 (.ret)))))
def K4d : IFn := ⟨2, 28, [.tmp 4], false, Q24s⟩
def Ql7 : List Nat := [100038, 0, 2, 3, 4, 5]
def Q1ns : IR :=
 .seq (.seq (.reg [oM 13 5,
 oM 14 3,
 ob 15 (.len false 14) [1],
 ob 16 (.bin .lss 13 15) [0, 1, 2],
 ob 17 (.mov 16) [0, 1, 2, 3],
 ⟨(some 18), (some (17, true)), .mov 3, (rg 0 5)⟩,
 ⟨(some 19), (some (17, true)), .mov 5, (rg 0 5)⟩,
 ⟨(some 20), (some (17, true)), .iaddr 6 18 19, (rg 0 7)⟩,
 ⟨(some 21), (some (17, true)), .faddr 0 20, (rg 0 8)⟩,
 ⟨(some 22), (some (17, true)), .load 1 false 21, (rg 0 9)⟩,
 ⟨(some 23), (some (17, true)), .mov 0, (rg 0 5)⟩,
 ⟨(some 24), (some (17, true)), .mov 4, (rg 0 5)⟩,
 ⟨(some 25), (some (17, true)), .iaddr 6 23 24, (rg 0 5 ++ [10, 11])⟩,
 ⟨(some 26), (some (17, true)), .faddr 0 25, (rg 0 5 ++ [10, 11, 12])⟩,
 ⟨(some 27), (some (17, true)), .load 1 false 26, (rg 0 5 ++ rg 10 14)⟩,
 ⟨(some 28), (some (17, true)), .bin .lss 22 27, (rg 0 15)⟩,
 ob 29 (.pick 17 28 (.c zB)) (rg 0 16)] true)
 (.cond 29 (.skip)
 (.exit 2)))
 (.block 3 (.reg [oM 30 5,
 oA 31 30,
 oM 5 31] false))
def Ql6 : List Nat := [100037, 0, 2, 3, 4]
def Q1nr : IR :=
 .seq (.seq (.reg [oM 7 4,
 oM 8 0,
 oN 9 8,
 o 10 (.bin .lss 7 9)] false)
 (.cond 10 (.skip)
 (.exit 0)))
 (.seq (.block 1 (.seq (.reg [o 5 (.mov (.c zI))] false)
 (.seq (.block 2 (.loop Ql7 Q1ns))
 (.seq (.reg [o 6 (.mov (.c (.ns 6)))] false)
 (.seq (.reg [oM 32 6,
 oM 33 3,
 oM 34 5,
 o 35 (.slice 6 33 none (some 34) none),
 oJ 36 6 96 32 35,
 oM 6 36] false)
 (.seq (.reg [oM 37 6,
 oM 38 0,
 oM 39 4,
 oI 40 6 38 39,
 oL 41 6 40,
 o 42 (.lit 6 1 zL0 [(0, 41)]),
 oJ 43 6 96 37 42,
 oM 6 43] false)
 (.seq (.reg [oM 44 6,
 oM 45 3,
 oM 46 5,
 o 47 (.slice 6 45 (some 46) none none),
 oJ 48 6 96 44 47,
 oM 6 48] false)
 (.reg [oM 49 6,
 oM 3 49] false))))))))
 (.reg [oM 11 4,
 oA 12 11,
 oM 4 12] false))
def Q23h : IR :=
 .seq (.reg [o 2 (.zero zL1)] false)
 (.seq (.reg [o 3 (.mov (.c (.ns 6)))] false)
 (.seq (.seq (.reg [o 4 (.mov (.c zI))] false)
 (.block 0 (.loop Ql6 Q1nr)))
 (.seq (.reg [oM 50 3,
 o 51 (.build zL1 [(0, 1, .c (iN 5)), (4, 1, 50)]),
 oS 5 2 51] false)
 (.ret))))
def K2h : IFn := ⟨1, 52, [.cell 2 5 true], false, Q23h⟩
def Q23c : IR :=
 .seq (.reg [o 2 (.zero zL1)] false)
 (.seq (.reg [oM 3 0,
 o 4 (.build zL1 [(0, 1, .c (iN 2)), (1, 1, 3)]),
 oS 5 2 4] false)
 (.ret))
def K2c : IFn := ⟨1, 5, [.cell 2 5 true], false, Q23c⟩
def Qlb : List Nat := [100039, 0, 2, 3, 4]
def Q1nw : IR :=
 .seq (.seq (.reg [oM 5 4,
 oM 6 0,
 oN 7 6,
 o 8 (.bin .lss 5 7)] false)
 (.cond 8 (.skip)
 (.exit 0)))
 (.seq (.block 1 (.reg [oM 11 3,
 oM 12 0,
 oM 13 4,
 ob 14 (.iaddr 3 12 13) [1, 2],
 ob 15 (.faddr 0 14) [1, 2, 3],
 oE 16 1 15 [1, 2, 3, 4],
 oD 17 169 ([16]) (rg 1 6),
 ob 18 (.build zL0 [(0, 1, sA23), (1, 5, 17)]) (rg 1 7),
 oM 19 0,
 oM 20 4,
 ob 21 (.iaddr 3 19 20) [8, 9],
 ob 22 (.faddr 1 21) [8, 9, 10],
 oE 23 1 22 [8, 9, 10, 11],
 oD 24 164 ([23]) (rg 1 7 ++ rg 8 13),
 ob 25 (.build zL0 [(0, 1, sA41), (1, 5, 24)]) (rg 1 7 ++ rg 8 14),
 oM 26 0,
 oM 27 4,
 ob 28 (.iaddr 3 26 27) [15, 16],
 ob 29 (.faddr 2 28) [15, 16, 17],
 oE 30 1 29 [15, 16, 17, 18],
 oD 31 212 ([30]) (rg 1 7 ++ rg 8 14 ++ rg 15 20),
 ob 32 (.build zL0 [(0, 1, sA86), (1, 5, 31)]) (rg 1 7 ++ rg 8 14 ++ rg 15 21),
 ob 33 (.lit 6 3 zL0 [(0, 18), (1, 25), (2, 32)]) (rg 1 22),
 oD 34 163 ([33]) (rg 1 23),
 ob 35 (.lit 5 1 zL1 [(0, 34)]) (rg 1 24),
 ob 36 (.append 5 80 11 35) (rg 0 25),
 ob 3 (.mov 36) (rg 0 26)] true))
 (.reg [oM 9 4,
 oA 10 9,
 oM 4 10] false))
def Q23n : IR :=
 .seq (.reg [o 2 (.zero zL1)] false)
 (.seq (.reg [o 3 (.mov (.c (.ns 5)))] false)
 (.seq (.seq (.reg [o 4 (.mov (.c zI))] false)
 (.block 0 (.loop Qlb Q1nw)))
 (.seq (.reg [oM 37 3,
 o 38 (.build zL1 [(0, 1, .c (iN 4)), (3, 1, 37)]),
 oS 5 2 38] false)
 (.ret))))
def K2s : IFn := ⟨1, 39, [.cell 2 5 true], false, Q23n⟩
def Q23r : IR :=
 .seq (.reg [o 1 (.box 11 0),
 o 2 (.zero zL1)] false)
 (.seq (.reg [oF 3 0 1,
 oE 4 1 3 [0],
 oD 5 213 ([4]) [0, 1],
 ob 6 (.build zL0 [(0, 1, sA27), (1, 5, 5)]) [0, 1, 2],
 oF 7 1 1,
 ob 8 (.load 10 true 7) [4],
 oD 9 214 ([8]) [0, 1, 2, 4, 5],
 ob 10 (.build zL0 [(0, 1, sA62), (1, 5, 9)]) [0, 1, 2, 4, 5, 6],
 ob 11 (.lit 6 2 zL0 [(0, 6), (1, 10)]) (rg 0 8),
 oD 12 163 ([11]) (rg 0 9),
 ⟨none, none, .store 5 2 12, (rg 0 10)⟩] true)
 (.ret))
def K2y : IFn := ⟨1, 13, [.cell 2 5 true], false, Q23r⟩
def Q236 : IR :=
 .seq (.reg [o 2 (.zero zL1)] false)
 (.seq (.seq (.reg [oM 3 0] false)
 (.cond 3 (.seq (.reg [o 4 (.build zL1 [(0, 1, .c (iN 1)), (1, 1, .c (iN 1))]),
 oS 5 2 4] false)
 (.ret))
 (.skip)))
 (.seq (.reg [o 5 (.build zL1 [(0, 1, .c (iN 1))]),
 oS 5 2 5] false)
 (.ret)))
def K24 : IFn := ⟨1, 6, [.cell 2 5 true], false, Q236⟩
def Q232 : IR :=
 .seq (.reg [o 1 (.box 2 0),
 o 2 (.zero zL1)] false)
 (.seq (.reg [oF 3 0 1,
 oE 4 1 3 [0],
 oD 5 167 ([4]) [0, 1],
 ob 6 (.build zL0 [(0, 1, sA44), (1, 5, 5)]) [0, 1, 2],
 oF 7 1 1,
 oE 8 1 7 [4],
 oD 9 164 ([8]) [0, 1, 2, 4, 5],
 ob 10 (.build zL0 [(0, 1, sA40), (1, 5, 9)]) [0, 1, 2, 4, 5, 6],
 ob 11 (.lit 6 2 zL0 [(0, 6), (1, 10)]) (rg 0 8),
 oD 12 163 ([11]) (rg 0 9),
 ⟨none, none, .store 5 2 12, (rg 0 10)⟩] true)
 (.ret))
def K20 : IFn := ⟨1, 13, [.cell 2 5 true], false, Q232⟩
def Q23p : IR :=
 .seq (.reg [o 2 (.zero zL1)] false)
 (.seq (.reg [oM 3 0,
 o 4 (.build zL1 [(0, 1, .c (iN 3)), (2, 1, 3)]),
 oS 5 2 4] false)
 (.ret))
def K2w : IFn := ⟨1, 5, [.cell 2 5 true], false, Q23p⟩
def Qkt : List Nat := [100041, 1, 2, 3, 8]
def Q1ne : IR :=
 .seq (.seq (.reg [oM 43 8,
 oF 44 4 3,
 oK 45 1 44,
 oN 46 45,
 o 47 (.bin .lss 43 46),
 oM 48 47,
 gT 49 48 (.mov 1),
 gT 50 48 (.bin .geq 49 (.c zI)),
 oP 51 48 50] false)
 (.cond 51 (.skip)
 (.exit 2)))
 (.seq (.block 3 (.seq (.seq (.reg [oF 54 4 3,
 oK 55 1 54,
 oM 56 8,
 oI 57 6 55 56,
 oF 58 0 57,
 oK 59 1 58,
 o 60 (.len true 59),
 o 61 (.bin .gtr 60 (.c (iN 1000)))] false)
 (.cond 61 (.seq (.reg [o 6 (.mov (.c (iN (-1))))] false)
 (.ret))
 (.skip)))
 (.reg [oF 62 4 3,
 oK 63 1 62,
 oM 64 8,
 oI 65 6 63 64,
 oF 66 1 65,
 oL 67 5 66,
 oM 68 1,
 oM 69 2,
 o 70 (.bin .sub 69 (.c (iN 1))),
 oC 71 170 ([67, 68, 70]),
 oM 1 71] false)))
 (.reg [oM 52 8,
 oA 53 52,
 oM 8 53] false))
def Qks : List Nat := [100040, 1, 2, 3, 7]
def Q1nd : IR :=
 .seq (.seq (.reg [oM 23 7,
 oF 24 3 3,
 oK 25 1 24,
 oN 26 25,
 o 27 (.bin .lss 23 26),
 oM 28 27,
 gT 29 28 (.mov 1),
 gT 30 28 (.bin .geq 29 (.c zI)),
 oP 31 28 30] false)
 (.cond 31 (.skip)
 (.exit 0)))
 (.seq (.block 1 (.reg [oF 34 3 3,
 oK 35 1 34,
 oM 36 7,
 oI 37 5 35 36,
 oL 38 5 37,
 oM 39 1,
 oM 40 2,
 o 41 (.bin .sub 40 (.c (iN 1))),
 oC 42 170 ([38, 39, 41]),
 oM 1 42] false))
 (.reg [oM 32 7,
 oA 33 32,
 oM 7 33] false))
def Q22u : IR :=
 .seq (.reg [o 3 (.box 5 0),
 o 6 (.mov (.c zI))] false)
 (.seq (.seq (.reg [oM 9 1,
 o 10 (.bin .leq 9 (.c zI)),
 oM 11 10,
 gF 12 11 (.mov 2),
 gF 13 11 (.bin .leq 12 (.c zI)),
 oQ 14 11 13,
 oM 15 14,
 gF 16 15 (.faddr 2 3),
 gF 17 15 (.load 1 false 16),
 gF 18 15 (.len true 17),
 gF 19 15 (.bin .gtr 18 (.c (iN 1000))),
 oQ 20 15 19] false)
 (.cond 20 (.seq (.reg [o 6 (.mov (.c (iN (-1))))] false)
 (.ret))
 (.skip)))
 (.seq (.reg [oM 21 1,
 o 22 (.bin .sub 21 (.c (iN 1))),
 oM 1 22] false)
 (.seq (.seq (.reg [o 7 (.mov (.c zI))] false)
 (.block 0 (.loop Qks Q1nd)))
 (.seq (.seq (.reg [o 8 (.mov (.c zI))] false)
 (.block 2 (.loop Qkt Q1ne)))
 (.seq (.reg [oM 72 1,
 oM 6 72] false)
 (.ret))))))
def K1s : IFn := ⟨3, 73, [.tmp 6], false, Q22u⟩
def Q26f : IR :=
 .seq (.reg [o 1 (.box 3 0),
 o 2 (.zero zL1)] false)
 (.seq (.reg [oF 3 0 1,
 oE 4 1 3 [0],
 oD 5 79 ([Q1cm, 4]) [0, 1],
 oF 6 1 1,
 oE 7 1 6 [3],
 oD 8 79 ([sA28, 7]) (rg 0 5),
 oF 9 2 1,
 oE 10 1 9 [6],
 oD 11 79 ([sA3, 10]) (rg 0 8),
 ob 12 (.lit 6 3 zL0 [(0, 5), (1, 8), (2, 11)]) (rg 0 9),
 oD 13 78 ([12]) (rg 0 10),
 ⟨none, none, .store 5 2 13, (rg 0 11)⟩] true)
 (.ret))
def K6u : IFn := ⟨1, 14, [.cell 2 5 true], false, Q26f⟩
def Qkq : List Nat := [100043, 1, 2, 3, 5]
def Q1nb : IR :=
 .seq (.seq (.reg [oM 31 5,
 oF 32 4 1,
 oK 33 1 32,
 oN 34 33,
 o 35 (.bin .lss 31 34)] false)
 (.cond 35 (.skip)
 (.exit 2)))
 (.seq (.block 3 (.reg [oF 38 4 3,
 oE 39 1 38 [0],
 oF 40 4 1,
 oE 41 1 40 [2],
 oM 42 5,
 ob 43 (.iaddr 6 41 42) [2, 3, 4],
 ob 44 (.faddr 0 43) [2, 3, 4, 5],
 oE 45 1 44 (rg 2 7),
 oF 46 4 1,
 oE 47 1 46 [8],
 oM 48 5,
 ob 49 (.iaddr 6 47 48) [8, 9, 10],
 ob 50 (.faddr 1 49) [8, 9, 10, 11],
 ob 51 (.load 5 true 50) (rg 8 13),
 oD 52 172 ([51]) (rg 8 14),
 ob 53 (.build zL0 [(0, 1, 45), (1, 5, 52)]) (rg 2 15),
 ob 54 (.lit 6 1 zL0 [(0, 53)]) (rg 2 16),
 ob 55 (.append 6 96 39 54) (rg 0 17),
 ob 56 (.faddr 4 3) (rg 0 18),
 ⟨none, none, .store 1 56 55, (rg 0 19)⟩] true))
 (.reg [oM 36 5,
 oA 37 36,
 oM 5 37] false))
def Qkp : List Nat := [100042, 1, 2, 3, 4]
def Q1na : IR :=
 .seq (.seq (.reg [oM 13 4,
 oF 14 3 1,
 oK 15 1 14,
 oN 16 15,
 o 17 (.bin .lss 13 16)] false)
 (.cond 17 (.skip)
 (.exit 0)))
 (.seq (.block 1 (.reg [oF 20 3 3,
 oE 21 1 20 [0],
 oF 22 3 1,
 oE 23 1 22 [2],
 oM 24 4,
 ob 25 (.iaddr 5 23 24) [2, 3, 4],
 ob 26 (.load 5 true 25) [2, 3, 4, 5],
 oD 27 172 ([26]) (rg 2 7),
 ob 28 (.lit 5 1 zL1 [(0, 27)]) (rg 2 8),
 ob 29 (.append 5 80 21 28) (rg 0 9),
 ob 30 (.faddr 3 3) (rg 0 10),
 ⟨none, none, .store 1 30 29, (rg 0 11)⟩] true))
 (.reg [oM 18 4,
 oA 19 18,
 oM 4 19] false))
def Q22o : IR :=
 .seq (.reg [o 1 (.box 5 0),
 o 2 (.zero zL1)] false)
 (.seq (.reg [oF 6 0 1,
 oK 7 1 6,
 oF 8 1 1,
 oK 9 1 8,
 oF 10 2 1,
 oK 11 1 10,
 o 12 (.build zL1 [(0, 1, 7), (1, 1, 9), (2, 1, 11)]),
 o 3 (.zero zL1),
 oS 5 3 12] false)
 (.seq (.seq (.reg [o 4 (.mov (.c zI))] false)
 (.block 0 (.loop Qkp Q1na)))
 (.seq (.seq (.reg [o 5 (.mov (.c zI))] false)
 (.block 2 (.loop Qkq Q1nb)))
 (.seq (.reg [oL 57 5 3,
 oS 5 2 57] false)
 (.ret)))))
def K1m : IFn := ⟨1, 58, [.cell 2 5 true], false, Q22o⟩
def Qku : List Nat := [100044, 0, 3, 5, 6, 7]
def Q1nf : IR :=
 .seq (.seq (.reg [oM 8 7,
 oM 9 0,
 oN 10 9,
 o 11 (.bin .lss 8 10)] false)
 (.cond 11 (.skip)
 (.exit 0)))
 (.seq (.block 1 (.seq (.seq (.reg [oM 14 6,
 ob 15 (.un .not 14) [0],
 ob 16 (.mov 15) [0, 1],
 ⟨(some 17), (some (16, true)), .faddr 0 3, [0, 1, 2]⟩,
 ⟨(some 18), (some (16, true)), .load 1 false 17, [0, 1, 2, 3]⟩,
 ⟨(some 19), (some (16, true)), .mov 0, [0, 1, 2]⟩,
 ⟨(some 20), (some (16, true)), .mov 7, [0, 1, 2]⟩,
 ⟨(some 21), (some (16, true)), .iaddr 6 19 20, [0, 1, 2, 5, 6]⟩,
 ⟨(some 22), (some (16, true)), .faddr 0 21, [0, 1, 2, 5, 6, 7]⟩,
 ⟨(some 23), (some (16, true)), .load 1 false 22, ([0, 1, 2] ++ rg 5 9)⟩,
 ⟨(some 24), (some (16, true)), .bin .leq 18 23, (rg 0 10)⟩,
 ob 25 (.pick 16 24 (.c zB)) (rg 0 11)] true)
 (.cond 25 (.seq (.reg [oM 26 5,
 oL 27 6 3,
 o 28 (.lit 6 1 zL0 [(0, 27)]),
 oJ 29 6 96 26 28,
 oM 5 29] false)
 (.reg [o 6 (.mov (.c (.bool true)))] false))
 (.skip)))
 (.seq (.reg [oM 30 0,
 oM 31 7,
 ob 32 (.iaddr 6 30 31) [0, 1],
 ob 33 (.faddr 0 32) [0, 1, 2],
 oE 34 1 33 [0, 1, 2, 3],
 oF 35 0 3,
 oE 36 1 35 [5],
 ob 37 (.bin .neq 34 36) (rg 0 7)] true)
 (.cond 37 (.reg [oM 38 5,
 oM 39 0,
 oM 40 7,
 oI 41 6 39 40,
 oL 42 6 41,
 o 43 (.lit 6 1 zL0 [(0, 42)]),
 oJ 44 6 96 38 43,
 oM 5 44] false)
 (.skip)))))
 (.reg [oM 12 7,
 oA 13 12,
 oM 7 13] false))
def Q22w : IR :=
 .seq (.reg [o 3 (.box 6 1),
 o 4 (.mov (.c (.ns 6)))] false)
 (.seq (.reg [o 5 (.mov (.c (.ns 6)))] false)
 (.seq (.reg [o 6 (.mov (.c zB))] false)
 (.seq (.seq (.reg [o 7 (.mov (.c zI))] false)
 (.block 0 (.loop Qku Q1nf)))
 (.seq (.seq (.reg [oM 45 6,
 oU 46 45] false)
 (.cond 46 (.reg [oM 47 5,
 oL 48 6 3,
 o 49 (.lit 6 1 zL0 [(0, 48)]),
 oJ 50 6 96 47 49,
 oM 5 50] false)
 (.skip)))
 (.seq (.reg [oM 51 5,
 oM 4 51] false)
 (.ret))))))
def K1u : IFn := ⟨2, 52, [.tmp 4], false, Q22w⟩
def Q25r : IR :=
 .seq (.reg [o 4 (.box 5 1),
 o 6 (.zero zL1)] false)
 (.seq (.seq (.reg [oF 7 0 4,
 oK 8 1 7,
 oM 9 2,
 o 10 (.bin .eql 8 9)] false)
 (.cond 10 (.seq (.reg [oL 11 5 4,
 oS 5 6 11] false)
 (.ret))
 (.skip)))
 (.seq (.seq (.reg [oF 12 0 4,
 oK 13 1 12,
 o 14 (.bin .neq 13 (.c zI))] false)
 (.cond 14 (.reg [oM 15 0,
 o 16 (.nilck 15),
 oF 17 0 16,
 oK 18 1 17,
 oA 19 18,
 o 20 (.nilck 15),
 oF 21 0 20,
 oS 1 21 19] false)
 (.skip)))
 (.seq (.reg [o 22 (.build zL1 []),
 oS 5 6 22] false)
 (.ret))))
def K61 : IFn := ⟨3, 23, [.cell 6 5 true], false, Q25r⟩
def Qm2 : List Nat := [100045, 3, 9, 18, 19, 20]
def Q1on : IR :=
 .seq (.reg [o 21 (.bin .lss 20 19)] false)
 (.seq (.cond 21 (.skip)
 (.exit 0))
 (.seq (.block 1 (.seq (.reg [oI 22 5 18 20,
 oL 23 5 22,
 o 11 (.zero zL1),
 oS 5 11 23] false)
 (.reg [oM 24 9,
 oM 25 3,
 oL 26 5 11,
 o 27 (.call false 25 [26]),
 o 28 (.lit 3 1 [zS, zI, .ns 1] [(0, 27)]),
 oJ 29 3 48 24 28,
 oM 9 29] false)))
 (.reg [oA 30 20,
 oM 20 30] false)))
def Q26a : IR :=
 .seq (.reg [o 5 (.box 5 1),
 o 8 (.mov (.c (.ns 3)))] false)
 (.seq (.reg [o 9 (.mov (.c (.ns 3)))] false)
 (.seq (.seq (.reg [oM 12 0,
 oM 13 0,
 oL 14 5 5,
 oM 15 2,
 oC 16 76 ([13, 14, 15]),
 oC 17 174 ([12, 16, .c (iN 4)]),
 o 18 (.field 3 1 false 17),
 oN 19 18,
 o 20 (.mov (.c zI))] false)
 (.block 0 (.loop Qm2 Q1on)))
 (.seq (.reg [oM 31 9,
 oM 8 31] false)
 (.ret))))
def K6n : IFn := ⟨4, 32, [.tmp 8], false, Q26a⟩
def Q261 : IR :=
 .seq (.reg [o 2 (.box 5 0),
 o 3 (.zero [zS, zI, .ns 1])] false)
 (.seq (.reg [oK 5 1 1,
 oL 6 5 2,
 o 7 (.mkfn 182 [] [1]),
 oC 8 181 ([5, 6, sA86, 7]),
 oM 4 8] false)
 (.seq (.reg [oK 9 1 1,
 oL 10 5 2,
 oC 11 174 ([9, 10, .c (iN 5)])] false)
 (.seq (.reg [oK 12 1 1,
 oL 13 5 2,
 oD 14 89 ([12, 13, sA23]) [0, 1],
 oK 15 1 1,
 oL 16 5 2,
 oD 17 71 ([15, 16, sA41]) (rg 0 5),
 oM 18 4,
 ob 19 (.build [zS, zI, .ns 1] [(0, 1, 14), (1, 1, 17), (2, 1, 18)]) (rg 0 7),
 ⟨none, none, .store 3 3 19, (rg 0 8)⟩] true)
 (.ret))))
def K6b : IFn := ⟨2, 20, [.cell 3 3 true], false, Q261⟩
def Qm3 : List Nat := [100046, 3, 9, 18, 19, 20]
def Q1oo : IR :=
 .seq (.reg [o 21 (.bin .lss 20 19)] false)
 (.seq (.cond 21 (.skip)
 (.exit 0))
 (.seq (.block 1 (.seq (.reg [oI 22 5 18 20,
 oL 23 5 22,
 o 11 (.zero zL1),
 oS 5 11 23] false)
 (.reg [oM 24 9,
 oM 25 3,
 oL 26 5 11,
 o 27 (.call false 25 [26]),
 o 28 (.lit 1 1 [zS] [(0, 27)]),
 oJ 29 1 16 24 28,
 oM 9 29] false)))
 (.reg [oA 30 20,
 oM 20 30] false)))
def Q26b : IR :=
 .seq (.reg [o 5 (.box 5 1),
 o 8 (.mov (.c (.ns 1)))] false)
 (.seq (.reg [o 9 (.mov (.c (.ns 1)))] false)
 (.seq (.seq (.reg [oM 12 0,
 oM 13 0,
 oL 14 5 5,
 oM 15 2,
 oC 16 76 ([13, 14, 15]),
 oC 17 174 ([12, 16, .c (iN 4)]),
 o 18 (.field 3 1 false 17),
 oN 19 18,
 o 20 (.mov (.c zI))] false)
 (.block 0 (.loop Qm3 Q1oo)))
 (.seq (.reg [oM 31 9,
 oM 8 31] false)
 (.ret))))
def K6o : IFn := ⟨4, 32, [.tmp 8], false, Q26b⟩
def Q262 : IR :=
 .seq (.reg [o 2 (.box 5 0),
 o 3 (.mov (.c (zS)))] false)
 (.seq (.reg [oK 4 1 1,
 oL 5 5 2,
 oC 6 174 ([4, 5, .c (iN 3)]),
 o 7 (.field 2 1 false 6),
 oM 3 7] false)
 (.ret))
def K6c : IFn := ⟨2, 8, [.tmp 3], false, Q262⟩
def Ka_c : IR :=
 .seq (.reg [o 1 (.box 5 0),
 o 2 (.zero [.ns 2, zS, zI, zI, zI, .ns 11, .ns 3, .ns 3, .ns 5, .ns 4, .ns 5]),
 o 3 (.mov (.c zI))] false)
 (.seq (.reg [o 6 (.build [zB] []),
 o 7 (.box 1 6),
 oM 4 7] false)
 (.seq (.reg [oM 8 4,
 oL 9 5 1,
 oC 10 215 ([8, 9])] false)
 (.seq (.reg [oM 11 4,
 oL 12 5 1,
 oM 13 4,
 ob 14 (.mkfn 217 [13] []) [2],
 oD 15 216 ([11, 12, sA27, 14]) [0, 1, 2, 3],
 oM 16 4,
 oM 17 4,
 oL 18 5 1,
 oD 19 219 ([17, 18, sA62]) (rg 0 5 ++ [6, 7]),
 oD 20 218 ([16, 19]) (rg 0 9),
 ob 21 (.build [.ns 2, zS, zI, zI, zI, .ns 11, .ns 3, .ns 3, .ns 5, .ns 4, .ns 5] [(0, 1, 15), (1, 10, 20)]) (rg 0 10),
 o 5 (.zero [.ns 2, zS, zI, zI, zI, .ns 11, .ns 3, .ns 3, .ns 5, .ns 4, .ns 5]),
 ⟨none, none, .store 11 5 21, (rg 0 12)⟩] true)
 (.seq (.seq (.reg [oM 22 4,
 o 23 (.nilck 22),
 oF 24 0 23,
 oK 25 1 24] false)
 (.cond 25 (.seq (.reg [o 26 (.build [.ns 2, zS, zI, zI, zI, .ns 11, .ns 3, .ns 3, .ns 5, .ns 4, .ns 5] []),
 oS 11 2 26,
 o 3 (.mov (.c (iN 6)))] false)
 (.ret))
 (.skip)))
 (.seq (.reg [oL 27 11 5,
 oS 11 2 27,
 o 3 (.mov (.c zI))] false)
 (.ret))))))
def Ka : IFn := ⟨1, 28, [.cell 2 11 true, .tmp 3], false, Ka_c⟩
def Qlv : List Nat := [100047, 1, 4, 12, 13, 14]
def Q1og : IR :=
 .seq (.reg [o 15 (.bin .lss 14 13)] false)
 (.seq (.cond 15 (.skip)
 (.exit 0))
 (.seq (.block 1 (.seq (.reg [oI 16 6 12 14,
 oL 17 6 16,
 o 7 (.zero zL0),
 oS 6 7 17] false)
 (.seq (.reg [oF 18 0 7,
 oK 19 1 18,
 oM 20 1,
 o 21 (.bin .eql 19 20)] false)
 (.cond 21 (.seq (.reg [oF 22 1 7,
 oL 23 5 22,
 oC 24 189 ([23]),
 oS 5 4 24,
 o 5 (.mov (.c (.bool true)))] false)
 (.ret))
 (.skip)))))
 (.reg [oA 25 14,
 oM 14 25] false)))
def Q258 : IR :=
 .seq (.reg [o 2 (.box 5 0),
 o 4 (.zero zL1),
 o 5 (.mov (.c zB))] false)
 (.seq (.seq (.reg [oF 8 0 2,
 oK 9 1 8,
 o 10 (.bin .eql 9 (.c (iN 5)))] false)
 (.cond 10 (.seq (.reg [oF 11 4 2,
 oK 12 1 11,
 oN 13 12,
 o 14 (.mov (.c zI))] false)
 (.block 0 (.loop Qlv Q1og)))
 (.skip)))
 (.seq (.reg [o 26 (.build zL1 []),
 oS 5 4 26,
 o 5 (.mov (.c zB))] false)
 (.ret)))
def K4x : IFn := ⟨2, 27, [.cell 4 5 true, .tmp 5], false, Q258⟩
def Q254 : IR :=
 .reg [oM 4 0,
 oM 5 0,
 oN 6 5,
 oM 7 1,
 o 8 (.call true (.f 220) [4, 6, 7])] false
def K4s : IFn := ⟨2, 9, [], false, Q254⟩
def Q25b : IR :=
 .seq (.reg [o 2 (.box 6 0),
 o 3 (.box 6 1),
 o 4 (.mov (.c zI))] false)
 (.seq (.reg [oF 5 0 2,
 oK 6 1 5,
 oF 7 0 3,
 oK 8 1 7,
 oC 9 188 ([6, 8]),
 oM 4 9] false)
 (.ret))
def K51 : IFn := ⟨2, 10, [.tmp 4], false, Q25b⟩
def Q257 : IR :=
 .seq (.reg [o 4 (.mov (.c zI))] false)
 (.seq (.reg [oM 5 0,
 oM 6 1,
 oC 7 221 ([5, 6]),
 oM 4 7] false)
 (.ret))
def K4v : IFn := ⟨2, 8, [.tmp 4], false, Q257⟩
def Qlx : List Nat := [100049, 1, 2, 31, 32, 33]
def Q1oi : IR :=
 .seq (.reg [o 34 (.bin .lss 33 32)] false)
 (.seq (.cond 34 (.skip)
 (.exit 2))
 (.seq (.block 3 (.seq (.reg [oM 35 33,
 oI 36 6 31 33,
 oL 37 6 36,
 o 6 (.zero zL0),
 oM 5 35,
 oS 6 6 37] false)
 (.reg [oF 38 4 1,
 oE 39 1 38 [0],
 oM 40 5,
 oF 41 1 6,
 ob 42 (.load 5 true 41) [3],
 oD 43 189 ([42]) [3, 4],
 ob 44 (.iaddr 6 39 40) (rg 0 6),
 ob 45 (.faddr 1 44) (rg 0 7),
 ⟨none, none, .store 5 45 43, (rg 0 8)⟩] true)))
 (.reg [oA 46 33,
 oM 33 46] false)))
def Qlw : List Nat := [100048, 1, 2, 12, 13, 14]
def Q1oh : IR :=
 .seq (.reg [o 15 (.bin .lss 14 13)] false)
 (.seq (.cond 15 (.skip)
 (.exit 0))
 (.seq (.block 1 (.seq (.reg [oM 16 14,
 oI 17 5 12 14,
 oL 18 5 17,
 o 4 (.zero zL1),
 oM 3 16,
 oS 5 4 18] false)
 (.reg [oF 19 3 1,
 oE 20 1 19 [0],
 oM 21 3,
 oL 22 5 4,
 oD 23 189 ([22]) [3],
 ob 24 (.iaddr 5 20 21) (rg 0 5),
 ⟨none, none, .store 5 24 23, (rg 0 6)⟩] true)))
 (.reg [oA 25 14,
 oM 14 25] false)))
def Q25c : IR :=
 .seq (.reg [o 1 (.box 5 0),
 o 2 (.zero zL1)] false)
 (.seq (.reg [oF 7 3 1,
 oK 8 1 7,
 oC 9 222 ([8]),
 oF 10 3 1,
 oS 1 10 9] false)
 (.seq (.seq (.reg [oF 11 3 1,
 oK 12 1 11,
 oN 13 12,
 o 14 (.mov (.c zI))] false)
 (.block 0 (.loop Qlw Q1oh)))
 (.seq (.reg [oF 26 4 1,
 oK 27 1 26,
 oC 28 185 ([27]),
 oF 29 4 1,
 oS 1 29 28] false)
 (.seq (.seq (.reg [oF 30 4 1,
 oK 31 1 30,
 oN 32 31,
 o 33 (.mov (.c zI))] false)
 (.block 2 (.loop Qlx Q1oi)))
 (.seq (.reg [oL 47 5 1,
 oS 5 2 47] false)
 (.ret))))))
def K53 : IFn := ⟨1, 48, [.cell 2 5 true], false, Q25c⟩
def Qko : List Nat := [100051, 2, 3, 5, 7]
def Q1n9 : IR :=
 .seq (.seq (.reg [oM 91 7,
 oF 92 4 2,
 oK 93 1 92,
 oN 94 93,
 o 95 (.bin .lss 91 94),
 oM 96 95,
 gT 97 96 (.mov 7),
 gT 98 96 (.faddr 4 3),
 gT 99 96 (.load 1 false 98),
 gT 100 96 (.len false 99),
 gT 101 96 (.bin .lss 97 100),
 oP 102 96 101,
 oM 103 102,
 gT 104 103 (.mov 5),
 gT 105 103 (.bin .eql 104 (.c zI)),
 oP 106 103 105] false)
 (.cond 106 (.skip)
 (.exit 2)))
 (.seq (.block 3 (.seq (.reg [oF 109 4 2,
 oE 110 1 109 [0],
 oM 111 7,
 ob 112 (.iaddr 6 110 111) [0, 1, 2],
 ob 113 (.faddr 0 112) [0, 1, 2, 3],
 oE 114 1 113 (rg 0 5),
 oF 115 4 3,
 oE 116 1 115 [6],
 oM 117 7,
 ob 118 (.iaddr 6 116 117) [6, 7, 8],
 ob 119 (.faddr 0 118) [6, 7, 8, 9],
 oE 120 1 119 (rg 6 11),
 ob 121 (.bin .lss 114 120) (rg 0 12),
 oF 122 4 2,
 oE 123 1 122 [13],
 oM 124 7,
 ob 125 (.iaddr 6 123 124) [13, 14, 15],
 ob 126 (.faddr 0 125) [13, 14, 15, 16],
 oE 127 1 126 (rg 13 18),
 oF 128 4 3,
 oE 129 1 128 [19],
 oM 130 7,
 ob 131 (.iaddr 6 129 130) [19, 20, 21],
 ob 132 (.faddr 0 131) [19, 20, 21, 22],
 oE 133 1 132 (rg 19 24),
 ob 134 (.bin .gtr 127 133) (rg 13 25),
 oD 135 230 ([121, 134]) (rg 0 26),
 ob 5 (.mov 135) (rg 0 27)] true)
 (.seq (.reg [oM 136 5,
 o 137 (.bin .eql 136 (.c zI))] false)
 (.cond 137 (.reg [oF 138 4 2,
 oE 139 1 138 [0],
 oM 140 7,
 ob 141 (.iaddr 6 139 140) [0, 1, 2],
 ob 142 (.faddr 1 141) [0, 1, 2, 3],
 ob 143 (.load 5 true 142) (rg 0 5),
 oF 144 4 3,
 oE 145 1 144 [6],
 oM 146 7,
 ob 147 (.iaddr 6 145 146) [6, 7, 8],
 ob 148 (.faddr 1 147) [6, 7, 8, 9],
 ob 149 (.load 5 true 148) (rg 6 11),
 oD 150 194 ([143, 149]) (rg 0 12),
 ob 5 (.mov 150) (rg 0 13)] true)
 (.skip)))))
 (.reg [oM 107 7,
 oA 108 107,
 oM 7 108] false))
def Qkn : List Nat := [100050, 2, 3, 5, 6]
def Q1n8 : IR :=
 .seq (.seq (.reg [oM 45 6,
 oF 46 3 2,
 oK 47 1 46,
 oN 48 47,
 o 49 (.bin .lss 45 48),
 oM 50 49,
 gT 51 50 (.mov 6),
 gT 52 50 (.faddr 3 3),
 gT 53 50 (.load 1 false 52),
 gT 54 50 (.len false 53),
 gT 55 50 (.bin .lss 51 54),
 oP 56 50 55,
 oM 57 56,
 gT 58 57 (.mov 5),
 gT 59 57 (.bin .eql 58 (.c zI)),
 oP 60 57 59] false)
 (.cond 60 (.skip)
 (.exit 0)))
 (.seq (.block 1 (.reg [oF 63 3 2,
 oE 64 1 63 [0],
 oM 65 6,
 ob 66 (.iaddr 5 64 65) [0, 1, 2],
 ob 67 (.load 5 true 66) [0, 1, 2, 3],
 oF 68 3 3,
 oE 69 1 68 [5],
 oM 70 6,
 ob 71 (.iaddr 5 69 70) [5, 6, 7],
 ob 72 (.load 5 true 71) [5, 6, 7, 8],
 oD 73 194 ([67, 72]) (rg 0 10),
 ob 5 (.mov 73) (rg 0 11)] true))
 (.reg [oM 61 6,
 oA 62 61,
 oM 6 62] false))
def Q22n : IR :=
 .seq (.reg [o 2 (.box 5 0),
 o 3 (.box 5 1),
 o 4 (.mov (.c zI))] false)
 (.seq (.reg [oF 8 0 2,
 oK 9 1 8,
 oF 10 0 3,
 oK 11 1 10,
 o 12 (.bin .lss 9 11),
 oF 13 0 2,
 oK 14 1 13,
 oF 15 0 3,
 oK 16 1 15,
 o 17 (.bin .gtr 14 16),
 oC 18 230 ([12, 17]),
 oM 5 18] false)
 (.seq (.seq (.reg [oM 19 5,
 o 20 (.bin .eql 19 (.c zI))] false)
 (.cond 20 (.reg [oF 21 1 2,
 oK 22 1 21,
 oF 23 1 3,
 oK 24 1 23,
 o 25 (.bin .lss 22 24),
 oF 26 1 2,
 oK 27 1 26,
 oF 28 1 3,
 oK 29 1 28,
 o 30 (.bin .gtr 27 29),
 oC 31 230 ([25, 30]),
 oM 5 31] false)
 (.skip)))
 (.seq (.seq (.reg [oM 32 5,
 o 33 (.bin .eql 32 (.c zI))] false)
 (.cond 33 (.reg [oF 34 2 2,
 oK 35 1 34,
 oF 36 2 3,
 oK 37 1 36,
 o 38 (.bin .lss 35 37),
 oF 39 2 2,
 oK 40 1 39,
 oF 41 2 3,
 oK 42 1 41,
 o 43 (.bin .gtr 40 42),
 oC 44 230 ([38, 43]),
 oM 5 44] false)
 (.skip)))
 (.seq (.seq (.reg [o 6 (.mov (.c zI))] false)
 (.block 0 (.loop Qkn Q1n8)))
 (.seq (.seq (.reg [oM 74 5,
 o 75 (.bin .eql 74 (.c zI))] false)
 (.cond 75 (.reg [oF 76 3 2,
 oK 77 1 76,
 oN 78 77,
 oF 79 3 3,
 oK 80 1 79,
 oN 81 80,
 o 82 (.bin .lss 78 81),
 oF 83 3 2,
 oK 84 1 83,
 oN 85 84,
 oF 86 3 3,
 oK 87 1 86,
 oN 88 87,
 o 89 (.bin .gtr 85 88),
 oC 90 230 ([82, 89]),
 oM 5 90] false)
 (.skip)))
 (.seq (.seq (.reg [o 7 (.mov (.c zI))] false)
 (.block 2 (.loop Qko Q1n9)))
 (.seq (.seq (.reg [oM 151 5,
 o 152 (.bin .eql 151 (.c zI))] false)
 (.cond 152 (.reg [oF 153 4 2,
 oK 154 1 153,
 oN 155 154,
 oF 156 4 3,
 oK 157 1 156,
 oN 158 157,
 o 159 (.bin .lss 155 158),
 oF 160 4 2,
 oK 161 1 160,
 oN 162 161,
 oF 163 4 3,
 oK 164 1 163,
 oN 165 164,
 o 166 (.bin .gtr 162 165),
 oC 167 230 ([159, 166]),
 oM 5 167] false)
 (.skip)))
 (.seq (.reg [oM 168 5,
 oM 4 168] false)
 (.ret)))))))))
def K1l : IFn := ⟨2, 169, [.tmp 4], false, Q22n⟩
def Ql4 : List Nat := [100052, 0, 2, 3, 4]
def Q1np : IR :=
 .seq (.seq (.reg [oM 5 4,
 oM 6 0,
 oN 7 6,
 o 8 (.bin .lss 5 7)] false)
 (.cond 8 (.skip)
 (.exit 0)))
 (.seq (.block 1 (.reg [oM 11 3,
 oM 12 0,
 oM 13 4,
 oI 14 1 12 13,
 oK 15 1 14,
 oC 16 164 ([15]),
 o 17 (.lit 5 1 zL1 [(0, 16)]),
 oJ 18 5 80 11 17,
 oM 3 18] false))
 (.reg [oM 9 4,
 oA 10 9,
 oM 4 10] false))
def Q23d : IR :=
 .seq (.reg [o 2 (.zero zL1)] false)
 (.seq (.reg [o 3 (.mov (.c (.ns 5)))] false)
 (.seq (.seq (.reg [o 4 (.mov (.c zI))] false)
 (.block 0 (.loop Ql4 Q1np)))
 (.seq (.reg [oM 19 3,
 o 20 (.build zL1 [(0, 1, .c (iN 4)), (3, 1, 19)]),
 oS 5 2 20] false)
 (.ret))))
def K2d : IFn := ⟨1, 21, [.cell 2 5 true], false, Q23d⟩
def Qkz : List Nat := [100053, 0, 2, 3, 4]
def Q1nk : IR :=
 .seq (.seq (.reg [oM 5 4,
 oM 6 0,
 oN 7 6,
 o 8 (.bin .lss 5 7)] false)
 (.cond 8 (.skip)
 (.exit 0)))
 (.seq (.block 1 (.reg [oM 11 3,
 oM 12 0,
 oM 13 4,
 oI 14 2 12 13,
 oL 15 2 14,
 oC 16 168 ([15]),
 o 17 (.lit 5 1 zL1 [(0, 16)]),
 oJ 18 5 80 11 17,
 oM 3 18] false))
 (.reg [oM 9 4,
 oA 10 9,
 oM 4 10] false))
def Q233 : IR :=
 .seq (.reg [o 2 (.zero zL1)] false)
 (.seq (.reg [o 3 (.mov (.c (.ns 5)))] false)
 (.seq (.seq (.reg [o 4 (.mov (.c zI))] false)
 (.block 0 (.loop Qkz Q1nk)))
 (.seq (.reg [oM 19 3,
 o 20 (.build zL1 [(0, 1, .c (iN 4)), (3, 1, 19)]),
 oS 5 2 20] false)
 (.ret))))
def K21 : IFn := ⟨1, 21, [.cell 2 5 true], false, Q233⟩
def Qm4 : List Nat := [100054, 3, 9, 18, 19, 20]
def Q1op : IR :=
 .seq (.reg [o 21 (.bin .lss 20 19)] false)
 (.seq (.cond 21 (.skip)
 (.exit 0))
 (.seq (.block 1 (.seq (.reg [oI 22 5 18 20,
 oL 23 5 22,
 o 11 (.zero zL1),
 oS 5 11 23] false)
 (.reg [oM 24 9,
 oM 25 3,
 oL 26 5 11,
 o 27 (.call false 25 [26]),
 o 28 (.lit 1 1 [zI] [(0, 27)]),
 oJ 29 1 8 24 28,
 oM 9 29] false)))
 (.reg [oA 30 20,
 oM 20 30] false)))
def Q26c : IR :=
 .seq (.reg [o 5 (.box 5 1),
 o 8 (.mov (.c (.ns 1)))] false)
 (.seq (.reg [o 9 (.mov (.c (.ns 1)))] false)
 (.seq (.seq (.reg [oM 12 0,
 oM 13 0,
 oL 14 5 5,
 oM 15 2,
 oC 16 76 ([13, 14, 15]),
 oC 17 174 ([12, 16, .c (iN 4)]),
 o 18 (.field 3 1 false 17),
 oN 19 18,
 o 20 (.mov (.c zI))] false)
 (.block 0 (.loop Qm4 Q1op)))
 (.seq (.reg [oM 31 9,
 oM 8 31] false)
 (.ret))))
def K6p : IFn := ⟨4, 32, [.tmp 8], false, Q26c⟩
def Q25u : IR :=
 .seq (.reg [o 2 (.box 5 0),
 o 3 (.mov (.c zI))] false)
 (.seq (.reg [oK 4 1 1,
 oL 5 5 2,
 oC 6 174 ([4, 5, .c (iN 2)]),
 o 7 (.field 1 1 false 6),
 oM 3 7] false)
 (.ret))
def K64 : IFn := ⟨2, 8, [.tmp 3], false, Q25u⟩
def Q22y : IR :=
 .seq (.reg [o 6 (.mov (.c (zS)))] false)
 (.seq (.reg [oM 7 0,
 o 8 (.bin .add 7 (.c (.str ⟨#[47]⟩))),
 oM 9 1,
 o 10 (.bin .add 8 9),
 o 11 (.bin .add 10 (.c (.str ⟨#[47]⟩))),
 oM 12 2,
 o 13 (.bin .add 11 12),
 oM 6 13] false)
 (.ret))
def K1w : IFn := ⟨3, 14, [.tmp 6], false, Q22y⟩
def Q23v : IR :=
 .seq (.reg [o 2 (.box 5 0),
 o 4 (.mov (.c zI)),
 o 5 (.mov (.c zB))] false)
 (.seq (.reg [oL 7 5 2,
 oM 8 1,
 oC 9 203 ([7, 8]),
 o 6 (.zero zL1),
 oS 5 6 9] false)
 (.seq (.seq (.reg [oF 10 0 6,
 oK 11 1 10,
 o 12 (.bin .eql 11 (.c (iN 2)))] false)
 (.cond 12 (.seq (.reg [oF 13 1 6,
 oK 14 1 13,
 oM 4 14,
 o 5 (.mov (.c (.bool true)))] false)
 (.ret))
 (.skip)))
 (.seq (.reg [oF 15 0 6,
 oE 16 1 15 [0],
 ob 17 (.bin .eql 16 (.c zI)) [0, 1],
 o 4 (.mov (.c zI)),
 ob 5 (.mov 17) [0, 1, 2, 3]] true)
 (.ret))))
def K32 : IFn := ⟨2, 18, [.tmp 4, .tmp 5], false, Q23v⟩
def Qlg : List Nat := [100055, 6, 7, 8, 9]
def Q1o1 : IR :=
 .seq (.seq (.reg [oM 22 9,
 oM 23 6,
 oN 24 23,
 o 25 (.bin .lss 22 24)] false)
 (.cond 25 (.skip)
 (.exit 0)))
 (.seq (.block 1 (.seq (.reg [oM 29 6,
 oM 30 9,
 oI 31 5 29 30,
 oL 32 5 31,
 oC 33 209 ([32, sA23]),
 oM 28 33,
 oX 34 28 0,
 oX 35 28 1,
 oM 10 34,
 oM 11 35] false)
 (.seq (.reg [oM 37 6,
 oM 38 9,
 oI 39 5 37 38,
 oL 40 5 39,
 oC 41 200 ([40, sA41]),
 oM 36 41,
 oX 42 36 0,
 oX 43 36 1,
 oM 12 42,
 oM 13 43] false)
 (.seq (.reg [oM 45 6,
 oM 46 9,
 oI 47 5 45 46,
 oL 48 5 47,
 oC 49 231 ([48, sA86]),
 oM 44 49,
 oX 50 44 0,
 oX 51 44 1,
 oM 14 50,
 oM 15 51] false)
 (.seq (.reg [oM 52 8,
 oM 53 10,
 oM 54 12,
 oM 55 14,
 o 56 (.build [zS, zI, .ns 1] [(0, 1, 53), (1, 1, 54), (2, 1, 55)]),
 o 57 (.lit 3 1 [zS, zI, .ns 1] [(0, 56)]),
 oJ 58 3 48 52 57,
 oM 8 58] false)
 (.reg [oM 59 7,
 oM 60 59,
 gT 61 60 (.mov 6),
 gT 62 60 (.mov 9),
 gT 63 60 (.iaddr 5 61 62),
 gT 64 60 (.load 5 true 63),
 gT 65 60 (.call false (.f 208) [64]),
 oP 66 60 65,
 oM 67 66,
 gT 68 67 (.mov 11),
 oP 69 67 68,
 oM 70 69,
 gT 71 70 (.mov 13),
 oP 72 70 71,
 oM 73 72,
 gT 74 73 (.mov 15),
 oP 75 73 74,
 oM 7 75] false))))))
 (.reg [oM 26 9,
 oA 27 26,
 oM 9 27] false))
def Q23y : IR :=
 .seq (.reg [o 2 (.box 5 0),
 o 4 (.mov (.c (.ns 3))),
 o 5 (.mov (.c zB))] false)
 (.seq (.reg [oL 17 5 2,
 oM 18 1,
 oC 19 207 ([17, 18]),
 oM 16 19,
 oX 20 16 0,
 oX 21 16 1,
 oM 6 20,
 oM 7 21] false)
 (.seq (.reg [o 8 (.mov (.c (.ns 3)))] false)
 (.seq (.seq (.reg [o 9 (.mov (.c zI))] false)
 (.block 0 (.loop Qlg Q1o1)))
 (.seq (.reg [oM 76 8,
 oM 77 7,
 oM 4 76,
 oM 5 77] false)
 (.ret)))))
def K35 : IFn := ⟨2, 78, [.tmp 4, .tmp 5], false, Q23y⟩
def Qlj : List Nat := [100056, 1, 2, 4, 5, 6, 7]
def Q1o4 : IR :=
 .seq (.seq (.reg [oM 20 7,
 oM 21 4,
 oN 22 21,
 o 23 (.bin .lss 20 22)] false)
 (.cond 23 (.skip)
 (.exit 0)))
 (.seq (.block 1 (.seq (.reg [oM 27 4,
 oM 28 7,
 oI 29 5 27 28,
 oL 30 5 29,
 oC 31 209 ([30, sA23]),
 oM 26 31,
 oX 32 26 0,
 oX 33 26 1,
 oM 8 32,
 oM 9 33] false)
 (.seq (.reg [oM 35 4,
 oM 36 7,
 oI 37 5 35 36,
 oL 38 5 37,
 oC 39 209 ([38, sA87]),
 oM 34 39,
 oX 40 34 0,
 oX 41 34 1,
 oM 10 40,
 oM 11 41] false)
 (.seq (.reg [oF 42 0 6,
 oK 43 1 42,
 oM 44 8,
 oM 45 10,
 o 46 (.build [zS, zS] [(0, 1, 44), (1, 1, 45)]),
 o 47 (.lit 2 1 [zS, zS] [(0, 46)]),
 oJ 48 2 32 43 47,
 oF 49 0 6,
 oS 1 49 48] false)
 (.reg [oM 50 5,
 oM 51 50,
 gT 52 51 (.mov 4),
 gT 53 51 (.mov 7),
 gT 54 51 (.iaddr 5 52 53),
 gT 55 51 (.load 5 true 54),
 gT 56 51 (.call false (.f 208) [55]),
 oP 57 51 56,
 oM 58 57,
 gT 59 58 (.mov 9),
 oP 60 58 59,
 oM 61 60,
 gT 62 61 (.mov 11),
 oP 63 61 62,
 oM 5 63] false)))))
 (.reg [oM 24 7,
 oA 25 24,
 oM 7 25] false))
def Q242 : IR :=
 .seq (.reg [o 1 (.box 5 0),
 o 2 (.zero [.ns 2, zS, zI, zI, zI, .ns 11, .ns 3, .ns 3, .ns 5, .ns 4, .ns 5]),
 o 3 (.mov (.c zI))] false)
 (.seq (.reg [oL 15 5 1,
 oC 16 207 ([15, sA27]),
 oM 14 16,
 oX 17 14 0,
 oX 18 14 1,
 oM 4 17,
 oM 5 18] false)
 (.seq (.reg [o 19 (.build [.ns 2, zS, zI, zI, zI, .ns 11, .ns 3, .ns 3, .ns 5, .ns 4, .ns 5] []),
 o 6 (.zero [.ns 2, zS, zI, zI, zI, .ns 11, .ns 3, .ns 3, .ns 5, .ns 4, .ns 5]),
 oS 11 6 19] false)
 (.seq (.seq (.reg [o 7 (.mov (.c zI))] false)
 (.block 0 (.loop Qlj Q1o4)))
 (.seq (.reg [oL 65 5 1,
 oC 66 203 ([65, sA62]),
 oC 67 232 ([66]),
 oM 64 67,
 oX 68 64 0,
 oX 69 64 1,
 o 12 (.zero zL11),
 oS 10 12 68,
 oM 13 69] false)
 (.seq (.seq (.reg [oM 70 5,
 oU 71 70,
 oM 72 71,
 gF 73 72 (.mov 13),
 gF 74 72 (.un .not 73),
 oQ 75 72 74,
 oM 76 75,
 gF 77 76 (.load 5 true 1),
 gF 78 76 (.call false (.f 208) [77]),
 gF 79 76 (.un .not 78),
 oQ 80 76 79] false)
 (.cond 80 (.seq (.reg [o 81 (.build [.ns 2, zS, zI, zI, zI, .ns 11, .ns 3, .ns 3, .ns 5, .ns 4, .ns 5] []),
 oS 11 2 81,
 o 3 (.mov (.c (iN 6)))] false)
 (.ret))
 (.skip)))
 (.seq (.reg [oL 82 10 12,
 oF 83 1 6,
 oS 10 83 82] false)
 (.seq (.reg [oL 84 11 6,
 oS 11 2 84,
 o 3 (.mov (.c zI))] false)
 (.ret))))))))
def K39 : IFn := ⟨1, 85, [.cell 2 11 true, .tmp 3], false, Q242⟩
def Qlf : List Nat := [100057, 1, 2, 4, 5]
def Q1o0 : IR :=
 .seq (.seq (.reg [oM 6 5,
 oF 7 4 2,
 oK 8 1 7,
 oN 9 8,
 o 10 (.bin .lss 6 9)] false)
 (.cond 10 (.skip)
 (.exit 0)))
 (.seq (.block 1 (.seq (.reg [oF 13 0 2,
 oK 14 1 13,
 o 15 (.bin .eql 14 (.c (iN 5))),
 oM 16 15,
 gT 17 16 (.faddr 4 2),
 gT 18 16 (.load 1 false 17),
 gT 19 16 (.mov 5),
 gT 20 16 (.iaddr 6 18 19),
 gT 21 16 (.faddr 0 20),
 gT 22 16 (.load 1 false 21),
 gT 23 16 (.mov 1),
 gT 24 16 (.bin .eql 22 23),
 oP 25 16 24] false)
 (.cond 25 (.seq (.reg [oF 26 4 2,
 oK 27 1 26,
 oM 28 5,
 oI 29 6 27 28,
 oF 30 1 29,
 oL 31 5 30,
 oS 5 4 31] false)
 (.ret))
 (.skip))))
 (.reg [oM 11 5,
 oA 12 11,
 oM 5 12] false))
def Q23x : IR :=
 .seq (.reg [o 2 (.box 5 0),
 o 4 (.zero zL1)] false)
 (.seq (.seq (.reg [o 5 (.mov (.c zI))] false)
 (.block 0 (.loop Qlf Q1o0)))
 (.seq (.reg [o 32 (.build zL1 []),
 oS 5 4 32] false)
 (.ret)))
def K34 : IFn := ⟨2, 33, [.cell 4 5 true], false, Q23x⟩
def Q243 : IR :=
 .seq (.reg [o 2 (.box 5 0),
 o 4 (.mov (.c zB)),
 o 5 (.mov (.c zB))] false)
 (.seq (.reg [oL 7 5 2,
 oM 8 1,
 oC 9 203 ([7, 8]),
 o 6 (.zero zL1),
 oS 5 6 9] false)
 (.seq (.seq (.reg [oF 10 0 6,
 oK 11 1 10,
 o 12 (.bin .eql 11 (.c (iN 1)))] false)
 (.cond 12 (.seq (.reg [oF 13 1 6,
 oK 14 1 13,
 o 15 (.bin .neq 14 (.c zI)),
 oM 4 15,
 o 5 (.mov (.c (.bool true)))] false)
 (.ret))
 (.skip)))
 (.seq (.reg [oF 16 0 6,
 oE 17 1 16 [0],
 ob 18 (.bin .eql 17 (.c zI)) [0, 1],
 o 4 (.mov (.c zB)),
 ob 5 (.mov 18) [0, 1, 2, 3]] true)
 (.ret))))
def K3a : IFn := ⟨2, 19, [.tmp 4, .tmp 5], false, Q243⟩
def Q14f : List Nat := [100058, 3, 9, 18, 19, 20]
def Q1vm : IR :=
 .seq (.reg [o 21 (.bin .lss 20 19)] false)
 (.seq (.cond 21 (.skip)
 (.exit 0))
 (.seq (.block 1 (.seq (.reg [oI 22 5 18 20,
 oL 23 5 22,
 o 11 (.zero zL1),
 oS 5 11 23] false)
 (.reg [oM 24 9,
 oM 25 3,
 oL 26 5 11,
 o 27 (.call false 25 [26]),
 o 28 (.lit 3 1 [zS, zI, zI] [(0, 27)]),
 oJ 29 3 32 24 28,
 oM 9 29] false)))
 (.reg [oA 30 20,
 oM 20 30] false)))
def Q26d : IR :=
 .seq (.reg [o 5 (.box 5 1),
 o 8 (.mov (.c (.ns 3)))] false)
 (.seq (.reg [o 9 (.mov (.c (.ns 3)))] false)
 (.seq (.seq (.reg [oM 12 0,
 oM 13 0,
 oL 14 5 5,
 oM 15 2,
 oC 16 76 ([13, 14, 15]),
 oC 17 174 ([12, 16, .c (iN 4)]),
 o 18 (.field 3 1 false 17),
 oN 19 18,
 o 20 (.mov (.c zI))] false)
 (.block 0 (.loop Q14f Q1vm)))
 (.seq (.reg [oM 31 9,
 oM 8 31] false)
 (.ret))))
def K6q : IFn := ⟨4, 32, [.tmp 8], false, Q26d⟩
def Q25y : IR :=
 .seq (.reg [o 2 (.box 5 0),
 o 3 (.zero [zS, zI, zI])] false)
 (.seq (.reg [oK 4 1 1,
 oL 5 5 2,
 oD 6 89 ([4, 5, sA39]) [0, 1],
 oK 7 1 1,
 oL 8 5 2,
 oD 9 71 ([7, 8, .c (.str ⟨#[112, 111, 114, 116]⟩)]) (rg 0 5),
 oK 10 1 1,
 oL 11 5 2,
 oD 12 71 ([10, 11, sA79]) (rg 0 8),
 ob 13 (.build [zS, zI, zI] [(0, 1, 6), (1, 1, 9), (2, 1, 12)]) (rg 0 9),
 ⟨none, none, .store 3 3 13, (rg 0 10)⟩] true)
 (.ret))
def K68 : IFn := ⟨2, 14, [.cell 3 3 true], false, Q25y⟩
def Q23u : IR :=
 .seq (.reg [o 2 (.box 5 0),
 o 4 (.mov (.c (.ns 5))),
 o 5 (.mov (.c zB))] false)
 (.seq (.reg [oL 7 5 2,
 oM 8 1,
 oC 9 203 ([7, 8]),
 o 6 (.zero zL1),
 oS 5 6 9] false)
 (.seq (.seq (.reg [oF 10 0 6,
 oK 11 1 10,
 o 12 (.bin .eql 11 (.c (iN 4)))] false)
 (.cond 12 (.seq (.reg [oF 13 3 6,
 oK 14 1 13,
 oM 4 14,
 o 5 (.mov (.c (.bool true)))] false)
 (.ret))
 (.skip)))
 (.seq (.reg [oF 15 0 6,
 oE 16 1 15 [0],
 ob 17 (.bin .eql 16 (.c zI)) [0, 1],
 o 4 (.mov (.c (.ns 5))),
 ob 5 (.mov 17) [0, 1, 2, 3]] true)
 (.ret))))
def K31 : IFn := ⟨2, 18, [.tmp 4, .tmp 5], false, Q23u⟩
def Q23w : IR :=
 .seq (.reg [o 1 (.box 5 0),
 o 2 (.mov (.c zB))] false)
 (.seq (.reg [oF 3 0 1,
 oK 4 1 3,
 o 5 (.bin .eql 4 (.c (iN 5))),
 oM 6 5,
 gF 7 6 (.faddr 0 1),
 gF 8 6 (.load 1 false 7),
 gF 9 6 (.bin .eql 8 (.c zI)),
 oQ 10 6 9,
 oM 2 10] false)
 (.ret))
def K33 : IFn := ⟨1, 11, [.tmp 2], false, Q23w⟩
def Q23z : IR :=
 .seq (.reg [o 2 (.box 5 0),
 o 4 (.mov (.c (zS))),
 o 5 (.mov (.c zB))] false)
 (.seq (.reg [oL 7 5 2,
 oM 8 1,
 oC 9 203 ([7, 8]),
 o 6 (.zero zL1),
 oS 5 6 9] false)
 (.seq (.seq (.reg [oF 10 0 6,
 oK 11 1 10,
 o 12 (.bin .eql 11 (.c (iN 3)))] false)
 (.cond 12 (.seq (.reg [oF 13 2 6,
 oK 14 1 13,
 oM 4 14,
 o 5 (.mov (.c (.bool true)))] false)
 (.ret))
 (.skip)))
 (.seq (.reg [oF 15 0 6,
 oE 16 1 15 [0],
 ob 17 (.bin .eql 16 (.c zI)) [0, 1],
 o 4 (.mov (.c (zS))),
 ob 5 (.mov 17) [0, 1, 2, 3]] true)
 (.ret))))
def K36 : IFn := ⟨2, 18, [.tmp 4, .tmp 5], false, Q23z⟩
def Q23m : IR :=
 .seq (.reg [o 1 (.box 3 0),
 o 2 (.zero zL1)] false)
 (.seq (.reg [oF 3 0 1,
 oE 4 1 3 [0],
 oD 5 164 ([4]) [0, 1],
 ob 6 (.build zL0 [(0, 1, Q1cm), (1, 5, 5)]) [0, 1, 2],
 oF 7 1 1,
 oE 8 1 7 [4],
 oD 9 164 ([8]) [0, 1, 2, 4, 5],
 ob 10 (.build zL0 [(0, 1, sA28), (1, 5, 9)]) [0, 1, 2, 4, 5, 6],
 oF 11 2 1,
 oE 12 1 11 [8],
 oD 13 164 ([12]) [0, 1, 2, 4, 5, 6, 8, 9],
 ob 14 (.build zL0 [(0, 1, sA3), (1, 5, 13)]) [0, 1, 2, 4, 5, 6, 8, 9, 10],
 ob 15 (.lit 6 3 zL0 [(0, 6), (1, 10), (2, 14)]) (rg 0 12),
 oD 16 163 ([15]) (rg 0 13),
 ⟨none, none, .store 5 2 16, (rg 0 14)⟩] true)
 (.ret))
def K2r : IFn := ⟨1, 17, [.cell 2 5 true], false, Q23m⟩
def Qld : List Nat := [100060, 0, 2, 3, 4]
def Q1ny : IR :=
 .seq (.seq (.reg [oM 5 4,
 oM 6 0,
 oN 7 6,
 o 8 (.bin .lss 5 7)] false)
 (.cond 8 (.skip)
 (.exit 0)))
 (.seq (.block 1 (.reg [oM 11 3,
 oM 12 0,
 oM 13 4,
 oI 14 1 12 13,
 oK 15 1 14,
 oC 16 169 ([15]),
 o 17 (.lit 5 1 zL1 [(0, 16)]),
 oJ 18 5 80 11 17,
 oM 3 18] false))
 (.reg [oM 9 4,
 oA 10 9,
 oM 4 10] false))
def Q23q : IR :=
 .seq (.reg [o 2 (.zero zL1)] false)
 (.seq (.reg [o 3 (.mov (.c (.ns 5)))] false)
 (.seq (.seq (.reg [o 4 (.mov (.c zI))] false)
 (.block 0 (.loop Qld Q1ny)))
 (.seq (.reg [oM 19 3,
 o 20 (.build zL1 [(0, 1, .c (iN 4)), (3, 1, 19)]),
 oS 5 2 20] false)
 (.ret))))
def K2x : IFn := ⟨1, 21, [.cell 2 5 true], false, Q23q⟩
def Ql5 : List Nat := [100061, 0, 2, 3, 4]
def Q1nq : IR :=
 .seq (.seq (.reg [oM 5 4,
 oM 6 0,
 oN 7 6,
 o 8 (.bin .lss 5 7)] false)
 (.cond 8 (.skip)
 (.exit 0)))
 (.seq (.block 1 (.reg [oM 11 3,
 oM 12 0,
 oM 13 4,
 ob 14 (.iaddr 2 12 13) [1, 2],
 ob 15 (.faddr 0 14) [1, 2, 3],
 oE 16 1 15 [1, 2, 3, 4],
 oD 17 169 ([16]) (rg 1 6),
 ob 18 (.build zL0 [(0, 1, sA23), (1, 5, 17)]) (rg 1 7),
 oM 19 0,
 oM 20 4,
 ob 21 (.iaddr 2 19 20) [8, 9],
 ob 22 (.faddr 1 21) [8, 9, 10],
 oE 23 1 22 [8, 9, 10, 11],
 oD 24 169 ([23]) (rg 1 7 ++ rg 8 13),
 ob 25 (.build zL0 [(0, 1, sA87), (1, 5, 24)]) (rg 1 7 ++ rg 8 14),
 ob 26 (.lit 6 2 zL0 [(0, 18), (1, 25)]) (rg 1 15),
 oD 27 163 ([26]) (rg 1 16),
 ob 28 (.lit 5 1 zL1 [(0, 27)]) (rg 1 17),
 ob 29 (.append 5 80 11 28) (rg 0 18),
 ob 3 (.mov 29) (rg 0 19)] true))
 (.reg [oM 9 4,
 oA 10 9,
 oM 4 10] false))
def Q23g : IR :=
 .seq (.reg [o 2 (.zero zL1)] false)
 (.seq (.reg [o 3 (.mov (.c (.ns 5)))] false)
 (.seq (.seq (.reg [o 4 (.mov (.c zI))] false)
 (.block 0 (.loop Ql5 Q1nq)))
 (.seq (.reg [oM 30 3,
 o 31 (.build zL1 [(0, 1, .c (iN 4)), (3, 1, 30)]),
 oS 5 2 31] false)
 (.ret))))
def K2g : IFn := ⟨1, 32, [.cell 2 5 true], false, Q23g⟩
def Q23j : IR :=
 .seq (.reg [o 1 (.box 10 0),
 o 2 (.zero zL1)] false)
 (.seq (.reg [oF 3 0 1,
 oE 4 1 3 [0],
 oD 5 169 ([4]) [0, 1],
 ob 6 (.build zL0 [(0, 1, sA38), (1, 5, 5)]) [0, 1, 2],
 oF 7 1 1,
 oE 8 1 7 [4],
 oD 9 164 ([8]) [0, 1, 2, 4, 5],
 ob 10 (.build zL0 [(0, 1, sA48), (1, 5, 9)]) [0, 1, 2, 4, 5, 6],
 oF 11 2 1,
 oE 12 1 11 [8],
 oD 13 164 ([12]) [0, 1, 2, 4, 5, 6, 8, 9],
 ob 14 (.build zL0 [(0, 1, sA55), (1, 5, 13)]) [0, 1, 2, 4, 5, 6, 8, 9, 10],
 oF 15 3 1,
 oE 16 1 15 [12],
 oD 17 164 ([16]) [0, 1, 2, 4, 5, 6, 8, 9, 10, 12, 13],
 ob 18 (.build zL0 [(0, 1, sA14), (1, 5, 17)]) [0, 1, 2, 4, 5, 6, 8, 9, 10, 12, 13, 14],
 oF 19 4 1,
 oE 20 1 19 [16],
 oD 21 233 ([20]) [0, 1, 2, 4, 5, 6, 8, 9, 10, 12, 13, 14, 16, 17],
 ob 22 (.build zL0 [(0, 1, Q1r4), (1, 5, 21)]) [0, 1, 2, 4, 5, 6, 8, 9, 10, 12, 13, 14, 16, 17, 18],
 oF 23 5 1,
 oE 24 1 23 [20],
 oD 25 165 ([24]) [0, 1, 2, 4, 5, 6, 8, 9, 10, 12, 13, 14, 16, 17, 18, 20, 21],
 ob 26 (.build zL0 [(0, 1, sA36), (1, 5, 25)]) [0, 1, 2, 4, 5, 6, 8, 9, 10, 12, 13, 14, 16, 17, 18, 20, 21, 22],
 oF 27 6 1,
 oE 28 1 27 [24],
 oD 29 234 ([28]) [0, 1, 2, 4, 5, 6, 8, 9, 10, 12, 13, 14, 16, 17, 18, 20, 21, 22, 24, 25],
 ob 30 (.build zL0 [(0, 1, sA37), (1, 5, 29)]) [0, 1, 2, 4, 5, 6, 8, 9, 10, 12, 13, 14, 16, 17, 18, 20, 21, 22, 24, 25, 26],
 oF 31 7 1,
 oE 32 1 31 [28],
 oD 33 235 ([32]) [0, 1, 2, 4, 5, 6, 8, 9, 10, 12, 13, 14, 16, 17, 18, 20, 21, 22, 24, 25, 26, 28, 29],
 ob 34 (.build zL0 [(0, 1, sA46), (1, 5, 33)]) [0, 1, 2, 4, 5, 6, 8, 9, 10, 12, 13, 14, 16, 17, 18, 20, 21, 22, 24, 25, 26, 28, 29, 30],
 oF 35 8 1,
 oE 36 1 35 [32],
 oD 37 236 ([36]) [0, 1, 2, 4, 5, 6, 8, 9, 10, 12, 13, 14, 16, 17, 18, 20, 21, 22, 24, 25, 26, 28, 29, 30, 32, 33],
 ob 38 (.build zL0 [(0, 1, sA63), (1, 5, 37)]) [0, 1, 2, 4, 5, 6, 8, 9, 10, 12, 13, 14, 16, 17, 18, 20, 21, 22, 24, 25, 26, 28, 29, 30, 32, 33, 34],
 oF 39 9 1,
 oE 40 1 39 [36],
 oD 41 237 ([40]) [0, 1, 2, 4, 5, 6, 8, 9, 10, 12, 13, 14, 16, 17, 18, 20, 21, 22, 24, 25, 26, 28, 29, 30, 32, 33, 34, 36, 37],
 ob 42 (.build zL0 [(0, 1, sA76), (1, 5, 41)]) [0, 1, 2, 4, 5, 6, 8, 9, 10, 12, 13, 14, 16, 17, 18, 20, 21, 22, 24, 25, 26, 28, 29, 30, 32, 33, 34, 36, 37, 38],
 ob 43 (.lit 6 10 zL0 [(0, 6), (1, 10), (2, 14), (3, 18), (4, 22), (5, 26), (6, 30), (7, 34), (8, 38), (9, 42)]) (rg 0 40),
 oD 44 163 ([43]) (rg 0 41),
 ⟨none, none, .store 5 2 44, (rg 0 42)⟩] true)
 (.ret))
def K2k : IFn := ⟨1, 45, [.cell 2 5 true], false, Q23j⟩
def Ko_c : IR :=
 .seq (.reg [o 3 (.box 5 1),
 o 4 (.zero zL1)] false)
 (.seq (.reg [oM 5 0,
 oM 6 0,
 o 7 (.nilck 6),
 oF 8 0 7,
 oK 9 1 8,
 oM 10 9,
 gF 11 10 (.faddr 0 3),
 gF 12 10 (.load 1 false 11),
 gF 13 10 (.bin .neq 12 (.c (iN 5))),
 gF 14 10 (.mov 13),
 gT 15 14 (.faddr 0 3),
 gT 16 14 (.load 1 false 15),
 gT 17 14 (.bin .neq 16 (.c zI)),
 gF 18 10 (.pick 14 17 (.c zB)),
 oQ 19 10 18,
 o 20 (.nilck 5),
 oF 21 0 20,
 oS 1 21 19] false)
 (.seq (.reg [oL 22 5 3,
 oS 5 4 22] false)
 (.ret)))
def Ko : IFn := ⟨2, 23, [.cell 4 5 true], false, Ko_c⟩
def Qri : List Nat := [100062, 3, 9, 16, 17, 18]
def Q1vo : IR :=
 .seq (.reg [o 19 (.bin .lss 18 17)] false)
 (.seq (.cond 19 (.skip)
 (.exit 0))
 (.seq (.block 1 (.seq (.reg [oI 20 5 16 18,
 oL 21 5 20,
 o 11 (.zero zL1),
 oS 5 11 21] false)
 (.reg [oM 22 9,
 oM 23 3,
 oL 24 5 11,
 o 25 (.call false 23 [24]),
 o 26 (.lit 2 1 [zS, zS] [(0, 25)]),
 oJ 27 2 32 22 26,
 oM 9 27] false)))
 (.reg [oA 28 18,
 oM 18 28] false)))
def Ks_c : IR :=
 .seq (.reg [o 5 (.box 5 1),
 o 8 (.mov (.c (.ns 2)))] false)
 (.seq (.reg [o 9 (.mov (.c (.ns 2)))] false)
 (.seq (.seq (.reg [oM 12 0,
 oL 13 5 5,
 oM 14 2,
 oC 15 238 ([12, 13, 14, .c (iN 4)]),
 o 16 (.field 3 1 false 15),
 oN 17 16,
 o 18 (.mov (.c zI))] false)
 (.block 0 (.loop Qri Q1vo)))
 (.seq (.reg [oM 29 9,
 oM 8 29] false)
 (.ret))))
def Ks : IFn := ⟨4, 30, [.tmp 8], false, Ks_c⟩
def Ke_c : IR :=
 .seq (.reg [o 3 (.box 5 1),
 o 4 (.zero [zS, zS])] false)
 (.seq (.reg [oM 5 0,
 oL 6 5 3,
 oC 7 215 ([5, 6])] false)
 (.seq (.reg [oM 8 0,
 oL 9 5 3,
 oD 10 239 ([8, 9, sA23]) [0, 1],
 oM 11 0,
 oL 12 5 3,
 oD 13 239 ([11, 12, sA87]) (rg 0 5),
 ob 14 (.build [zS, zS] [(0, 1, 10), (1, 1, 13)]) (rg 0 6),
 ⟨none, none, .store 2 4 14, (rg 0 7)⟩] true)
 (.ret)))
def Ke : IFn := ⟨2, 15, [.cell 4 2 true], false, Ke_c⟩
def Kl_c : IR :=
 .seq (.reg [o 3 (.box 5 1),
 o 4 (.zero zL11)] false)
 (.seq (.reg [oM 5 0,
 oL 6 5 3,
 oC 7 215 ([5, 6])] false)
 (.seq (.reg [oM 8 0,
 oL 9 5 3,
 oD 10 239 ([8, 9, sA38]) [0, 1],
 oM 11 0,
 oL 12 5 3,
 oD 13 240 ([11, 12, sA48]) (rg 0 5),
 oM 14 0,
 oL 15 5 3,
 oD 16 240 ([14, 15, sA55]) (rg 0 8),
 oM 17 0,
 oL 18 5 3,
 oD 19 240 ([17, 18, sA14]) (rg 0 11),
 oM 20 0,
 oL 21 5 3,
 oM 22 0,
 ob 23 (.mkfn 242 [22] []) [14],
 oD 24 241 ([20, 21, Q1r4, 23]) (rg 0 16),
 oM 25 0,
 oL 26 5 3,
 oM 27 0,
 ob 28 (.mkfn 244 [27] []) [19],
 oD 29 243 ([25, 26, sA36, 28]) (rg 0 21),
 oM 30 0,
 oL 31 5 3,
 oM 32 0,
 ob 33 (.mkfn 246 [32] []) [24],
 oD 34 245 ([30, 31, sA37, 33]) (rg 0 26),
 oM 35 0,
 oL 36 5 3,
 oM 37 0,
 ob 38 (.mkfn 248 [37] []) [29],
 oD 39 247 ([35, 36, sA46, 38]) (rg 0 31),
 oM 40 0,
 oL 41 5 3,
 oM 42 0,
 ob 43 (.mkfn 250 [42] []) [34],
 oD 44 249 ([40, 41, sA63, 43]) (rg 0 36),
 oM 45 0,
 oL 46 5 3,
 oM 47 0,
 ob 48 (.mkfn 252 [47] []) [39],
 oD 49 251 ([45, 46, sA76, 48]) (rg 0 41),
 ob 50 (.build zL11 [(0, 1, 10), (1, 1, 13), (2, 1, 16), (3, 1, 19), (4, 1, 24), (5, 1, 29), (6, 1, 34), (7, 1, 39), (8, 1, 44), (9, 1, 49)]) (rg 0 42),
 ⟨none, none, .store 10 4 50, (rg 0 43)⟩] true)
 (.ret)))
def Kl : IFn := ⟨2, 51, [.cell 4 10 true], false, Kl_c⟩
def Kp_c : IR :=
 .seq (.reg [o 4 (.box 5 1),
 o 6 (.zero zL1)] false)
 (.seq (.reg [oM 7 0,
 oL 8 5 4,
 oM 9 2,
 oC 10 238 ([7, 8, 9, .c (iN 5)]),
 oS 5 6 10] false)
 (.ret))
def Kp : IFn := ⟨3, 11, [.cell 6 5 true], false, Kp_c⟩
def Q14d : List Nat := [100065, 0, 1, 2, 6, 7, 8]
def Q1vk : IR :=
 .seq (.seq (.reg [oM 33 8,
 oM 34 1,
 o 35 (.bin .leq 33 34)] false)
 (.cond 35 (.skip)
 (.exit 4)))
 (.block 5 (.seq (.reg [oM 36 0,
 oM 37 7,
 oM 38 7,
 oM 39 6,
 o 40 (.bin .add 38 39),
 oM 41 8,
 oM 42 2,
 oC 43 254 ([36, 37, 40, 41, 42])] false)
 (.seq (.reg [oM 44 8,
 oM 7 44] false)
 (.reg [oM 45 8,
 oM 46 6,
 o 47 (.bin .mul (.c (iN 2)) 46),
 o 48 (.bin .add 45 47),
 oM 8 48] false))))
def Q14c : List Nat := [100064, 0, 1, 2, 6]
def Q1vj : IR :=
 .seq (.seq (.reg [oM 28 6,
 oM 29 1,
 o 30 (.bin .lss 28 29)] false)
 (.cond 30 (.skip)
 (.exit 2)))
 (.block 3 (.seq (.reg [oM 31 6,
 o 32 (.bin .mul (.c (iN 2)) 31),
 o 7 (.mov (.c zI)),
 oM 8 32] false)
 (.seq (.block 4 (.loop Q14d Q1vk))
 (.seq (.seq (.reg [oM 49 7,
 oM 50 6,
 o 51 (.bin .add 49 50),
 oM 9 51] false)
 (.seq (.reg [oM 52 9,
 oM 53 1,
 o 54 (.bin .lss 52 53)] false)
 (.cond 54 (.reg [oM 55 0,
 oM 56 7,
 oM 57 9,
 oM 58 1,
 oM 59 2,
 oC 60 254 ([55, 56, 57, 58, 59])] false)
 (.skip))))
 (.reg [oM 61 6,
 o 62 (.bin .mul 61 (.c (iN 2))),
 oM 6 62] false)))))
def Q14b : List Nat := [100063, 0, 1, 2, 6, 7, 8]
def Q1vi : IR :=
 .seq (.seq (.reg [oM 11 8,
 oM 12 1,
 o 13 (.bin .leq 11 12)] false)
 (.cond 13 (.skip)
 (.exit 0)))
 (.block 1 (.seq (.reg [oM 14 0,
 oM 15 7,
 oM 16 8,
 oM 17 2,
 o 18 (.call true (.f 253) [14, 15, 16, 17])] false)
 (.seq (.reg [oM 19 8,
 oM 7 19] false)
 (.reg [oM 20 8,
 oM 21 6,
 o 22 (.bin .add 20 21),
 oM 8 22] false))))
def Q256 : IR :=
 .seq (.reg [o 6 (.mov (.c (iN 20)))] false)
 (.seq (.reg [oM 10 6,
 o 7 (.mov (.c zI)),
 oM 8 10] false)
 (.seq (.block 0 (.loop Q14b Q1vi))
 (.seq (.reg [oM 23 0,
 oM 24 7,
 oM 25 1,
 oM 26 2,
 o 27 (.call true (.f 253) [23, 24, 25, 26])] false)
 (.block 2 (.loop Q14c Q1vj)))))
def K4u : IFn := ⟨3, 63, [], false, Q256⟩
def Q22v : IR :=
 .seq (.reg [o 4 (.mov (.c zI))] false)
 (.seq (.seq (.reg [oM 5 0] false)
 (.cond 5 (.seq (.reg [o 4 (.mov (.c (iN (-1))))] false)
 (.ret))
 (.skip)))
 (.seq (.seq (.reg [oM 6 1] false)
 (.cond 6 (.seq (.reg [o 4 (.mov (.c (iN 1)))] false)
 (.ret))
 (.skip)))
 (.seq (.reg [o 4 (.mov (.c zI))] false)
 (.ret))))
def K1t : IFn := ⟨2, 7, [.tmp 4], false, Q22v⟩
def Qlh : List Nat := [100069, 6, 7, 8, 9]
def Q1o2 : IR :=
 .seq (.seq (.reg [oM 16 9,
 oM 17 6,
 oN 18 17,
 o 19 (.bin .lss 16 18)] false)
 (.cond 19 (.skip)
 (.exit 0)))
 (.seq (.block 1 (.seq (.reg [oM 22 8,
 oM 23 6,
 oM 24 9,
 oI 25 5 23 24,
 oF 26 2 25,
 oK 27 1 26,
 o 28 (.lit 1 1 [zS] [(0, 27)]),
 oJ 29 1 16 22 28,
 oM 8 29] false)
 (.seq (.reg [oM 30 7,
 oM 31 30,
 gT 32 31 (.mov 6),
 gT 33 31 (.mov 9),
 gT 34 31 (.iaddr 5 32 33),
 gT 35 31 (.faddr 0 34),
 gT 36 31 (.load 1 false 35),
 gT 37 31 (.bin .eql 36 (.c (iN 3))),
 gT 38 31 (.mov 37),
 gF 39 38 (.mov 6),
 gF 40 38 (.mov 9),
 gF 41 38 (.iaddr 5 39 40),
 gF 42 38 (.faddr 0 41),
 gF 43 38 (.load 1 false 42),
 gF 44 38 (.bin .eql 43 (.c zI)),
 gT 45 31 (.pick 38 (.c (.bool true)) 44),
 oP 46 31 45,
 oM 7 46] false)
 (.seq (.reg [oM 47 6,
 oM 48 9,
 oI 49 5 47 48,
 oF 50 0 49,
 oK 51 1 50,
 o 52 (.bin .eql 51 (.c zI))] false)
 (.cond 52 (.reg [oM 53 8,
 oM 54 9,
 oI 55 1 53 54,
 ⟨none, none, .store 1 55 (.c (zS)), []⟩] false)
 (.skip))))))
 (.reg [oM 20 9,
 oA 21 20,
 oM 9 21] false))
def Q240 : IR :=
 .seq (.reg [o 2 (.box 5 0),
 o 4 (.mov (.c (.ns 1))),
 o 5 (.mov (.c zB))] false)
 (.seq (.reg [oL 11 5 2,
 oM 12 1,
 oC 13 207 ([11, 12]),
 oM 10 13,
 oX 14 10 0,
 oX 15 10 1,
 oM 6 14,
 oM 7 15] false)
 (.seq (.reg [o 8 (.mov (.c (.ns 1)))] false)
 (.seq (.seq (.reg [o 9 (.mov (.c zI))] false)
 (.block 0 (.loop Qlh Q1o2)))
 (.seq (.reg [oM 56 8,
 oM 57 7,
 oM 4 56,
 oM 5 57] false)
 (.ret)))))
def K37 : IFn := ⟨2, 58, [.tmp 4, .tmp 5], false, Q240⟩
def Qli : List Nat := [100070, 1, 2, 4, 5, 26]
def Q1o3 : IR :=
 .seq (.seq (.reg [oM 119 26,
 o 120 (.bin .lss 119 (.c (iN 10)))] false)
 (.cond 120 (.skip)
 (.exit 0)))
 (.seq (.block 1 (.seq (.reg [oM 123 26,
 o 124 (.aaddr 10 1 5 123),
 oK 125 1 124,
 oU 126 125] false)
 (.cond 126 (.seq (.reg [o 127 (.build zL11 []),
 oS 10 2 127,
 o 3 (.mov (.c zB))] false)
 (.ret))
 (.skip))))
 (.reg [oM 121 26,
 oA 122 121,
 oM 26 122] false))
def Q241 : IR :=
 .seq (.reg [o 1 (.box 5 0),
 o 2 (.zero zL11),
 o 3 (.mov (.c zB))] false)
 (.seq (.reg [o 27 (.build zL11 []),
 o 4 (.zero zL11),
 oS 10 4 27] false)
 (.seq (.reg [o 28 (.bzero zL14),
 o 5 (.zero zL14),
 oS 10 5 28] false)
 (.seq (.reg [oL 30 5 1,
 oC 31 269 ([30]),
 oM 29 31,
 oX 32 29 0,
 oX 33 29 1,
 oM 6 32,
 oM 7 33] false)
 (.seq (.reg [oM 34 6,
 oF 35 4 4,
 oS 1 35 34] false)
 (.seq (.reg [oM 36 7,
 o 37 (.aaddr 10 1 5 (.c zI)),
 oS 1 37 36] false)
 (.seq (.reg [oL 39 5 1,
 oC 40 200 ([39, sA14]),
 oM 38 40,
 oX 41 38 0,
 oX 42 38 1,
 oM 8 41,
 oM 9 42] false)
 (.seq (.reg [oM 43 8,
 oF 44 3 4,
 oS 1 44 43] false)
 (.seq (.reg [oM 45 9,
 o 46 (.aaddr 10 1 5 (.c (iN 1))),
 oS 1 46 45] false)
 (.seq (.reg [oL 48 5 1,
 oC 49 209 ([48, sA38]),
 oM 47 49,
 oX 50 47 0,
 oX 51 47 1,
 oM 10 50,
 oM 11 51] false)
 (.seq (.reg [oM 52 10,
 oF 53 0 4,
 oS 1 53 52] false)
 (.seq (.reg [oM 54 11,
 o 55 (.aaddr 10 1 5 (.c (iN 2))),
 oS 1 55 54] false)
 (.seq (.reg [oL 57 5 1,
 oC 58 201 ([57, sA36]),
 oM 56 58,
 oX 59 56 0,
 oX 60 56 1,
 oM 12 59,
 oM 13 60] false)
 (.seq (.reg [oM 61 12,
 oF 62 5 4,
 oS 1 62 61] false)
 (.seq (.reg [oM 63 13,
 o 64 (.aaddr 10 1 5 (.c (iN 3))),
 oS 1 64 63] false)
 (.seq (.reg [oL 66 5 1,
 oC 67 270 ([66]),
 oM 65 67,
 oX 68 65 0,
 oX 69 65 1,
 oM 14 68,
 oM 15 69] false)
 (.seq (.reg [oM 70 14,
 oF 71 6 4,
 oS 1 71 70] false)
 (.seq (.reg [oM 72 15,
 o 73 (.aaddr 10 1 5 (.c (iN 4))),
 oS 1 73 72] false)
 (.seq (.reg [oL 75 5 1,
 oC 76 271 ([75]),
 oM 74 76,
 oX 77 74 0,
 oX 78 74 1,
 oM 16 77,
 oM 17 78] false)
 (.seq (.reg [oM 79 16,
 oF 80 7 4,
 oS 1 80 79] false)
 (.seq (.reg [oM 81 17,
 o 82 (.aaddr 10 1 5 (.c (iN 5))),
 oS 1 82 81] false)
 (.seq (.reg [oL 84 5 1,
 oC 85 200 ([84, sA48]),
 oM 83 85,
 oX 86 83 0,
 oX 87 83 1,
 oM 18 86,
 oM 19 87] false)
 (.seq (.reg [oM 88 18,
 oF 89 1 4,
 oS 1 89 88] false)
 (.seq (.reg [oM 90 19,
 o 91 (.aaddr 10 1 5 (.c (iN 6))),
 oS 1 91 90] false)
 (.seq (.reg [oL 93 5 1,
 oC 94 200 ([93, sA55]),
 oM 92 94,
 oX 95 92 0,
 oX 96 92 1,
 oM 20 95,
 oM 21 96] false)
 (.seq (.reg [oM 97 20,
 oF 98 2 4,
 oS 1 98 97] false)
 (.seq (.reg [oM 99 21,
 o 100 (.aaddr 10 1 5 (.c (iN 7))),
 oS 1 100 99] false)
 (.seq (.reg [oL 102 5 1,
 oC 103 272 ([102]),
 oM 101 103,
 oX 104 101 0,
 oX 105 101 1,
 oM 22 104,
 oM 23 105] false)
 (.seq (.reg [oM 106 22,
 oF 107 8 4,
 oS 1 107 106] false)
 (.seq (.reg [oM 108 23,
 o 109 (.aaddr 10 1 5 (.c (iN 8))),
 oS 1 109 108] false)
 (.seq (.reg [oL 111 5 1,
 oC 112 273 ([111]),
 oM 110 112,
 oX 113 110 0,
 oX 114 110 1,
 oM 24 113,
 oM 25 114] false)
 (.seq (.reg [oM 115 24,
 oF 116 9 4,
 oS 1 116 115] false)
 (.seq (.reg [oM 117 25,
 o 118 (.aaddr 10 1 5 (.c (iN 9))),
 oS 1 118 117] false)
 (.seq (.seq (.reg [o 26 (.mov (.c zI))] false)
 (.block 0 (.loop Qli Q1o3)))
 (.seq (.reg [oL 128 10 4,
 oL 129 5 1,
 oD 130 208 ([129]) [1],
 ⟨none, none, .store 10 2 128, [0, 1, 2]⟩,
 ob 3 (.mov 130) [0, 1, 2, 3]] true)
 (.ret)))))))))))))))))))))))))))))))))))
def K38 : IFn := ⟨1, 131, [.cell 2 10 true, .tmp 3], false, Q241⟩
def Ql3 : List Nat := [100071, 0, 2, 3, 4]
def Q1no : IR :=
 .seq (.seq (.reg [oM 6 4,
 oM 7 0,
 oN 8 7,
 o 9 (.bin .lss 6 8)] false)
 (.cond 9 (.skip)
 (.exit 0)))
 (.seq (.block 1 (.seq (.reg [oM 12 0,
 oM 13 4,
 oI 14 11 12 13,
 oL 15 11 14,
 o 5 (.zero zL10),
 oS 11 5 15] false)
 (.reg [oM 16 3,
 oF 17 0 5,
 oE 18 1 17 [1],
 oD 19 169 ([18]) [1, 2],
 ob 20 (.build zL0 [(0, 1, sA39), (1, 5, 19)]) [1, 2, 3],
 oF 21 1 5,
 oE 22 1 21 [5],
 oD 23 169 ([22]) [1, 2, 3, 5, 6],
 ob 24 (.build zL0 [(0, 1, sA19), (1, 5, 23)]) [1, 2, 3, 5, 6, 7],
 oF 25 2 5,
 ob 26 (.load 3 true 25) [9],
 oD 27 211 ([26]) [1, 2, 3, 5, 6, 7, 9, 10],
 ob 28 (.build zL0 [(0, 1, sA53), (1, 5, 27)]) [1, 2, 3, 5, 6, 7, 9, 10, 11],
 oF 29 5 5,
 ob 30 (.load 3 true 29) [13],
 oD 31 211 ([30]) [1, 2, 3, 5, 6, 7, 9, 10, 11, 13, 14],
 ob 32 (.build zL0 [(0, 1, sA24), (1, 5, 31)]) [1, 2, 3, 5, 6, 7, 9, 10, 11, 13, 14, 15],
 oF 33 8 5,
 oE 34 1 33 [17],
 oD 35 274 ([34]) [1, 2, 3, 5, 6, 7, 9, 10, 11, 13, 14, 15, 17, 18],
 ob 36 (.build zL0 [(0, 1, sA25), (1, 5, 35)]) [1, 2, 3, 5, 6, 7, 9, 10, 11, 13, 14, 15, 17, 18, 19],
 oF 37 9 5,
 oE 38 1 37 [21],
 oD 39 274 ([38]) [1, 2, 3, 5, 6, 7, 9, 10, 11, 13, 14, 15, 17, 18, 19, 21, 22],
 ob 40 (.build zL0 [(0, 1, sA58), (1, 5, 39)]) [1, 2, 3, 5, 6, 7, 9, 10, 11, 13, 14, 15, 17, 18, 19, 21, 22, 23],
 oF 41 10 5,
 oE 42 1 41 [25],
 oD 43 274 ([42]) [1, 2, 3, 5, 6, 7, 9, 10, 11, 13, 14, 15, 17, 18, 19, 21, 22, 23, 25, 26],
 ob 44 (.build zL0 [(0, 1, sA66), (1, 5, 43)]) [1, 2, 3, 5, 6, 7, 9, 10, 11, 13, 14, 15, 17, 18, 19, 21, 22, 23, 25, 26, 27],
 ob 45 (.lit 6 7 zL0 [(0, 20), (1, 24), (2, 28), (3, 32), (4, 36), (5, 40), (6, 44)]) (rg 1 29),
 oD 46 163 ([45]) (rg 1 30),
 ob 47 (.lit 5 1 zL1 [(0, 46)]) (rg 1 31),
 ob 48 (.append 5 80 16 47) (rg 0 32),
 ob 3 (.mov 48) (rg 0 33)] true)))
 (.reg [oM 10 4,
 oA 11 10,
 oM 4 11] false))
def Q239 : IR :=
 .seq (.reg [o 2 (.zero zL1)] false)
 (.seq (.reg [o 3 (.mov (.c (.ns 5)))] false)
 (.seq (.seq (.reg [o 4 (.mov (.c zI))] false)
 (.block 0 (.loop Ql3 Q1no)))
 (.seq (.reg [oM 49 3,
 o 50 (.build zL1 [(0, 1, .c (iN 4)), (3, 1, 49)]),
 oS 5 2 50] false)
 (.ret))))
def K27 : IFn := ⟨1, 51, [.cell 2 5 true], false, Q239⟩
def Ql8 : List Nat := [100072, 0, 2, 3, 4]
def Q1nt : IR :=
 .seq (.seq (.reg [oM 5 4,
 oM 6 0,
 oN 7 6,
 o 8 (.bin .lss 5 7)] false)
 (.cond 8 (.skip)
 (.exit 0)))
 (.seq (.block 1 (.reg [oM 11 3,
 oM 12 0,
 oM 13 4,
 ob 14 (.iaddr 3 12 13) [1, 2],
 ob 15 (.faddr 0 14) [1, 2, 3],
 oE 16 1 15 [1, 2, 3, 4],
 oD 17 167 ([16]) (rg 1 6),
 ob 18 (.build zL0 [(0, 1, sA54), (1, 5, 17)]) (rg 1 7),
 oM 19 0,
 oM 20 4,
 ob 21 (.iaddr 3 19 20) [8, 9],
 ob 22 (.faddr 1 21) [8, 9, 10],
 oE 23 1 22 [8, 9, 10, 11],
 oD 24 165 ([23]) (rg 1 7 ++ rg 8 13),
 ob 25 (.build zL0 [(0, 1, sA60), (1, 5, 24)]) (rg 1 7 ++ rg 8 14),
 oM 26 0,
 oM 27 4,
 ob 28 (.iaddr 3 26 27) [15, 16],
 ob 29 (.faddr 2 28) [15, 16, 17],
 oE 30 1 29 [15, 16, 17, 18],
 oD 31 164 ([30]) (rg 1 7 ++ rg 8 14 ++ rg 15 20),
 ob 32 (.build zL0 [(0, 1, sA88), (1, 5, 31)]) (rg 1 7 ++ rg 8 14 ++ rg 15 21),
 ob 33 (.lit 6 3 zL0 [(0, 18), (1, 25), (2, 32)]) (rg 1 22),
 oD 34 163 ([33]) (rg 1 23),
 ob 35 (.lit 5 1 zL1 [(0, 34)]) (rg 1 24),
 ob 36 (.append 5 80 11 35) (rg 0 25),
 ob 3 (.mov 36) (rg 0 26)] true))
 (.reg [oM 9 4,
 oA 10 9,
 oM 4 10] false))
def Q23i : IR :=
 .seq (.reg [o 2 (.zero zL1)] false)
 (.seq (.reg [o 3 (.mov (.c (.ns 5)))] false)
 (.seq (.seq (.reg [o 4 (.mov (.c zI))] false)
 (.block 0 (.loop Ql8 Q1nt)))
 (.seq (.reg [oM 37 3,
 o 38 (.build zL1 [(0, 1, .c (iN 4)), (3, 1, 37)]),
 oS 5 2 38] false)
 (.ret))))
def K2j : IFn := ⟨1, 39, [.cell 2 5 true], false, Q23i⟩
def Ql9 : List Nat := [100073, 0, 2, 3, 4]
def Q1nu : IR :=
 .seq (.seq (.reg [oM 6 4,
 oM 7 0,
 oN 8 7,
 o 9 (.bin .lss 6 8)] false)
 (.cond 9 (.skip)
 (.exit 0)))
 (.seq (.block 1 (.seq (.reg [oM 12 0,
 oM 13 4,
 oI 14 5 12 13,
 oL 15 5 14,
 o 5 (.zero [zB, zB, .ns 3, zS, zI]),
 oS 5 5 15] false)
 (.reg [oM 16 3,
 oF 17 0 5,
 oE 18 1 17 [1],
 oD 19 167 ([18]) [1, 2],
 ob 20 (.build zL0 [(0, 1, sA54), (1, 5, 19)]) [1, 2, 3],
 oF 21 1 5,
 oE 22 1 21 [5],
 oD 23 167 ([22]) [1, 2, 3, 5, 6],
 ob 24 (.build zL0 [(0, 1, sA98), (1, 5, 23)]) [1, 2, 3, 5, 6, 7],
 oF 25 2 5,
 oE 26 1 25 [9],
 oD 27 165 ([26]) [1, 2, 3, 5, 6, 7, 9, 10],
 ob 28 (.build zL0 [(0, 1, sA60), (1, 5, 27)]) [1, 2, 3, 5, 6, 7, 9, 10, 11],
 oF 29 3 5,
 oE 30 1 29 [13],
 oD 31 169 ([30]) [1, 2, 3, 5, 6, 7, 9, 10, 11, 13, 14],
 ob 32 (.build zL0 [(0, 1, sA77), (1, 5, 31)]) [1, 2, 3, 5, 6, 7, 9, 10, 11, 13, 14, 15],
 oF 33 4 5,
 oE 34 1 33 [17],
 oD 35 164 ([34]) [1, 2, 3, 5, 6, 7, 9, 10, 11, 13, 14, 15, 17, 18],
 ob 36 (.build zL0 [(0, 1, sA88), (1, 5, 35)]) [1, 2, 3, 5, 6, 7, 9, 10, 11, 13, 14, 15, 17, 18, 19],
 ob 37 (.lit 6 5 zL0 [(0, 20), (1, 24), (2, 28), (3, 32), (4, 36)]) (rg 1 21),
 oD 38 163 ([37]) (rg 1 22),
 ob 39 (.lit 5 1 zL1 [(0, 38)]) (rg 1 23),
 ob 40 (.append 5 80 16 39) (rg 0 24),
 ob 3 (.mov 40) (rg 0 25)] true)))
 (.reg [oM 10 4,
 oA 11 10,
 oM 4 11] false))
def Q23k : IR :=
 .seq (.reg [o 2 (.zero zL1)] false)
 (.seq (.reg [o 3 (.mov (.c (.ns 5)))] false)
 (.seq (.seq (.reg [o 4 (.mov (.c zI))] false)
 (.block 0 (.loop Ql9 Q1nu)))
 (.seq (.reg [oM 41 3,
 o 42 (.build zL1 [(0, 1, .c (iN 4)), (3, 1, 41)]),
 oS 5 2 42] false)
 (.ret))))
def K2l : IFn := ⟨1, 43, [.cell 2 5 true], false, Q23k⟩
def Qlc : List Nat := [100074, 0, 2, 3, 4]
def Q1nx : IR :=
 .seq (.seq (.reg [oM 6 4,
 oM 7 0,
 oN 8 7,
 o 9 (.bin .lss 6 8)] false)
 (.cond 9 (.skip)
 (.exit 0)))
 (.seq (.block 1 (.seq (.reg [oM 12 0,
 oM 13 4,
 oI 14 4 12 13,
 oL 15 4 14,
 o 5 (.zero [zI, zS, .ns 3, zB]),
 oS 4 5 15] false)
 (.reg [oM 16 3,
 oF 17 0 5,
 oE 18 1 17 [1],
 oD 19 164 ([18]) [1, 2],
 ob 20 (.build zL0 [(0, 1, sA33), (1, 5, 19)]) [1, 2, 3],
 oF 21 1 5,
 oE 22 1 21 [5],
 oD 23 169 ([22]) [1, 2, 3, 5, 6],
 ob 24 (.build zL0 [(0, 1, sA77), (1, 5, 23)]) [1, 2, 3, 5, 6, 7],
 oF 25 2 5,
 oE 26 1 25 [9],
 oD 27 165 ([26]) [1, 2, 3, 5, 6, 7, 9, 10],
 ob 28 (.build zL0 [(0, 1, sA60), (1, 5, 27)]) [1, 2, 3, 5, 6, 7, 9, 10, 11],
 oF 29 3 5,
 oE 30 1 29 [13],
 oD 31 167 ([30]) [1, 2, 3, 5, 6, 7, 9, 10, 11, 13, 14],
 ob 32 (.build zL0 [(0, 1, sA54), (1, 5, 31)]) [1, 2, 3, 5, 6, 7, 9, 10, 11, 13, 14, 15],
 ob 33 (.lit 6 4 zL0 [(0, 20), (1, 24), (2, 28), (3, 32)]) (rg 1 17),
 oD 34 163 ([33]) (rg 1 18),
 ob 35 (.lit 5 1 zL1 [(0, 34)]) (rg 1 19),
 ob 36 (.append 5 80 16 35) (rg 0 20),
 ob 3 (.mov 36) (rg 0 21)] true)))
 (.reg [oM 10 4,
 oA 11 10,
 oM 4 11] false))
def Q23o : IR :=
 .seq (.reg [o 2 (.zero zL1)] false)
 (.seq (.reg [o 3 (.mov (.c (.ns 5)))] false)
 (.seq (.seq (.reg [o 4 (.mov (.c zI))] false)
 (.block 0 (.loop Qlc Q1nx)))
 (.seq (.reg [oM 37 3,
 o 38 (.build zL1 [(0, 1, .c (iN 4)), (3, 1, 37)]),
 oS 5 2 38] false)
 (.ret))))
def K2u : IFn := ⟨1, 39, [.cell 2 5 true], false, Q23o⟩
def Qle : List Nat := [100075, 0, 2, 3, 4]
def Q1nz : IR :=
 .seq (.seq (.reg [oM 6 4,
 oM 7 0,
 oN 8 7,
 o 9 (.bin .lss 6 8)] false)
 (.cond 9 (.skip)
 (.exit 0)))
 (.seq (.block 1 (.seq (.reg [oM 12 0,
 oM 13 4,
 oI 14 5 12 13,
 oL 15 5 14,
 o 5 (.zero [zS, zS, zB, zI, zI]),
 oS 5 5 15] false)
 (.reg [oM 16 3,
 oF 17 0 5,
 oE 18 1 17 [1],
 oD 19 169 ([18]) [1, 2],
 ob 20 (.build zL0 [(0, 1, sA23), (1, 5, 19)]) [1, 2, 3],
 oF 21 1 5,
 oE 22 1 21 [5],
 oD 23 169 ([22]) [1, 2, 3, 5, 6],
 ob 24 (.build zL0 [(0, 1, sA87), (1, 5, 23)]) [1, 2, 3, 5, 6, 7],
 oF 25 2 5,
 oE 26 1 25 [9],
 oD 27 167 ([26]) [1, 2, 3, 5, 6, 7, 9, 10],
 ob 28 (.build zL0 [(0, 1, sA9), (1, 5, 27)]) [1, 2, 3, 5, 6, 7, 9, 10, 11],
 oF 29 3 5,
 oE 30 1 29 [13],
 oD 31 164 ([30]) [1, 2, 3, 5, 6, 7, 9, 10, 11, 13, 14],
 ob 32 (.build zL0 [(0, 1, sA8), (1, 5, 31)]) [1, 2, 3, 5, 6, 7, 9, 10, 11, 13, 14, 15],
 oF 33 4 5,
 oE 34 1 33 [17],
 oD 35 164 ([34]) [1, 2, 3, 5, 6, 7, 9, 10, 11, 13, 14, 15, 17, 18],
 ob 36 (.build zL0 [(0, 1, sA61), (1, 5, 35)]) [1, 2, 3, 5, 6, 7, 9, 10, 11, 13, 14, 15, 17, 18, 19],
 ob 37 (.lit 6 5 zL0 [(0, 20), (1, 24), (2, 28), (3, 32), (4, 36)]) (rg 1 21),
 oD 38 163 ([37]) (rg 1 22),
 ob 39 (.lit 5 1 zL1 [(0, 38)]) (rg 1 23),
 ob 40 (.append 5 80 16 39) (rg 0 24),
 ob 3 (.mov 40) (rg 0 25)] true)))
 (.reg [oM 10 4,
 oA 11 10,
 oM 4 11] false))
def Q23s : IR :=
 .seq (.reg [o 2 (.zero zL1)] false)
 (.seq (.reg [o 3 (.mov (.c (.ns 5)))] false)
 (.seq (.seq (.reg [o 4 (.mov (.c zI))] false)
 (.block 0 (.loop Qle Q1nz)))
 (.seq (.reg [oM 41 3,
 o 42 (.build zL1 [(0, 1, .c (iN 4)), (3, 1, 41)]),
 oS 5 2 42] false)
 (.ret))))
def K2z : IFn := ⟨1, 43, [.cell 2 5 true], false, Q23s⟩
def Kd_c : IR :=
 .seq (.reg [o 5 (.box 5 1),
 o 8 (.zero zL1)] false)
 (.seq (.seq (.reg [oF 11 0 5,
 oK 12 1 11,
 o 13 (.bin .neq 12 (.c (iN 5)))] false)
 (.cond 13 (.seq (.reg [oM 14 0,
 oM 15 0,
 o 16 (.nilck 15),
 oF 17 0 16,
 oK 18 1 17,
 oM 19 18,
 gF 20 19 (.faddr 0 5),
 gF 21 19 (.load 1 false 20),
 gF 22 19 (.bin .neq 21 (.c zI)),
 oQ 23 19 22,
 o 24 (.nilck 14),
 oF 25 0 24,
 oS 1 25 23] false)
 (.seq (.reg [o 26 (.build zL1 []),
 oS 5 8 26] false)
 (.ret)))
 (.skip)))
 (.seq (.reg [oL 28 5 5,
 oM 29 2,
 oC 30 184 ([28, 29]),
 oM 27 30,
 oX 31 27 0,
 oX 32 27 1,
 o 9 (.zero zL1),
 oS 5 9 31,
 oM 10 32] false)
 (.seq (.seq (.reg [oF 33 0 9,
 oK 34 1 33,
 oM 35 3,
 o 36 (.bin .eql 34 35)] false)
 (.cond 36 (.seq (.reg [oL 37 5 9,
 oS 5 8 37] false)
 (.ret))
 (.skip)))
 (.seq (.reg [oM 38 0,
 oM 39 0,
 o 40 (.nilck 39),
 oF 41 0 40,
 oK 42 1 41,
 oM 43 42,
 gF 44 43 (.faddr 0 9),
 gF 45 43 (.load 1 false 44),
 gF 46 43 (.bin .neq 45 (.c zI)),
 oQ 47 43 46,
 o 48 (.nilck 38),
 oF 49 0 48,
 oS 1 49 47] false)
 (.seq (.reg [o 50 (.build zL1 []),
 oS 5 8 50] false)
 (.ret))))))
def Kd : IFn := ⟨4, 51, [.cell 8 5 true], false, Kd_c⟩
def Kn_c : IR :=
 .seq (.reg [o 4 (.box 5 1),
 o 6 (.mov (.c (zS)))] false)
 (.seq (.reg [oM 7 0,
 oL 8 5 4,
 oM 9 2,
 oC 10 238 ([7, 8, 9, .c (iN 3)]),
 o 11 (.field 2 1 false 10),
 oM 6 11] false)
 (.ret))
def Kn : IFn := ⟨3, 12, [.tmp 6], false, Kn_c⟩
def Kg_c : IR :=
 .seq (.reg [o 4 (.box 5 1),
 o 6 (.mov (.c zI))] false)
 (.seq (.reg [oM 7 0,
 oL 8 5 4,
 oM 9 2,
 oC 10 238 ([7, 8, 9, .c (iN 2)]),
 o 11 (.field 1 1 false 10),
 oM 6 11] false)
 (.ret))
def Kg : IFn := ⟨3, 12, [.tmp 6], false, Kg_c⟩
def Qrj : List Nat := [100076, 3, 9, 16, 17, 18]
def Q1vp : IR :=
 .seq (.reg [o 19 (.bin .lss 18 17)] false)
 (.seq (.cond 19 (.skip)
 (.exit 0))
 (.seq (.block 1 (.seq (.reg [oI 20 5 16 18,
 oL 21 5 20,
 o 11 (.zero zL1),
 oS 5 11 21] false)
 (.reg [oM 22 9,
 oM 23 3,
 oL 24 5 11,
 o 25 (.call false 23 [24]),
 o 26 (.lit 11 1 zL10 [(0, 25)]),
 oJ 27 11 152 22 26,
 oM 9 27] false)))
 (.reg [oA 28 18,
 oM 18 28] false)))
def Kt_c : IR :=
 .seq (.reg [o 5 (.box 5 1),
 o 8 (.mov (.c (.ns 11)))] false)
 (.seq (.reg [o 9 (.mov (.c (.ns 11)))] false)
 (.seq (.seq (.reg [oM 12 0,
 oL 13 5 5,
 oM 14 2,
 oC 15 238 ([12, 13, 14, .c (iN 4)]),
 o 16 (.field 3 1 false 15),
 oN 17 16,
 o 18 (.mov (.c zI))] false)
 (.block 0 (.loop Qrj Q1vp)))
 (.seq (.reg [oM 29 9,
 oM 8 29] false)
 (.ret))))
def Kt : IFn := ⟨4, 30, [.tmp 8], false, Kt_c⟩
def Kb_c : IR :=
 .seq (.reg [o 3 (.box 5 1),
 o 4 (.zero zL10)] false)
 (.seq (.reg [oM 5 0,
 oL 6 5 3,
 oC 7 215 ([5, 6])] false)
 (.seq (.reg [oM 8 0,
 oL 9 5 3,
 oD 10 239 ([8, 9, sA39]) [0, 1],
 oM 11 0,
 oL 12 5 3,
 oD 13 239 ([11, 12, sA19]) (rg 0 5),
 oM 14 0,
 oM 15 0,
 oL 16 5 3,
 oD 17 219 ([15, 16, sA53]) (rg 0 6 ++ [7, 8]),
 oD 18 275 ([14, 17]) (rg 0 10),
 oM 19 0,
 oM 20 0,
 oL 21 5 3,
 oD 22 219 ([20, 21, sA24]) (rg 0 11 ++ [12, 13]),
 oD 23 275 ([19, 22]) (rg 0 15),
 oM 24 0,
 oL 25 5 3,
 oM 26 0,
 ob 27 (.mkfn 277 [26] []) [18],
 oD 28 276 ([24, 25, sA25, 27]) (rg 0 20),
 oM 29 0,
 oL 30 5 3,
 oM 31 0,
 ob 32 (.mkfn 277 [31] []) [23],
 oD 33 276 ([29, 30, sA58, 32]) (rg 0 25),
 oM 34 0,
 oL 35 5 3,
 oM 36 0,
 ob 37 (.mkfn 277 [36] []) [28],
 oD 38 276 ([34, 35, sA66, 37]) (rg 0 30),
 ob 39 (.build zL10 [(0, 1, 10), (1, 1, 13), (2, 3, 18), (5, 3, 23), (8, 1, 28), (9, 1, 33), (10, 1, 38)]) (rg 0 31),
 ⟨none, none, .store 11 4 39, (rg 0 32)⟩] true)
 (.ret)))
def Kb : IFn := ⟨2, 40, [.cell 4 11 true], false, Kb_c⟩
def Qrk : List Nat := [100077, 3, 9, 16, 17, 18]
def Q1vq : IR :=
 .seq (.reg [o 19 (.bin .lss 18 17)] false)
 (.seq (.cond 19 (.skip)
 (.exit 0))
 (.seq (.block 1 (.seq (.reg [oI 20 5 16 18,
 oL 21 5 20,
 o 11 (.zero zL1),
 oS 5 11 21] false)
 (.reg [oM 22 9,
 oM 23 3,
 oL 24 5 11,
 o 25 (.call false 23 [24]),
 o 26 (.lit 3 1 [zS, zI, .ns 1] [(0, 25)]),
 oJ 27 3 48 22 26,
 oM 9 27] false)))
 (.reg [oA 28 18,
 oM 18 28] false)))
def Ku_c : IR :=
 .seq (.reg [o 5 (.box 5 1),
 o 8 (.mov (.c (.ns 3)))] false)
 (.seq (.reg [o 9 (.mov (.c (.ns 3)))] false)
 (.seq (.seq (.reg [oM 12 0,
 oL 13 5 5,
 oM 14 2,
 oC 15 238 ([12, 13, 14, .c (iN 4)]),
 o 16 (.field 3 1 false 15),
 oN 17 16,
 o 18 (.mov (.c zI))] false)
 (.block 0 (.loop Qrk Q1vq)))
 (.seq (.reg [oM 29 9,
 oM 8 29] false)
 (.ret))))
def Ku : IFn := ⟨4, 30, [.tmp 8], false, Ku_c⟩
def Kj_c : IR :=
 .seq (.reg [o 3 (.box 5 1),
 o 4 (.zero [zS, zI, .ns 1])] false)
 (.seq (.reg [oM 5 0,
 oL 6 5 3,
 oC 7 215 ([5, 6])] false)
 (.seq (.reg [oM 8 0,
 oL 9 5 3,
 oD 10 239 ([8, 9, sA23]) [0, 1],
 oM 11 0,
 oL 12 5 3,
 oD 13 240 ([11, 12, sA41]) (rg 0 5),
 oM 14 0,
 oL 15 5 3,
 oM 16 0,
 ob 17 (.mkfn 279 [16] []) [8],
 oD 18 278 ([14, 15, sA86, 17]) (rg 0 10),
 ob 19 (.build [zS, zI, .ns 1] [(0, 1, 10), (1, 1, 13), (2, 1, 18)]) (rg 0 11),
 ⟨none, none, .store 3 4 19, (rg 0 12)⟩] true)
 (.ret)))
def Kj : IFn := ⟨2, 20, [.cell 4 3 true], false, Kj_c⟩
def Qrl : List Nat := [100078, 3, 9, 16, 17, 18]
def Q1vr : IR :=
 .seq (.reg [o 19 (.bin .lss 18 17)] false)
 (.seq (.cond 19 (.skip)
 (.exit 0))
 (.seq (.block 1 (.seq (.reg [oI 20 5 16 18,
 oL 21 5 20,
 o 11 (.zero zL1),
 oS 5 11 21] false)
 (.reg [oM 22 9,
 oM 23 3,
 oL 24 5 11,
 o 25 (.call false 23 [24]),
 o 26 (.lit 3 1 [zB, .ns 3, zI] [(0, 25)]),
 oJ 27 3 40 22 26,
 oM 9 27] false)))
 (.reg [oA 28 18,
 oM 18 28] false)))
def Kv_c : IR :=
 .seq (.reg [o 5 (.box 5 1),
 o 8 (.mov (.c (.ns 3)))] false)
 (.seq (.reg [o 9 (.mov (.c (.ns 3)))] false)
 (.seq (.seq (.reg [oM 12 0,
 oL 13 5 5,
 oM 14 2,
 oC 15 238 ([12, 13, 14, .c (iN 4)]),
 o 16 (.field 3 1 false 15),
 oN 17 16,
 o 18 (.mov (.c zI))] false)
 (.block 0 (.loop Qrl Q1vr)))
 (.seq (.reg [oM 29 9,
 oM 8 29] false)
 (.ret))))
def Kv : IFn := ⟨4, 30, [.tmp 8], false, Kv_c⟩
def Kf_c : IR :=
 .seq (.reg [o 3 (.box 5 1),
 o 4 (.zero [zB, .ns 3, zI])] false)
 (.seq (.reg [oM 5 0,
 oL 6 5 3,
 oC 7 215 ([5, 6])] false)
 (.seq (.reg [oM 8 0,
 oL 9 5 3,
 oD 10 280 ([8, 9, sA54]) [0, 1],
 oM 11 0,
 oL 12 5 3,
 oM 13 0,
 ob 14 (.mkfn 244 [13] []) [5],
 oD 15 243 ([11, 12, sA60, 14]) (rg 0 7),
 oM 16 0,
 oL 17 5 3,
 oD 18 240 ([16, 17, sA88]) (rg 0 10),
 ob 19 (.build [zB, .ns 3, zI] [(0, 1, 10), (1, 1, 15), (2, 1, 18)]) (rg 0 11),
 ⟨none, none, .store 3 4 19, (rg 0 12)⟩] true)
 (.ret)))
def Kf : IFn := ⟨2, 20, [.cell 4 3 true], false, Kf_c⟩
def Qrm : List Nat := [100079, 3, 9, 16, 17, 18]
def Q1vs : IR :=
 .seq (.reg [o 19 (.bin .lss 18 17)] false)
 (.seq (.cond 19 (.skip)
 (.exit 0))
 (.seq (.block 1 (.seq (.reg [oI 20 5 16 18,
 oL 21 5 20,
 o 11 (.zero zL1),
 oS 5 11 21] false)
 (.reg [oM 22 9,
 oM 23 3,
 oL 24 5 11,
 o 25 (.call false 23 [24]),
 o 26 (.lit 5 1 [zB, zB, .ns 3, zS, zI] [(0, 25)]),
 oJ 27 5 56 22 26,
 oM 9 27] false)))
 (.reg [oA 28 18,
 oM 18 28] false)))
def Kw_c : IR :=
 .seq (.reg [o 5 (.box 5 1),
 o 8 (.mov (.c (.ns 5)))] false)
 (.seq (.reg [o 9 (.mov (.c (.ns 5)))] false)
 (.seq (.seq (.reg [oM 12 0,
 oL 13 5 5,
 oM 14 2,
 oC 15 238 ([12, 13, 14, .c (iN 4)]),
 o 16 (.field 3 1 false 15),
 oN 17 16,
 o 18 (.mov (.c zI))] false)
 (.block 0 (.loop Qrm Q1vs)))
 (.seq (.reg [oM 29 9,
 oM 8 29] false)
 (.ret))))
def Kw : IFn := ⟨4, 30, [.tmp 8], false, Kw_c⟩
def Kh_c : IR :=
 .seq (.reg [o 3 (.box 5 1),
 o 4 (.zero [zB, zB, .ns 3, zS, zI])] false)
 (.seq (.reg [oM 5 0,
 oL 6 5 3,
 oC 7 215 ([5, 6])] false)
 (.seq (.reg [oM 8 0,
 oL 9 5 3,
 oD 10 280 ([8, 9, sA54]) [0, 1],
 oM 11 0,
 oL 12 5 3,
 oD 13 280 ([11, 12, sA98]) (rg 0 5),
 oM 14 0,
 oL 15 5 3,
 oM 16 0,
 ob 17 (.mkfn 244 [16] []) [8],
 oD 18 243 ([14, 15, sA60, 17]) (rg 0 10),
 oM 19 0,
 oL 20 5 3,
 oD 21 239 ([19, 20, sA77]) (rg 0 13),
 oM 22 0,
 oL 23 5 3,
 oD 24 240 ([22, 23, sA88]) (rg 0 16),
 ob 25 (.build [zB, zB, .ns 3, zS, zI] [(0, 1, 10), (1, 1, 13), (2, 1, 18), (3, 1, 21), (4, 1, 24)]) (rg 0 17),
 ⟨none, none, .store 5 4 25, (rg 0 18)⟩] true)
 (.ret)))
def Kh : IFn := ⟨2, 26, [.cell 4 5 true], false, Kh_c⟩
def Qrn : List Nat := [100080, 3, 9, 16, 17, 18]
def Q1vt : IR :=
 .seq (.reg [o 19 (.bin .lss 18 17)] false)
 (.seq (.cond 19 (.skip)
 (.exit 0))
 (.seq (.block 1 (.seq (.reg [oI 20 5 16 18,
 oL 21 5 20,
 o 11 (.zero zL1),
 oS 5 11 21] false)
 (.reg [oM 22 9,
 oM 23 3,
 oL 24 5 11,
 o 25 (.call false 23 [24]),
 o 26 (.lit 4 1 [zI, zS, .ns 3, zB] [(0, 25)]),
 oJ 27 4 56 22 26,
 oM 9 27] false)))
 (.reg [oA 28 18,
 oM 18 28] false)))
def Kx_c : IR :=
 .seq (.reg [o 5 (.box 5 1),
 o 8 (.mov (.c (.ns 4)))] false)
 (.seq (.reg [o 9 (.mov (.c (.ns 4)))] false)
 (.seq (.seq (.reg [oM 12 0,
 oL 13 5 5,
 oM 14 2,
 oC 15 238 ([12, 13, 14, .c (iN 4)]),
 o 16 (.field 3 1 false 15),
 oN 17 16,
 o 18 (.mov (.c zI))] false)
 (.block 0 (.loop Qrn Q1vt)))
 (.seq (.reg [oM 29 9,
 oM 8 29] false)
 (.ret))))
def Kx : IFn := ⟨4, 30, [.tmp 8], false, Kx_c⟩
def Km_c : IR :=
 .seq (.reg [o 3 (.box 5 1),
 o 4 (.zero [zI, zS, .ns 3, zB])] false)
 (.seq (.reg [oM 5 0,
 oL 6 5 3,
 oC 7 215 ([5, 6])] false)
 (.seq (.reg [oM 8 0,
 oL 9 5 3,
 oD 10 240 ([8, 9, sA33]) [0, 1],
 oM 11 0,
 oL 12 5 3,
 oD 13 239 ([11, 12, sA77]) (rg 0 5),
 oM 14 0,
 oL 15 5 3,
 oM 16 0,
 ob 17 (.mkfn 244 [16] []) [8],
 oD 18 243 ([14, 15, sA60, 17]) (rg 0 10),
 oM 19 0,
 oL 20 5 3,
 oD 21 280 ([19, 20, sA54]) (rg 0 13),
 ob 22 (.build [zI, zS, .ns 3, zB] [(0, 1, 10), (1, 1, 13), (2, 1, 18), (3, 1, 21)]) (rg 0 14),
 ⟨none, none, .store 4 4 22, (rg 0 15)⟩] true)
 (.ret)))
def Km : IFn := ⟨2, 23, [.cell 4 4 true], false, Km_c⟩
def Qro : List Nat := [100081, 3, 9, 16, 17, 18]
def Q1vu : IR :=
 .seq (.reg [o 19 (.bin .lss 18 17)] false)
 (.seq (.cond 19 (.skip)
 (.exit 0))
 (.seq (.block 1 (.seq (.reg [oI 20 5 16 18,
 oL 21 5 20,
 o 11 (.zero zL1),
 oS 5 11 21] false)
 (.reg [oM 22 9,
 oM 23 3,
 oL 24 5 11,
 o 25 (.call false 23 [24]),
 o 26 (.lit 5 1 [zS, zS, zB, zI, zI] [(0, 25)]),
 oJ 27 5 56 22 26,
 oM 9 27] false)))
 (.reg [oA 28 18,
 oM 18 28] false)))
def Ky_c : IR :=
 .seq (.reg [o 5 (.box 5 1),
 o 8 (.mov (.c (.ns 5)))] false)
 (.seq (.reg [o 9 (.mov (.c (.ns 5)))] false)
 (.seq (.seq (.reg [oM 12 0,
 oL 13 5 5,
 oM 14 2,
 oC 15 238 ([12, 13, 14, .c (iN 4)]),
 o 16 (.field 3 1 false 15),
 oN 17 16,
 o 18 (.mov (.c zI))] false)
 (.block 0 (.loop Qro Q1vu)))
 (.seq (.reg [oM 29 9,
 oM 8 29] false)
 (.ret))))
def Ky : IFn := ⟨4, 30, [.tmp 8], false, Ky_c⟩
def Kr_c : IR :=
 .seq (.reg [o 3 (.box 5 1),
 o 4 (.zero [zS, zS, zB, zI, zI])] false)
 (.seq (.reg [oM 5 0,
 oL 6 5 3,
 oC 7 215 ([5, 6])] false)
 (.seq (.reg [oM 8 0,
 oL 9 5 3,
 oD 10 239 ([8, 9, sA23]) [0, 1],
 oM 11 0,
 oL 12 5 3,
 oD 13 239 ([11, 12, sA87]) (rg 0 5),
 oM 14 0,
 oL 15 5 3,
 oD 16 280 ([14, 15, sA9]) (rg 0 8),
 oM 17 0,
 oL 18 5 3,
 oD 19 240 ([17, 18, sA8]) (rg 0 11),
 oM 20 0,
 oL 21 5 3,
 oD 22 240 ([20, 21, sA61]) (rg 0 14),
 ob 23 (.build [zS, zS, zB, zI, zI] [(0, 1, 10), (1, 1, 13), (2, 1, 16), (3, 1, 19), (4, 1, 22)]) (rg 0 15),
 ⟨none, none, .store 5 4 23, (rg 0 16)⟩] true)
 (.ret)))
def Kr : IFn := ⟨2, 24, [.cell 4 5 true], false, Kr_c⟩
def Q14a : List Nat := [100083, 0, 1, 2, 3, 8, 9]
def Q1vh : IR :=
 .seq (.seq (.reg [oM 18 9,
 oM 19 1,
 ob 20 (.bin .gtr 18 19) [0, 1],
 ob 21 (.mov 20) [0, 1, 2],
 ⟨(some 22), (some (21, true)), .mov 3, [0, 1, 2, 3]⟩,
 ⟨(some 23), (some (21, true)), .mov 0, [0, 1, 2, 3]⟩,
 ⟨(some 24), (some (21, true)), .mov 9, [0, 1, 2, 3]⟩,
 ⟨(some 25), (some (21, true)), .iaddr 6 23 24, (rg 0 4 ++ [5, 6])⟩,
 ⟨(some 26), (some (21, true)), .load 6 true 25, (rg 0 4 ++ [5, 6, 7])⟩,
 ⟨(some 27), (some (21, true)), .mov 0, [0, 1, 2, 3]⟩,
 ⟨(some 28), (some (21, true)), .mov 9, [0, 1, 2, 3]⟩,
 ⟨(some 29), (some (21, true)), .bin .sub 28 (.c (iN 1)), (rg 0 4 ++ [10])⟩,
 ⟨(some 30), (some (21, true)), .iaddr 6 27 29, (rg 0 4 ++ [9, 10, 11])⟩,
 ⟨(some 31), (some (21, true)), .load 6 true 30, (rg 0 4 ++ rg 9 13)⟩,
 ⟨(some 32), (some (21, true)), .call false 22 [26, 31], (rg 0 14)⟩,
 ⟨(some 33), (some (21, true)), .bin .lss 32 (.c zI), (rg 0 15)⟩,
 ob 34 (.pick 21 33 (.c zB)) (rg 0 16)] true)
 (.cond 34 (.skip)
 (.exit 2)))
 (.seq (.block 3 (.reg [oM 37 0,
 oM 38 9,
 oM 39 0,
 oM 40 9,
 ob 41 (.bin .sub 40 (.c (iN 1))) [3],
 oM 42 0,
 oM 43 9,
 ob 44 (.bin .sub 43 (.c (iN 1))) [6],
 ob 45 (.iaddr 6 42 44) [5, 6, 7],
 ob 46 (.load 6 true 45) [5, 6, 7, 8],
 oM 47 0,
 oM 48 9,
 ob 49 (.iaddr 6 47 48) [10, 11],
 ob 50 (.load 6 true 49) [10, 11, 12],
 ob 51 (.iaddr 6 37 38) ([0, 1] ++ rg 5 14),
 ⟨none, none, .store 6 51 46, ([0, 1] ++ rg 5 15)⟩,
 ob 52 (.iaddr 6 39 41) (rg 0 16),
 ⟨none, none, .store 6 52 50, (rg 0 17)⟩] true))
 (.reg [oM 35 9,
 o 36 (.bin .sub 35 (.c (iN 1))),
 oM 9 36] false))
def Q149 : List Nat := [100082, 0, 1, 2, 3, 8]
def Q1vg : IR :=
 .seq (.seq (.reg [oM 12 8,
 oM 13 2,
 o 14 (.bin .lss 12 13)] false)
 (.cond 14 (.skip)
 (.exit 0)))
 (.seq (.block 1 (.seq (.reg [oM 17 8,
 oM 9 17] false)
 (.block 2 (.loop Q14a Q1vh))))
 (.reg [oM 15 8,
 oA 16 15,
 oM 8 16] false))
def Q255 : IR :=
 .seq (.reg [oM 10 1,
 oA 11 10,
 oM 8 11] false)
 (.block 0 (.loop Q149 Q1vg))
def K4t : IFn := ⟨4, 53, [], false, Q255⟩
def Qlk : List Nat := [100090, 4, 5, 6, 7]
def Q1o5 : IR :=
 .seq (.seq (.reg [oM 15 7,
 oM 16 4,
 oN 17 16,
 o 18 (.bin .lss 15 17)] false)
 (.cond 18 (.skip)
 (.exit 0)))
 (.seq (.block 1 (.seq (.reg [oM 22 4,
 oM 23 7,
 oI 24 5 22 23,
 oL 25 5 24,
 oC 26 286 ([25]),
 oM 21 26,
 oX 27 21 0,
 oX 28 21 1,
 o 8 (.zero zL10),
 oS 11 8 27,
 oM 9 28] false)
 (.seq (.reg [oM 29 6,
 oL 30 11 8,
 o 31 (.lit 11 1 zL10 [(0, 30)]),
 oJ 32 11 152 29 31,
 oM 6 32] false)
 (.reg [oM 33 5,
 oM 34 33,
 gT 35 34 (.mov 9),
 oP 36 34 35,
 oM 5 36] false))))
 (.reg [oM 19 7,
 oA 20 19,
 oM 7 20] false))
def Q245 : IR :=
 .seq (.reg [o 1 (.box 5 0),
 o 2 (.mov (.c (.ns 11))),
 o 3 (.mov (.c zB))] false)
 (.seq (.reg [oL 11 5 1,
 oC 12 207 ([11, Q1r4]),
 oM 10 12,
 oX 13 10 0,
 oX 14 10 1,
 oM 4 13,
 oM 5 14] false)
 (.seq (.reg [o 6 (.mov (.c (.ns 11)))] false)
 (.seq (.seq (.reg [o 7 (.mov (.c zI))] false)
 (.block 0 (.loop Qlk Q1o5)))
 (.seq (.reg [oM 37 6,
 oM 38 5,
 oM 2 37,
 oM 3 38] false)
 (.ret)))))
def K3c : IFn := ⟨1, 39, [.tmp 2, .tmp 3], false, Q245⟩
def Qll : List Nat := [100091, 4, 5, 6, 7]
def Q1o6 : IR :=
 .seq (.seq (.reg [oM 19 7,
 oM 20 4,
 oN 21 20,
 o 22 (.bin .lss 19 21)] false)
 (.cond 22 (.skip)
 (.exit 0)))
 (.seq (.block 1 (.seq (.reg [oM 26 4,
 oM 27 7,
 oI 28 5 26 27,
 oL 29 5 28,
 oC 30 204 ([29, sA54]),
 oM 25 30,
 oX 31 25 0,
 oX 32 25 1,
 oM 8 31,
 oM 9 32] false)
 (.seq (.reg [oM 34 4,
 oM 35 7,
 oI 36 5 34 35,
 oL 37 5 36,
 oC 38 201 ([37, sA60]),
 oM 33 38,
 oX 39 33 0,
 oX 40 33 1,
 oM 10 39,
 oM 11 40] false)
 (.seq (.reg [oM 42 4,
 oM 43 7,
 oI 44 5 42 43,
 oL 45 5 44,
 oC 46 200 ([45, sA88]),
 oM 41 46,
 oX 47 41 0,
 oX 48 41 1,
 oM 12 47,
 oM 13 48] false)
 (.seq (.reg [oM 49 6,
 oM 50 8,
 oM 51 10,
 oM 52 12,
 o 53 (.build [zB, .ns 3, zI] [(0, 1, 50), (1, 1, 51), (2, 1, 52)]),
 o 54 (.lit 3 1 [zB, .ns 3, zI] [(0, 53)]),
 oJ 55 3 40 49 54,
 oM 6 55] false)
 (.reg [oM 56 5,
 oM 57 56,
 gT 58 57 (.mov 4),
 gT 59 57 (.mov 7),
 gT 60 57 (.iaddr 5 58 59),
 gT 61 57 (.load 5 true 60),
 gT 62 57 (.call false (.f 208) [61]),
 oP 63 57 62,
 oM 64 63,
 gT 65 64 (.mov 9),
 oP 66 64 65,
 oM 67 66,
 gT 68 67 (.mov 11),
 oP 69 67 68,
 oM 70 69,
 gT 71 70 (.mov 13),
 oP 72 70 71,
 oM 5 72] false))))))
 (.reg [oM 23 7,
 oA 24 23,
 oM 7 24] false))
def Q246 : IR :=
 .seq (.reg [o 1 (.box 5 0),
 o 2 (.mov (.c (.ns 3))),
 o 3 (.mov (.c zB))] false)
 (.seq (.reg [oL 15 5 1,
 oC 16 207 ([15, sA37]),
 oM 14 16,
 oX 17 14 0,
 oX 18 14 1,
 oM 4 17,
 oM 5 18] false)
 (.seq (.reg [o 6 (.mov (.c (.ns 3)))] false)
 (.seq (.seq (.reg [o 7 (.mov (.c zI))] false)
 (.block 0 (.loop Qll Q1o6)))
 (.seq (.reg [oM 73 6,
 oM 74 5,
 oM 2 73,
 oM 3 74] false)
 (.ret)))))
def K3d : IFn := ⟨1, 75, [.tmp 2, .tmp 3], false, Q246⟩
def Qlm : List Nat := [100092, 4, 5, 6, 7]
def Q1o7 : IR :=
 .seq (.seq (.reg [oM 23 7,
 oM 24 4,
 oN 25 24,
 o 26 (.bin .lss 23 25)] false)
 (.cond 26 (.skip)
 (.exit 0)))
 (.seq (.block 1 (.seq (.reg [oM 30 4,
 oM 31 7,
 oI 32 5 30 31,
 oL 33 5 32,
 oC 34 204 ([33, sA98]),
 oM 29 34,
 oX 35 29 0,
 oX 36 29 1,
 oM 8 35,
 oM 9 36] false)
 (.seq (.reg [oM 38 4,
 oM 39 7,
 oI 40 5 38 39,
 oL 41 5 40,
 oC 42 204 ([41, sA54]),
 oM 37 42,
 oX 43 37 0,
 oX 44 37 1,
 oM 10 43,
 oM 11 44] false)
 (.seq (.reg [oM 46 4,
 oM 47 7,
 oI 48 5 46 47,
 oL 49 5 48,
 oC 50 201 ([49, sA60]),
 oM 45 50,
 oX 51 45 0,
 oX 52 45 1,
 oM 12 51,
 oM 13 52] false)
 (.seq (.reg [oM 54 4,
 oM 55 7,
 oI 56 5 54 55,
 oL 57 5 56,
 oC 58 209 ([57, sA77]),
 oM 53 58,
 oX 59 53 0,
 oX 60 53 1,
 oM 14 59,
 oM 15 60] false)
 (.seq (.reg [oM 62 4,
 oM 63 7,
 oI 64 5 62 63,
 oL 65 5 64,
 oC 66 200 ([65, sA88]),
 oM 61 66,
 oX 67 61 0,
 oX 68 61 1,
 oM 16 67,
 oM 17 68] false)
 (.seq (.reg [oM 69 6,
 oM 70 10,
 oM 71 8,
 oM 72 12,
 oM 73 14,
 oM 74 16,
 o 75 (.build [zB, zB, .ns 3, zS, zI] [(0, 1, 70), (1, 1, 71), (2, 1, 72), (3, 1, 73), (4, 1, 74)]),
 o 76 (.lit 5 1 [zB, zB, .ns 3, zS, zI] [(0, 75)]),
 oJ 77 5 56 69 76,
 oM 6 77] false)
 (.reg [oM 78 5,
 oM 79 78,
 gT 80 79 (.mov 4),
 gT 81 79 (.mov 7),
 gT 82 79 (.iaddr 5 80 81),
 gT 83 79 (.load 5 true 82),
 gT 84 79 (.call false (.f 208) [83]),
 oP 85 79 84,
 oM 86 85,
 gT 87 86 (.mov 9),
 oP 88 86 87,
 oM 89 88,
 gT 90 89 (.mov 11),
 oP 91 89 90,
 oM 92 91,
 gT 93 92 (.mov 13),
 oP 94 92 93,
 oM 95 94,
 gT 96 95 (.mov 15),
 oP 97 95 96,
 oM 98 97,
 gT 99 98 (.mov 17),
 oP 100 98 99,
 oM 5 100] false))))))))
 (.reg [oM 27 7,
 oA 28 27,
 oM 7 28] false))
def Q247 : IR :=
 .seq (.reg [o 1 (.box 5 0),
 o 2 (.mov (.c (.ns 5))),
 o 3 (.mov (.c zB))] false)
 (.seq (.reg [oL 19 5 1,
 oC 20 207 ([19, sA46]),
 oM 18 20,
 oX 21 18 0,
 oX 22 18 1,
 oM 4 21,
 oM 5 22] false)
 (.seq (.reg [o 6 (.mov (.c (.ns 5)))] false)
 (.seq (.seq (.reg [o 7 (.mov (.c zI))] false)
 (.block 0 (.loop Qlm Q1o7)))
 (.seq (.reg [oM 101 6,
 oM 102 5,
 oM 2 101,
 oM 3 102] false)
 (.ret)))))
def K3e : IFn := ⟨1, 103, [.tmp 2, .tmp 3], false, Q247⟩
def Qlo : List Nat := [100093, 4, 5, 6, 7]
def Q1o9 : IR :=
 .seq (.seq (.reg [oM 21 7,
 oM 22 4,
 oN 23 22,
 o 24 (.bin .lss 21 23)] false)
 (.cond 24 (.skip)
 (.exit 0)))
 (.seq (.block 1 (.seq (.reg [oM 28 4,
 oM 29 7,
 oI 30 5 28 29,
 oL 31 5 30,
 oC 32 200 ([31, sA33]),
 oM 27 32,
 oX 33 27 0,
 oX 34 27 1,
 oM 8 33,
 oM 9 34] false)
 (.seq (.reg [oM 36 4,
 oM 37 7,
 oI 38 5 36 37,
 oL 39 5 38,
 oC 40 204 ([39, sA54]),
 oM 35 40,
 oX 41 35 0,
 oX 42 35 1,
 oM 10 41,
 oM 11 42] false)
 (.seq (.reg [oM 44 4,
 oM 45 7,
 oI 46 5 44 45,
 oL 47 5 46,
 oC 48 201 ([47, sA60]),
 oM 43 48,
 oX 49 43 0,
 oX 50 43 1,
 oM 12 49,
 oM 13 50] false)
 (.seq (.reg [oM 52 4,
 oM 53 7,
 oI 54 5 52 53,
 oL 55 5 54,
 oC 56 209 ([55, sA77]),
 oM 51 56,
 oX 57 51 0,
 oX 58 51 1,
 oM 14 57,
 oM 15 58] false)
 (.seq (.reg [oM 59 6,
 oM 60 8,
 oM 61 14,
 oM 62 12,
 oM 63 10,
 o 64 (.build [zI, zS, .ns 3, zB] [(0, 1, 60), (1, 1, 61), (2, 1, 62), (3, 1, 63)]),
 o 65 (.lit 4 1 [zI, zS, .ns 3, zB] [(0, 64)]),
 oJ 66 4 56 59 65,
 oM 6 66] false)
 (.reg [oM 67 5,
 oM 68 67,
 gT 69 68 (.mov 4),
 gT 70 68 (.mov 7),
 gT 71 68 (.iaddr 5 69 70),
 gT 72 68 (.load 5 true 71),
 gT 73 68 (.call false (.f 208) [72]),
 oP 74 68 73,
 oM 75 74,
 gT 76 75 (.mov 9),
 oP 77 75 76,
 oM 78 77,
 gT 79 78 (.mov 11),
 oP 80 78 79,
 oM 81 80,
 gT 82 81 (.mov 13),
 oP 83 81 82,
 oM 84 83,
 gT 85 84 (.mov 15),
 oP 86 84 85,
 oM 5 86] false)))))))
 (.reg [oM 25 7,
 oA 26 25,
 oM 7 26] false))
def Q24b : IR :=
 .seq (.reg [o 1 (.box 5 0),
 o 2 (.mov (.c (.ns 4))),
 o 3 (.mov (.c zB))] false)
 (.seq (.reg [oL 17 5 1,
 oC 18 207 ([17, sA63]),
 oM 16 18,
 oX 19 16 0,
 oX 20 16 1,
 oM 4 19,
 oM 5 20] false)
 (.seq (.reg [o 6 (.mov (.c (.ns 4)))] false)
 (.seq (.seq (.reg [o 7 (.mov (.c zI))] false)
 (.block 0 (.loop Qlo Q1o9)))
 (.seq (.reg [oM 87 6,
 oM 88 5,
 oM 2 87,
 oM 3 88] false)
 (.ret)))))
def K3i : IFn := ⟨1, 89, [.tmp 2, .tmp 3], false, Q24b⟩
def Qlp : List Nat := [100094, 4, 5, 6, 7]
def Q1oa : IR :=
 .seq (.seq (.reg [oM 23 7,
 oM 24 4,
 oN 25 24,
 o 26 (.bin .lss 23 25)] false)
 (.cond 26 (.skip)
 (.exit 0)))
 (.seq (.block 1 (.seq (.reg [oM 30 4,
 oM 31 7,
 oI 32 5 30 31,
 oL 33 5 32,
 oC 34 200 ([33, sA8]),
 oM 29 34,
 oX 35 29 0,
 oX 36 29 1,
 oM 8 35,
 oM 9 36] false)
 (.seq (.reg [oM 38 4,
 oM 39 7,
 oI 40 5 38 39,
 oL 41 5 40,
 oC 42 204 ([41, sA9]),
 oM 37 42,
 oX 43 37 0,
 oX 44 37 1,
 oM 10 43,
 oM 11 44] false)
 (.seq (.reg [oM 46 4,
 oM 47 7,
 oI 48 5 46 47,
 oL 49 5 48,
 oC 50 209 ([49, sA23]),
 oM 45 50,
 oX 51 45 0,
 oX 52 45 1,
 oM 12 51,
 oM 13 52] false)
 (.seq (.reg [oM 54 4,
 oM 55 7,
 oI 56 5 54 55,
 oL 57 5 56,
 oC 58 200 ([57, sA61]),
 oM 53 58,
 oX 59 53 0,
 oX 60 53 1,
 oM 14 59,
 oM 15 60] false)
 (.seq (.reg [oM 62 4,
 oM 63 7,
 oI 64 5 62 63,
 oL 65 5 64,
 oC 66 209 ([65, sA87]),
 oM 61 66,
 oX 67 61 0,
 oX 68 61 1,
 oM 16 67,
 oM 17 68] false)
 (.seq (.reg [oM 69 6,
 oM 70 12,
 oM 71 16,
 oM 72 10,
 oM 73 8,
 oM 74 14,
 o 75 (.build [zS, zS, zB, zI, zI] [(0, 1, 70), (1, 1, 71), (2, 1, 72), (3, 1, 73), (4, 1, 74)]),
 o 76 (.lit 5 1 [zS, zS, zB, zI, zI] [(0, 75)]),
 oJ 77 5 56 69 76,
 oM 6 77] false)
 (.reg [oM 78 5,
 oM 79 78,
 gT 80 79 (.mov 4),
 gT 81 79 (.mov 7),
 gT 82 79 (.iaddr 5 80 81),
 gT 83 79 (.load 5 true 82),
 gT 84 79 (.call false (.f 208) [83]),
 oP 85 79 84,
 oM 86 85,
 gT 87 86 (.mov 9),
 oP 88 86 87,
 oM 89 88,
 gT 90 89 (.mov 11),
 oP 91 89 90,
 oM 92 91,
 gT 93 92 (.mov 13),
 oP 94 92 93,
 oM 95 94,
 gT 96 95 (.mov 15),
 oP 97 95 96,
 oM 98 97,
 gT 99 98 (.mov 17),
 oP 100 98 99,
 oM 5 100] false))))))))
 (.reg [oM 27 7,
 oA 28 27,
 oM 7 28] false))
def Q24c : IR :=
 .seq (.reg [o 1 (.box 5 0),
 o 2 (.mov (.c (.ns 5))),
 o 3 (.mov (.c zB))] false)
 (.seq (.reg [oL 19 5 1,
 oC 20 207 ([19, sA76]),
 oM 18 20,
 oX 21 18 0,
 oX 22 18 1,
 oM 4 21,
 oM 5 22] false)
 (.seq (.reg [o 6 (.mov (.c (.ns 5)))] false)
 (.seq (.seq (.reg [o 7 (.mov (.c zI))] false)
 (.block 0 (.loop Qlp Q1oa)))
 (.seq (.reg [oM 101 6,
 oM 102 5,
 oM 2 101,
 oM 3 102] false)
 (.ret)))))
def K3j : IFn := ⟨1, 103, [.tmp 2, .tmp 3], false, Q24c⟩
def Qla : List Nat := [100095, 0, 2, 3, 4]
def Q1nv : IR :=
 .seq (.seq (.reg [oM 5 4,
 oM 6 0,
 oN 7 6,
 o 8 (.bin .lss 5 7)] false)
 (.cond 8 (.skip)
 (.exit 0)))
 (.seq (.block 1 (.reg [oM 11 3,
 oM 12 0,
 oM 13 4,
 ob 14 (.iaddr 4 12 13) [1, 2],
 ob 15 (.faddr 0 14) [1, 2, 3],
 oE 16 1 15 [1, 2, 3, 4],
 oD 17 164 ([16]) (rg 1 6),
 ob 18 (.build zL0 [(0, 1, sA0), (1, 5, 17)]) (rg 1 7),
 oM 19 0,
 oM 20 4,
 ob 21 (.iaddr 4 19 20) [8, 9],
 ob 22 (.faddr 1 21) [8, 9, 10],
 oE 23 1 22 [8, 9, 10, 11],
 oD 24 164 ([23]) (rg 1 7 ++ rg 8 13),
 ob 25 (.build zL0 [(0, 1, sA43), (1, 5, 24)]) (rg 1 7 ++ rg 8 14),
 oM 26 0,
 oM 27 4,
 ob 28 (.iaddr 4 26 27) [15, 16],
 ob 29 (.faddr 2 28) [15, 16, 17],
 oE 30 1 29 [15, 16, 17, 18],
 oD 31 164 ([30]) (rg 1 7 ++ rg 8 14 ++ rg 15 20),
 ob 32 (.build zL0 [(0, 1, sA71), (1, 5, 31)]) (rg 1 7 ++ rg 8 14 ++ rg 15 21),
 oM 33 0,
 oM 34 4,
 ob 35 (.iaddr 4 33 34) [22, 23],
 ob 36 (.faddr 3 35) [22, 23, 24],
 oE 37 1 36 [22, 23, 24, 25],
 oD 38 164 ([37]) (rg 1 7 ++ rg 8 14 ++ rg 15 21 ++ rg 22 27),
 ob 39 (.build zL0 [(0, 1, sA13), (1, 5, 38)]) (rg 1 7 ++ rg 8 14 ++ rg 15 21 ++ rg 22 28),
 ob 40 (.lit 6 4 zL0 [(0, 18), (1, 25), (2, 32), (3, 39)]) (rg 1 29),
 oD 41 163 ([40]) (rg 1 30),
 ob 42 (.lit 5 1 zL1 [(0, 41)]) (rg 1 31),
 ob 43 (.append 5 80 11 42) (rg 0 32),
 ob 3 (.mov 43) (rg 0 33)] true))
 (.reg [oM 9 4,
 oA 10 9,
 oM 4 10] false))
def Q23l : IR :=
 .seq (.reg [o 2 (.zero zL1)] false)
 (.seq (.reg [o 3 (.mov (.c (.ns 5)))] false)
 (.seq (.seq (.reg [o 4 (.mov (.c zI))] false)
 (.block 0 (.loop Qla Q1nv)))
 (.seq (.reg [oM 44 3,
 o 45 (.build zL1 [(0, 1, .c (iN 4)), (3, 1, 44)]),
 oS 5 2 45] false)
 (.ret))))
def K2n : IFn := ⟨1, 46, [.cell 2 5 true], false, Q23l⟩
def Kk_c : IR :=
 .seq (.reg [o 3 (.box 5 1),
 o 4 (.zero [zI, zI, zI])] false)
 (.seq (.reg [oM 5 0,
 oL 6 5 3,
 oD 7 240 ([5, 6, Q1cm]) [0, 1],
 oM 8 0,
 oL 9 5 3,
 oD 10 240 ([8, 9, sA28]) (rg 0 5),
 oM 11 0,
 oL 12 5 3,
 oD 13 240 ([11, 12, sA3]) (rg 0 8),
 ob 14 (.build [zI, zI, zI] [(0, 1, 7), (1, 1, 10), (2, 1, 13)]) (rg 0 9),
 ⟨none, none, .store 3 4 14, (rg 0 10)⟩] true)
 (.ret))
def Kk : IFn := ⟨2, 15, [.cell 4 3 true], false, Kk_c⟩
def Qrp : List Nat := [100096, 3, 9, 16, 17, 18]
def Q1vv : IR :=
 .seq (.reg [o 19 (.bin .lss 18 17)] false)
 (.seq (.cond 19 (.skip)
 (.exit 0))
 (.seq (.block 1 (.seq (.reg [oI 20 5 16 18,
 oL 21 5 20,
 o 11 (.zero zL1),
 oS 5 11 21] false)
 (.reg [oM 22 9,
 oM 23 3,
 oL 24 5 11,
 o 25 (.call false 23 [24]),
 o 26 (.lit 4 1 [zI, zI, zI, zI] [(0, 25)]),
 oJ 27 4 32 22 26,
 oM 9 27] false)))
 (.reg [oA 28 18,
 oM 18 28] false)))
def Kz_c : IR :=
 .seq (.reg [o 5 (.box 5 1),
 o 8 (.mov (.c (.ns 4)))] false)
 (.seq (.reg [o 9 (.mov (.c (.ns 4)))] false)
 (.seq (.seq (.reg [oM 12 0,
 oL 13 5 5,
 oM 14 2,
 oC 15 238 ([12, 13, 14, .c (iN 4)]),
 o 16 (.field 3 1 false 15),
 oN 17 16,
 o 18 (.mov (.c zI))] false)
 (.block 0 (.loop Qrp Q1vv)))
 (.seq (.reg [oM 29 9,
 oM 8 29] false)
 (.ret))))
def Kz : IFn := ⟨4, 30, [.tmp 8], false, Kz_c⟩
def Ki_c : IR :=
 .seq (.reg [o 3 (.box 5 1),
 o 4 (.zero [zI, zI, zI, zI])] false)
 (.seq (.reg [oM 5 0,
 oL 6 5 3,
 oC 7 215 ([5, 6])] false)
 (.seq (.reg [oM 8 0,
 oL 9 5 3,
 oD 10 240 ([8, 9, sA0]) [0, 1],
 oM 11 0,
 oL 12 5 3,
 oD 13 240 ([11, 12, sA43]) (rg 0 5),
 oM 14 0,
 oL 15 5 3,
 oD 16 240 ([14, 15, sA71]) (rg 0 8),
 oM 17 0,
 oL 18 5 3,
 oD 19 240 ([17, 18, sA13]) (rg 0 11),
 ob 20 (.build [zI, zI, zI, zI] [(0, 1, 10), (1, 1, 13), (2, 1, 16), (3, 1, 19)]) (rg 0 12),
 ⟨none, none, .store 4 4 20, (rg 0 13)⟩] true)
 (.ret)))
def Ki : IFn := ⟨2, 21, [.cell 4 4 true], false, Ki_c⟩
def Qkm : List Nat := [100097, 3, 9, 16, 17, 18]
def Q1n7 : IR :=
 .seq (.reg [o 19 (.bin .lss 18 17)] false)
 (.seq (.cond 19 (.skip)
 (.exit 0))
 (.seq (.block 1 (.seq (.reg [oI 20 5 16 18,
 oL 21 5 20,
 o 11 (.zero zL1),
 oS 5 11 21] false)
 (.reg [oM 22 9,
 oM 23 3,
 oL 24 5 11,
 o 25 (.call false 23 [24]),
 o 26 (.lit 1 1 [zS] [(0, 25)]),
 oJ 27 1 16 22 26,
 oM 9 27] false)))
 (.reg [oA 28 18,
 oM 18 28] false)))
def Q22m : IR :=
 .seq (.reg [o 5 (.box 5 1),
 o 8 (.mov (.c (.ns 1)))] false)
 (.seq (.reg [o 9 (.mov (.c (.ns 1)))] false)
 (.seq (.seq (.reg [oM 12 0,
 oL 13 5 5,
 oM 14 2,
 oC 15 238 ([12, 13, 14, .c (iN 4)]),
 o 16 (.field 3 1 false 15),
 oN 17 16,
 o 18 (.mov (.c zI))] false)
 (.block 0 (.loop Qkm Q1n7)))
 (.seq (.reg [oM 29 9,
 oM 8 29] false)
 (.ret))))
def K10 : IFn := ⟨4, 30, [.tmp 8], false, Q22m⟩
def Kq_c : IR :=
 .seq (.reg [o 3 (.box 5 1),
 o 4 (.mov (.c (zS)))] false)
 (.seq (.reg [oM 5 0,
 oM 6 0,
 o 7 (.nilck 6),
 oF 8 0 7,
 oK 9 1 8,
 oM 10 9,
 gF 11 10 (.faddr 0 3),
 gF 12 10 (.load 1 false 11),
 gF 13 10 (.bin .neq 12 (.c (iN 3))),
 gF 14 10 (.mov 13),
 gT 15 14 (.faddr 0 3),
 gT 16 14 (.load 1 false 15),
 gT 17 14 (.bin .neq 16 (.c zI)),
 gF 18 10 (.pick 14 17 (.c zB)),
 oQ 19 10 18,
 o 20 (.nilck 5),
 oF 21 0 20,
 oS 1 21 19] false)
 (.seq (.seq (.reg [oF 22 0 3,
 oK 23 1 22,
 o 24 (.bin .neq 23 (.c (iN 3)))] false)
 (.cond 24 (.seq (.reg [o 4 (.mov (.c (zS)))] false)
 (.ret))
 (.skip)))
 (.seq (.reg [oF 25 2 3,
 oK 26 1 25,
 oM 4 26] false)
 (.ret))))
def Kq : IFn := ⟨2, 27, [.tmp 4], false, Kq_c⟩
def Kc_c : IR :=
 .seq (.reg [o 4 (.box 5 1),
 o 6 (.mov (.c zB))] false)
 (.seq (.reg [oM 7 0,
 oL 8 5 4,
 oM 9 2,
 oC 10 238 ([7, 8, 9, .c (iN 1)]),
 o 11 (.field 1 1 false 10),
 o 12 (.bin .neq 11 (.c zI)),
 oM 6 12] false)
 (.ret))
def Kc : IFn := ⟨3, 13, [.tmp 6], false, Kc_c⟩
def Q244 : IR :=
 .seq (.reg [o 1 (.box 5 0),
 o 2 (.zero zL10),
 o 3 (.mov (.c zB))] false)
 (.seq (.reg [o 20 (.build zL10 []),
 o 4 (.zero zL10),
 oS 11 4 20] false)
 (.seq (.reg [o 21 (.bzero zL15),
 o 5 (.zero zL15),
 oS 7 5 21] false)
 (.seq (.reg [oL 23 5 1,
 oC 24 209 ([23, sA19]),
 oM 22 24,
 oX 25 22 0,
 oX 26 22 1,
 oM 6 25,
 oM 7 26] false)
 (.seq (.reg [oM 27 6,
 oF 28 1 4,
 oS 1 28 27] false)
 (.seq (.reg [oM 29 7,
 o 30 (.aaddr 7 1 5 (.c zI)),
 oS 1 30 29] false)
 (.seq (.reg [oL 32 5 1,
 oC 33 288 ([32, sA24]),
 oM 31 33,
 oX 34 31 0,
 oX 35 31 1,
 o 8 (.zero [zI, zI, zI]),
 oS 3 8 34,
 oM 9 35] false)
 (.seq (.reg [oL 36 3 8,
 oF 37 5 4,
 oS 3 37 36] false)
 (.seq (.reg [oM 38 9,
 o 39 (.aaddr 7 1 5 (.c (iN 1))),
 oS 1 39 38] false)
 (.seq (.reg [oL 41 5 1,
 oC 42 289 ([41, sA25]),
 oM 40 42,
 oX 43 40 0,
 oX 44 40 1,
 oM 10 43,
 oM 11 44] false)
 (.seq (.reg [oM 45 10,
 oF 46 8 4,
 oS 1 46 45] false)
 (.seq (.reg [oM 47 11,
 o 48 (.aaddr 7 1 5 (.c (iN 2))),
 oS 1 48 47] false)
 (.seq (.reg [oL 50 5 1,
 oC 51 209 ([50, sA39]),
 oM 49 51,
 oX 52 49 0,
 oX 53 49 1,
 oM 12 52,
 oM 13 53] false)
 (.seq (.reg [oM 54 12,
 oF 55 0 4,
 oS 1 55 54] false)
 (.seq (.reg [oM 56 13,
 o 57 (.aaddr 7 1 5 (.c (iN 3))),
 oS 1 57 56] false)
 (.seq (.reg [oL 59 5 1,
 oC 60 289 ([59, sA58]),
 oM 58 60,
 oX 61 58 0,
 oX 62 58 1,
 oM 14 61,
 oM 15 62] false)
 (.seq (.reg [oM 63 14,
 oF 64 9 4,
 oS 1 64 63] false)
 (.seq (.reg [oM 65 15,
 o 66 (.aaddr 7 1 5 (.c (iN 4))),
 oS 1 66 65] false)
 (.seq (.reg [oL 68 5 1,
 oC 69 288 ([68, sA53]),
 oM 67 69,
 oX 70 67 0,
 oX 71 67 1,
 o 16 (.zero [zI, zI, zI]),
 oS 3 16 70,
 oM 17 71] false)
 (.seq (.reg [oL 72 3 16,
 oF 73 2 4,
 oS 3 73 72] false)
 (.seq (.reg [oM 74 17,
 o 75 (.aaddr 7 1 5 (.c (iN 5))),
 oS 1 75 74] false)
 (.seq (.reg [oL 77 5 1,
 oC 78 289 ([77, sA66]),
 oM 76 78,
 oX 79 76 0,
 oX 80 76 1,
 oM 18 79,
 oM 19 80] false)
 (.seq (.reg [oM 81 18,
 oF 82 10 4,
 oS 1 82 81] false)
 (.seq (.reg [oM 83 19,
 o 84 (.aaddr 7 1 5 (.c (iN 6))),
 oS 1 84 83] false)
 (.seq (.reg [oL 85 11 4,
 oL 86 5 1,
 oD 87 208 ([86]) [1],
 ob 88 (.mov 87) [1, 2],
 ⟨(some 89), (some (88, true)), .aaddr 7 1 5 (.c zI), [1, 2, 3]⟩,
 ⟨(some 90), (some (88, true)), .load 1 false 89, [1, 2, 3, 4]⟩,
 ob 91 (.pick 88 90 (.c zB)) (rg 1 6),
 ob 92 (.mov 91) (rg 1 7),
 ⟨(some 93), (some (92, true)), .aaddr 7 1 5 (.c (iN 1)), (rg 1 8)⟩,
 ⟨(some 94), (some (92, true)), .load 1 false 93, (rg 1 9)⟩,
 ob 95 (.pick 92 94 (.c zB)) (rg 1 10),
 ob 96 (.mov 95) (rg 1 11),
 ⟨(some 97), (some (96, true)), .aaddr 7 1 5 (.c (iN 2)), (rg 1 12)⟩,
 ⟨(some 98), (some (96, true)), .load 1 false 97, (rg 1 13)⟩,
 ob 99 (.pick 96 98 (.c zB)) (rg 1 14),
 ob 100 (.mov 99) (rg 1 15),
 ⟨(some 101), (some (100, true)), .aaddr 7 1 5 (.c (iN 3)), (rg 1 16)⟩,
 ⟨(some 102), (some (100, true)), .load 1 false 101, (rg 1 17)⟩,
 ob 103 (.pick 100 102 (.c zB)) (rg 1 18),
 ob 104 (.mov 103) (rg 1 19),
 ⟨(some 105), (some (104, true)), .aaddr 7 1 5 (.c (iN 4)), (rg 1 20)⟩,
 ⟨(some 106), (some (104, true)), .load 1 false 105, (rg 1 21)⟩,
 ob 107 (.pick 104 106 (.c zB)) (rg 1 22),
 ob 108 (.mov 107) (rg 1 23),
 ⟨(some 109), (some (108, true)), .aaddr 7 1 5 (.c (iN 5)), (rg 1 24)⟩,
 ⟨(some 110), (some (108, true)), .load 1 false 109, (rg 1 25)⟩,
 ob 111 (.pick 108 110 (.c zB)) (rg 1 26),
 ob 112 (.mov 111) (rg 1 27),
 ⟨(some 113), (some (112, true)), .aaddr 7 1 5 (.c (iN 6)), (rg 1 28)⟩,
 ⟨(some 114), (some (112, true)), .load 1 false 113, (rg 1 29)⟩,
 ob 115 (.pick 112 114 (.c zB)) (rg 1 30),
 ⟨none, none, .store 11 2 85, (rg 0 28)⟩,
 ob 3 (.mov 115) (rg 0 32)] true)
 (.ret)))))))))))))))))))))))))
def K3b : IFn := ⟨1, 116, [.cell 2 11 true, .tmp 3], false, Q244⟩
def Q24a : IR :=
 .seq (.reg [o 2 (.box 5 0),
 o 4 (.zero [zI, zI, zI]),
 o 5 (.mov (.c zB))] false)
 (.seq (.reg [oL 13 5 2,
 oM 14 1,
 oC 15 203 ([13, 14]),
 o 6 (.zero zL1),
 oS 5 6 15] false)
 (.seq (.reg [oL 17 5 6,
 oC 18 200 ([17, Q1cm]),
 oM 16 18,
 oX 19 16 0,
 oX 20 16 1,
 oM 7 19,
 oM 8 20] false)
 (.seq (.reg [oL 22 5 6,
 oC 23 200 ([22, sA3]),
 oM 21 23,
 oX 24 21 0,
 oX 25 21 1,
 oM 9 24,
 oM 10 25] false)
 (.seq (.reg [oL 27 5 6,
 oC 28 200 ([27, sA28]),
 oM 26 28,
 oX 29 26 0,
 oX 30 26 1,
 oM 11 29,
 oM 12 30] false)
 (.seq (.reg [oM 31 7,
 oM 32 11,
 oM 33 9,
 o 34 (.build [zI, zI, zI] [(0, 1, 31), (1, 1, 32), (2, 1, 33)]),
 oL 35 5 6,
 oC 36 208 ([35]),
 oM 37 36,
 gT 38 37 (.mov 8),
 oP 39 37 38,
 oM 40 39,
 gT 41 40 (.mov 10),
 oP 42 40 41,
 oM 43 42,
 gT 44 43 (.mov 12),
 oP 45 43 44,
 oS 3 4 34,
 oM 5 45] false)
 (.ret))))))
def K3h : IFn := ⟨2, 46, [.cell 4 3 true, .tmp 5], false, Q24a⟩
def Qln : List Nat := [100100, 6, 7, 8, 9]
def Q1o8 : IR :=
 .seq (.seq (.reg [oM 18 9,
 oM 19 6,
 oN 20 19,
 o 21 (.bin .lss 18 20)] false)
 (.cond 21 (.skip)
 (.exit 0)))
 (.seq (.block 1 (.seq (.reg [oM 25 6,
 oM 26 9,
 oI 27 5 25 26,
 oL 28 5 27,
 oC 29 290 ([28]),
 oM 24 29,
 oX 30 24 0,
 oX 31 24 1,
 o 10 (.zero [zI, zI, zI, zI]),
 oS 4 10 30,
 oM 11 31] false)
 (.seq (.reg [oM 32 8,
 oL 33 4 10,
 o 34 (.lit 4 1 [zI, zI, zI, zI] [(0, 33)]),
 oJ 35 4 32 32 34,
 oM 8 35] false)
 (.reg [oM 36 7,
 oM 37 36,
 gT 38 37 (.mov 11),
 oP 39 37 38,
 oM 7 39] false))))
 (.reg [oM 22 9,
 oA 23 22,
 oM 9 23] false))
def Q249 : IR :=
 .seq (.reg [o 2 (.box 5 0),
 o 4 (.mov (.c (.ns 4))),
 o 5 (.mov (.c zB))] false)
 (.seq (.reg [oL 13 5 2,
 oM 14 1,
 oC 15 207 ([13, 14]),
 oM 12 15,
 oX 16 12 0,
 oX 17 12 1,
 oM 6 16,
 oM 7 17] false)
 (.seq (.reg [o 8 (.mov (.c (.ns 4)))] false)
 (.seq (.seq (.reg [o 9 (.mov (.c zI))] false)
 (.block 0 (.loop Qln Q1o8)))
 (.seq (.reg [oM 40 8,
 oM 41 7,
 oM 4 40,
 oM 5 41] false)
 (.ret)))))
def K3g : IFn := ⟨2, 42, [.tmp 4, .tmp 5], false, Q249⟩
def Q248 : IR :=
 .seq (.reg [o 1 (.box 5 0),
 o 2 (.zero [zI, zI, zI, zI]),
 o 3 (.mov (.c zB))] false)
 (.seq (.reg [oL 13 5 1,
 oC 14 200 ([13, sA0]),
 oM 12 14,
 oX 15 12 0,
 oX 16 12 1,
 oM 4 15,
 oM 5 16] false)
 (.seq (.reg [oL 18 5 1,
 oC 19 200 ([18, sA13]),
 oM 17 19,
 oX 20 17 0,
 oX 21 17 1,
 oM 6 20,
 oM 7 21] false)
 (.seq (.reg [oL 23 5 1,
 oC 24 200 ([23, sA43]),
 oM 22 24,
 oX 25 22 0,
 oX 26 22 1,
 oM 8 25,
 oM 9 26] false)
 (.seq (.reg [oL 28 5 1,
 oC 29 200 ([28, sA71]),
 oM 27 29,
 oX 30 27 0,
 oX 31 27 1,
 oM 10 30,
 oM 11 31] false)
 (.seq (.reg [oM 32 4,
 oM 33 8,
 oM 34 10,
 oM 35 6,
 o 36 (.build [zI, zI, zI, zI] [(0, 1, 32), (1, 1, 33), (2, 1, 34), (3, 1, 35)]),
 oL 37 5 1,
 oC 38 208 ([37]),
 oM 39 38,
 gT 40 39 (.mov 5),
 oP 41 39 40,
 oM 42 41,
 gT 43 42 (.mov 7),
 oP 44 42 43,
 oM 45 44,
 gT 46 45 (.mov 9),
 oP 47 45 46,
 oM 48 47,
 gT 49 48 (.mov 11),
 oP 50 48 49,
 oS 4 2 36,
 oM 3 50] false)
 (.ret))))))
def K3f : IFn := ⟨1, 51, [.cell 2 4 true, .tmp 3], false, Q248⟩
def table : List (Nat × Fun) :=
  [(6, .ir K1),
   (9, .ir K3o),
   (10, .ir K3k),
   (11, .ir K8),
   (12, .ir K6),
   (13, .ir K5o),
   (15, .ir K5g),
   (17, .ir K1v),
   (19, .ir K3q),
   (20, .ir K3l),
   (23, .ir K5r),
   (25, .ir K5j),
   (27, .ir K1y),
   (35, .ir K5x),
   (43, .ir K5v),
   (47, .ir K40),
   (48, .ir K42),
   (49, .ir K5m),
   (50, .ir K3y),
   (51, .ir K3m),
   (52, .ir K3x),
   (53, .ir K3w),
   (58, .ir K49),
   (59, .ir K2a),
   (60, .ir K30),
   (61, .ir K22),
   (62, .ir K23),
   (63, .ir K1r),
   (64, .ir K5d),
   (65, .ir K1o),
   (66, .ir K1q),
   (67, .ir K1p),
   (68, .ir K77),
   (69, .ir K79),
   (70, .ir K5z),
   (71, .ir K66),
   (72, .ir K6a),
   (73, .ir K6e),
   (74, .ir K6g),
   (75, .ir K60),
   (76, .ir K62),
   (77, .ir K6f),
   (78, .ir K50),
   (79, .ir K75),
   (83, .ir K78),
   (85, .ir K76),
   (87, .ir K6h),
   (88, .ir K5h),
   (89, .ir K6d),
   (90, .ir K6r),
   (91, .ir K5i),
   (92, .ir K7k),
   (98, .ir K1n),
   (100, .ir K2e),
   (101, .ir K2f),
   (102, .ir K25),
   (103, .ir K26),
   (105, .ir K65),
   (106, .ir K63),
   (107, .ir K7b),
   (109, .ir K4y),
   (111, .ir K6i),
   (112, .ir K5k),
   (113, .ir K5l),
   (114, .ir K7c),
   (115, .ir K6j),
   (119, .ir K1x),
   (120, .ir K1z),
   (121, .ir K4a),
   (122, .ir K4j),
   (123, .ir K4m),
   (124, .ir K4p),
   (125, .ir K4q),
   (126, .ir K48),
   (128, .ir K4f),
   (130, .ir K4c),
   (131, .ir K4o),
   (134, .ir K7f),
   (135, .ir K67),
   (140, .ir K4i),
   (141, .ir K4b),
   (142, .ir K4n),
   (143, .ir K4e),
   (152, .ir K7i),
   (153, .ir K69),
   (158, .ir K4h),
   (159, .ir K4g),
   (160, .ir K7j),
   (161, .ir K28),
   (162, .ir K4d),
   (163, .ir K2h),
   (164, .ir K2c),
   (165, .ir K2s),
   (166, .ir K2y),
   (167, .ir K24),
   (168, .ir K20),
   (169, .ir K2w),
   (170, .ir K1s),
   (171, .ir K6u),
   (172, .ir K1m),
   (173, .ir K1u),
   (174, .ir K61),
   (175, .ax (Qo7 2 32)),
   (176, .ax (Qo7 5 48)),
   (177, .ax (Qo7 1 16)),
   (178, .ax (Qo6 2 40)),
   (179, .ir K6n),
   (180, .ir K6b),
   (181, .ir K6o),
   (182, .ir K6c),
   (183, .ir Ka),
   (184, .ir K4x),
   (185, .ax (Qo6 6 96)),
   (186, .ir K4s),
   (187, .ir K51),
   (188, .ir K4v),
   (189, .ir K53),
   (194, .ir K1l),
   (195, .ir K2d),
   (196, .ir K21),
   (197, .ir K6p),
   (198, .ir K64),
   (199, .ir K1w),
   (200, .ir K32),
   (201, .ir K35),
   (202, .ir K39),
   (203, .ir K34),
   (204, .ir K3a),
   (205, .ir K6q),
   (206, .ir K68),
   (207, .ir K31),
   (208, .ir K33),
   (209, .ir K36),
   (211, .ir K2r),
   (212, .ir K2x),
   (213, .ir K2g),
   (214, .ir K2k),
   (215, .ir Ko),
   (216, .ir Ks),
   (217, .ir Ke),
   (218, .ir Kl),
   (219, .ir Kp),
   (220, .ir K4u),
   (221, .cmpstr),
   (222, .ax (Qo6 5 80)),
   (230, .ir K1t),
   (231, .ir K37),
   (232, .ir K38),
   (233, .ir K27),
   (234, .ir K2j),
   (235, .ir K2l),
   (236, .ir K2u),
   (237, .ir K2z),
   (238, .ir Kd),
   (239, .ir Kn),
   (240, .ir Kg),
   (241, .ir Kt),
   (242, .ir Kb),
   (243, .ir Ku),
   (244, .ir Kj),
   (245, .ir Kv),
   (246, .ir Kf),
   (247, .ir Kw),
   (248, .ir Kh),
   (249, .ir Kx),
   (250, .ir Km),
   (251, .ir Ky),
   (252, .ir Kr),
   (253, .ir K4t),
   (269, .ir K3c),
   (270, .ir K3d),
   (271, .ir K3e),
   (272, .ir K3i),
   (273, .ir K3j),
   (274, .ir K2n),
   (275, .ir Kk),
   (276, .ir Kz),
   (277, .ir Ki),
   (278, .ir K10),
   (279, .ir Kq),
   (280, .ir Kc),
   (286, .ir K3b),
   (288, .ir K3h),
   (289, .ir K3g),
   (290, .ir K3f)]
end Go.Proofs.YtimjjohlpnkacaaGreat.Ir
end

section
/- The printed functions are the given ones. -/
namespace Go.Proofs.YtimjjohlpnkacaaGreat
open Go.Pv
theorem Q2gq : Q1d Tryz.prog Tryz.f6 Ir.K1 = true := by kernel_rfl
theorem Q2gr : Q1d Tryz.prog Tryz.f9 Ir.K3o = true := by kernel_rfl
theorem Q216 : Q1d Tryz.prog Tryz.f10 Ir.K3k = true := by kernel_rfl
theorem Q217 : Q1d Tryz.prog Tryz.f11 Ir.K8 = true := by kernel_rfl
theorem Q218 : Q1d Tryz.prog Tryz.f12 Ir.K6 = true := by kernel_rfl
theorem Q219 : Q1d Tryz.prog Tryz.f13 Ir.K5o = true := by kernel_rfl
theorem Q21a : Q1d Tryz.prog Tryz.f15 Ir.K5g = true := by kernel_rfl
theorem Q21b : Q1d Tryz.prog Tryz.f17 Ir.K1v = true := by kernel_rfl
theorem Q21c : Q1d Tryz.prog Tryz.f19 Ir.K3q = true := by kernel_rfl
theorem Q21d : Q1d Tryz.prog Tryz.f20 Ir.K3l = true := by kernel_rfl
theorem Q21e : Q1d Tryz.prog Tryz.f23 Ir.K5r = true := by kernel_rfl
theorem Q21f : Q1d Tryz.prog Tryz.f25 Ir.K5j = true := by kernel_rfl
theorem Q21g : Q1d Tryz.prog Tryz.f27 Ir.K1y = true := by kernel_rfl
theorem Q21h : Q1d Tryz.prog Tryz.f35 Ir.K5x = true := by kernel_rfl
theorem Q21i : Q1d Tryz.prog Tryz.f43 Ir.K5v = true := by kernel_rfl
theorem Q21j : Q1d Tryz.prog Tryz.f47 Ir.K40 = true := by kernel_rfl
theorem Q21k : Q1d Tryz.prog Tryz.f48 Ir.K42 = true := by kernel_rfl
theorem Q21l : Q1d Tryz.prog Tryz.f49 Ir.K5m = true := by kernel_rfl
theorem Q21m : Q1d Tryz.prog Tryz.f50 Ir.K3y = true := by kernel_rfl
theorem Q21n : Q1d Tryz.prog Tryz.f51 Ir.K3m = true := by kernel_rfl
theorem Q21o : Q1d Tryz.prog Tryz.f52 Ir.K3x = true := by kernel_rfl
theorem Q21p : Q1d Tryz.prog Tryz.f53 Ir.K3w = true := by kernel_rfl
theorem Q21q : Q1d Tryz.prog Tryz.f58 Ir.K49 = true := by kernel_rfl
theorem Q21r : Q1d Tryz.prog Tryz.f59 Ir.K2a = true := by kernel_rfl
theorem Q21s : Q1d Tryz.prog Tryz.f60 Ir.K30 = true := by kernel_rfl
theorem Q21t : Q1d Tryz.prog Tryz.f61 Ir.K22 = true := by kernel_rfl
theorem Q21u : Q1d Tryz.prog Tryz.f62 Ir.K23 = true := by kernel_rfl
theorem Q21v : Q1d Tryz.prog Tryz.f63 Ir.K1r = true := by kernel_rfl
theorem Q21w : Q1d Tryz.prog Tryz.f64 Ir.K5d = true := by kernel_rfl
theorem Q21x : Q1d Tryz.prog Tryz.f65 Ir.K1o = true := by kernel_rfl
theorem Q21y : Q1d Tryz.prog Tryz.f66 Ir.K1q = true := by kernel_rfl
theorem Q21z : Q1d Tryz.prog Tryz.f67 Ir.K1p = true := by kernel_rfl
theorem Q220 : Q1d Tryz.prog Tryz.f68 Ir.K77 = true := by kernel_rfl
theorem Q221 : Q1d Tryz.prog Tryz.f69 Ir.K79 = true := by kernel_rfl
theorem Q222 : Q1d Tryz.prog Tryz.f70 Ir.K5z = true := by kernel_rfl
theorem Q223 : Q1d Tryz.prog Tryz.f71 Ir.K66 = true := by kernel_rfl
theorem Q224 : Q1d Tryz.prog Tryz.f72 Ir.K6a = true := by kernel_rfl
theorem Q225 : Q1d Tryz.prog Tryz.f73 Ir.K6e = true := by kernel_rfl
theorem Q226 : Q1d Tryz.prog Tryz.f74 Ir.K6g = true := by kernel_rfl
theorem Q227 : Q1d Tryz.prog Tryz.f75 Ir.K60 = true := by kernel_rfl
theorem Q228 : Q1d Tryz.prog Tryz.f76 Ir.K62 = true := by kernel_rfl
theorem Q229 : Q1d Tryz.prog Tryz.f77 Ir.K6f = true := by kernel_rfl
theorem Q22a : Q1d Tryz.prog Tryz.f78 Ir.K50 = true := by kernel_rfl
theorem Q22b : Q1d Tryz.prog Tryz.f79 Ir.K75 = true := by kernel_rfl
theorem Q22c : Q1d Tryz.prog Tryz.f83 Ir.K78 = true := by kernel_rfl
theorem Q22d : Q1d Tryz.prog Tryz.f85 Ir.K76 = true := by kernel_rfl
theorem Q22e : Q1d Tryz.prog Tryz.f87 Ir.K6h = true := by kernel_rfl
theorem Q22f : Q1d Tryz.prog Tryz.f88 Ir.K5h = true := by kernel_rfl
theorem Q22g : Q1d Tryz.prog Tryz.f89 Ir.K6d = true := by kernel_rfl
theorem Q22h : Q1d Tryz.prog Tryz.f90 Ir.K6r = true := by kernel_rfl
theorem Q22i : Q1d Tryz.prog Tryz.f91 Ir.K5i = true := by kernel_rfl
theorem Q22j : Q1d Tryz.prog Tryz.f92 Ir.K7k = true := by kernel_rfl
theorem Q22k : Q1d Tryz.prog Tryz.f98 Ir.K1n = true := by kernel_rfl
theorem Q1rh : Q1d Tryz.prog Tryz.f100 Ir.K2e = true := by kernel_rfl
theorem Q1ri : Q1d Tryz.prog Tryz.f101 Ir.K2f = true := by kernel_rfl
theorem Q1rj : Q1d Tryz.prog Tryz.f102 Ir.K25 = true := by kernel_rfl
theorem Q1rk : Q1d Tryz.prog Tryz.f103 Ir.K26 = true := by kernel_rfl
theorem Q1rl : Q1d Tryz.prog Tryz.f105 Ir.K65 = true := by kernel_rfl
theorem Q1rm : Q1d Tryz.prog Tryz.f106 Ir.K63 = true := by kernel_rfl
theorem Q1rn : Q1d Tryz.prog Tryz.f107 Ir.K7b = true := by kernel_rfl
theorem Q1ro : Q1d Tryz.prog Tryz.f109 Ir.K4y = true := by kernel_rfl
theorem Q1rp : Q1d Tryz.prog Tryz.f111 Ir.K6i = true := by kernel_rfl
theorem Q1rq : Q1d Tryz.prog Tryz.f112 Ir.K5k = true := by kernel_rfl
theorem Q1rr : Q1d Tryz.prog Tryz.f113 Ir.K5l = true := by kernel_rfl
theorem Q1rs : Q1d Tryz.prog Tryz.f114 Ir.K7c = true := by kernel_rfl
theorem Q1rt : Q1d Tryz.prog Tryz.f115 Ir.K6j = true := by kernel_rfl
theorem Q1ru : Q1d Tryz.prog Tryz.f119 Ir.K1x = true := by kernel_rfl
theorem Q1rv : Q1d Tryz.prog Tryz.f120 Ir.K1z = true := by kernel_rfl
theorem Q1rw : Q1d Tryz.prog Tryz.f121 Ir.K4a = true := by kernel_rfl
theorem Q1rx : Q1d Tryz.prog Tryz.f122 Ir.K4j = true := by kernel_rfl
theorem Q1ry : Q1d Tryz.prog Tryz.f123 Ir.K4m = true := by kernel_rfl
theorem Q1rz : Q1d Tryz.prog Tryz.f124 Ir.K4p = true := by kernel_rfl
theorem Q1s0 : Q1d Tryz.prog Tryz.f125 Ir.K4q = true := by kernel_rfl
theorem Q1s1 : Q1d Tryz.prog Tryz.f126 Ir.K48 = true := by kernel_rfl
theorem Q1s2 : Q1d Tryz.prog Tryz.f128 Ir.K4f = true := by kernel_rfl
theorem Q1s3 : Q1d Tryz.prog Tryz.f130 Ir.K4c = true := by kernel_rfl
theorem Q1s4 : Q1d Tryz.prog Tryz.f131 Ir.K4o = true := by kernel_rfl
theorem Q1s5 : Q1d Tryz.prog Tryz.f134 Ir.K7f = true := by kernel_rfl
theorem Q1s6 : Q1d Tryz.prog Tryz.f135 Ir.K67 = true := by kernel_rfl
theorem Q1s7 : Q1d Tryz.prog Tryz.f140 Ir.K4i = true := by kernel_rfl
theorem Q1s8 : Q1d Tryz.prog Tryz.f141 Ir.K4b = true := by kernel_rfl
theorem Q1s9 : Q1d Tryz.prog Tryz.f142 Ir.K4n = true := by kernel_rfl
theorem Q1sa : Q1d Tryz.prog Tryz.f143 Ir.K4e = true := by kernel_rfl
theorem Q1sb : Q1d Tryz.prog Tryz.f152 Ir.K7i = true := by kernel_rfl
theorem Q1sc : Q1d Tryz.prog Tryz.f153 Ir.K69 = true := by kernel_rfl
theorem Q1sd : Q1d Tryz.prog Tryz.f158 Ir.K4h = true := by kernel_rfl
theorem Q1se : Q1d Tryz.prog Tryz.f159 Ir.K4g = true := by kernel_rfl
theorem Q1sf : Q1d Tryz.prog Tryz.f160 Ir.K7j = true := by kernel_rfl
theorem Q1sg : Q1d Tryz.prog Tryz.f161 Ir.K28 = true := by kernel_rfl
theorem Q1sh : Q1d Tryz.prog Tryz.f162 Ir.K4d = true := by kernel_rfl
theorem Q1si : Q1d Tryz.prog Tryz.f163 Ir.K2h = true := by kernel_rfl
theorem Q1sj : Q1d Tryz.prog Tryz.f164 Ir.K2c = true := by kernel_rfl
theorem Q1sk : Q1d Tryz.prog Tryz.f165 Ir.K2s = true := by kernel_rfl
theorem Q1sl : Q1d Tryz.prog Tryz.f166 Ir.K2y = true := by kernel_rfl
theorem Q1sm : Q1d Tryz.prog Tryz.f167 Ir.K24 = true := by kernel_rfl
theorem Q1sn : Q1d Tryz.prog Tryz.f168 Ir.K20 = true := by kernel_rfl
theorem Q1so : Q1d Tryz.prog Tryz.f169 Ir.K2w = true := by kernel_rfl
theorem Q1sp : Q1d Tryz.prog Tryz.f170 Ir.K1s = true := by kernel_rfl
theorem Q1sq : Q1d Tryz.prog Tryz.f171 Ir.K6u = true := by kernel_rfl
theorem Q1sr : Q1d Tryz.prog Tryz.f172 Ir.K1m = true := by kernel_rfl
theorem Q1ss : Q1d Tryz.prog Tryz.f173 Ir.K1u = true := by kernel_rfl
theorem Q1st : Q1d Tryz.prog Tryz.f174 Ir.K61 = true := by kernel_rfl
theorem Q1su : Q1d Tryz.prog Tryz.f179 Ir.K6n = true := by kernel_rfl
theorem Q1sv : Q1d Tryz.prog Tryz.f180 Ir.K6b = true := by kernel_rfl
theorem Q1sw : Q1d Tryz.prog Tryz.f181 Ir.K6o = true := by kernel_rfl
theorem Q1sx : Q1d Tryz.prog Tryz.f182 Ir.K6c = true := by kernel_rfl
theorem Q1sy : Q1d Tryz.prog Tryz.f183 Ir.Ka = true := by kernel_rfl
theorem Q1sz : Q1d Tryz.prog Tryz.f184 Ir.K4x = true := by kernel_rfl
theorem Q1t0 : Q1d Tryz.prog Tryz.f186 Ir.K4s = true := by kernel_rfl
theorem Q1t1 : Q1d Tryz.prog Tryz.f187 Ir.K51 = true := by kernel_rfl
theorem Q1t2 : Q1d Tryz.prog Tryz.f188 Ir.K4v = true := by kernel_rfl
theorem Q1t3 : Q1d Tryz.prog Tryz.f189 Ir.K53 = true := by kernel_rfl
theorem Q1t4 : Q1d Tryz.prog Tryz.f194 Ir.K1l = true := by kernel_rfl
theorem Q1t5 : Q1d Tryz.prog Tryz.f195 Ir.K2d = true := by kernel_rfl
theorem Q1t6 : Q1d Tryz.prog Tryz.f196 Ir.K21 = true := by kernel_rfl
theorem Q1t7 : Q1d Tryz.prog Tryz.f197 Ir.K6p = true := by kernel_rfl
theorem Q1t8 : Q1d Tryz.prog Tryz.f198 Ir.K64 = true := by kernel_rfl
theorem Q1t9 : Q1d Tryz.prog Tryz.f199 Ir.K1w = true := by kernel_rfl
theorem Q1ta : Q1d Tryz.prog Tryz.f200 Ir.K32 = true := by kernel_rfl
theorem Q1tb : Q1d Tryz.prog Tryz.f201 Ir.K35 = true := by kernel_rfl
theorem Q1tc : Q1d Tryz.prog Tryz.f202 Ir.K39 = true := by kernel_rfl
theorem Q1td : Q1d Tryz.prog Tryz.f203 Ir.K34 = true := by kernel_rfl
theorem Q1te : Q1d Tryz.prog Tryz.f204 Ir.K3a = true := by kernel_rfl
theorem Q1tf : Q1d Tryz.prog Tryz.f205 Ir.K6q = true := by kernel_rfl
theorem Q1tg : Q1d Tryz.prog Tryz.f206 Ir.K68 = true := by kernel_rfl
theorem Q1th : Q1d Tryz.prog Tryz.f207 Ir.K31 = true := by kernel_rfl
theorem Q1ti : Q1d Tryz.prog Tryz.f208 Ir.K33 = true := by kernel_rfl
theorem Q1tj : Q1d Tryz.prog Tryz.f209 Ir.K36 = true := by kernel_rfl
theorem Q1tk : Q1d Tryz.prog Tryz.f211 Ir.K2r = true := by kernel_rfl
theorem Q1tl : Q1d Tryz.prog Tryz.f212 Ir.K2x = true := by kernel_rfl
theorem Q1tm : Q1d Tryz.prog Tryz.f213 Ir.K2g = true := by kernel_rfl
theorem Q1tn : Q1d Tryz.prog Tryz.f214 Ir.K2k = true := by kernel_rfl
theorem Q1to : Q1d Tryz.prog Tryz.f215 Ir.Ko = true := by kernel_rfl
theorem Q1tp : Q1d Tryz.prog Tryz.f216 Ir.Ks = true := by kernel_rfl
theorem Q1tq : Q1d Tryz.prog Tryz.f217 Ir.Ke = true := by kernel_rfl
theorem Q1tr : Q1d Tryz.prog Tryz.f218 Ir.Kl = true := by kernel_rfl
theorem Q1ts : Q1d Tryz.prog Tryz.f219 Ir.Kp = true := by kernel_rfl
theorem Q1tt : Q1d Tryz.prog Tryz.f220 Ir.K4u = true := by kernel_rfl
theorem Q1tu : Q1d Tryz.prog Tryz.f230 Ir.K1t = true := by kernel_rfl
theorem Q1tv : Q1d Tryz.prog Tryz.f231 Ir.K37 = true := by kernel_rfl
theorem Q1tw : Q1d Tryz.prog Tryz.f232 Ir.K38 = true := by kernel_rfl
theorem Q1tx : Q1d Tryz.prog Tryz.f233 Ir.K27 = true := by kernel_rfl
theorem Q1ty : Q1d Tryz.prog Tryz.f234 Ir.K2j = true := by kernel_rfl
theorem Q1tz : Q1d Tryz.prog Tryz.f235 Ir.K2l = true := by kernel_rfl
theorem Q1u0 : Q1d Tryz.prog Tryz.f236 Ir.K2u = true := by kernel_rfl
theorem Q1u1 : Q1d Tryz.prog Tryz.f237 Ir.K2z = true := by kernel_rfl
theorem Q1u2 : Q1d Tryz.prog Tryz.f238 Ir.Kd = true := by kernel_rfl
theorem Q1u3 : Q1d Tryz.prog Tryz.f239 Ir.Kn = true := by kernel_rfl
theorem Q1u4 : Q1d Tryz.prog Tryz.f240 Ir.Kg = true := by kernel_rfl
theorem Q1u5 : Q1d Tryz.prog Tryz.f241 Ir.Kt = true := by kernel_rfl
theorem Q1u6 : Q1d Tryz.prog Tryz.f242 Ir.Kb = true := by kernel_rfl
theorem Q1u7 : Q1d Tryz.prog Tryz.f243 Ir.Ku = true := by kernel_rfl
theorem Q1u8 : Q1d Tryz.prog Tryz.f244 Ir.Kj = true := by kernel_rfl
theorem Q1u9 : Q1d Tryz.prog Tryz.f245 Ir.Kv = true := by kernel_rfl
theorem Q1ua : Q1d Tryz.prog Tryz.f246 Ir.Kf = true := by kernel_rfl
theorem Q1ub : Q1d Tryz.prog Tryz.f247 Ir.Kw = true := by kernel_rfl
theorem Q1uc : Q1d Tryz.prog Tryz.f248 Ir.Kh = true := by kernel_rfl
theorem Q1ud : Q1d Tryz.prog Tryz.f249 Ir.Kx = true := by kernel_rfl
theorem Q1ue : Q1d Tryz.prog Tryz.f250 Ir.Km = true := by kernel_rfl
theorem Q1uf : Q1d Tryz.prog Tryz.f251 Ir.Ky = true := by kernel_rfl
theorem Q1ug : Q1d Tryz.prog Tryz.f252 Ir.Kr = true := by kernel_rfl
theorem Q1uh : Q1d Tryz.prog Tryz.f253 Ir.K4t = true := by kernel_rfl
theorem Q1ui : Q1d Tryz.prog Tryz.f269 Ir.K3c = true := by kernel_rfl
theorem Q1uj : Q1d Tryz.prog Tryz.f270 Ir.K3d = true := by kernel_rfl
theorem Q1uk : Q1d Tryz.prog Tryz.f271 Ir.K3e = true := by kernel_rfl
theorem Q1ul : Q1d Tryz.prog Tryz.f272 Ir.K3i = true := by kernel_rfl
theorem Q1um : Q1d Tryz.prog Tryz.f273 Ir.K3j = true := by kernel_rfl
theorem Q1un : Q1d Tryz.prog Tryz.f274 Ir.K2n = true := by kernel_rfl
theorem Q1uo : Q1d Tryz.prog Tryz.f275 Ir.Kk = true := by kernel_rfl
theorem Q1up : Q1d Tryz.prog Tryz.f276 Ir.Kz = true := by kernel_rfl
theorem Q1uq : Q1d Tryz.prog Tryz.f277 Ir.Ki = true := by kernel_rfl
theorem Q1ur : Q1d Tryz.prog Tryz.f278 Ir.K10 = true := by kernel_rfl
theorem Q1us : Q1d Tryz.prog Tryz.f279 Ir.Kq = true := by kernel_rfl
theorem Q1ut : Q1d Tryz.prog Tryz.f280 Ir.Kc = true := by kernel_rfl
theorem Q1uu : Q1d Tryz.prog Tryz.f286 Ir.K3b = true := by kernel_rfl
theorem Q1uv : Q1d Tryz.prog Tryz.f288 Ir.K3h = true := by kernel_rfl
theorem Q1uw : Q1d Tryz.prog Tryz.f289 Ir.K3g = true := by kernel_rfl
theorem Q1ux : Q1d Tryz.prog Tryz.f290 Ir.K3f = true := by kernel_rfl
theorem Q1uy : Q7p Tryz.prog Tryz.f175 2 32 [.str ⟨#[]⟩, .str ⟨#[]⟩] = true := by kernel_rfl
theorem Q1uz : Q7p Tryz.prog Tryz.f176 5 48 [.str ⟨#[]⟩, .str ⟨#[]⟩, .int .i64 0, .bool false, .bool false] = true := by kernel_rfl
theorem Q1v0 : Q7p Tryz.prog Tryz.f177 1 16 [.str ⟨#[]⟩] = true := by kernel_rfl
theorem Q1v1 : Q7p Tryz.prog Tryz.f178 2 40 [.str ⟨#[]⟩, .ns 1] = true := by kernel_rfl
theorem Q1v2 : Q7p Tryz.prog Tryz.f185 6 96 [.str ⟨#[]⟩, .int .i64 0, .int .i64 0, .str ⟨#[]⟩, .ns 5, .ns 6] = true := by kernel_rfl
theorem Q1v3 : Q7p Tryz.prog Tryz.f222 5 80 [.int .i64 0, .int .i64 0, .str ⟨#[]⟩, .ns 5, .ns 6] = true := by kernel_rfl
theorem mixed : Tryz.prog.follows .mixedOrders = true := by kernel_rfl
theorem own : ownKnob Tryz.prog.godebug = none := by kernel_rfl
theorem laidOut : laidOutB Tryz.prog = true := by kernel_rfl
theorem tie (cmp : Q1jy Tryz.prog 221) : Tie Tryz.prog (tabG Ir.table) :=
  Qn Tryz.func6 Q2gq <| Qn Tryz.func9 Q2gr <| Qn Tryz.func10 Q216 <| Qn Tryz.func11 Q217 <| Qn Tryz.func12 Q218 <| Qn Tryz.func13 Q219 <| Qn Tryz.func15 Q21a <| Qn Tryz.func17 Q21b <| Qn Tryz.func19 Q21c <| Qn Tryz.func20 Q21d <| Qn Tryz.func23 Q21e <| Qn Tryz.func25 Q21f <| Qn Tryz.func27 Q21g <| Qn Tryz.func35 Q21h <| Qn Tryz.func43 Q21i <| Qn Tryz.func47 Q21j <| Qn Tryz.func48 Q21k <| Qn Tryz.func49 Q21l <| Qn Tryz.func50 Q21m <| Qn Tryz.func51 Q21n <| Qn Tryz.func52 Q21o <| Qn Tryz.func53 Q21p <| Qn Tryz.func58 Q21q <| Qn Tryz.func59 Q21r <| Qn Tryz.func60 Q21s <| Qn Tryz.func61 Q21t <| Qn Tryz.func62 Q21u <| Qn Tryz.func63 Q21v <| Qn Tryz.func64 Q21w <| Qn Tryz.func65 Q21x <| Qn Tryz.func66 Q21y <| Qn Tryz.func67 Q21z <| Qn Tryz.func68 Q220 <| Qn Tryz.func69 Q221 <| Qn Tryz.func70 Q222 <| Qn Tryz.func71 Q223 <| Qn Tryz.func72 Q224 <| Qn Tryz.func73 Q225 <| Qn Tryz.func74 Q226 <| Qn Tryz.func75 Q227 <| Qn Tryz.func76 Q228 <| Qn Tryz.func77 Q229 <| Qn Tryz.func78 Q22a <| Qn Tryz.func79 Q22b <| Qn Tryz.func83 Q22c <| Qn Tryz.func85 Q22d <| Qn Tryz.func87 Q22e <| Qn Tryz.func88 Q22f <| Qn Tryz.func89 Q22g <| Qn Tryz.func90 Q22h <| Qn Tryz.func91 Q22i <| Qn Tryz.func92 Q22j <| Qn Tryz.func98 Q22k <| Qn Tryz.func100 Q1rh <| Qn Tryz.func101 Q1ri <| Qn Tryz.func102 Q1rj <| Qn Tryz.func103 Q1rk <| Qn Tryz.func105 Q1rl <| Qn Tryz.func106 Q1rm <| Qn Tryz.func107 Q1rn <| Qn Tryz.func109 Q1ro <| Qn Tryz.func111 Q1rp <| Qn Tryz.func112 Q1rq <| Qn Tryz.func113 Q1rr <| Qn Tryz.func114 Q1rs <| Qn Tryz.func115 Q1rt <| Qn Tryz.func119 Q1ru <| Qn Tryz.func120 Q1rv <| Qn Tryz.func121 Q1rw <| Qn Tryz.func122 Q1rx <| Qn Tryz.func123 Q1ry <| Qn Tryz.func124 Q1rz <| Qn Tryz.func125 Q1s0 <| Qn Tryz.func126 Q1s1 <| Qn Tryz.func128 Q1s2 <| Qn Tryz.func130 Q1s3 <| Qn Tryz.func131 Q1s4 <| Qn Tryz.func134 Q1s5 <| Qn Tryz.func135 Q1s6 <| Qn Tryz.func140 Q1s7 <| Qn Tryz.func141 Q1s8 <| Qn Tryz.func142 Q1s9 <| Qn Tryz.func143 Q1sa <| Qn Tryz.func152 Q1sb <| Qn Tryz.func153 Q1sc <| Qn Tryz.func158 Q1sd <| Qn Tryz.func159 Q1se <| Qn Tryz.func160 Q1sf <| Qn Tryz.func161 Q1sg <| Qn Tryz.func162 Q1sh <| Qn Tryz.func163 Q1si <| Qn Tryz.func164 Q1sj <| Qn Tryz.func165 Q1sk <| Qn Tryz.func166 Q1sl <| Qn Tryz.func167 Q1sm <| Qn Tryz.func168 Q1sn <| Qn Tryz.func169 Q1so <| Qn Tryz.func170 Q1sp <| Qn Tryz.func171 Q1sq <| Qn Tryz.func172 Q1sr <| Qn Tryz.func173 Q1ss <| Qn Tryz.func174 Q1st <| (fun h => Qbc h (Qo8 mixed Tryz.func175 Q1uy)) <| (fun h => Qbc h (Qo8 mixed Tryz.func176 Q1uz)) <| (fun h => Qbc h (Qo8 mixed Tryz.func177 Q1v0)) <| (fun h => Qbc h (Qya mixed Tryz.func178 Q1v1)) <| Qn Tryz.func179 Q1su <| Qn Tryz.func180 Q1sv <| Qn Tryz.func181 Q1sw <| Qn Tryz.func182 Q1sx <| Qn Tryz.func183 Q1sy <| Qn Tryz.func184 Q1sz <| (fun h => Qbc h (Qya mixed Tryz.func185 Q1v2)) <| Qn Tryz.func186 Q1t0 <| Qn Tryz.func187 Q1t1 <| Qn Tryz.func188 Q1t2 <| Qn Tryz.func189 Q1t3 <| Qn Tryz.func194 Q1t4 <| Qn Tryz.func195 Q1t5 <| Qn Tryz.func196 Q1t6 <| Qn Tryz.func197 Q1t7 <| Qn Tryz.func198 Q1t8 <| Qn Tryz.func199 Q1t9 <| Qn Tryz.func200 Q1ta <| Qn Tryz.func201 Q1tb <| Qn Tryz.func202 Q1tc <| Qn Tryz.func203 Q1td <| Qn Tryz.func204 Q1te <| Qn Tryz.func205 Q1tf <| Qn Tryz.func206 Q1tg <| Qn Tryz.func207 Q1th <| Qn Tryz.func208 Q1ti <| Qn Tryz.func209 Q1tj <| Qn Tryz.func211 Q1tk <| Qn Tryz.func212 Q1tl <| Qn Tryz.func213 Q1tm <| Qn Tryz.func214 Q1tn <| Qn Tryz.func215 Q1to <| Qn Tryz.func216 Q1tp <| Qn Tryz.func217 Q1tq <| Qn Tryz.func218 Q1tr <| Qn Tryz.func219 Q1ts <| Qn Tryz.func220 Q1tt <| (fun h => Qbc h cmp) <| (fun h => Qbc h (Qya mixed Tryz.func222 Q1v3)) <| Qn Tryz.func230 Q1tu <| Qn Tryz.func231 Q1tv <| Qn Tryz.func232 Q1tw <| Qn Tryz.func233 Q1tx <| Qn Tryz.func234 Q1ty <| Qn Tryz.func235 Q1tz <| Qn Tryz.func236 Q1u0 <| Qn Tryz.func237 Q1u1 <| Qn Tryz.func238 Q1u2 <| Qn Tryz.func239 Q1u3 <| Qn Tryz.func240 Q1u4 <| Qn Tryz.func241 Q1u5 <| Qn Tryz.func242 Q1u6 <| Qn Tryz.func243 Q1u7 <| Qn Tryz.func244 Q1u8 <| Qn Tryz.func245 Q1u9 <| Qn Tryz.func246 Q1ua <| Qn Tryz.func247 Q1ub <| Qn Tryz.func248 Q1uc <| Qn Tryz.func249 Q1ud <| Qn Tryz.func250 Q1ue <| Qn Tryz.func251 Q1uf <| Qn Tryz.func252 Q1ug <| Qn Tryz.func253 Q1uh <| Qn Tryz.func269 Q1ui <| Qn Tryz.func270 Q1uj <| Qn Tryz.func271 Q1uk <| Qn Tryz.func272 Q1ul <| Qn Tryz.func273 Q1um <| Qn Tryz.func274 Q1un <| Qn Tryz.func275 Q1uo <| Qn Tryz.func276 Q1up <| Qn Tryz.func277 Q1uq <| Qn Tryz.func278 Q1ur <| Qn Tryz.func279 Q1us <| Qn Tryz.func280 Q1ut <| Qn Tryz.func286 Q1uu <| Qn Tryz.func288 Q1uv <| Qn Tryz.func289 Q1uw <| Qn Tryz.func290 Q1ux <| Q1v4
end Go.Proofs.YtimjjohlpnkacaaGreat
end

section
/-
  Runs along a trace, over views: operations, regions, code, calls, loops' rounds.
-/
namespace Go.Pv
def Seen (o : Option Ob) (rows : List (List PV)) : Prop := ∃ ob, o = some ob ∧ ViewOK ob.sz ob.cells rows
theorem Q4a {ob : Ob} {rows : List (List PV)} (h : ViewOK ob.sz ob.cells rows) : Seen (some ob) rows := ⟨ob, rfl, h⟩
def putV (vw : Views) (cut : List Nat) (new : Views) : Views := new ++ vw.filter fun x => !(has cut x.1)
theorem Q14t {vw : Views} {cut : List Nat} {id : Nat} {rows : List (List PV)} (h : look (vw.filter fun x => !(has cut x.1)) id = some rows) : look vw id = some rows ∧ has cut id = false := by
 induction vw with
 | nil => cases h
 | cons x r ih =>
  obtain ⟨k, rs⟩ := x
  simp only [List.filter_cons] at h
  cases hc : has cut k with
  | true =>
   rw [hc] at h
   simp only [Bool.not_true, Bool.false_eq_true, if_false] at h
   obtain ⟨h1, h2⟩ := ih h
   refine ⟨?_, h2⟩
   simp only [look]
   cases c : Nat.beq k id with
   | true =>
    have := Nat.eq_of_beq_eq_true c
    subst this
    rw [hc] at h2
    cases h2
   | false => exact h1
  | false =>
   rw [hc] at h
   simp only [Bool.not_false, if_true, look] at h ⊢
   cases c : Nat.beq k id with
   | true =>
    rw [c] at h
    have := Nat.eq_of_beq_eq_true c
    subst this
    exact ⟨h, hc⟩
   | false =>
    rw [c] at h
    exact ih h
theorem Q11w {l : List Nat} {id : Nat} (h : has l id = false) : id ∉ l := by
  induction l with
  | nil => exact List.not_mem_nil
  | cons k r ih =>
    simp only [has] at h
    cases c : Nat.beq k id with
    | true => rw [c] at h; cases h
    | false =>
      rw [c] at h
      simp only [cond_false] at h
      intro hm
      rcases List.mem_cons.1 hm with rfl | hm
      · simp at c
      · exact ih h hm
theorem Qp3 {vw new : Views} {cut : List Nat} {id : Nat} {rows : List (List PV)} (h : look (putV vw cut new) id = some rows) : look new id = some rows ∨ (look vw id = some rows ∧ id ∉ cut) := by
 unfold putV at h
 rw [Qyj] at h
 cases hn : look new id with
 | some r => rw [hn] at h; exact .inl h
 | none =>
  rw [hn] at h
  obtain ⟨h1, h2⟩ := Q14t h
  exact .inr ⟨h1, Q11w h2⟩
theorem Q14u {α : Type} {l : List (Nat × α)} {id : Nat} {x : α} (h : look l id = some x) : (id, x) ∈ l := by
 induction l with
 | nil => cases h
 | cons y r ih =>
  obtain ⟨k, z⟩ := y
  simp only [look] at h
  cases c : Nat.beq k id with
  | true =>
   rw [c] at h
   have := Nat.eq_of_beq_eq_true c
   subst this
   simp only [cond_true, Option.some.injEq] at h
   subst h
   exact List.mem_cons_self
  | false =>
   rw [c] at h
   exact List.mem_cons_of_mem _ (ih h)
def Turned (H : Nat → Option Ob) (vw : Views) (e : EV) : Prop := VOK (upH H e.eff.hw) (putV vw e.cut e.new)
theorem Q19z {ws : List (Nat × Option Ob)} {H : Nat → Option Ob} {id : Nat} {o : Option Ob} (hn : (ws.map (·.1)).Nodup) (h : (id, o) ∈ ws) : upH H ws id = o := by
  induction ws generalizing H with
  | nil => cases h
  | cons x r ih =>
    obtain ⟨k, z⟩ := x
    simp only [List.map_cons, List.nodup_cons] at hn
    rw [upH]
    rcases List.mem_cons.1 h with e | h
    · injection e with e1 e2
      subst e1 e2
      rw [Q90 (fun y hy e => hn.1 (by rw [← e]; exact List.mem_map_of_mem hy))]
      simp
    · exact ih hn.2 h
theorem Q13c : ∀ {l : List Nat}, nodupB l = true → l.Nodup
 | [], _ => List.nodup_nil
 | k :: r, h => by
  simp only [nodupB, Bool.and_eq_true, Bool.not_eq_true'] at h
  exact List.nodup_cons.2 ⟨Q11w h.1, Q13c h.2⟩
theorem Q13t {H : Nat → Option Ob} : ∀ (l : List Nat) (cl : List (Nat × Option Ob)), shut H l = some cl → ∀ id o, (id, o) ∈ cl → ∃ ob ob', H id = some ob ∧ o = some ob' ∧ ob'.sz = ob.sz ∧ ob'.cells = ob.cells
  | [], cl, h, id, o, hm => by
    simp only [shut, Option.some.injEq] at h
    subst h
    cases hm
  | k :: r, cl, h, id, o, hm => by
    simp only [shut] at h
    obtain ⟨ob, hob, h⟩ := Q10 h
    obtain ⟨m, hm', h⟩ := Q10 h
    simp only [Option.some.injEq] at h
    subst h
    rcases List.mem_cons.1 hm with e | hm
    · injection e with e1 e2
      subst e1 e2
      exact ⟨ob, _, hob, rfl, rfl, rfl⟩
    · exact Q13t r m hm' id o hm
def Q1hr (H : Nat → Option Ob) (vw : Views) (fr : Nat) (byRef : Bool) (f : Nat) (args : List PV) (az : List Ans) : Option EV :=
  (Q1ov H vw fr byRef f args az).bind fun e => bif nodupB (e.eff.hw.map (·.1)) then some e else none
theorem Q11x {G : Nat → Option Fun} {H : Nat → Option Ob} {vw : Views} (hv : VOK H vw) {fr : Nat} {byRef : Bool} {f : Nat} {args : List PV} {az : List Ans} {e : EV} (h : Q1hr H vw fr byRef f args az = some e) (hm : Met e.owed) (hq : Told G e.asked) : Qgr (lim G) H fr byRef f args = some e.eff ∧ Turned H vw e := by
  unfold Q1hr at h
  obtain ⟨e', h0, h'⟩ := Q10 h
  clear h
  cases hnd : nodupB (e'.eff.hw.map (·.1)) with
  | false => rw [hnd] at h'; cases h'
  | true =>
  rw [hnd] at h'
  simp only [cond_true, Option.some.injEq] at h'
  subst h'
  have hnd := Q13c hnd
  unfold Q1ov at h0
  unfold Qgr
  obtain ⟨y, hy, h⟩ := Q10 h0
  clear h0
  obtain ⟨z, hz, h⟩ := Q10 h
  simp only at h
  cases hd : disj (y.1.2.2 ++ z.1.2.2) z.1.2.1 with
  | false => rw [hd] at h; cases h
  | true =>
    rw [hd] at h
    simp only [cond_true] at h
    cases az with
    | nil => cases h
    | cons a az' =>
      obtain ⟨r, avw⟩ := a
      cases r with
      | st _ _ => cases h
      | ret v hh =>
        simp only at h
        cases hb : (Nat.ble z.1.2.1.length hh.length && Nat.ble (hh.length - z.1.2.1.length) 64) with
        | false => rw [hb] at h; cases h
        | true =>
          rw [hb] at h
          simp only [cond_true] at h
          obtain ⟨v', hv', h⟩ := Q10 h
          obtain ⟨ws, hws, h⟩ := Q10 h
          have key : ∀ (hy' : Met y.2) (hz' : Met z.2) (hw' : Met ws.2.1) (ht : Q0 G (.call f y.1.1 z.1.1) (.ret v hh)) (E : Eff),
              (bif flat 8 v && hh.all (fun ob => ob.cells.all (flat 8)) then some ⟨v', ws.1, z.1.2.1 ++ (y.1.2.2 ++ z.1.2.2)⟩ else (shut H (y.1.2.2 ++ z.1.2.2)).bind fun cl => some ⟨v', ws.1 ++ cl, z.1.2.1 ++ (y.1.2.2 ++ z.1.2.2)⟩) = some E →
              ((Q6y (pass H byRef 8) args []).bind fun y => (Q4i H false false 16 0 y.2.1).bind fun z =>
                let ids := z.2.1
                let lent := y.2.2 ++ z.2.2
                bif disj lent ids then
                  (lim G (.call f y.1 z.1)).bind fun r =>
                    match r with
                    | .ret v h =>
                      bif Nat.ble ids.length h.length && Nat.ble (h.length - ids.length) 64 then
                        (back (ren ids fr) 8 v).bind fun v' => (Qa5 (ren ids fr) 0 h).bind fun ws =>
                          bif flat 8 v && h.all (fun ob => ob.cells.all (flat 8)) then some ⟨v', ws, ids ++ lent⟩
                          else (shut H lent).bind fun cl => some ⟨v', ws ++ cl, ids ++ lent⟩
                      else none
                    | _ => none
                else none) = some E := by
            intro hy' hz' hw' ht E hE
            rw [Q4z (Q8t hv 8) _ _ y hy hy', Option.bind_some, Q6f hv 16 _ _ z hz hz', Option.bind_some]
            simp only
            rw [hd]
            simp only [cond_true]
            rw [Q1ox ht, Option.bind_some]
            simp only
            rw [hb]
            simp only [cond_true]
            rw [hv', Option.bind_some, Q9f hh 0 ws hws hw', Option.bind_some]
            exact hE
          have turn : ∀ (cl : List (Nat × Option Ob)) (hcl : ∀ id o, (id, o) ∈ cl → ∃ ob ob', H id = some ob ∧ o = some ob' ∧ ob'.sz = ob.sz ∧ ob'.cells = ob.cells) (hn : ((ws.1 ++ cl).map (·.1)).Nodup) (hw' : Met ws.2.1) , VOK (upH H (ws.1 ++ cl)) (putV vw (ws.1.map (·.1)) ws.2.2) := by
            intro cl hcl hn hw' id rows hl
            rcases Qp3 hl with hl | ⟨hl, hc⟩
            · obtain ⟨ob, hob, hok⟩ := Q9g hh 0 ws hws hw' id rows (Q14u hl)
              exact ⟨ob, Q19z hn (List.mem_append_left _ hob), hok⟩
            · obtain ⟨ob, hob, hok⟩ := hv id rows hl
              by_cases hx : ∃ o, (id, o) ∈ cl
              · obtain ⟨o, ho⟩ := hx
                obtain ⟨ob1, ob', h1, rfl, h2, h3⟩ := hcl id o ho
                rw [hob] at h1
                injection h1 with h1
                subst h1
                refine ⟨ob', Q19z hn (List.mem_append_right _ ho), ?_⟩
                rw [h2, h3]
                exact hok
              · refine ⟨ob, ?_, hok⟩
                rw [Q90 (fun y hy e => ?_)]
                · exact hob
                · rcases List.mem_append.1 hy with hy | hy
                  · exact hc (by rw [← e]; exact List.mem_map_of_mem hy)
                  · exact hx ⟨y.2, by rw [← e]; exact hy⟩
          cases hlent : y.1.2.2 ++ z.1.2.2 with
          | nil =>
            rw [hlent] at h
            simp only [Option.some.injEq] at h
            subst h
            simp only at hm hq hnd
            refine ⟨key hm.left hm.right.left hm.right.right (hq _ List.mem_cons_self) _ ?_, ?_⟩
            · rw [hlent]
              cases (flat 8 v && hh.all (fun ob => ob.cells.all (flat 8))) <;> simp [shut]
            · have := turn [] (fun _ _ h => by cases h) (by simpa using hnd) hm.right.right
              rw [List.append_nil] at this
              exact this
          | cons l0 lr =>
            rw [hlent] at h
            simp only at h
            cases hf : (flat 8 v && hh.all (fun ob => ob.cells.all (flat 8))) with
            | true =>
              rw [hf] at h
              simp only [cond_true, Option.some.injEq] at h
              subst h
              simp only at hm hq hnd
              refine ⟨key hm.left hm.right.left hm.right.right (hq _ List.mem_cons_self) _ ?_, ?_⟩
              · rw [hlent, hf]
                rfl
              · have := turn [] (fun _ _ h => by cases h) (by simpa using hnd) hm.right.right
                rw [List.append_nil] at this
                exact this
            | false =>
              rw [hf] at h
              simp only [cond_false] at h
              obtain ⟨cl, hcl, h⟩ := Q10 h
              simp only [Option.some.injEq] at h
              subst h
              simp only at hm hq hnd
              refine ⟨key hm.left hm.right.left hm.right.right (hq _ List.mem_cons_self) _ ?_, ?_⟩
              · rw [hlent, hf]
                simp only [cond_false]
                rw [hcl, Option.bind_some]
              · exact turn cl (Q13t _ _ hcl) hnd hm.right.right
def mute : Orc := fun _ => none
theorem Q18a {X : Orc} {e : Nat → PV} {H : Nat → Option Ob} {fr : Nat} {o : IOp} {x : Eff} (h : iop mute e H fr o = some x) : iop X e H fr o = some x := by
 cases o with
 | call b f xs =>
  simp only [iop] at h
  obtain ⟨t, _, h⟩ := Q10 h
  obtain ⟨_, h, _⟩ := Q10 h
  unfold Qgr at h
  obtain ⟨y, _, h⟩ := Q10 h
  obtain ⟨z, _, h⟩ := Q10 h
  simp only at h
  cases hd : disj (y.2.2 ++ z.2.2) z.2.1 with
  | false => rw [hd] at h; cases h
  | true =>
   rw [hd] at h
   simp only [cond_true] at h
   obtain ⟨_, h, _⟩ := Q10 h
   cases h
 | _ => exact h
theorem Q1ac {X : Orc} {e : Nat → PV} {H : Nat → Option Ob} {fr : Nat} {o : IOper} {x : Eff} (h : Q9i mute e H fr o = some x) : Q9i X e H fr o = some x := by
 unfold Q9i at h ⊢
 obtain ⟨w, hw, h⟩ := Q10 h
 rw [hw, Option.bind_some]
 cases w with
 | true => exact Q18a h
 | false => exact h
def iopV (e : Nat → PV) (H : Nat → Option Ob) (vw : Views) (fr : Nat) (az : List Ans) : IOp → Option EV
  | .call byRef f args => (target (f.ev e) (evs e args)).bind fun t => (Q1hr H vw fr byRef t.1 t.2 az).bind fun y => some { y with eff := trim H y.eff }
  | o => (iop mute e H fr o).bind fun x => some ⟨x, x.hw.map (·.1), [], az, [], []⟩
def Q18b (e : Nat → PV) (H : Nat → Option Ob) (vw : Views) (fr : Nat) (az : List Ans) (o : IOper) : Option EV :=
 (o.wanted e).bind fun w => bif w then iopV e H vw fr az o.op else some ⟨⟨.tup [], [], []⟩, [], [], az, [], []⟩
theorem Qgl {H : Nat → Option Ob} {vw : Views} (hv : VOK H vw) {x : Eff} {az : List Ans} : Turned H vw ⟨x, x.hw.map (·.1), [], az, [], []⟩ := by
  intro id rows hl
  rcases Qp3 hl with hl | ⟨hl, hc⟩
  · cases hl
  · obtain ⟨ob, hob, hok⟩ := hv id rows hl
    refine ⟨ob, ?_, hok⟩
    rw [Q90 (fun y hy e => hc (by rw [← e]; exact List.mem_map_of_mem hy))]
    exact hob
theorem Qgi {G : Nat → Option Fun} {e : Nat → PV} {H : Nat → Option Ob} {vw : Views} (hv : VOK H vw) {fr : Nat} {az : List Ans} {o : IOper} {y : EV} (h : Q18b e H vw fr az o = some y) (hm : Met y.owed) (hq : Told G y.asked) : Q9i (lim G) e H fr o = some y.eff ∧ Turned H vw y := by
  unfold Q18b at h
  obtain ⟨w, hw, h⟩ := Q10 h
  unfold Q9i
  rw [hw, Option.bind_some]
  cases w with
  | false =>
    simp only [cond_false, Option.some.injEq] at h
    subst h
    exact ⟨rfl, Qgl hv (x := ⟨.tup [], [], []⟩)⟩
  | true =>
    simp only [cond_true] at h ⊢
    have gen : ((iop mute e H fr o.op).bind fun x => some (⟨x, x.hw.map (·.1), [], az, [], []⟩ : EV)) = some y → iop (lim G) e H fr o.op = some y.eff ∧ Turned H vw y := by
      intro h
      obtain ⟨x, hx, h⟩ := Q10 h
      simp only [Option.some.injEq] at h
      subst h
      exact ⟨Q18a hx, Qgl hv⟩
    cases ho : o.op with
    | call b f xs =>
      rw [ho] at h
      simp only [iopV] at h
      obtain ⟨t, ht, h⟩ := Q10 h
      simp only [iop]
      obtain ⟨y', h9, hy⟩ := Q10 h
      clear h
      simp only [Option.some.injEq] at hy
      subst hy
      have hs := Q11x hv h9 hm hq
      rw [ht, Option.bind_some, hs.1, Option.bind_some]
      refine ⟨rfl, fun id rows hl => ?_⟩
      rw [Q15g]
      exact hs.2 id rows hl
    | _ =>
      rw [ho] at h gen
      exact gen h
abbrev Q95 := List (Nat × (Eff × Views))
structure TV where
  env : List PV
  heap : List (Nat × Ob)
  vw : Views
  effs : List Eff
  hs : Q95
  az : List Ans
  owed : List Prop
  asked : Qcx
def nobody : Nat → Option Ob := fun _ => none
def Q11y (nx : Nat) : Nat → List IOper → Q95 → List Ans → List PV → List (Nat × Ob) → Views → Option TV
  | _, [], hs, az, env, h, vw => some ⟨env, h, vw, [], hs, az, [], []⟩
  | i, o :: r, hs, az, env, h, vw =>
    match hs with
    | [] => (Q18b (envF env) (look h) vw (nx + 64 * i) az o).bind fun x => (Q11y nx (i + 1) r [] x.az (put env o.dst x.eff.v) (hput h x.eff.hw) (putV vw x.cut x.new)).bind fun y => some ⟨y.env, y.heap, y.vw, x.eff :: y.effs, y.hs, y.az, x.owed ++ y.owed, x.asked ++ y.asked⟩
    | (k + 1, z) :: hs' => (Q18b (envF env) (look h) vw (nx + 64 * i) az o).bind fun x => (Q11y nx (i + 1) r ((k, z) :: hs') x.az (put env o.dst x.eff.v) (hput h x.eff.hw) (putV vw x.cut x.new)).bind fun y => some ⟨y.env, y.heap, y.vw, x.eff :: y.effs, y.hs, y.az, x.owed ++ y.owed, x.asked ++ y.asked⟩
    | (0, x) :: hs' => (Q11y nx (i + 1) r hs' az (put env o.dst x.1.v) (hput h x.1.hw) (putV vw (x.1.hw.map (·.1)) x.2)).bind fun y => some ⟨y.env, y.heap, y.vw, x.1 :: y.effs, y.hs, y.az, (Q9i mute (envF env) (look h) (nx + 64 * i) o = some x.1) :: ((x.2.map fun p => Seen (upH nobody x.1.hw p.1) p.2) ++ y.owed), y.asked⟩
theorem VOK.turned {h : List (Nat × Ob)} {vw : Views} {y : EV} (ht : Turned (look h) vw y) : VOK (look (hput h y.eff.hw)) (putV vw y.cut y.new) := by
 rw [Q8q]
 exact ht
theorem Q1cz {ws : List (Nat × Option Ob)} {H : Nat → Option Ob} {id : Nat} {ob : Ob} (h : upH nobody ws id = some ob) : upH H ws id = some ob := by
  by_cases c : ∃ x ∈ ws, x.1 = id
  · rw [Qpm (H' := nobody) c]
    exact h
  · rw [Q90 (fun y hy e => c ⟨y, hy, e⟩)] at h
    cases h
theorem Qoi {G : Nat → Option Fun} {nx : Nat} : ∀ (ops : List IOper) (i : Nat) (hs : Q95) (az : List Ans) (env : List PV) (h : List (Nat × Ob)) (vw : Views) (t : TV), Q11y nx i ops hs az env h vw = some t → VOK (look h) vw → Met t.owed → Told G t.asked → Q7k (lim G) nx i ops env h = some (t.env, t.heap, t.effs) ∧ VOK (look t.heap) t.vw
  | [], i, hs, az, env, h, vw, t, ht, hv, _, _ => by
    simp only [Q11y, Option.some.injEq] at ht
    subst ht
    exact ⟨rfl, hv⟩
  | o :: r, i, hs, az, env, h, vw, t, ht, hv, hm, hq => by
    have go : ∀ (x : EV) (hs' : Q95) (vw' : Views), Q9i (lim G) (envF env) (look h) (nx + 64 * i) o = some x.eff → VOK (look (hput h x.eff.hw)) vw' → ∀ (y : TV), Q11y nx (i + 1) r hs' x.az (put env o.dst x.eff.v) (hput h x.eff.hw) vw' = some y → Met y.owed → Told G y.asked → y.env = t.env → y.heap = t.heap → y.vw = t.vw → x.eff :: y.effs = t.effs → Q7k (lim G) nx i (o :: r) env h = some (t.env, t.heap, t.effs) ∧ VOK (look t.heap) t.vw := by
      intro x hs' vw' hx hvx y hy hmy hqy e1 e2 e3 e4
      obtain ⟨r1, r2⟩ := Qoi r (i + 1) hs' _ _ _ _ y hy hvx hmy hqy
      simp only [Q7k]
      rw [hx, Option.bind_some, r1, Option.bind_some, ← e1, ← e2, ← e3, ← e4]
      exact ⟨rfl, r2⟩
    unfold Q11y at ht
    split at ht
    · obtain ⟨x, hx, ht⟩ := Q10 ht
      obtain ⟨y, hy, ht⟩ := Q10 ht
      simp only [Option.some.injEq] at ht
      subst ht
      obtain ⟨s1, s2⟩ := Qgi hv hx hm.left hq.left
      exact go x _ _ s1 (VOK.turned s2) y hy hm.right hq.right rfl rfl rfl rfl
    · obtain ⟨x, hx, ht⟩ := Q10 ht
      obtain ⟨y, hy, ht⟩ := Q10 ht
      simp only [Option.some.injEq] at ht
      subst ht
      obtain ⟨s1, s2⟩ := Qgi hv hx hm.left hq.left
      exact go x _ _ s1 (VOK.turned s2) y hy hm.right hq.right rfl rfl rfl rfl
    · rename_i x hs'
      obtain ⟨y, hy, ht⟩ := Q10 ht
      simp only [Option.some.injEq] at ht
      subst ht
      have hx : Q9i (lim G) (envF env) (look h) (nx + 64 * i) o = some x.1 := Q1ac hm.head
      have hseen : Met (x.2.map fun p => Seen (upH nobody x.1.hw p.1) p.2) := hm.tail.left
      have hvx : VOK (look (hput h x.1.hw)) (putV vw (x.1.hw.map (·.1)) x.2) := by
        rw [Q8q]
        intro id rows hl
        rcases Qp3 hl with hl | ⟨hl, hc⟩
        · obtain ⟨ob, hob, hok⟩ := hseen _ (List.mem_map_of_mem (f := fun p : Nat × List (List PV) => Seen (upH nobody x.1.hw p.1) p.2) (Q14u hl))
          exact ⟨ob, Q1cz hob, hok⟩
        · obtain ⟨ob, hob, hok⟩ := hv id rows hl
          refine ⟨ob, ?_, hok⟩
          rw [Q90 (fun y hy e => hc (by rw [← e]; exact List.mem_map_of_mem hy))]
          exact hob
      exact go ⟨x.1, x.1.hw.map (·.1), x.2, az, [], []⟩ hs' _ hx hvx y hy hm.tail.right hq rfl rfl rfl rfl
structure CV where
  ex : Ex
  st : St
  vw : Views
  hs : Q95
  az : List Ans
  owed : List Prop
  asked : Qcx
def Q7t (m : Nat) : IR → Q95 → List Ans → Views → St → Option CV
 | .skip, hs, az, vw, s => some ⟨.normal, s, vw, hs, az, [], []⟩
 | .reg ops draw, hs, az, vw, s => (Q11y s.nx 0 ops hs az s.env s.heap vw).bind fun y => bif !draw || calm (ops.zip y.effs) 0 (ops.zip y.effs) then some ⟨.normal, ⟨y.env, y.heap, s.nx + 64 * ops.length⟩, y.vw, y.hs, y.az, y.owed, y.asked⟩ else none
 | .seq a b, hs, az, vw, s => (Q7t m a hs az vw s).bind fun x => (match x.ex with | .normal => (Q7t m b x.hs x.az x.vw x.st).bind fun y => some ⟨y.ex, y.st, y.vw, y.hs, y.az, x.owed ++ y.owed, x.asked ++ y.asked⟩ | _ => some x)
 | .cond c a b, hs, az, vw, s => (match c.ev (envF s.env) with | .bool t => (bif t then Q7t m a hs az vw s else Q7t m b hs az vw s) | _ => none)
 | .block id b, hs, az, vw, s => (Q7t m b hs az vw s).bind fun x => (match x.ex with | .exit j => (bif Nat.beq j id then some ⟨.normal, x.st, x.vw, x.hs, x.az, x.owed, x.asked⟩ else some x) | _ => some x)
 | .loop live b, hs, az, vw, s => (gcV vw m live s).bind fun y => (match az with
  | [] => none
  | a :: az' => (match a.r with | .st e s' => some ⟨e, s', a.vw, hs, az', y.2 ++ (a.vw.map fun p => Seen (look s'.heap p.1) p.2), [(.loop m live b y.1.1 y.1.2, a.r)]⟩ | _ => none))
 | .exit id, hs, az, vw, s => some ⟨.exit id, s, vw, hs, az, [], []⟩
 | .ret, hs, az, vw, s => some ⟨.ret, s, vw, hs, az, [], []⟩
theorem Q3j {G : Nat → Option Fun} {m : Nat} : ∀ (c : IR) (hs : Q95) (az : List Ans) (vw : Views) (s : St) (t : CV), Q7t m c hs az vw s = some t → VOK (look s.heap) vw → Met t.owed → Told G t.asked → Q69 (lim G) m c s = some (t.ex, t.st) ∧ VOK (look t.st.heap) t.vw
  | .skip, hs, az, vw, s, t, ht, hv, _, _ => by
    simp only [Q7t, Option.some.injEq] at ht
    subst ht
    exact ⟨rfl, hv⟩
  | .reg ops draw, hs, az, vw, s, t, ht, hv, hm, hq => by
    simp only [Q7t] at ht
    obtain ⟨y, hy, ht⟩ := Q10 ht
    cases hc : (!draw || calm (ops.zip y.effs) 0 (ops.zip y.effs)) with
    | false => rw [hc] at ht; cases ht
    | true =>
      rw [hc] at ht
      simp only [cond_true, Option.some.injEq] at ht
      subst ht
      obtain ⟨r1, r2⟩ := Qoi ops 0 hs az s.env s.heap vw y hy hv hm hq
      have h1 : ireg (lim G) ops draw s = some ⟨y.env, y.heap, s.nx + 64 * ops.length⟩ := by
        unfold ireg
        rw [r1, Option.bind_some]
        simp only
        rw [hc]
        rfl
      simp only [Q69]
      rw [h1]
      exact ⟨rfl, r2⟩
  | .seq a b, hs, az, vw, s, t, ht, hv, hm, hq => by
    simp only [Q7t] at ht
    obtain ⟨x, hx, ht⟩ := Q10 ht
    obtain ⟨ex, st, vw1, hs1, as1, ow1, ak1⟩ := x
    simp only [Q69]
    cases ex with
    | normal =>
      simp only at ht
      obtain ⟨y, hy, ht⟩ := Q10 ht
      simp only [Option.some.injEq] at ht
      subst ht
      obtain ⟨r1, r2⟩ := Q3j a hs az vw s _ hx hv hm.left hq.left
      rw [r1, Option.bind_some]
      exact Q3j b _ _ _ _ y hy r2 hm.right hq.right
    | exit j =>
      simp only [Option.some.injEq] at ht
      subst ht
      obtain ⟨r1, r2⟩ := Q3j a hs az vw s _ hx hv hm hq
      rw [r1, Option.bind_some]
      exact ⟨rfl, r2⟩
    | ret =>
      simp only [Option.some.injEq] at ht
      subst ht
      obtain ⟨r1, r2⟩ := Q3j a hs az vw s _ hx hv hm hq
      rw [r1, Option.bind_some]
      exact ⟨rfl, r2⟩
  | .cond c a b, hs, az, vw, s, t, ht, hv, hm, hq => by
    simp only [Q7t] at ht
    simp only [Q69]
    split at ht
    · rename_i q hq'
      rw [hq']
      simp only
      cases q with
      | true => exact Q3j a hs az vw s t ht hv hm hq
      | false => exact Q3j b hs az vw s t ht hv hm hq
    · cases ht
  | .block id b, hs, az, vw, s, t, ht, hv, hm, hq => by
    simp only [Q7t] at ht
    obtain ⟨x, hx, ht⟩ := Q10 ht
    obtain ⟨ex, st, vw1, hs1, as1, ow1, ak1⟩ := x
    simp only [Q69]
    cases ex with
    | normal =>
      simp only [Option.some.injEq] at ht
      subst ht
      obtain ⟨r1, r2⟩ := Q3j b hs az vw s _ hx hv hm hq
      rw [r1, Option.bind_some]
      exact ⟨rfl, r2⟩
    | ret =>
      simp only [Option.some.injEq] at ht
      subst ht
      obtain ⟨r1, r2⟩ := Q3j b hs az vw s _ hx hv hm hq
      rw [r1, Option.bind_some]
      exact ⟨rfl, r2⟩
    | exit j =>
      simp only at ht
      cases hj : Nat.beq j id with
      | true =>
        rw [hj] at ht
        simp only [cond_true, Option.some.injEq] at ht
        subst ht
        obtain ⟨r1, r2⟩ := Q3j b hs az vw s _ hx hv hm hq
        rw [r1, Option.bind_some]
        simp only
        rw [hj]
        exact ⟨rfl, r2⟩
      | false =>
        rw [hj] at ht
        simp only [cond_false, Option.some.injEq] at ht
        subst ht
        obtain ⟨r1, r2⟩ := Q3j b hs az vw s _ hx hv hm hq
        rw [r1, Option.bind_some]
        simp only
        rw [hj]
        exact ⟨rfl, r2⟩
  | .loop live b, hs, az, vw, s, t, ht, hv, hm, hq => by
    simp only [Q7t] at ht
    obtain ⟨y, hy, ht⟩ := Q10 ht
    simp only [Q69]
    cases az with
    | nil => cases ht
    | cons a az' =>
      obtain ⟨r, avw⟩ := a
      cases r with
      | ret _ _ => cases ht
      | st e s' =>
        simp only [Option.some.injEq] at ht
        subst ht
        rw [Q11v hv hy hm.left, Option.bind_some, Q1ox (hq _ List.mem_cons_self), Option.bind_some]
        refine ⟨rfl, fun id rows hl => ?_⟩
        exact hm.right _ (List.mem_map_of_mem (f := fun p : Nat × List (List PV) => Seen (look s'.heap p.1) p.2) (Q14u hl))
  | .exit id, hs, az, vw, s, t, ht, hv, _, _ => by
    simp only [Q7t, Option.some.injEq] at ht
    subst ht
    exact ⟨rfl, hv⟩
  | .ret, hs, az, vw, s, t, ht, hv, _, _ => by
    simp only [Q7t, Option.some.injEq] at ht
    subst ht
    exact ⟨rfl, hv⟩
def finV (fn : IFn) (m : Nat) (vw : Views) (s : St) : Option (Rs × List Prop) :=
 (mapO (rv s) fn.res).bind fun vs =>
  let a := bif fn.keep then Q6b s.nx vs else (vs, s.nx, [])
  let H := look (s.heap ++ a.2.2)
  (Qal (Qd9 H vw fn.keep 8) a.1 (upTo m)).bind fun y =>
   (Qag H vw false true 32 0 y.1.2.1).bind fun z =>
    bif disj (y.1.2.2 ++ z.1.2.2) z.1.2.1 then some (.ret (match y.1.1 with | [v] => v | l => .tup l) (regr m z.1.1), y.2 ++ z.2) else none
theorem Qvl {fn : IFn} {m : Nat} {vw : Views} {s : St} (hv : VOK (look s.heap) vw) {y : Rs × List Prop} (h : finV fn m vw s = some y) (hm : Met y.2) : fin fn m s = some y.1 := by
 unfold finV at h
 unfold fin
 obtain ⟨vs, hvs, h⟩ := Q10 h
 rw [hvs, Option.bind_some]
 simp only at h ⊢
 have hv' : VOK (look (s.heap ++ (bif fn.keep then Q6b s.nx vs else (vs, s.nx, [])).2.2)) vw := by
  intro id rows hl
  obtain ⟨ob, hob, hok⟩ := hv id rows hl
  refine ⟨ob, ?_, hok⟩
  rw [Qyj, hob]
 obtain ⟨x, hx, h⟩ := Q10 h
 obtain ⟨z, hz, h⟩ := Q10 h
 cases hd : disj (x.1.2.2 ++ z.1.2.2) z.1.2.1 with
 | false => rw [hd] at h; cases h
 | true =>
  rw [hd] at h
  simp only [cond_true, Option.some.injEq] at h
  subst h
  rw [Q4z (Q8t hv' 8) _ _ x hx hm.left, Option.bind_some, Q6f hv' 32 _ _ z hz hm.right, Option.bind_some, hd]
  rfl
def Q1qn (fn : IFn) (args : List PV) (h : List Ob) (vw : Views) (hs : Q95) (az : List Ans) : Option (Rs × List Prop × Qcx) :=
 bif Nat.beq args.length fn.np then
  (Q7t h.length fn.body hs az vw ⟨args ++ nuns (fn.nt - fn.np), number 0 h, h.length⟩).bind fun x =>
   (match x.ex with
    | .exit _ => none
    | _ => (finV fn h.length x.vw x.st).bind fun r => some (r.1, x.owed ++ r.2, x.asked))
 else none
theorem Q1rg {G : Nat → Option Fun} {f : Nat} {fn : IFn} (hG : G f = some (.ir fn)) {args : List PV} {h : List Ob} {vw : Views} (hv : VOK (look (number 0 h)) vw) {hs : Q95} {az : List Ans} {r : Rs} {ow : List Prop} {ak : Qcx} (hp : Met ow) (hq : Told G ak) (ht : Q1qn fn args h vw hs az = some (r, ow, ak)) : Q0 G (.call f args h) r := by
 refine Q1jk Qk4 ?_
 unfold Q1qn at ht
 simp only [phi, hG]
 cases hl : Nat.beq args.length fn.np with
 | false => rw [hl] at ht; cases ht
 | true =>
  rw [hl] at ht
  simp only [cond_true] at ht ⊢
  obtain ⟨x, hx, ht⟩ := Q10 ht
  obtain ⟨ex, st, vw1, hs1, as1, ow1, ak1⟩ := x
  cases ex with
  | exit j => cases ht
  | normal =>
   simp only at ht
   obtain ⟨r', hr, ht⟩ := Q10 ht
   simp only [Option.some.injEq, Prod.mk.injEq] at ht
   obtain ⟨rfl, rfl, rfl⟩ := ht
   obtain ⟨r1, r2⟩ := Q3j _ hs az vw _ _ hx hv hp.left hq
   rw [r1, Option.bind_some]
   exact Qvl r2 hr hp.right
  | ret =>
   simp only at ht
   obtain ⟨r', hr, ht⟩ := Q10 ht
   simp only [Option.some.injEq, Prod.mk.injEq] at ht
   obtain ⟨rfl, rfl, rfl⟩ := ht
   obtain ⟨r1, r2⟩ := Q3j _ hs az vw _ _ hx hv hp.left hq
   rw [r1, Option.bind_some]
   exact Qvl r2 hr hp.right
theorem VOK.nil {H : Nat → Option Ob} : VOK H [] := fun _ _ h => by cases h
def Q1qw (m : Nat) (live : List Nat) (b : IR) (env : List PV) (h : List Ob) (vw : Views) (hs : Q95) (az : List Ans) : Option ((List PV × List Ob) × List Prop × Qcx) :=
 (Q7t m b hs az vw ⟨env, number 0 h, h.length⟩).bind fun x => (match x.ex with | .normal => (gcV x.vw m live x.st).bind fun y => some (y.1, x.owed ++ y.2, x.asked) | _ => none)
theorem Q15e {G : Nat → Option Fun} {m : Nat} {live : List Nat} {b : IR} {env : List PV} {h : List Ob} {vw : Views} (hv : VOK (look (number 0 h)) vw) {hs : Q95} {az : List Ans} {y : List PV × List Ob} {ow : List Prop} {ak : Qcx} {r : Rs} (hp : Met ow) (hq : Told G ak) (ht : Q1qw m live b env h vw hs az = some (y, ow, ak)) (hr : Q0 G (.loop m live b y.1 y.2) r) : Q0 G (.loop m live b env h) r := by
 unfold Q1qw at ht
 obtain ⟨x, hx, ht⟩ := Q10 ht
 obtain ⟨ex, st, vw1, hs1, as1, ow1, ak1⟩ := x
 cases ex with
 | normal =>
  simp only at ht
  obtain ⟨y', hg, ht⟩ := Q10 ht
  simp only [Option.some.injEq, Prod.mk.injEq] at ht
  obtain ⟨rfl, rfl, rfl⟩ := ht
  obtain ⟨r1, r2⟩ := Q3j _ hs az vw _ _ hx hv hp.left hq
  exact Q1cw Qk4 r1 (Q11v r2 hg hp.right) hr
 | exit j => cases ht
 | ret => cases ht
def Q1hx (m : Nat) (b : IR) (env : List PV) (h : List Ob) (vw : Views) (hs : Q95) (az : List Ans) : Option ((Ex × St) × List Prop × Qcx) :=
 (Q7t m b hs az vw ⟨env, number 0 h, h.length⟩).bind fun x => (match x.ex with | .normal => none | e => some ((e, x.st), x.owed, x.asked))
theorem Q1cx {G : Nat → Option Fun} {m : Nat} {live : List Nat} {b : IR} {env : List PV} {h : List Ob} {vw : Views} (hv : VOK (look (number 0 h)) vw) {hs : Q95} {az : List Ans} {x : Ex × St} {ow : List Prop} {ak : Qcx} (hp : Met ow) (hq : Told G ak) (ht : Q1hx m b env h vw hs az = some (x, ow, ak)) : Q0 G (.loop m live b env h) (.st x.1 x.2) := by
 unfold Q1hx at ht
 obtain ⟨y, hy, ht⟩ := Q10 ht
 obtain ⟨ex, st, vw1, hs1, as1, ow1, ak1⟩ := y
 cases ex with
 | normal => cases ht
 | exit j =>
  simp only [Option.some.injEq, Prod.mk.injEq] at ht
  obtain ⟨rfl, rfl, rfl⟩ := ht
  exact Qpl Qk4 (by intro h; cases h) (Q3j _ hs az vw _ _ hy hv hp hq).1
 | ret =>
  simp only [Option.some.injEq, Prod.mk.injEq] at ht
  obtain ⟨rfl, rfl, rfl⟩ := ht
  exact Qpl Qk4 (by intro h; cases h) (Q3j _ hs az vw _ _ hy hv hp hq).1
end Go.Pv
end

section
/-
  Small words and hints' lemmas for walks that a program prints.
-/
namespace Go.Pv
def bE (b : Bool) : Eff := ⟨.bool b, [], []⟩
def vE (v : PV) : Eff := ⟨v, [], []⟩
def w64 (n : Int) : Int := IntKind.i64.wrap n
def mx (x y : Int) : Int := if y > x then y else x
def sEq (a b : ByteArray) : Bool := a.toList == b.toList
def sLt (a b : ByteArray) : Bool := Op.bytesLess a.toList b.toList
theorem dec (c v : Bool) (h : c = v) : some (bE c) = some (bE v) := by rw [h]
theorem toldOf {G : Nat → Option Fun} {e : En} {r r' : Rs} (h : Q0 G e r) (hr : r = r') : Q0 G e r' := hr ▸ h
theorem Qb {α : Type} {f : α → List PV} {l : List α} {i : Nat} {x : α} (h : l[i]? = some x) : (l.map f)[i]? = some (f x) := by
 rw [List.getElem?_map, h]
 rfl
def ixE (sz : Nat) (l : List (List PV)) (i : Int) : Option Eff := (opP (fun _ => .un) (.iaddr sz (.c (.sl l)) (.c (.int .i64 i)))).bind fun v => some ⟨v, [], []⟩
theorem Q1l (sz : Nat) (l : List (List PV)) (i : Nat) (r : List PV) (h : l[i]? = some r) (hs : r.length = sz) : ixE sz l (i : Int) = some (vE (.rf r)) := by
 unfold ixE
 simp only [opP, Opd.ev, asNat]
 have h0 : decide (0 ≤ (i : Int)) = true := by simp
 rw [h0]
 simp only [cond_true, Option.bind_some, Int.toNat_natCast]
 rw [h]
 subst hs
 simp [vE]
theorem Q1ow (sz : Nat) (l : List (List PV)) (i : Int) (r : List PV) (h0 : 0 ≤ i) (h : l[i.toNat]? = some r) (hs : r.length = sz) : ixE sz l i = some (vE (.rf r)) := by
 have := Q1l sz l i.toNat r h hs
 rw [show ((i.toNat : Nat) : Int) = i by omega] at this
 exact this
def lenE (l : List (List PV)) : Option Eff := some ⟨.int .i64 (l.length : Int), [], []⟩
theorem Qs (l : List (List PV)) (n : Nat) (h : l.length = n) : lenE l = some (vE (.int .i64 (n : Int))) := by
 unfold lenE
 rw [h]
 rfl
theorem Q13x {n : Int} (h : -9223372036854775808 ≤ n ∧ n ≤ 9223372036854775807) : w64 n = n := by
 unfold w64 IntKind.wrap
 simp [IntKind.signed, IntKind.bits]
 omega
def addE (a b : Int) : Option Eff := some ⟨.int .i64 (IntKind.i64.wrap (a + b)), [], []⟩
theorem Q26 (i : Nat) (h : i < 9223372036854775807) : addE (i : Int) 1 = some (vE (.int .i64 ((i + 1 : Nat) : Int))) := by
 unfold addE
 have : IntKind.i64.wrap ((i : Int) + 1) = ((i + 1 : Nat) : Int) := by
  have := Q13x (n := (i : Int) + 1) (by omega)
  unfold w64 at this
  rw [this]
  rfl
 rw [this]
 rfl
theorem Q1ot {ob : Ob} {k : Nat} (h : ob.cells.length = k) : apC ob k = some ob.cells := by
 unfold apC
 rw [h, Nat.beq_refl]
 rfl
def apE (id lid fr sz bytes ro lro : Nat) (lgr : Bool) (rows : List (List PV)) (r : List PV) (n : Nat) : Option Eff :=
 Q5h (look [(id, ⟨sz, ro, true, rows.flatten⟩), (lid, ⟨sz, lro, lgr, r⟩)]) fr sz bytes (.ms id sz 0 n) (.ms lid sz 0 1)
theorem Q26s (id lid fr sz bytes ro lro : Nat) (lgr : Bool) (rows rows' : List (List PV)) (r : List PV) (n n' : Nat) (hne : Nat.beq id lid = false) (hn : n = rows.length) (hn' : n' = rows'.length) (hr' : rows' = rows ++ [r])
  (hs : ∀ r ∈ rows, r.length = sz) (hr : r.length = sz) (hb : (n + 1) * bytes ≤ 140737488355328) :
  apE id lid fr sz bytes ro lro lgr rows r n = some ⟨.ms fr sz 0 n', [(id, none), (fr, some ⟨sz, ro, true, rows'.flatten⟩)], [id, lid]⟩ := by
 subst hn hn' hr'
 unfold apE Q5h
 have h1 : look [(id, (⟨sz, ro, true, rows.flatten⟩ : Ob)), (lid, ⟨sz, lro, lgr, r⟩)] lid = some ⟨sz, lro, lgr, r⟩ := by simp [look, hne]
 have h2 : look [(id, (⟨sz, ro, true, rows.flatten⟩ : Ob)), (lid, ⟨sz, lro, lgr, r⟩)] id = some ⟨sz, ro, true, rows.flatten⟩ := by simp [look]
 have hsrc : source (look [(id, (⟨sz, ro, true, rows.flatten⟩ : Ob)), (lid, ⟨sz, lro, lgr, r⟩)]) sz (.ms lid sz 0 1) = some (1, r, [lid]) := by
  simp only [source, h1, Option.bind_some]
  subst hr
  have : Nat.ble r.length r.length = true := Nat.ble_eq_true_of_le (Nat.le_refl _)
  simp [this]
 rw [hsrc, Option.bind_some]
 simp only [h2, Option.bind_some]
 have hc : (true && Nat.beq sz sz && Nat.beq sz sz && Nat.beq 0 0 && Nat.ble ((rows.length + 1) * bytes) 140737488355328) = true := by
  simp only [Nat.beq_refl, Bool.and_true, Bool.true_and]
  exact Nat.ble_eq_true_of_le hb
 rw [hc, Q1ot (ob := ⟨sz, ro, true, rows.flatten⟩) (Q6u sz rows hs)]
 simp
end Go.Pv
namespace Go.Pv
theorem VOK.cons {H : Nat → Option Ob} {vw : Views} {id : Nat} {rows : List (List PV)} (h : Seen (H id) rows) (hv : VOK H vw) : VOK H ((id, rows) :: vw) := by
 intro k rs hl
 simp only [look] at hl
 cases c : Nat.beq id k with
 | true =>
  have := Nat.eq_of_beq_eq_true c
  subst this
  rw [c] at hl
  simp only [cond_true, Option.some.injEq] at hl
  subst hl
  exact h
 | false =>
  rw [c] at hl
  exact hv k rs hl
theorem Q1p {α : Type} {l : List α} {i : Nat} {x : α} {r : List α} (h : l.drop i = x :: r) : l[i]? = some x ∧ i < l.length ∧ l.drop (i + 1) = r := by
 have h1 : l[i]? = some x := by
  have := congrArg (fun q => q[0]?) h
  simpa [List.getElem?_drop] using this
 have h2 : i < l.length := (List.getElem?_eq_some_iff.1 h1).1
 refine ⟨h1, h2, ?_⟩
 rw [← List.tail_drop, h]
 rfl
theorem Q1o {α : Type} {l : List α} {i : Nat} (h : l.drop i = []) : l.length ≤ i := by
 simpa using h
theorem Q1i {α : Type} {l : List α} {i : Nat} {x : α} (h : l[i]? = some x) : x ∈ l := List.mem_of_getElem? h
theorem Q16w (a b : ByteArray) (h : a.size + b.size ≤ 9223372036854775807) : ((sbin .add a b).bind fun v => some (⟨v, [], []⟩ : Eff)) = some (vE (.str (a ++ b))) := by
 simp only [sbin, Nat.ble_eq_true_of_le h, cond_true, Option.bind_some]
 rfl
def Q43 (l : List Int) : List (List PV) := l.map fun n => [.int .i64 n]
def Q15 (l : List ByteArray) : List (List PV) := l.map fun n => [.str n]
theorem Q7j (l : List Int) : (Q43 l).length = l.length := by simp [Q43]
theorem Q2d (l : List ByteArray) : (Q15 l).length = l.length := by simp [Q15]
theorem Q1aa {l : List Int} {i : Nat} {x : Int} (h : l[i]? = some x) : (Q43 l)[i]? = some [.int .i64 x] := Qb (f := fun n => [.int .i64 n]) h
theorem Q8m {l : List ByteArray} {i : Nat} {x : ByteArray} (h : l[i]? = some x) : (Q15 l)[i]? = some [.str x] := Qb (f := fun n => [.str n]) h
theorem Qd4 (l : List Int) (x : Int) : Q43 (l ++ [x]) = Q43 l ++ [[.int .i64 x]] := by simp [Q43]
theorem Q5t (l : List ByteArray) (x : ByteArray) : Q15 (l ++ [x]) = Q15 l ++ [[.str x]] := by simp [Q15]
theorem Q5j {α : Type} {f : α → List PV} {n : Nat} (h : ∀ x, (f x).length = n) (l : List α) : ∀ r ∈ l.map f, r.length = n := fun r hr => by
 obtain ⟨x, _, rfl⟩ := List.mem_map.1 hr
 exact h x
theorem Q4u {α : Type} {f : α → List PV} (h : ∀ x, (f x).all plain = true) (l : List α) : ∀ r ∈ l.map f, ∀ p ∈ r, plain p = true := fun r hr p hp => by
 obtain ⟨x, _, rfl⟩ := List.mem_map.1 hr
 exact List.all_eq_true.1 (h x) p hp
theorem Qae (l : List Int) : ∀ r ∈ Q43 l, r.length = 1 := Q5j (f := fun n => [.int .i64 n]) (fun _ => rfl) l
theorem Q4o (l : List ByteArray) : ∀ r ∈ Q15 l, r.length = 1 := Q5j (f := fun n => [.str n]) (fun _ => rfl) l
theorem Q6x (l : List Int) (sz : Nat) (h : sz = 1) : ViewOK sz (Q43 l).flatten (Q43 l) := by subst h; exact ⟨rfl, Qae l, Q4u (f := fun n => [.int .i64 n]) (fun _ => rfl) l⟩
theorem Q39 (l : List ByteArray) (sz : Nat) (h : sz = 1) : ViewOK sz (Q15 l).flatten (Q15 l) := by subst h; exact ⟨rfl, Q4o l, Q4u (f := fun n => [.str n]) (fun _ => rfl) l⟩
end Go.Pv
namespace Go.Pv
def zoF (l : List (Nat × List PV)) (j : Nat) : List PV := (look l j).getD []
end Go.Pv
namespace Go.Pv
def optI : Option Int → Option Opd
 | none => none
 | some n => some (.c (.int .i64 n))
theorem Q13j {l : List (List PV)} {sz : Nat} (hs : ∀ r ∈ l, r.length = sz) : Q8u l sz = true := by
 unfold Q8u
 rw [List.all_eq_true]
 intro r hr
 rw [hs r hr]
 exact Nat.beq_refl sz
theorem Q7m (l : List ByteArray) (n : Nat) : Q15 (l.take n) = (Q15 l).take n := by simp [Q15, List.map_take]
end Go.Pv
namespace Go.Pv
def ixmE (id sz off len : Nat) (i : Int) : Option Eff := (opP (fun _ => .un) (.iaddr sz (.c (.ms id sz off len)) (.c (.int .i64 i)))).bind fun v => some ⟨v, [], []⟩
theorem Q1zv (id sz off len : Nat) (i : Int) (k at_ : Nat) (h : i = (k : Int)) (hk : k < len) (ha : at_ = (off + k) * sz) : ixmE id sz off len i = some (vE (.bx id at_)) := by
 subst h ha
 unfold ixmE
 simp only [opP, Opd.ev, asNat]
 have h0 : decide (0 ≤ (k : Int)) = true := by simp
 rw [h0]
 simp only [cond_true, Option.bind_some, Int.toNat_natCast]
 have h1 : (Nat.beq sz sz && Nat.blt k len) = true := by
  rw [Nat.beq_refl, Bool.true_and]
  exact Nat.ble_eq_true_of_le hk
 rw [h1]
 rfl
end Go.Pv
namespace Go.Pv
theorem Qb4 (id sz len : Nat) (i : Int) (k : Nat) (hk : k = i.toNat) (h0 : 0 ≤ i) (h1 : i < (len : Int)) : ixmE id sz 0 len i = some (vE (.bx id (k * sz))) :=
 Q1zv id sz 0 len i k (k * sz) (by omega) (by omega) (by rw [Nat.zero_add])
theorem Qb2 (sz : Nat) : ∀ (rows : List (List PV)) (k : Nat), (∀ r ∈ rows, r.length = sz) → rows.flatten.drop (k * sz) = (rows.drop k).flatten
 | [], k, _ => by simp
 | r :: rs, 0, _ => by simp
 | r :: rs, k + 1, h => by
  have h0 := h r List.mem_cons_self
  rw [List.flatten_cons, List.drop_succ_cons, ← Qb2 sz rs k (fun q hq => h q (List.mem_cons_of_mem _ hq)), Nat.add_mul, Nat.one_mul, Nat.add_comm, ← List.drop_drop, List.drop_left' h0]
theorem Q1a7 {sz : Nat} {rows : List (List PV)} {k : Nat} {r : List PV} {off n : Nat} (hr : rows[k]? = some r) (hs : ∀ r ∈ rows, r.length = sz) (hn : off + n ≤ sz) : (rows.flatten.drop (k * sz + off)).take n = (r.drop off).take n ∧ k * sz + off + n ≤ rows.flatten.length := by
  have hk : k < rows.length := (List.getElem?_eq_some_iff.1 hr).1
  have hd : rows.drop k = r :: rows.drop (k + 1) := by
    rw [List.drop_eq_getElem_cons hk]
    congr 1
    exact (List.getElem?_eq_some_iff.1 hr).2
  have hl := hs r (List.mem_of_getElem? hr)
  refine ⟨?_, ?_⟩
  · rw [← List.drop_drop, Qb2 sz rows k hs, hd, List.flatten_cons]
    rw [List.drop_append_of_le_length (by omega), List.take_append_of_le_length (by rw [List.length_drop]; omega)]
  · rw [Q6u sz rows hs]
    have : (k + 1) * sz ≤ rows.length * sz := Nat.mul_le_mul_right _ hk
    rw [Nat.add_mul] at this
    omega
def ldE (id sz ro : Nat) (gr : Bool) (cells : List PV) (n : Nat) (ag : Bool) (at_ : Nat) : Option Eff := Qf4 (look [(id, ⟨sz, ro, gr, cells⟩)]) n ag (.bx id at_)
theorem Q1hw (id sz ro : Nat) (gr : Bool) (cells : List PV) (rows : List (List PV)) (n : Nat) (ag : Bool) (k off at_ : Nat) (r : List PV) (v : PV) (hc : cells = rows.flatten) (ha : at_ = k * sz + off) (hr : rows[k]? = some r) (hs : ∀ r ∈ rows, r.length = sz) (hn : off + n ≤ sz) (hv : shape ag ((r.drop off).take n) = some v) :
  ldE id sz ro gr cells n ag at_ = some ⟨v, [], [id]⟩ := by
 subst hc ha
 obtain ⟨h1, h2⟩ := Q1a7 hr hs hn
 unfold ldE Qf4 reads
 simp only [look, Nat.beq_refl, cond_true, Option.bind_some]
 rw [Nat.ble_eq_true_of_le h2]
 simp only [cond_true, Option.bind_some]
 rw [h1, hv, Option.bind_some]
theorem Qb3 {α : Type} (l : List α) (k : Nat) (d : α) (h : k < l.length) : l[k]? = some (l.getD k d) := by
 rw [List.getD_eq_getElem?_getD, List.getElem?_eq_getElem h]
 rfl
end Go.Pv
namespace Go.Pv
theorem decR (c v : Bool) (hr : List Nat) (h : c = v) : some (⟨.bool c, [], hr⟩ : Eff) = some ⟨.bool v, [], hr⟩ := by rw [h]
end Go.Pv
namespace Go.Pv
end Go.Pv
end

section
/- More of single operations: sums that don't run over; shifts of indexes; stores into a slice of one's own that is known by its rows. -/
namespace Go.Pv
def wE (n : Int) : Option Eff := some ⟨.int .i64 (IntKind.i64.wrap n), [], []⟩
theorem w_ok (n : Int) (h : -9223372036854775808 ≤ n ∧ n ≤ 9223372036854775807) : wE n = some (vE (.int .i64 n)) := by
 unfold wE
 have := Q13x h
 unfold w64 at this
 rw [this]
 rfl
theorem beqT {x v : Bool} (h : (x == true) = v) : x = v := by cases x <;> cases v <;> simp_all
def sCmp (a b : ByteArray) : Int := cmpL a.toList b.toList
theorem Qoe {sz : Nat} : ∀ (rows : List (List PV)) (k : Nat) (r vals : List PV) (off n : Nat), rows[k]? = some r → (∀ q ∈ rows, q.length = sz) → off + n ≤ sz → vals.length = n →
  rows.flatten.take (k * sz + off) ++ (vals ++ rows.flatten.drop (k * sz + off + n)) = (rows.set k (r.take off ++ (vals ++ r.drop (off + n)))).flatten ∧ k * sz + off + n ≤ rows.flatten.length
 | [], _, _, _, _, _, h, _, _, _ => by simp at h
 | q :: rs, 0, r, vals, off, n, h, hs, hn, hv => by
  have hq := hs q List.mem_cons_self
  simp only [List.getElem?_cons_zero, Option.some.injEq] at h
  subst h
  simp only [Nat.zero_mul, Nat.zero_add, List.flatten_cons, List.set_cons_zero, List.length_append]
  refine ⟨?_, by omega⟩
  rw [List.take_append_of_le_length (by omega), List.drop_append_of_le_length (by omega)]
  simp only [List.append_assoc]
 | q :: rs, k + 1, r, vals, off, n, h, hs, hn, hv => by
  have hq := hs q List.mem_cons_self
  simp only [List.getElem?_cons_succ] at h
  obtain ⟨h1, h2⟩ := Qoe rs k r vals off n h (fun q hq => hs q (List.mem_cons_of_mem _ hq)) hn hv
  have e1 : (k + 1) * sz + off = q.length + (k * sz + off) := by rw [hq, Nat.add_mul]; omega
  have e2 : (k + 1) * sz + off + n = q.length + (k * sz + off + n) := by rw [hq, Nat.add_mul]; omega
  simp only [List.flatten_cons, List.set_cons_succ, List.length_append]
  refine ⟨?_, by omega⟩
  rw [e2, e1, List.take_length_add_append, List.drop_length_add_append, ← h1]
  simp only [List.append_assoc]
def stE (id sz ro : Nat) (gr : Bool) (cells : List PV) (n : Nat) (at_ : Nat) (x : PV) : Option Eff := Qd6 (look [(id, ⟨sz, ro, gr, cells⟩)]) n (.bx id at_) x
theorem Q1cs (id sz : Nat) (gr : Bool) (cells : List PV) (rows rows' : List (List PV)) (n k off at_ : Nat) (r : List PV) (x : PV) (hc : cells = rows.flatten) (ha : at_ = k * sz + off) (hr : rows[k]? = some r) (hs : ∀ r ∈ rows, r.length = sz) (hn : off + n ≤ sz) (hx : x.cs.length = n) (hf : x.fits = true) (hrows : rows' = rows.set k (r.take off ++ (x.cs ++ r.drop (off + n)))) :
  stE id sz 0 gr cells n at_ x = some ⟨.un, [(id, some ⟨sz, 0, gr, rows'.flatten⟩)], [id]⟩ := by
 subst hc ha hrows
 obtain ⟨h1, h2⟩ := Qoe rows k r x.cs off n hr hs hn hx
 unfold stE Qd6
 simp only [look, Nat.beq_refl, cond_true, Option.bind_some]
 rw [hx, hf, Nat.beq_refl, Nat.ble_eq_true_of_le h2, Nat.ble_eq_true_of_le (Nat.zero_le _), h1]
 rfl
theorem Qg4 (l : List ByteArray) (k : Nat) (x : ByteArray) : Q15 (l.set k x) = (Q15 l).set k [.str x] := by simp [Q15, List.map_set]
end Go.Pv
end

section
/- A walk's hints and answers, each with its proof. -/
namespace Go.Pv
structure It where
  hint : Option (Nat × (Eff × Views))
  p : Prop
  pf : p
def hsOf : List It → Q95
 | [] => []
 | x :: r => (match x.hint with | some h => h :: hsOf r | none => hsOf r)
def owOf : List It → List Prop
 | [] => []
 | x :: r => x.p :: owOf r
theorem Q1mf : ∀ l : List It, Met (owOf l)
 | [] => Met.nil
 | x :: r => Met.cons x.pf (Q1mf r)
structure An (G : Nat → Option Fun) where
  e : En
  r : Rs
  vw : Views
  pf : Q0 G e r
def asOf {G : Nat → Option Fun} : List (An G) → List Ans
 | [] => []
 | x :: r => ⟨x.r, x.vw⟩ :: asOf r
def akOf {G : Nat → Option Fun} : List (An G) → Qcx
 | [] => []
 | x :: r => (x.e, x.r) :: akOf r
theorem Q19x {G : Nat → Option Fun} : ∀ l : List (An G), Told G (akOf l)
 | [] => Told.nil
 | x :: r => Told.cons x.pf (Q19x r)
def hB {c v : Bool} (n : Nat) (h : c = v) : It := ⟨some (n, (bE v, [])), some (bE c) = some (bE v), dec c v h⟩
def hP {x : Option Eff} {y : Eff} (n : Nat) (h : x = some y) : It := ⟨some (n, (y, [])), x = some y, h⟩
def hV {x : Option Eff} {y : Eff} (n : Nat) (vw : Views) (h : x = some y) : It := ⟨some (n, (y, vw)), x = some y, h⟩
def hQ {p : Prop} (h : p) : It := ⟨none, p, h⟩
def aN {G : Nat → Option Fun} {e : En} {r : Rs} (h : Q0 G e r) : An G := ⟨e, r, [], h⟩
def aV {G : Nat → Option Fun} {e : En} {r : Rs} (vw : Views) (h : Q0 G e r) : An G := ⟨e, r, vw, h⟩
def aB {G : Nat → Option Fun} {e : En} {c v : Bool} (h : Q0 G e (.ret (.bool c) [])) (hc : c = v) : An G := ⟨e, .ret (.bool v) [], [], hc ▸ h⟩
theorem Q7 {G : Nat → Option Fun} {f : Nat} {fn : IFn} (hG : G f = some (.ir fn)) {args : List PV} {h : List Ob} {vw : Views} (hv : VOK (look (number 0 h)) vw) {r : Rs} (l : List It) (q : List (An G)) (ht : Q1qn fn args h vw (hsOf l) (asOf q) = some (r, owOf l, akOf q)) : Q0 G (.call f args h) r := Q1rg hG hv (Q1mf l) (Q19x q) ht
theorem Qh {G : Nat → Option Fun} {m : Nat} {live : List Nat} {b : IR} {env : List PV} {h : List Ob} {vw : Views} (hv : VOK (look (number 0 h)) vw) {x : Ex × St} (l : List It) (q : List (An G)) (ht : Q1hx m b env h vw (hsOf l) (asOf q) = some (x, owOf l, akOf q)) : Q0 G (.loop m live b env h) (.st x.1 x.2) := Q1cx hv (Q1mf l) (Q19x q) ht
end Go.Pv
namespace Go.Pv
def hS {sz : Nat} {cells : List PV} {rows : List (List PV)} (ro : Nat) (gr : Bool) (h : ViewOK sz cells rows) : It := hQ (Q4a (ob := ⟨sz, ro, gr, cells⟩) h)
end Go.Pv
namespace Go.Pv
def hA (n id lid fr sz bytes ro lro : Nat) (lgr : Bool) {α : Type} {R : List α → List (List PV)} {C : α → List PV} (hl : ∀ l, (R l).length = l.length) (hs : ∀ l x, R (l ++ [x]) = R l ++ [C x]) (v : List α) (e : α) (hz : ∀ r ∈ R v, r.length = sz) (hne : Nat.beq id lid = false) (hr : (C e).length = sz) (hb : (v.length + 1) * bytes ≤ 140737488355328) : It :=
 hV n [(fr, R (v ++ [e]))] (Q26s id lid fr sz bytes ro lro lgr (R v) (R (v ++ [e])) (C e) v.length (v ++ [e]).length hne (hl v).symm (hl _).symm (hs v e) hz hr hb)
theorem Qc {G : Nat → Option Fun} {m : Nat} {live : List Nat} {b : IR} {env : List PV} {h : List Ob} {vw : Views} (hv : VOK (look (number 0 h)) vw) {y1 : List PV} {y2 : List Ob} {r : Rs} (l : List It) (q : List (An G)) (hr : Q0 G (.loop m live b y1 y2) r) (ht : Q1qw m live b env h vw (hsOf l) (asOf q) = some ((y1, y2), owOf l, akOf q)) : Q0 G (.loop m live b env h) r := Q15e (y := (y1, y2)) hv (Q1mf l) (Q19x q) ht hr
end Go.Pv
end

