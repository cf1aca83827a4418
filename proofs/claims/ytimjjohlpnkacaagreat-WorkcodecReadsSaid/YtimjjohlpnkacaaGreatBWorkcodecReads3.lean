/- Texts of the claim, merged by a program; what the statement does not reach is left out. -/
import Derived.Test.YtimjjohlpnkacaaGreatBWorkcodecReads2
import Derived.Test.YtimjjohlpnkacaaGreatProg
import Derived.KernelRfl
import Derived.OpenShut

section
/- The seat's functions as the evaluator takes them; printed by a program, checked against the given ones in YtimjjohlpnkacaaGreatTie. -/
namespace Go.Proofs.YtimjjohlpnkacaaGreat.Ir
open Go.Pv
def o (d : Nat) (op : IOp) : IOper := ⟨some d, none, op, []⟩
def ob (d : Nat) (op : IOp) (b : List Nat) : IOper := ⟨some d, none, op, b⟩
def oM (d t : Nat) : IOper := o d (.mov (.t t))
def oX (d t k : Nat) : IOper := o d (.extract (.t t) k)
def oL (d n t : Nat) : IOper := o d (.load n true (.t t))
def oK (d n t : Nat) : IOper := o d (.load n false (.t t))
def oF (d n t : Nat) : IOper := o d (.faddr n (.t t))
def oS (n a b : Nat) : IOper := ⟨none, none, .store n (.t a) (.t b), []⟩
def oC (d f : Nat) (l : List Opd) : IOper := o d (.call false (.f f) l)
def oI (d n a b : Nat) : IOper := o d (.iaddr n (.t a) (.t b))
def oN (d t : Nat) : IOper := o d (.len false (.t t))
def oU (d t : Nat) : IOper := o d (.un .not (.t t))
def gT (d s : Nat) (x : IOp) : IOper := ⟨some d, some (s, true), x, []⟩
def gF (d s : Nat) (x : IOp) : IOper := ⟨some d, some (s, false), x, []⟩
def oD (d f : Nat) (l : List Opd) (b : List Nat) : IOper := ob d (.call false (.f f) l) b
def oE (d n t : Nat) (b : List Nat) : IOper := ob d (.load n false (.t t)) b
def oP (d a b : Nat) : IOper := o d (.pick (.t a) (.t b) (.c (.bool false)))
def oQ (d a b : Nat) : IOper := o d (.pick (.t a) (.c (.bool true)) (.t b))
def oA (d t : Nat) : IOper := o d (.bin .add (.t t) (.c (iN 1)))
def oJ (d n k a b : Nat) : IOper := o d (.append n k (.t a) (.t b))
def zS : PV := .str ⟨#[]⟩
def zI : PV := iN 0
def zB : PV := .bool false
def sA0 : Opd := .c (.str ⟨#[100, 101, 108, 97, 121]⟩)
def sA1 : Opd := .c (.str ⟨#[100, 105, 115, 107]⟩)
def sA2 : Opd := .c (.str ⟨#[101, 102, 102, 101, 99, 116]⟩)
def sA3 : Opd := .c (.str ⟨#[101, 103, 114, 101, 115, 115]⟩)
def sA4 : Opd := .c (.str ⟨#[101, 120, 105, 115, 116, 115]⟩)
def sA5 : Opd := .c (.str ⟨#[102, 97, 105, 108, 101, 100]⟩)
def sA6 : Opd := .c (.str ⟨#[102, 97, 105, 108, 117, 114, 101]⟩)
def sA7 : Opd := .c (.str ⟨#[103, 114, 97, 99, 101]⟩)
def sA8 : Opd := .c (.str ⟨#[104, 97, 114, 100]⟩)
def sA9 : Opd := .c (.str ⟨#[104, 97, 115]⟩)
def sA10 : Opd := .c (.str ⟨#[105, 109, 97, 103, 101]⟩)
def sA11 : Opd := .c (.str ⟨#[105, 110, 103, 114, 101, 115, 115]⟩)
def sA12 : Opd := .c (.str ⟨#[105, 116, 101, 109, 115]⟩)
def sA13 : Opd := .c (.str ⟨#[107, 101, 121]⟩)
def sA14 : Opd := .c (.str ⟨#[108, 105, 109, 105, 116]⟩)
def sA15 : Opd := .c (.str ⟨#[108, 105, 118, 101]⟩)
def sA16 : Opd := .c (.str ⟨#[108, 97, 98, 101, 108, 115]⟩)
def sA17 : Opd := .c (.str ⟨#[109, 101, 109, 111, 114, 121]⟩)
def sA18 : Opd := .c (.str ⟨#[109, 105, 110, 82, 101, 97, 100, 121]⟩)
def sA19 : Opd := .c (.str ⟨#[109, 97, 120, 83, 107, 101, 119]⟩)
def sA20 : Opd := .c (.str ⟨#[110, 111, 100, 101, 83, 101, 108, 101, 99, 116, 111, 114]⟩)
def sA21 : Opd := .c (.str ⟨#[110, 111, 100, 101, 84, 101, 114, 109, 115]⟩)
def sA22 : Opd := .c (.str ⟨#[110, 111, 100, 101]⟩)
def sA23 : Opd := .c (.str ⟨#[110, 97, 109, 101, 115, 112, 97, 99, 101]⟩)
def sA24 : Opd := .c (.str ⟨#[110, 97, 109, 101]⟩)
def sA25 : Opd := .c (.str ⟨#[110]⟩)
def sA26 : Opd := .c (.str ⟨#[111, 112]⟩)
def sA27 : Opd := .c (.str ⟨#[111, 98, 115, 101, 114, 118, 101, 100]⟩)
def sA28 : Opd := .c (.str ⟨#[112, 101, 101, 114, 115]⟩)
def sA29 : Opd := .c (.str ⟨#[112, 101, 114, 105, 111, 100]⟩)
def sA30 : Opd := .c (.str ⟨#[112, 101, 114, 99, 101, 110, 116]⟩)
def sA31 : Opd := .c (.str ⟨#[112, 111, 100, 115]⟩)
def sA32 : Opd := .c (.str ⟨#[112, 111, 100, 84, 101, 114, 109, 115]⟩)
def sA33 : Opd := .c (.str ⟨#[112, 111, 100]⟩)
def sA34 : Opd := .c (.str ⟨#[112, 111, 114, 116, 115]⟩)
def sA35 : Opd := .c (.str ⟨#[112, 111, 114, 116]⟩)
def sA36 : Opd := .c (.str ⟨#[112, 114, 105, 111, 114, 105, 116, 121]⟩)
def sA37 : Opd := .c (.str ⟨#[112, 114, 111, 103, 114, 101, 115, 115]⟩)
def sA38 : Opd := .c (.str ⟨#[112, 97, 114, 116, 105, 116, 105, 111, 110]⟩)
def sA39 : Opd := .c (.str ⟨#[112, 97, 114, 97, 108, 108, 101, 108]⟩)
def sA40 : Opd := .c (.str ⟨#[114, 101, 112, 108, 105, 99, 97, 115]⟩)
def sA41 : Opd := .c (.str ⟨#[114, 101, 113, 117, 101, 115, 116]⟩)
def sA42 : Opd := .c (.str ⟨#[114, 101, 113, 117, 105, 114, 101, 100]⟩)
def sA43 : Opd := .c (.str ⟨#[114, 101, 115, 116, 97, 114, 116]⟩)
def sA44 : Opd := .c (.str ⟨#[114, 101, 118, 105, 115, 105, 111, 110]⟩)
def sA45 : Opd := .c (.str ⟨#[114, 101, 97, 100, 121]⟩)
def sA46 : Opd := .c (.str ⟨#[114, 117, 108, 101, 115]⟩)
def sA47 : Opd := .c (.str ⟨#[115, 101, 108, 101, 99, 116, 111, 114]⟩)
def sA48 : Opd := .c (.str ⟨#[115, 101, 99, 111, 110, 100, 115]⟩)
def sA49 : Opd := .c (.str ⟨#[115, 112, 101, 99]⟩)
def sA50 : Opd := .c (.str ⟨#[115, 112, 114, 101, 97, 100]⟩)
def sA51 : Opd := .c (.str ⟨#[115, 116, 105, 99, 107, 121]⟩)
def sA52 : Opd := .c (.str ⟨#[115, 116, 97, 114, 116, 117, 112]⟩)
def sA53 : Opd := .c (.str ⟨#[115, 117, 99, 99, 101, 115, 115]⟩)
def sA54 : Opd := .c (.str ⟨#[116, 101, 109, 112, 108, 97, 116, 101]⟩)
def sA55 : Opd := .c (.str ⟨#[116, 101, 114, 109, 105, 110, 97, 116, 105, 110, 103]⟩)
def sA56 : Opd := .c (.str ⟨#[116, 111, 108, 101, 114, 97, 116, 105, 111, 110, 115]⟩)
def sA57 : Opd := .c (.str ⟨#[116, 111, 112, 111, 108, 111, 103, 121]⟩)
def sA58 : Opd := .c (.str ⟨#[116, 97, 114, 103, 101, 116]⟩)
def sA59 : Opd := .c (.str ⟨#[117, 110, 97, 118, 97, 105, 108, 97, 98, 108, 101]⟩)
def sA60 : Opd := .c (.str ⟨#[117, 112, 100, 97, 116, 101, 100]⟩)
def sA61 : Opd := .c (.str ⟨#[117, 115, 101, 100]⟩)
def sA62 : Opd := .c (.str ⟨#[118, 97, 108, 117, 101, 115]⟩)
def sA63 : Opd := .c (.str ⟨#[118, 97, 108, 117, 101]⟩)
def sA64 : Opd := .c (.str ⟨#[119, 101, 105, 103, 104, 116]⟩)
def sA65 : Opd := .c (.str ⟨#[68, 97, 101, 109, 111, 110, 83, 101, 116]⟩)
def sA66 : Opd := .c (.str ⟨#[69, 110, 100, 112, 111, 105, 110, 116, 83, 101, 116]⟩)
def sA67 : Opd := .c (.str ⟨#[78, 101, 116, 119, 111, 114, 107, 80, 111, 108, 105, 99, 121]⟩)
def sA68 : Opd := .c (.str ⟨#[81, 117, 111, 116, 97]⟩)
def sA69 : Opd := .c (.str ⟨#[82, 101, 112, 108, 105, 99, 97, 83, 101, 116]⟩)
def sA70 : Opd := .c (.str ⟨#[83, 101, 114, 118, 105, 99, 101]⟩)
def sA71 : Opd := .c (.str ⟨#[83, 116, 97, 116, 101, 102, 117, 108, 83, 101, 116]⟩)
def sA72 : Opd := .c (.str ⟨#[97, 100, 100, 114, 101, 115, 115]⟩)
def sA73 : Opd := .c (.str ⟨#[97, 110, 116, 105]⟩)
def sA74 : Opd := .c (.str ⟨#[97, 118, 97, 105, 108, 97, 98, 108, 101]⟩)
def sA75 : Opd := .c (.str ⟨#[99, 111, 110, 116, 97, 105, 110, 101, 114, 115]⟩)
def sA76 : Opd := .c (.str ⟨#[99, 112, 117]⟩)
def zL0 : List PV := [zS, zI, zI, zS, .ns 5, .ns 6]
def zL1 : List PV := [zI, zI, zS, .ns 5, .ns 6]
def zL2 : List PV := [zS, zS, zS, zI, zI, zI, zI, zB, zI, .ns 2, .ns 5, .ns 1, .ns 2, zI, zI, zS, .ns 5, .ns 6, zI, zI, zS, .ns 5, .ns 6]
def zL3 : List PV := [zS, zS, zS, zI, zI, zI, zI, zB, zI, .ns 2, .ns 5, .ns 1, .ns 2, zI, zI, zI, zB, .ns 3, .ns 2, zS, zI, zI, zI, .ns 11, .ns 3, .ns 3, .ns 5, .ns 4, .ns 5, zI, zI, zI, zI, zI, zI, zB]
def zL4 : List PV := [zS, zS, zS, zI, zI, zI, zI, zB, zI, .ns 2, .ns 5, .ns 1, .ns 2, zI, zI, zI, .ns 3, .ns 2, zS, zI, zI, zI, .ns 11, .ns 3, .ns 3, .ns 5, .ns 4, .ns 5, zI, zI, zI, zI, zI, zI, zB]
def zL5 : List PV := [zS, zS, zS, zI, zI, zI, zI, zB, zI, .ns 2, .ns 5, .ns 1, .ns 2, zI, zB, zI, .ns 3, .ns 2, zS, zI, zI, zI, .ns 11, .ns 3, .ns 3, .ns 5, .ns 4, .ns 5, zI, zI, zI, zI, zI, zI, zB]
def zL6 : List PV := [zS, zS, zS, zI, zI, zI, zI, zB, zI, .ns 2, .ns 5, .ns 1, .ns 2, zI, zI, zI, zI, zI, zI, zI, zI]
def zL7 : List PV := [zS, zS, zS, zI, zI, zI, zI, zB, zI, .ns 2, .ns 5, .ns 1, .ns 2, .ns 3, .ns 3, zB, zI]
def zL8 : List PV := [zS, zS, zS, zI, zI, zI, zI, zB, zI, .ns 2, .ns 5, .ns 1, .ns 2, .ns 3, zB, zB, .ns 3]
def zL9 : List PV := [zS, zS, zS, zI, zI, zI, zI, zB, zI, .ns 2, .ns 5, .ns 1, .ns 2, .ns 3, .ns 5]
def zL10 : List PV := [zS, zS, zI, zI, zI, zI, zI, zI, .ns 4, .ns 4, .ns 4]
def zL11 : List PV := [zS, zI, zI, zI, .ns 11, .ns 3, .ns 3, .ns 5, .ns 4, .ns 5]
def zL12 : List PV := [zS, zS, zS, zI, zI, zI, zI, zB, zI, .ns 2, .ns 5, .ns 1, .ns 2]
def zL13 : List PV := [zI, zI, zI, zI, zI, zI, zB]
def zL14 : List PV := [zB, zB, zB, zB, zB, zB, zB, zB, zB, zB]
def zL15 : List PV := [zB, zB, zB, zB, zB, zB, zB]
def rg1 (a : Nat) : Nat → List Nat
  | 0 => []
  | n + 1 => a :: rg1 (a + 1) n
def rg (a b : Nat) : List Nat := rg1 a (b - a)
def K3_c : IR :=
 .seq (.reg [o 1 (.box 23 0),
 o 2 (.mov (.c zB))] false)
 (.seq (.seq (.reg [oL 31 23 1,
 oC 32 11 ([31]),
 oU 33 32] false)
 (.cond 33 (.seq (.reg [oC 34 12 ([]),
 oM 2 34] false)
 (.ret))
 (.skip)))
 (.seq (.reg [oL 36 23 1,
 oC 37 21 ([36]),
 oM 35 37,
 oX 38 35 0,
 oX 39 35 1,
 o 3 (.zero zL4),
 oS 35 3 38,
 oM 4 39] false)
 (.seq (.reg [oL 41 23 1,
 oC 42 28 ([41]),
 oM 40 42,
 oX 43 40 0,
 oX 44 40 1,
 o 5 (.zero zL4),
 oS 35 5 43,
 oM 6 44] false)
 (.seq (.reg [oL 46 23 1,
 oC 47 29 ([46]),
 oM 45 47,
 oX 48 45 0,
 oX 49 45 1,
 o 7 (.zero zL3),
 oS 36 7 48,
 oM 8 49] false)
 (.seq (.reg [oL 51 23 1,
 oC 52 30 ([51]),
 oM 50 52,
 oX 53 50 0,
 oX 54 50 1,
 o 9 (.zero zL3),
 oS 36 9 53,
 oM 10 54] false)
 (.seq (.reg [oL 56 23 1,
 oC 57 31 ([56]),
 oM 55 57,
 oX 58 55 0,
 oX 59 55 1,
 o 11 (.zero zL5),
 oS 35 11 58,
 oM 12 59] false)
 (.seq (.reg [oL 61 23 1,
 oC 62 32 ([61]),
 oM 60 62,
 oX 63 60 0,
 oX 64 60 1,
 o 13 (.zero zL5),
 oS 35 13 63,
 oM 14 64] false)
 (.seq (.seq (.reg [oM 65 4,
 oM 66 6,
 ob 67 (.bin .neq 65 66) [0, 1],
 ob 68 (.mov 67) [0, 1, 2],
 ⟨(some 69), (some (68, false)), .mov 8, [0, 1, 2, 3]⟩,
 ⟨(some 70), (some (68, false)), .mov 10, [0, 1, 2, 3]⟩,
 ⟨(some 71), (some (68, false)), .bin .neq 69 70, (rg 0 6)⟩,
 ob 72 (.pick 68 (.c (.bool true)) 71) (rg 0 7),
 ob 73 (.mov 72) (rg 0 8),
 ⟨(some 74), (some (73, false)), .mov 12, (rg 0 9)⟩,
 ⟨(some 75), (some (73, false)), .mov 14, (rg 0 9)⟩,
 ⟨(some 76), (some (73, false)), .bin .neq 74 75, (rg 0 11)⟩,
 ob 77 (.pick 73 (.c (.bool true)) 76) (rg 0 12),
 ob 78 (.mov 77) (rg 0 13),
 ⟨(some 79), (some (78, false)), .load 35 true 3, (rg 0 14)⟩,
 ⟨(some 80), (some (78, false)), .call false (.f 18) [79], (rg 0 15)⟩,
 ⟨(some 81), (some (78, false)), .load 35 true 5, (rg 0 14)⟩,
 ⟨(some 82), (some (78, false)), .call false (.f 18) [81], (rg 0 17)⟩,
 ⟨(some 83), (some (78, false)), .call false (.f 17) [80, 82], (rg 0 18)⟩,
 ⟨(some 84), (some (78, false)), .un .not 83, (rg 0 19)⟩,
 ob 85 (.pick 78 (.c (.bool true)) 84) (rg 0 20),
 ob 86 (.mov 85) (rg 0 21),
 ⟨(some 87), (some (86, false)), .load 36 true 7, (rg 0 22)⟩,
 ⟨(some 88), (some (86, false)), .call false (.f 33) [87], (rg 0 23)⟩,
 ⟨(some 89), (some (86, false)), .load 36 true 9, (rg 0 22)⟩,
 ⟨(some 90), (some (86, false)), .call false (.f 33) [89], (rg 0 25)⟩,
 ⟨(some 91), (some (86, false)), .call false (.f 17) [88, 90], (rg 0 26)⟩,
 ⟨(some 92), (some (86, false)), .un .not 91, (rg 0 27)⟩,
 ob 93 (.pick 86 (.c (.bool true)) 92) (rg 0 28),
 ob 94 (.mov 93) (rg 0 29),
 ⟨(some 95), (some (94, false)), .load 35 true 11, (rg 0 30)⟩,
 ⟨(some 96), (some (94, false)), .call false (.f 34) [95], (rg 0 31)⟩,
 ⟨(some 97), (some (94, false)), .load 35 true 13, (rg 0 30)⟩,
 ⟨(some 98), (some (94, false)), .call false (.f 34) [97], (rg 0 33)⟩,
 ⟨(some 99), (some (94, false)), .call false (.f 17) [96, 98], (rg 0 34)⟩,
 ⟨(some 100), (some (94, false)), .un .not 99, (rg 0 35)⟩,
 ob 101 (.pick 94 (.c (.bool true)) 100) (rg 0 36)] true)
 (.cond 101 (.seq (.reg [o 2 (.mov (.c zB))] false)
 (.ret))
 (.skip)))
 (.seq (.reg [oL 103 23 1,
 oC 104 35 ([103]),
 oM 102 104,
 oX 105 102 0,
 oX 106 102 1,
 o 15 (.zero zL7),
 oS 17 15 105,
 oM 16 106] false)
 (.seq (.reg [oL 108 23 1,
 oC 109 36 ([108]),
 oM 107 109,
 oX 110 107 0,
 oX 111 107 1,
 o 17 (.zero zL7),
 oS 17 17 110,
 oM 18 111] false)
 (.seq (.reg [oL 113 23 1,
 oC 114 37 ([113]),
 oM 112 114,
 oX 115 112 0,
 oX 116 112 1,
 o 19 (.zero zL9),
 oS 15 19 115,
 oM 20 116] false)
 (.seq (.reg [oL 118 23 1,
 oC 119 38 ([118]),
 oM 117 119,
 oX 120 117 0,
 oX 121 117 1,
 o 21 (.zero zL9),
 oS 15 21 120,
 oM 22 121] false)
 (.seq (.seq (.reg [oM 122 16,
 oM 123 18,
 ob 124 (.bin .neq 122 123) [0, 1],
 ob 125 (.mov 124) [0, 1, 2],
 ⟨(some 126), (some (125, false)), .mov 20, [0, 1, 2, 3]⟩,
 ⟨(some 127), (some (125, false)), .mov 22, [0, 1, 2, 3]⟩,
 ⟨(some 128), (some (125, false)), .bin .neq 126 127, (rg 0 6)⟩,
 ob 129 (.pick 125 (.c (.bool true)) 128) (rg 0 7),
 ob 130 (.mov 129) (rg 0 8),
 ⟨(some 131), (some (130, false)), .load 17 true 15, (rg 0 9)⟩,
 ⟨(some 132), (some (130, false)), .call false (.f 39) [131], (rg 0 10)⟩,
 ⟨(some 133), (some (130, false)), .load 17 true 17, (rg 0 9)⟩,
 ⟨(some 134), (some (130, false)), .call false (.f 39) [133], (rg 0 12)⟩,
 ⟨(some 135), (some (130, false)), .call false (.f 17) [132, 134], (rg 0 13)⟩,
 ⟨(some 136), (some (130, false)), .un .not 135, (rg 0 14)⟩,
 ob 137 (.pick 130 (.c (.bool true)) 136) (rg 0 15),
 ob 138 (.mov 137) (rg 0 16),
 ⟨(some 139), (some (138, false)), .load 15 true 19, (rg 0 17)⟩,
 ⟨(some 140), (some (138, false)), .call false (.f 40) [139], (rg 0 18)⟩,
 ⟨(some 141), (some (138, false)), .load 15 true 21, (rg 0 17)⟩,
 ⟨(some 142), (some (138, false)), .call false (.f 40) [141], (rg 0 20)⟩,
 ⟨(some 143), (some (138, false)), .call false (.f 17) [140, 142], (rg 0 21)⟩,
 ⟨(some 144), (some (138, false)), .un .not 143, (rg 0 22)⟩,
 ob 145 (.pick 138 (.c (.bool true)) 144) (rg 0 23)] true)
 (.cond 145 (.seq (.reg [o 2 (.mov (.c zB))] false)
 (.ret))
 (.skip)))
 (.seq (.reg [oL 147 23 1,
 oC 148 41 ([147]),
 oM 146 148,
 oX 149 146 0,
 oX 150 146 1,
 o 23 (.zero zL8),
 oS 17 23 149,
 oM 24 150] false)
 (.seq (.reg [oL 152 23 1,
 oC 153 42 ([152]),
 oM 151 153,
 oX 154 151 0,
 oX 155 151 1,
 o 25 (.zero zL8),
 oS 17 25 154,
 oM 26 155] false)
 (.seq (.reg [oL 157 23 1,
 oC 158 43 ([157]),
 oM 156 158,
 oX 159 156 0,
 oX 160 156 1,
 o 27 (.zero zL6),
 oS 21 27 159,
 oM 28 160] false)
 (.seq (.reg [oL 162 23 1,
 oC 163 44 ([162]),
 oM 161 163,
 oX 164 161 0,
 oX 165 161 1,
 o 29 (.zero zL6),
 oS 21 29 164,
 oM 30 165] false)
 (.seq (.reg [oM 166 24,
 oM 167 26,
 ob 168 (.bin .eql 166 167) [0, 1],
 ob 169 (.mov 168) [0, 1, 2],
 ⟨(some 170), (some (169, true)), .mov 28, [0, 1, 2, 3]⟩,
 ⟨(some 171), (some (169, true)), .mov 30, [0, 1, 2, 3]⟩,
 ⟨(some 172), (some (169, true)), .bin .eql 170 171, (rg 0 6)⟩,
 ob 173 (.pick 169 172 (.c zB)) (rg 0 7),
 ob 174 (.mov 173) (rg 0 8),
 ⟨(some 175), (some (174, true)), .load 17 true 23, (rg 0 9)⟩,
 ⟨(some 176), (some (174, true)), .call false (.f 45) [175], (rg 0 10)⟩,
 ⟨(some 177), (some (174, true)), .load 17 true 25, (rg 0 9)⟩,
 ⟨(some 178), (some (174, true)), .call false (.f 45) [177], (rg 0 12)⟩,
 ⟨(some 179), (some (174, true)), .call false (.f 17) [176, 178], (rg 0 13)⟩,
 ob 180 (.pick 174 179 (.c zB)) (rg 0 14),
 ob 181 (.mov 180) (rg 0 15),
 ⟨(some 182), (some (181, true)), .load 21 true 27, (rg 0 16)⟩,
 ⟨(some 183), (some (181, true)), .call false (.f 46) [182], (rg 0 17)⟩,
 ⟨(some 184), (some (181, true)), .load 21 true 29, (rg 0 16)⟩,
 ⟨(some 185), (some (181, true)), .call false (.f 46) [184], (rg 0 19)⟩,
 ⟨(some 186), (some (181, true)), .call false (.f 17) [183, 185], (rg 0 20)⟩,
 ob 187 (.pick 181 186 (.c zB)) (rg 0 21),
 ob 188 (.mov 187) (rg 0 22),
 ⟨(some 189), (some (188, true)), .call false (.f 12) [], (rg 0 23)⟩,
 ob 190 (.pick 188 189 (.c zB)) (rg 0 24),
 ob 2 (.mov 190) (rg 0 25)] true)
 (.ret)))))))))))))))))))
def K3 : IFn := ⟨1, 191, [.tmp 2], false, K3_c⟩
def Qqq : List Nat := [100001, 1, 3, 4]
def Q1uz : IR :=
 .seq (.seq (.reg [oM 29 4,
 oF 30 12 3,
 oK 31 1 30,
 oN 32 31,
 o 33 (.bin .lss 29 32)] false)
 (.cond 33 (.skip)
 (.exit 0)))
 (.seq (.block 1 (.seq (.reg [oF 36 12 3,
 oK 37 1 36,
 oM 38 4,
 oI 39 2 37 38,
 oF 40 1 39,
 oK 41 1 40,
 oN 42 41,
 o 43 (.bin .gtr 42 (.c (iN 60)))] false)
 (.cond 43 (.seq (.reg [o 2 (.mov (.c zB))] false)
 (.ret))
 (.skip))))
 (.reg [oM 34 4,
 oA 35 34,
 oM 4 35] false))
def K8_c : IR :=
 .seq (.reg [o 1 (.box 23 0),
 o 2 (.mov (.c zB))] false)
 (.seq (.reg [oF 5 0 1,
 oL 6 13 5,
 o 3 (.zero zL12),
 oS 13 3 6] false)
 (.seq (.seq (.reg [oF 7 9 3,
 oK 8 1 7,
 oN 9 8,
 o 10 (.bin .gtr 9 (.c (iN 40))),
 oM 11 10,
 gF 12 11 (.faddr 10 3),
 gF 13 11 (.load 1 false 12),
 gF 14 11 (.len false 13),
 gF 15 11 (.bin .gtr 14 (.c (iN 40))),
 oQ 16 11 15,
 oM 17 16,
 gF 18 17 (.faddr 11 3),
 gF 19 17 (.load 1 false 18),
 gF 20 17 (.len false 19),
 gF 21 17 (.bin .gtr 20 (.c (iN 40))),
 oQ 22 17 21,
 oM 23 22,
 gF 24 23 (.faddr 12 3),
 gF 25 23 (.load 1 false 24),
 gF 26 23 (.len false 25),
 gF 27 23 (.bin .gtr 26 (.c (iN 40))),
 oQ 28 23 27] false)
 (.cond 28 (.seq (.reg [o 2 (.mov (.c zB))] false)
 (.ret))
 (.skip)))
 (.seq (.seq (.reg [o 4 (.mov (.c zI))] false)
 (.block 0 (.loop Qqq Q1uz)))
 (.seq (.reg [oF 44 13 1,
 oL 45 5 44,
 oC 46 63 ([45, .c (iN 900)]),
 oM 47 46,
 gT 48 47 (.faddr 18 1),
 gT 49 47 (.load 5 true 48),
 gT 50 47 (.call false (.f 63) [49, .c (iN 300)]),
 oP 51 47 50,
 oM 2 51] false)
 (.ret)))))
def K8 : IFn := ⟨1, 52, [.tmp 2], false, K8_c⟩
def K6_c : IR :=
 .seq (.reg [o 0 (.mov (.c zB))] false)
 (.seq (.reg [o 15 (.build [zI, zI, zI] [(0, 1, .c (iN 1000))]),
 o 16 (.build zL6 [(13, 3, 15), (19, 1, .c (iN 2))]),
 oC 17 64 ([16]),
 o 1 (.zero zL2),
 oS 23 1 17] false)
 (.seq (.reg [oF 19 13 1,
 oL 20 5 19,
 oC 21 65 ([20, sA8]),
 oM 18 21,
 oX 22 18 0,
 oX 23 18 1,
 o 2 (.zero zL1),
 oS 5 2 22,
 oM 3 23] false)
 (.seq (.reg [oL 25 5 2,
 oC 26 65 ([25, sA76]),
 oM 24 26,
 oX 27 24 0,
 oX 28 24 1,
 o 4 (.zero zL1),
 oS 5 4 27,
 oM 5 28] false)
 (.seq (.reg [oL 30 23 1,
 oC 31 43 ([30]),
 oM 29 31,
 oX 32 29 0,
 oX 33 29 1,
 o 6 (.zero zL6),
 oS 21 6 32,
 oM 7 33] false)
 (.seq (.reg [oC 34 67 ([.c (iN 1)]),
 o 35 (.build zL0 [(0, 1, sA51), (1, 5, 34)]),
 o 36 (.lit 6 1 zL0 [(0, 35)]),
 oC 37 66 ([36]),
 o 8 (.zero zL1),
 oS 5 8 37] false)
 (.seq (.reg [o 39 (.build zL12 [(0, 1, sA70)]),
 oL 40 5 8,
 o 41 (.build zL2 [(0, 13, 39), (13, 5, 40)]),
 oC 42 35 ([41]),
 oM 38 42,
 oX 43 38 0,
 oX 44 38 1,
 o 9 (.zero zL7),
 oS 17 9 43,
 oM 10 44] false)
 (.seq (.reg [o 46 (.build zL12 [(0, 1, sA70)]),
 o 47 (.build zL2 [(0, 13, 46)]),
 oC 48 35 ([47]),
 oM 45 48,
 oX 49 45 0,
 oX 50 45 1,
 o 11 (.zero zL7),
 oS 17 11 49,
 oM 12 50] false)
 (.seq (.reg [o 52 (.build zL2 []),
 oC 53 43 ([52]),
 oM 51 53,
 oX 54 51 0,
 oX 55 51 1,
 o 13 (.zero zL6),
 oS 21 13 54,
 oM 14 55] false)
 (.seq (.reg [oF 56 0 1,
 oF 57 0 56,
 oK 58 1 57,
 o 59 (.bin .eql 58 (sA68)),
 oM 60 59,
 gT 61 60 (.faddr 13 1),
 gT 62 60 (.faddr 4 61),
 gT 63 60 (.load 1 false 62),
 gT 64 60 (.len false 63),
 gT 65 60 (.bin .eql 64 (.c (iN 2))),
 oP 66 60 65,
 oM 67 66,
 gT 68 67 (.mov 3),
 oP 69 67 68,
 oM 70 69,
 gT 71 70 (.mov 5),
 oP 72 70 71,
 oM 73 72,
 gT 74 73 (.faddr 1 4),
 gT 75 73 (.load 1 false 74),
 gT 76 73 (.bin .eql 75 (.c (iN 1000))),
 oP 77 73 76,
 oM 78 77,
 gT 79 78 (.mov 7),
 gT 80 78 (.bin .eql 79 (.c zI)),
 oP 81 78 80,
 oM 82 81,
 gT 83 82 (.faddr 13 6),
 gT 84 82 (.faddr 0 83),
 gT 85 82 (.load 1 false 84),
 gT 86 82 (.bin .eql 85 (.c (iN 1000))),
 oP 87 82 86,
 oM 88 87,
 gT 89 88 (.faddr 19 6),
 gT 90 88 (.load 1 false 89),
 gT 91 88 (.bin .eql 90 (.c (iN 2))),
 oP 92 88 91,
 oM 93 92,
 gT 94 93 (.mov 10),
 gT 95 93 (.bin .eql 94 (.c (iN 6))),
 oP 96 93 95,
 oM 97 96,
 gT 98 97 (.mov 12),
 gT 99 97 (.bin .eql 98 (.c zI)),
 oP 100 97 99,
 oM 101 100,
 gT 102 101 (.faddr 15 11),
 gT 103 101 (.load 1 false 102),
 gT 104 101 (.un .not 103),
 oP 105 101 104,
 oM 106 105,
 gT 107 106 (.mov 14),
 gT 108 106 (.bin .eql 107 (.c (iN 6))),
 oP 109 106 108,
 oM 0 109] false)
 (.ret))))))))))
def K6 : IFn := ⟨0, 110, [.tmp 0], false, K6_c⟩
def Q22d : IR :=
 .seq (.reg [o 2 (.box 23 0),
 o 3 (.box 23 1),
 o 4 (.mov (.c zB))] false)
 (.seq (.reg [oF 5 0 2,
 oL 6 13 5,
 oF 7 0 3,
 oL 8 13 7,
 oC 9 27 ([6, 8]),
 oM 10 9,
 gT 11 10 (.faddr 13 2),
 gT 12 10 (.load 5 true 11),
 gT 13 10 (.faddr 13 3),
 gT 14 10 (.load 5 true 13),
 gT 15 10 (.call false (.f 98) [12, 14]),
 oP 16 10 15,
 oM 17 16,
 gT 18 17 (.faddr 18 2),
 gT 19 17 (.load 5 true 18),
 gT 20 17 (.faddr 18 3),
 gT 21 17 (.load 5 true 20),
 gT 22 17 (.call false (.f 98) [19, 21]),
 oP 23 17 22,
 oM 4 23] false)
 (.ret))
def K1v : IFn := ⟨2, 24, [.tmp 4], false, Q22d⟩
def Q23x : IR :=
 .seq (.reg [o 1 (.box 35 0),
 o 2 (.zero zL2)] false)
 (.seq (.reg [oF 3 0 1,
 ob 4 (.load 13 true 3) [0],
 oL 5 35 1,
 oD 6 99 ([5]) [2],
 oF 7 28 1,
 ob 8 (.load 7 true 7) [4],
 oD 9 60 ([8]) [2, 3, 4, 5],
 oD 10 58 ([sA69, 4, 6, 9]) (rg 0 7),
 ⟨none, none, .store 23 2 10, (rg 0 8)⟩] true)
 (.ret))
def K3t : IFn := ⟨1, 11, [.cell 2 23 true], false, Q23x⟩
def Q256 : IR :=
 .seq (.reg [o 1 (.box 23 0),
 o 2 (.zero zL4),
 o 3 (.mov (.c zI))] false)
 (.seq (.reg [oL 6 23 1,
 oD 7 68 ([6, sA69]) [0],
 oF 8 13 1,
 ob 9 (.load 5 true 8) [2],
 o 5 (.zero zL1),
 ob 4 (.mov 7) [0, 1, 4],
 ⟨none, none, .store 5 5 9, (rg 0 6)⟩] true)
 (.seq (.reg [oM 10 4,
 oF 11 0 1,
 ob 12 (.load 13 true 11) [1],
 oD 13 70 ([12]) [1, 2],
 oM 14 4,
 oL 15 5 5,
 oD 16 71 ([14, 15, sA40]) (rg 1 6),
 oM 17 4,
 oL 18 5 5,
 oD 19 71 ([17, 18, sA18]) (rg 1 9),
 oM 20 4,
 oL 21 5 5,
 oD 22 71 ([20, 21, sA44]) (rg 1 12),
 oM 23 4,
 oL 24 5 5,
 oD 25 72 ([23, 24]) (rg 1 15),
 oM 26 4,
 oL 27 5 5,
 oD 28 73 ([26, 27]) (rg 1 18),
 oM 29 4,
 oF 30 18 1,
 ob 31 (.load 5 true 30) [20],
 oD 32 77 ([29, 31]) (rg 1 22),
 ob 33 (.build zL4 [(0, 13, 13), (13, 1, 16), (14, 1, 19), (15, 1, 22), (16, 1, 25), (17, 11, 28), (28, 7, 32)]) (rg 1 23),
 oD 34 104 ([10, 33]) (rg 0 24),
 ob 35 (.extract 34 0) (rg 0 25),
 ob 36 (.extract 34 1) (rg 0 25),
 ⟨none, none, .store 35 2 35, (rg 0 27)⟩,
 ob 3 (.mov 36) (rg 0 28)] true)
 (.ret)))
def K5w : IFn := ⟨1, 37, [.cell 2 35 true, .tmp 3], false, Q256⟩
def Qke : List Nat := [100004, 2, 3, 7]
def Q1mr : IR :=
 .seq (.seq (.reg [oM 138 7,
 oF 139 12 2,
 oK 140 1 139,
 oN 141 140,
 o 142 (.bin .lss 138 141)] false)
 (.cond 142 (.skip)
 (.exit 4)))
 (.seq (.block 5 (.seq (.reg [oF 145 12 2,
 oE 146 1 145 [0],
 oM 147 7,
 ob 148 (.iaddr 2 146 147) [0, 1, 2],
 ob 149 (.faddr 0 148) [0, 1, 2, 3],
 oE 150 1 149 (rg 0 5),
 oF 151 12 3,
 oE 152 1 151 [6],
 oM 153 7,
 ob 154 (.iaddr 2 152 153) [6, 7, 8],
 ob 155 (.faddr 0 154) [6, 7, 8, 9],
 oE 156 1 155 (rg 6 11),
 ob 157 (.bin .neq 150 156) (rg 0 12),
 ob 158 (.mov 157) (rg 0 13),
 ⟨(some 159), (some (158, false)), .faddr 12 2, (rg 0 14)⟩,
 ⟨(some 160), (some (158, false)), .load 1 false 159, (rg 0 15)⟩,
 ⟨(some 161), (some (158, false)), .mov 7, (rg 0 14)⟩,
 ⟨(some 162), (some (158, false)), .iaddr 2 160 161, (rg 0 17)⟩,
 ⟨(some 163), (some (158, false)), .faddr 1 162, (rg 0 18)⟩,
 ⟨(some 164), (some (158, false)), .load 1 false 163, (rg 0 19)⟩,
 ⟨(some 165), (some (158, false)), .faddr 12 3, (rg 0 14)⟩,
 ⟨(some 166), (some (158, false)), .load 1 false 165, (rg 0 14 ++ [20])⟩,
 ⟨(some 167), (some (158, false)), .mov 7, (rg 0 14)⟩,
 ⟨(some 168), (some (158, false)), .iaddr 2 166 167, (rg 0 14 ++ [20, 21, 22])⟩,
 ⟨(some 169), (some (158, false)), .faddr 1 168, (rg 0 14 ++ rg 20 24)⟩,
 ⟨(some 170), (some (158, false)), .load 1 false 169, (rg 0 14 ++ rg 20 25)⟩,
 ⟨(some 171), (some (158, false)), .call false (.f 120) [164, 170], (rg 0 26)⟩,
 ⟨(some 172), (some (158, false)), .un .not 171, (rg 0 27)⟩,
 ob 173 (.pick 158 (.c (.bool true)) 172) (rg 0 28)] true)
 (.cond 173 (.seq (.reg [o 4 (.mov (.c zB))] false)
 (.ret))
 (.skip))))
 (.reg [oM 143 7,
 oA 144 143,
 oM 7 144] false))
def Qkd : List Nat := [100003, 2, 3, 6]
def Q1mq : IR :=
 .seq (.seq (.reg [oM 120 6,
 oF 121 10 2,
 oK 122 1 121,
 oN 123 122,
 o 124 (.bin .lss 120 123)] false)
 (.cond 124 (.skip)
 (.exit 2)))
 (.seq (.block 3 (.seq (.reg [oF 127 10 2,
 oE 128 1 127 [0],
 oM 129 6,
 ob 130 (.iaddr 5 128 129) [0, 1, 2],
 ob 131 (.load 5 true 130) [0, 1, 2, 3],
 oF 132 10 3,
 oE 133 1 132 [5],
 oM 134 6,
 ob 135 (.iaddr 5 133 134) [5, 6, 7],
 ob 136 (.load 5 true 135) [5, 6, 7, 8],
 ob 137 (.eqs (.st [(0, 1, .str), (1, 1, .str), (2, 1, .int), (3, 1, .bool), (4, 1, .bool)]) true 131 136) (rg 0 10)] true)
 (.cond 137 (.seq (.reg [o 4 (.mov (.c zB))] false)
 (.ret))
 (.skip))))
 (.reg [oM 125 6,
 oA 126 125,
 oM 6 126] false))
def Qkc : List Nat := [100002, 2, 3, 5]
def Q1mp : IR :=
 .seq (.seq (.reg [oM 102 5,
 oF 103 9 2,
 oK 104 1 103,
 oN 105 104,
 o 106 (.bin .lss 102 105)] false)
 (.cond 106 (.skip)
 (.exit 0)))
 (.seq (.block 1 (.seq (.reg [oF 109 9 2,
 oE 110 1 109 [0],
 oM 111 5,
 ob 112 (.iaddr 2 110 111) [0, 1, 2],
 ob 113 (.load 2 true 112) [0, 1, 2, 3],
 oF 114 9 3,
 oE 115 1 114 [5],
 oM 116 5,
 ob 117 (.iaddr 2 115 116) [5, 6, 7],
 ob 118 (.load 2 true 117) [5, 6, 7, 8],
 ob 119 (.eqs (.st [(0, 1, .str), (1, 1, .str)]) true 113 118) (rg 0 10)] true)
 (.cond 119 (.seq (.reg [o 4 (.mov (.c zB))] false)
 (.ret))
 (.skip))))
 (.reg [oM 107 5,
 oA 108 107,
 oM 5 108] false))
def Q22g : IR :=
 .seq (.reg [o 2 (.box 13 0),
 o 3 (.box 13 1),
 o 4 (.mov (.c zB))] false)
 (.seq (.seq (.reg [oL 8 13 2,
 oD 9 119 ([8]) [0],
 oL 10 13 3,
 oD 11 119 ([10]) [0, 1, 2],
 ob 12 (.bin .neq 9 11) [0, 1, 2, 3],
 ob 13 (.mov 12) (rg 0 5),
 ⟨(some 14), (some (13, false)), .faddr 0 2, (rg 0 6)⟩,
 ⟨(some 15), (some (13, false)), .load 1 false 14, (rg 0 7)⟩,
 ⟨(some 16), (some (13, false)), .faddr 0 3, (rg 0 6)⟩,
 ⟨(some 17), (some (13, false)), .load 1 false 16, (rg 0 6 ++ [8])⟩,
 ⟨(some 18), (some (13, false)), .bin .neq 15 17, (rg 0 10)⟩,
 ob 19 (.pick 13 (.c (.bool true)) 18) (rg 0 11),
 ob 20 (.mov 19) (rg 0 12),
 ⟨(some 21), (some (20, false)), .faddr 1 2, (rg 0 13)⟩,
 ⟨(some 22), (some (20, false)), .load 1 false 21, (rg 0 14)⟩,
 ⟨(some 23), (some (20, false)), .faddr 1 3, (rg 0 13)⟩,
 ⟨(some 24), (some (20, false)), .load 1 false 23, (rg 0 13 ++ [15])⟩,
 ⟨(some 25), (some (20, false)), .bin .neq 22 24, (rg 0 17)⟩,
 ob 26 (.pick 20 (.c (.bool true)) 25) (rg 0 18),
 ob 27 (.mov 26) (rg 0 19),
 ⟨(some 28), (some (27, false)), .faddr 3 2, (rg 0 20)⟩,
 ⟨(some 29), (some (27, false)), .load 1 false 28, (rg 0 21)⟩,
 ⟨(some 30), (some (27, false)), .faddr 3 3, (rg 0 20)⟩,
 ⟨(some 31), (some (27, false)), .load 1 false 30, (rg 0 20 ++ [22])⟩,
 ⟨(some 32), (some (27, false)), .bin .neq 29 31, (rg 0 24)⟩,
 ob 33 (.pick 27 (.c (.bool true)) 32) (rg 0 25),
 ob 34 (.mov 33) (rg 0 26),
 ⟨(some 35), (some (34, false)), .faddr 4 2, (rg 0 27)⟩,
 ⟨(some 36), (some (34, false)), .load 1 false 35, (rg 0 28)⟩,
 ⟨(some 37), (some (34, false)), .faddr 4 3, (rg 0 27)⟩,
 ⟨(some 38), (some (34, false)), .load 1 false 37, (rg 0 27 ++ [29])⟩,
 ⟨(some 39), (some (34, false)), .bin .neq 36 38, (rg 0 31)⟩,
 ob 40 (.pick 34 (.c (.bool true)) 39) (rg 0 32),
 ob 41 (.mov 40) (rg 0 33),
 ⟨(some 42), (some (41, false)), .faddr 5 2, (rg 0 34)⟩,
 ⟨(some 43), (some (41, false)), .load 1 false 42, (rg 0 35)⟩,
 ⟨(some 44), (some (41, false)), .faddr 5 3, (rg 0 34)⟩,
 ⟨(some 45), (some (41, false)), .load 1 false 44, (rg 0 34 ++ [36])⟩,
 ⟨(some 46), (some (41, false)), .bin .neq 43 45, (rg 0 38)⟩,
 ob 47 (.pick 41 (.c (.bool true)) 46) (rg 0 39),
 ob 48 (.mov 47) (rg 0 40),
 ⟨(some 49), (some (48, false)), .faddr 6 2, (rg 0 41)⟩,
 ⟨(some 50), (some (48, false)), .load 1 false 49, (rg 0 42)⟩,
 ⟨(some 51), (some (48, false)), .faddr 6 3, (rg 0 41)⟩,
 ⟨(some 52), (some (48, false)), .load 1 false 51, (rg 0 41 ++ [43])⟩,
 ⟨(some 53), (some (48, false)), .bin .neq 50 52, (rg 0 45)⟩,
 ob 54 (.pick 48 (.c (.bool true)) 53) (rg 0 46),
 ob 55 (.mov 54) (rg 0 47),
 ⟨(some 56), (some (55, false)), .faddr 7 2, (rg 0 48)⟩,
 ⟨(some 57), (some (55, false)), .load 1 false 56, (rg 0 49)⟩,
 ⟨(some 58), (some (55, false)), .faddr 7 3, (rg 0 48)⟩,
 ⟨(some 59), (some (55, false)), .load 1 false 58, (rg 0 48 ++ [50])⟩,
 ⟨(some 60), (some (55, false)), .eqb true 57 59, (rg 0 52)⟩,
 ob 61 (.pick 55 (.c (.bool true)) 60) (rg 0 53),
 ob 62 (.mov 61) (rg 0 54),
 ⟨(some 63), (some (62, false)), .faddr 8 2, (rg 0 55)⟩,
 ⟨(some 64), (some (62, false)), .load 1 false 63, (rg 0 56)⟩,
 ⟨(some 65), (some (62, false)), .faddr 8 3, (rg 0 55)⟩,
 ⟨(some 66), (some (62, false)), .load 1 false 65, (rg 0 55 ++ [57])⟩,
 ⟨(some 67), (some (62, false)), .bin .neq 64 66, (rg 0 59)⟩,
 ob 68 (.pick 62 (.c (.bool true)) 67) (rg 0 60)] true)
 (.cond 68 (.seq (.reg [o 4 (.mov (.c zB))] false)
 (.ret))
 (.skip)))
 (.seq (.seq (.reg [oF 69 9 2,
 oK 70 1 69,
 oN 71 70,
 oF 72 9 3,
 oK 73 1 72,
 oN 74 73,
 o 75 (.bin .neq 71 74),
 oM 76 75,
 gF 77 76 (.faddr 10 2),
 gF 78 76 (.load 1 false 77),
 gF 79 76 (.len false 78),
 gF 80 76 (.faddr 10 3),
 gF 81 76 (.load 1 false 80),
 gF 82 76 (.len false 81),
 gF 83 76 (.bin .neq 79 82),
 oQ 84 76 83,
 oM 85 84,
 gF 86 85 (.faddr 12 2),
 gF 87 85 (.load 1 false 86),
 gF 88 85 (.len false 87),
 gF 89 85 (.faddr 12 3),
 gF 90 85 (.load 1 false 89),
 gF 91 85 (.len false 90),
 gF 92 85 (.bin .neq 88 91),
 oQ 93 85 92,
 oM 94 93,
 gF 95 94 (.faddr 11 2),
 gF 96 94 (.load 1 false 95),
 gF 97 94 (.faddr 11 3),
 gF 98 94 (.load 1 false 97),
 gF 99 94 (.call false (.f 120) [96, 98]),
 gF 100 94 (.un .not 99),
 oQ 101 94 100] false)
 (.cond 101 (.seq (.reg [o 4 (.mov (.c zB))] false)
 (.ret))
 (.skip)))
 (.seq (.seq (.reg [o 5 (.mov (.c zI))] false)
 (.block 0 (.loop Qkc Q1mp)))
 (.seq (.seq (.reg [o 6 (.mov (.c zI))] false)
 (.block 2 (.loop Qkd Q1mq)))
 (.seq (.seq (.reg [o 7 (.mov (.c zI))] false)
 (.block 4 (.loop Qke Q1mr)))
 (.seq (.reg [o 4 (.mov (.c (.bool true)))] false)
 (.ret)))))))
def K1y : IFn := ⟨2, 174, [.tmp 4], false, Q22g⟩
def Q244 : IR :=
 .seq (.reg [o 1 (.box 23 0),
 o 2 (.zero zL4),
 o 3 (.mov (.c zI))] false)
 (.seq (.reg [oL 8 23 1,
 oC 9 121 ([8, sA69]),
 oM 7 9,
 oX 10 7 0,
 oX 11 7 1,
 oM 4 10,
 oM 5 11] false)
 (.seq (.reg [oF 12 0 1,
 ob 13 (.load 13 true 12) [0],
 oM 14 4,
 oD 15 122 ([14, sA40]) [2],
 oM 16 4,
 oD 17 122 ([16, sA18]) [2, 3, 4],
 oM 18 4,
 oD 19 122 ([18, sA44]) (rg 2 7),
 oM 20 4,
 oD 21 123 ([20]) (rg 2 9),
 oM 22 4,
 oD 23 124 ([22]) (rg 2 11),
 oM 24 5,
 oD 25 125 ([24]) (rg 2 13),
 ob 26 (.build zL4 [(0, 13, 13), (13, 1, 15), (14, 1, 17), (15, 1, 19), (16, 1, 21), (17, 11, 23), (28, 7, 25)]) (rg 0 14),
 o 6 (.zero zL4),
 ⟨none, none, .store 35 6 26, (rg 0 16)⟩] true)
 (.seq (.seq (.reg [oM 27 4,
 oM 28 5,
 oC 29 126 ([27, 28])] false)
 (.cond 29 (.seq (.reg [o 30 (.build zL4 []),
 oS 35 2 30,
 o 3 (.mov (.c (iN 6)))] false)
 (.ret))
 (.skip)))
 (.seq (.reg [oL 31 35 6,
 oS 35 2 31,
 o 3 (.mov (.c zI))] false)
 (.ret)))))
def K45 : IFn := ⟨1, 32, [.cell 2 35 true, .tmp 3], false, Q244⟩
def Q258 : IR :=
 .seq (.reg [o 1 (.box 23 0),
 o 2 (.zero zL3),
 o 3 (.mov (.c zI))] false)
 (.seq (.reg [oL 6 23 1,
 oD 7 68 ([6, sA71]) [0],
 oF 8 13 1,
 ob 9 (.load 5 true 8) [2],
 o 5 (.zero zL1),
 ob 4 (.mov 7) [0, 1, 4],
 ⟨none, none, .store 5 5 9, (rg 0 6)⟩] true)
 (.seq (.reg [oM 10 4,
 oF 11 0 1,
 ob 12 (.load 13 true 11) [1],
 oD 13 70 ([12]) [1, 2],
 oM 14 4,
 oL 15 5 5,
 oD 16 71 ([14, 15, sA40]) (rg 1 6),
 oM 17 4,
 oL 18 5 5,
 oD 19 71 ([17, 18, sA38]) (rg 1 9),
 oM 20 4,
 oL 21 5 5,
 oD 22 71 ([20, 21, sA18]) (rg 1 12),
 oM 23 4,
 oL 24 5 5,
 oD 25 74 ([23, 24, sA39]) (rg 1 15),
 oM 26 4,
 oL 27 5 5,
 oD 28 72 ([26, 27]) (rg 1 18),
 oM 29 4,
 oL 30 5 5,
 oD 31 73 ([29, 30]) (rg 1 21),
 oM 32 4,
 oF 33 18 1,
 ob 34 (.load 5 true 33) [23],
 oD 35 77 ([32, 34]) (rg 1 25),
 ob 36 (.build zL3 [(0, 13, 13), (13, 1, 16), (14, 1, 19), (15, 1, 22), (16, 1, 25), (17, 1, 28), (18, 11, 31), (29, 7, 35)]) (rg 1 26),
 oD 37 127 ([10, 36]) (rg 0 27),
 ob 38 (.extract 37 0) (rg 0 28),
 ob 39 (.extract 37 1) (rg 0 28),
 ⟨none, none, .store 36 2 38, (rg 0 30)⟩,
 ob 3 (.mov 39) (rg 0 31)] true)
 (.ret)))
def K5y : IFn := ⟨1, 40, [.cell 2 36 true, .tmp 3], false, Q258⟩
def Q246 : IR :=
 .seq (.reg [o 1 (.box 23 0),
 o 2 (.zero zL3),
 o 3 (.mov (.c zI))] false)
 (.seq (.reg [oL 8 23 1,
 oC 9 121 ([8, sA71]),
 oM 7 9,
 oX 10 7 0,
 oX 11 7 1,
 oM 4 10,
 oM 5 11] false)
 (.seq (.reg [oF 12 0 1,
 ob 13 (.load 13 true 12) [0],
 oM 14 4,
 oD 15 122 ([14, sA40]) [2],
 oM 16 4,
 oD 17 122 ([16, sA38]) [2, 3, 4],
 oM 18 4,
 oD 19 122 ([18, sA18]) (rg 2 7),
 oM 20 4,
 oD 21 128 ([20, sA39]) (rg 2 9),
 oM 22 4,
 oD 23 123 ([22]) (rg 2 11),
 oM 24 4,
 oD 25 124 ([24]) (rg 2 13),
 oM 26 5,
 oD 27 125 ([26]) (rg 2 15),
 ob 28 (.build zL3 [(0, 13, 13), (13, 1, 15), (14, 1, 17), (15, 1, 19), (16, 1, 21), (17, 1, 23), (18, 11, 25), (29, 7, 27)]) (rg 0 16),
 o 6 (.zero zL3),
 ⟨none, none, .store 36 6 28, (rg 0 18)⟩] true)
 (.seq (.seq (.reg [oM 29 4,
 oM 30 5,
 oC 31 126 ([29, 30])] false)
 (.cond 31 (.seq (.reg [o 32 (.build zL3 []),
 oS 36 2 32,
 o 3 (.mov (.c (iN 6)))] false)
 (.ret))
 (.skip)))
 (.seq (.reg [oL 33 36 6,
 oS 36 2 33,
 o 3 (.mov (.c zI))] false)
 (.ret)))))
def K47 : IFn := ⟨1, 34, [.cell 2 36 true, .tmp 3], false, Q246⟩
def Q24z : IR :=
 .seq (.reg [o 1 (.box 23 0),
 o 2 (.zero zL5),
 o 3 (.mov (.c zI))] false)
 (.seq (.reg [oL 6 23 1,
 oD 7 68 ([6, sA65]) [0],
 oF 8 13 1,
 ob 9 (.load 5 true 8) [2],
 o 5 (.zero zL1),
 ob 4 (.mov 7) [0, 1, 4],
 ⟨none, none, .store 5 5 9, (rg 0 6)⟩] true)
 (.seq (.reg [oM 10 4,
 oF 11 0 1,
 ob 12 (.load 13 true 11) [1],
 oD 13 70 ([12]) [1, 2],
 oM 14 4,
 oL 15 5 5,
 oD 16 71 ([14, 15, sA18]) (rg 1 6),
 oM 17 4,
 oM 18 4,
 oL 19 5 5,
 oD 20 76 ([18, 19, sA59]) (rg 1 7 ++ [8, 9]),
 oD 21 75 ([17, 20]) (rg 1 11),
 oM 22 4,
 oL 23 5 5,
 oD 24 72 ([22, 23]) (rg 1 14),
 oM 25 4,
 oL 26 5 5,
 oD 27 73 ([25, 26]) (rg 1 17),
 oM 28 4,
 oF 29 18 1,
 ob 30 (.load 5 true 29) [19],
 oD 31 77 ([28, 30]) (rg 1 21),
 ob 32 (.build zL5 [(0, 13, 13), (13, 1, 16), (14, 2, 21), (16, 1, 24), (17, 11, 27), (28, 7, 31)]) (rg 1 22),
 oD 33 129 ([10, 32]) (rg 0 23),
 ob 34 (.extract 33 0) (rg 0 24),
 ob 35 (.extract 33 1) (rg 0 24),
 ⟨none, none, .store 35 2 34, (rg 0 26)⟩,
 ob 3 (.mov 35) (rg 0 27)] true)
 (.ret)))
def K5n : IFn := ⟨1, 36, [.cell 2 35 true, .tmp 3], false, Q24z⟩
def Q240 : IR :=
 .seq (.reg [o 1 (.box 23 0),
 o 2 (.zero zL5),
 o 3 (.mov (.c zI))] false)
 (.seq (.reg [oL 8 23 1,
 oC 9 121 ([8, sA65]),
 oM 7 9,
 oX 10 7 0,
 oX 11 7 1,
 oM 4 10,
 oM 5 11] false)
 (.seq (.reg [oF 12 0 1,
 ob 13 (.load 13 true 12) [0],
 oM 14 4,
 oD 15 122 ([14, sA18]) [2],
 oM 16 4,
 oM 17 4,
 oD 18 131 ([17, sA59]) [2, 3, 5],
 oD 19 130 ([16, 18]) (rg 2 7),
 oM 20 4,
 oD 21 123 ([20]) (rg 2 9),
 oM 22 4,
 oD 23 124 ([22]) (rg 2 11),
 oM 24 5,
 oD 25 125 ([24]) (rg 2 13),
 ob 26 (.build zL5 [(0, 13, 13), (13, 1, 15), (14, 2, 19), (16, 1, 21), (17, 11, 23), (28, 7, 25)]) (rg 0 14),
 o 6 (.zero zL5),
 ⟨none, none, .store 35 6 26, (rg 0 16)⟩] true)
 (.seq (.seq (.reg [oM 27 4,
 oM 28 5,
 oC 29 126 ([27, 28])] false)
 (.cond 29 (.seq (.reg [o 30 (.build zL5 []),
 oS 35 2 30,
 o 3 (.mov (.c (iN 6)))] false)
 (.ret))
 (.skip)))
 (.seq (.reg [oL 31 35 6,
 oS 35 2 31,
 o 3 (.mov (.c zI))] false)
 (.ret)))))
def K3z : IFn := ⟨1, 32, [.cell 2 35 true, .tmp 3], false, Q240⟩
def Q23z : IR :=
 .seq (.reg [o 1 (.box 36 0),
 o 2 (.zero zL2)] false)
 (.seq (.reg [oF 3 0 1,
 ob 4 (.load 13 true 3) [0],
 oL 5 36 1,
 oD 6 132 ([5]) [2],
 oF 7 29 1,
 ob 8 (.load 7 true 7) [4],
 oD 9 60 ([8]) [2, 3, 4, 5],
 oD 10 58 ([sA71, 4, 6, 9]) (rg 0 7),
 ⟨none, none, .store 23 2 10, (rg 0 8)⟩] true)
 (.ret))
def K3v : IFn := ⟨1, 11, [.cell 2 23 true], false, Q23z⟩
def Q23t : IR :=
 .seq (.reg [o 1 (.box 35 0),
 o 2 (.zero zL2)] false)
 (.seq (.reg [oF 3 0 1,
 ob 4 (.load 13 true 3) [0],
 oL 5 35 1,
 oD 6 133 ([5]) [2],
 oF 7 28 1,
 ob 8 (.load 7 true 7) [4],
 oD 9 60 ([8]) [2, 3, 4, 5],
 oD 10 58 ([sA65, 4, 6, 9]) (rg 0 7),
 ⟨none, none, .store 23 2 10, (rg 0 8)⟩] true)
 (.ret))
def K3n : IFn := ⟨1, 11, [.cell 2 23 true], false, Q23t⟩
def Q257 : IR :=
 .seq (.reg [o 1 (.box 23 0),
 o 2 (.zero zL7),
 o 3 (.mov (.c zI))] false)
 (.seq (.reg [oL 6 23 1,
 oD 7 68 ([6, sA70]) [0],
 oF 8 13 1,
 ob 9 (.load 5 true 8) [2],
 o 5 (.zero zL1),
 ob 4 (.mov 7) [0, 1, 4],
 ⟨none, none, .store 5 5 9, (rg 0 6)⟩] true)
 (.seq (.reg [oM 10 4,
 oF 11 0 1,
 ob 12 (.load 13 true 11) [1],
 oD 13 70 ([12]) [1, 2],
 oM 14 4,
 oL 15 5 5,
 oD 16 72 ([14, 15]) (rg 1 6),
 oM 17 4,
 oL 18 5 5,
 oD 19 135 ([17, 18]) (rg 1 9),
 oM 20 4,
 oL 21 5 5,
 oD 22 74 ([20, 21, sA51]) (rg 1 12),
 oM 23 4,
 oF 24 18 1,
 ob 25 (.load 5 true 24) [14],
 oD 26 71 ([23, 25, sA72]) (rg 1 16),
 ob 27 (.build zL7 [(0, 13, 13), (13, 1, 16), (14, 1, 19), (15, 1, 22), (16, 1, 26)]) (rg 1 17),
 oD 28 134 ([10, 27]) (rg 0 18),
 ob 29 (.extract 28 0) (rg 0 19),
 ob 30 (.extract 28 1) (rg 0 19),
 ⟨none, none, .store 17 2 29, (rg 0 21)⟩,
 ob 3 (.mov 30) (rg 0 22)] true)
 (.ret)))
def K5x : IFn := ⟨1, 31, [.cell 2 17 true, .tmp 3], false, Q257⟩
def Q245 : IR :=
 .seq (.reg [o 1 (.box 23 0),
 o 2 (.zero zL7),
 o 3 (.mov (.c zI))] false)
 (.seq (.reg [oL 8 23 1,
 oC 9 121 ([8, sA70]),
 oM 7 9,
 oX 10 7 0,
 oX 11 7 1,
 oM 4 10,
 oM 5 11] false)
 (.seq (.reg [oF 12 0 1,
 ob 13 (.load 13 true 12) [0],
 oM 14 4,
 oD 15 123 ([14]) [2],
 oM 16 4,
 oD 17 136 ([16]) [2, 3, 4],
 oM 18 4,
 oD 19 128 ([18, sA51]) (rg 2 7),
 oM 20 5,
 oD 21 122 ([20, sA72]) (rg 2 9),
 ob 22 (.build zL7 [(0, 13, 13), (13, 1, 15), (14, 1, 17), (15, 1, 19), (16, 1, 21)]) (rg 0 10),
 o 6 (.zero zL7),
 ⟨none, none, .store 17 6 22, (rg 0 12)⟩] true)
 (.seq (.seq (.reg [oM 23 4,
 oM 24 5,
 oC 25 126 ([23, 24])] false)
 (.cond 25 (.seq (.reg [o 26 (.build zL7 []),
 oS 17 2 26,
 o 3 (.mov (.c (iN 6)))] false)
 (.ret))
 (.skip)))
 (.seq (.reg [oL 27 17 6,
 oS 17 2 27,
 o 3 (.mov (.c zI))] false)
 (.ret)))))
def K46 : IFn := ⟨1, 28, [.cell 2 17 true, .tmp 3], false, Q245⟩
def Q250 : IR :=
 .seq (.reg [o 1 (.box 23 0),
 o 2 (.zero zL9),
 o 3 (.mov (.c zI))] false)
 (.seq (.reg [oL 7 23 1,
 oD 8 68 ([7, sA66]) [0],
 oF 9 13 1,
 ob 10 (.load 5 true 9) [2],
 o 4 (.zero [.np]),
 o 5 (.zero zL1),
 ⟨none, none, .store 1 4 8, [0, 1, 4, 5]⟩,
 ⟨none, none, .store 5 5 10, (rg 0 7)⟩] true)
 (.seq (.reg [oK 11 1 4,
 oL 12 5 5,
 o 13 (.mkfn 138 [] [4]),
 oC 14 137 ([11, 12, sA12, 13]),
 oM 6 14] false)
 (.seq (.reg [oK 15 1 4,
 oF 16 0 1,
 ob 17 (.load 13 true 16) [1],
 oD 18 70 ([17]) [1, 2],
 oK 19 1 4,
 oL 20 5 5,
 oD 21 135 ([19, 20]) (rg 1 6),
 oM 22 6,
 ob 23 (.build zL9 [(0, 13, 18), (13, 1, 21), (14, 1, 22)]) (rg 1 8),
 oD 24 139 ([15, 23]) (rg 0 9),
 ob 25 (.extract 24 0) (rg 0 10),
 ob 26 (.extract 24 1) (rg 0 10),
 ⟨none, none, .store 15 2 25, (rg 0 12)⟩,
 ob 3 (.mov 26) (rg 0 13)] true)
 (.ret))))
def K5p : IFn := ⟨1, 27, [.cell 2 15 true, .tmp 3], false, Q250⟩
def Ql7 : List Nat := [100005, 2, 4, 5, 6, 7, 8]
def Q1nk : IR :=
 .seq (.seq (.reg [oM 22 8,
 oM 23 7,
 oN 24 23,
 o 25 (.bin .lss 22 24)] false)
 (.cond 25 (.skip)
 (.exit 0)))
 (.seq (.block 1 (.seq (.reg [oM 28 7,
 oM 29 8,
 oI 30 5 28 29,
 oL 31 5 30,
 oC 32 141 ([31]),
 oM 9 32] false)
 (.seq (.reg [oF 33 14 6,
 oE 34 1 33 [0],
 oM 35 9,
 oD 36 142 ([35, sA33]) [2],
 oM 37 9,
 oD 38 142 ([37, sA22]) [2, 3, 4],
 oM 39 9,
 oD 40 122 ([39, sA72]) (rg 2 7),
 oM 41 9,
 oD 42 128 ([41, sA45]) (rg 2 9),
 oM 43 9,
 oD 44 128 ([43, sA55]) (rg 2 11),
 ob 45 (.build [zS, zS, zI, zB, zB] [(0, 1, 36), (1, 1, 38), (2, 1, 40), (3, 1, 42), (4, 1, 44)]) (rg 2 12),
 ob 46 (.lit 5 1 [zS, zS, zI, zB, zB] [(0, 45)]) (rg 2 13),
 ob 47 (.append 5 48 34 46) (rg 0 14),
 ob 48 (.faddr 14 6) (rg 0 15),
 ⟨none, none, .store 1 48 47, (rg 0 16)⟩] true)
 (.reg [oM 49 4,
 oM 50 9,
 o 51 (.nilck 50),
 oF 52 5 51,
 oK 53 1 52,
 oU 54 53,
 oC 55 143 ([49, 54])] false))))
 (.reg [oM 26 8,
 oA 27 26,
 oM 8 27] false))
def Q241 : IR :=
 .seq (.reg [o 1 (.box 23 0),
 o 2 (.zero zL9),
 o 3 (.mov (.c zI))] false)
 (.seq (.reg [oL 11 23 1,
 oC 12 121 ([11, sA66]),
 oM 10 12,
 oX 13 10 0,
 oX 14 10 1,
 oM 4 13,
 oM 5 14] false)
 (.seq (.reg [oF 15 0 1,
 ob 16 (.load 13 true 15) [0],
 oM 17 4,
 oD 18 136 ([17]) [2],
 ob 19 (.build zL9 [(0, 13, 16), (13, 1, 18)]) [0, 1, 2, 3],
 o 6 (.zero zL9),
 ⟨none, none, .store 15 6 19, (rg 0 6)⟩] true)
 (.seq (.reg [oM 20 4,
 oC 21 140 ([20, sA12]),
 oM 7 21] false)
 (.seq (.seq (.reg [o 8 (.mov (.c zI))] false)
 (.block 0 (.loop Ql7 Q1nk)))
 (.seq (.seq (.reg [oM 56 4,
 oM 57 5,
 oC 58 126 ([56, 57])] false)
 (.cond 58 (.seq (.reg [o 59 (.build zL9 []),
 oS 15 2 59,
 o 3 (.mov (.c (iN 6)))] false)
 (.ret))
 (.skip)))
 (.seq (.reg [oL 60 15 6,
 oS 15 2 60,
 o 3 (.mov (.c zI))] false)
 (.ret)))))))
def K41 : IFn := ⟨1, 61, [.cell 2 15 true, .tmp 3], false, Q241⟩
def Q23y : IR :=
 .seq (.reg [o 1 (.box 17 0),
 o 2 (.zero zL2)] false)
 (.seq (.reg [oF 3 0 1,
 ob 4 (.load 13 true 3) [0],
 oL 5 17 1,
 oD 6 144 ([5]) [2],
 oF 7 16 1,
 oE 8 1 7 [4],
 oD 9 67 ([8]) [2, 3, 4, 5],
 ob 10 (.build zL0 [(0, 1, sA72), (1, 5, 9)]) (rg 2 7),
 ob 11 (.lit 6 1 zL0 [(0, 10)]) (rg 2 8),
 oD 12 66 ([11]) (rg 2 9),
 oD 13 58 ([sA70, 4, 6, 12]) (rg 0 10),
 ⟨none, none, .store 23 2 13, (rg 0 11)⟩] true)
 (.ret))
def K3u : IFn := ⟨1, 14, [.cell 2 23 true], false, Q23y⟩
def Q23u : IR :=
 .seq (.reg [o 1 (.box 15 0),
 o 2 (.zero zL2)] false)
 (.seq (.reg [oF 3 0 1,
 ob 4 (.load 13 true 3) [0],
 oL 5 15 1,
 oD 6 145 ([5]) [2],
 oD 7 66 ([.c (.ns 6)]) [2, 3],
 oD 8 58 ([sA66, 4, 6, 7]) (rg 0 5),
 ⟨none, none, .store 23 2 8, (rg 0 6)⟩] true)
 (.ret))
def K3p : IFn := ⟨1, 9, [.cell 2 23 true], false, Q23u⟩
def Q252 : IR :=
 .seq (.reg [o 1 (.box 23 0),
 o 2 (.zero zL8),
 o 3 (.mov (.c zI))] false)
 (.seq (.reg [oL 7 23 1,
 oD 8 68 ([7, sA67]) [0],
 oF 9 13 1,
 ob 10 (.load 5 true 9) [2],
 o 4 (.zero [.np]),
 o 5 (.zero zL1),
 ⟨none, none, .store 1 4 8, [0, 1, 4, 5]⟩,
 ⟨none, none, .store 5 5 10, (rg 0 7)⟩] true)
 (.seq (.reg [oK 11 1 4,
 oL 12 5 5,
 o 13 (.mkfn 147 [] [4]),
 oC 14 146 ([11, 12, sA46, 13]),
 oM 6 14] false)
 (.seq (.reg [oK 15 1 4,
 oF 16 0 1,
 ob 17 (.load 13 true 16) [1],
 oD 18 70 ([17]) [1, 2],
 oK 19 1 4,
 oL 20 5 5,
 oD 21 72 ([19, 20]) (rg 1 6),
 oK 22 1 4,
 oL 23 5 5,
 oD 24 74 ([22, 23, sA11]) (rg 1 9),
 oK 25 1 4,
 oL 26 5 5,
 oD 27 74 ([25, 26, sA3]) (rg 1 12),
 oM 28 6,
 ob 29 (.build zL8 [(0, 13, 18), (13, 1, 21), (14, 1, 24), (15, 1, 27), (16, 1, 28)]) (rg 1 14),
 oD 30 150 ([15, 29]) (rg 0 15),
 ob 31 (.extract 30 0) (rg 0 16),
 ob 32 (.extract 30 1) (rg 0 16),
 ⟨none, none, .store 17 2 31, (rg 0 18)⟩,
 ob 3 (.mov 32) (rg 0 19)] true)
 (.ret))))
def K5s : IFn := ⟨1, 33, [.cell 2 17 true, .tmp 3], false, Q252⟩
def Ql8 : List Nat := [100006, 2, 4, 5, 6, 7, 8]
def Q1nl : IR :=
 .seq (.seq (.reg [oM 27 8,
 oM 28 7,
 oN 29 28,
 o 30 (.bin .lss 27 29)] false)
 (.cond 30 (.skip)
 (.exit 0)))
 (.seq (.block 1 (.seq (.reg [oM 34 7,
 oM 35 8,
 oI 36 5 34 35,
 oL 37 5 36,
 oC 38 151 ([37]),
 oM 33 38,
 oX 39 33 0,
 oX 40 33 1,
 o 9 (.zero [zB, .ns 2, .ns 1]),
 oS 3 9 39,
 oM 10 40] false)
 (.seq (.reg [oF 41 16 6,
 oK 42 1 41,
 oL 43 3 9,
 o 44 (.lit 3 1 [zB, .ns 2, .ns 1] [(0, 43)]),
 oJ 45 3 56 42 44,
 oF 46 16 6,
 oS 1 46 45] false)
 (.reg [oM 47 4,
 oM 48 10,
 oC 49 143 ([47, 48])] false))))
 (.reg [oM 31 8,
 oA 32 31,
 oM 8 32] false))
def Q242 : IR :=
 .seq (.reg [o 1 (.box 23 0),
 o 2 (.zero zL8),
 o 3 (.mov (.c zI))] false)
 (.seq (.reg [oL 12 23 1,
 oC 13 121 ([12, sA67]),
 oM 11 13,
 oX 14 11 0,
 oX 15 11 1,
 oM 4 14,
 oM 5 15] false)
 (.seq (.reg [oF 16 0 1,
 ob 17 (.load 13 true 16) [0],
 oM 18 4,
 oD 19 123 ([18]) [2],
 oM 20 4,
 oD 21 128 ([20, sA11]) [2, 3, 4],
 oM 22 4,
 oD 23 128 ([22, sA3]) (rg 2 7),
 ob 24 (.build zL8 [(0, 13, 17), (13, 1, 19), (14, 1, 21), (15, 1, 23)]) (rg 0 8),
 o 6 (.zero zL8),
 ⟨none, none, .store 17 6 24, (rg 0 10)⟩] true)
 (.seq (.reg [oM 25 4,
 oC 26 140 ([25, sA46]),
 oM 7 26] false)
 (.seq (.seq (.reg [o 8 (.mov (.c zI))] false)
 (.block 0 (.loop Ql8 Q1nl)))
 (.seq (.seq (.reg [oM 50 4,
 oM 51 5,
 oC 52 126 ([50, 51])] false)
 (.cond 52 (.seq (.reg [o 53 (.build zL8 []),
 oS 17 2 53,
 o 3 (.mov (.c (iN 6)))] false)
 (.ret))
 (.skip)))
 (.seq (.reg [oL 54 17 6,
 oS 17 2 54,
 o 3 (.mov (.c zI))] false)
 (.ret)))))))
def K43 : IFn := ⟨1, 55, [.cell 2 17 true, .tmp 3], false, Q242⟩
def Q255 : IR :=
 .seq (.reg [o 1 (.box 23 0),
 o 2 (.zero zL6),
 o 3 (.mov (.c zI))] false)
 (.seq (.reg [oL 6 23 1,
 oD 7 68 ([6, sA68]) [0],
 oF 8 13 1,
 ob 9 (.load 5 true 8) [2],
 o 5 (.zero zL1),
 ob 4 (.mov 7) [0, 1, 4],
 ⟨none, none, .store 5 5 9, (rg 0 6)⟩] true)
 (.seq (.reg [oM 10 4,
 oF 11 0 1,
 ob 12 (.load 13 true 11) [1],
 oD 13 70 ([12]) [1, 2],
 oM 14 4,
 oM 15 4,
 oL 16 5 5,
 oD 17 76 ([15, 16, sA8]) [1, 2, 3, 5, 6],
 oD 18 153 ([14, 17]) (rg 1 8),
 oM 19 4,
 oL 20 5 5,
 oD 21 71 ([19, 20, sA31]) (rg 1 11),
 oM 22 4,
 oM 23 4,
 oF 24 18 1,
 ob 25 (.load 5 true 24) [14],
 oD 26 76 ([23, 25, sA61]) (rg 1 12 ++ [13, 14, 15]),
 oD 27 153 ([22, 26]) (rg 1 17),
 oM 28 4,
 oF 29 18 1,
 ob 30 (.load 5 true 29) [19],
 oD 31 71 ([28, 30, sA9]) (rg 1 21),
 ob 32 (.build zL6 [(0, 13, 13), (13, 3, 18), (19, 1, 21), (16, 3, 27), (20, 1, 31)]) (rg 1 22),
 oD 33 152 ([10, 32]) (rg 0 23),
 ob 34 (.extract 33 0) (rg 0 24),
 ob 35 (.extract 33 1) (rg 0 24),
 ⟨none, none, .store 21 2 34, (rg 0 26)⟩,
 ob 3 (.mov 35) (rg 0 27)] true)
 (.ret)))
def K5v : IFn := ⟨1, 36, [.cell 2 21 true, .tmp 3], false, Q255⟩
def Q243 : IR :=
 .seq (.reg [o 1 (.box 23 0),
 o 2 (.zero zL6),
 o 3 (.mov (.c zI))] false)
 (.seq (.reg [oL 8 23 1,
 oC 9 121 ([8, sA68]),
 oM 7 9,
 oX 10 7 0,
 oX 11 7 1,
 oM 4 10,
 oM 5 11] false)
 (.seq (.reg [oF 12 0 1,
 ob 13 (.load 13 true 12) [0],
 oM 14 4,
 oD 15 154 ([14, sA8]) [2],
 oM 16 4,
 oD 17 122 ([16, sA31]) [2, 3, 4],
 oM 18 5,
 oD 19 154 ([18, sA61]) (rg 2 7),
 oM 20 5,
 oD 21 122 ([20, sA9]) (rg 2 9),
 ob 22 (.build zL6 [(0, 13, 13), (13, 3, 15), (19, 1, 17), (16, 3, 19), (20, 1, 21)]) (rg 0 10),
 o 6 (.zero zL6),
 ⟨none, none, .store 21 6 22, (rg 0 12)⟩] true)
 (.seq (.seq (.reg [oM 23 4,
 oM 24 5,
 oC 25 126 ([23, 24])] false)
 (.cond 25 (.seq (.reg [o 26 (.build zL6 []),
 oS 21 2 26,
 o 3 (.mov (.c (iN 6)))] false)
 (.ret))
 (.skip)))
 (.seq (.reg [oL 27 21 6,
 oS 21 2 27,
 o 3 (.mov (.c zI))] false)
 (.ret)))))
def K44 : IFn := ⟨1, 28, [.cell 2 21 true, .tmp 3], false, Q243⟩
def Q23v : IR :=
 .seq (.reg [o 1 (.box 17 0),
 o 2 (.zero zL2)] false)
 (.seq (.reg [oF 3 0 1,
 ob 4 (.load 13 true 3) [0],
 oL 5 17 1,
 oD 6 155 ([5]) [2],
 oD 7 66 ([.c (.ns 6)]) [2, 3],
 oD 8 58 ([sA67, 4, 6, 7]) (rg 0 5),
 ⟨none, none, .store 23 2 8, (rg 0 6)⟩] true)
 (.ret))
def K3r : IFn := ⟨1, 9, [.cell 2 23 true], false, Q23v⟩
def Q23w : IR :=
 .seq (.reg [o 1 (.box 21 0),
 o 2 (.zero zL2)] false)
 (.seq (.reg [oF 3 0 1,
 ob 4 (.load 13 true 3) [0],
 oL 5 21 1,
 oD 6 156 ([5]) [2],
 oL 7 21 1,
 oD 8 157 ([7]) [2, 3, 4],
 oD 9 58 ([sA68, 4, 6, 8]) (rg 0 6),
 ⟨none, none, .store 23 2 9, (rg 0 7)⟩] true)
 (.ret))
def K3s : IFn := ⟨1, 10, [.cell 2 23 true], false, Q23w⟩
def Q248 : IR :=
 .seq (.reg [o 5 (.box 13 1),
 o 6 (.box 5 2),
 o 7 (.box 5 3),
 o 8 (.zero zL2)] false)
 (.seq (.reg [oM 9 0,
 oF 10 0 5,
 oS 1 10 9] false)
 (.seq (.reg [oL 11 13 5,
 oL 12 5 6,
 oL 13 5 7,
 o 14 (.build zL2 [(0, 13, 11), (13, 5, 12), (18, 5, 13)]),
 oS 23 8 14] false)
 (.ret)))
def K49 : IFn := ⟨4, 15, [.cell 8 23 true], false, Q248⟩
def Q239 : IR :=
 .seq (.reg [o 1 (.box 7 0),
 o 2 (.zero zL1)] false)
 (.seq (.reg [oF 3 0 1,
 oE 4 1 3 [0],
 oD 5 164 ([4]) [0, 1],
 ob 6 (.build zL0 [(0, 1, sA27), (1, 5, 5)]) [0, 1, 2],
 oF 7 1 1,
 oE 8 1 7 [4],
 oD 9 164 ([8]) [0, 1, 2, 4, 5],
 ob 10 (.build zL0 [(0, 1, sA40), (1, 5, 9)]) [0, 1, 2, 4, 5, 6],
 oF 11 2 1,
 oE 12 1 11 [8],
 oD 13 164 ([12]) [0, 1, 2, 4, 5, 6, 8, 9],
 ob 14 (.build zL0 [(0, 1, sA60), (1, 5, 13)]) [0, 1, 2, 4, 5, 6, 8, 9, 10],
 oF 15 3 1,
 oE 16 1 15 [12],
 oD 17 164 ([16]) [0, 1, 2, 4, 5, 6, 8, 9, 10, 12, 13],
 ob 18 (.build zL0 [(0, 1, sA45), (1, 5, 17)]) [0, 1, 2, 4, 5, 6, 8, 9, 10, 12, 13, 14],
 oF 19 4 1,
 oE 20 1 19 [16],
 oD 21 164 ([20]) [0, 1, 2, 4, 5, 6, 8, 9, 10, 12, 13, 14, 16, 17],
 ob 22 (.build zL0 [(0, 1, sA74), (1, 5, 21)]) [0, 1, 2, 4, 5, 6, 8, 9, 10, 12, 13, 14, 16, 17, 18],
 oF 23 5 1,
 oE 24 1 23 [20],
 oD 25 164 ([24]) [0, 1, 2, 4, 5, 6, 8, 9, 10, 12, 13, 14, 16, 17, 18, 20, 21],
 ob 26 (.build zL0 [(0, 1, sA37), (1, 5, 25)]) [0, 1, 2, 4, 5, 6, 8, 9, 10, 12, 13, 14, 16, 17, 18, 20, 21, 22],
 oF 27 6 1,
 oE 28 1 27 [24],
 oD 29 167 ([28]) [0, 1, 2, 4, 5, 6, 8, 9, 10, 12, 13, 14, 16, 17, 18, 20, 21, 22, 24, 25],
 ob 30 (.build zL0 [(0, 1, sA5), (1, 5, 29)]) [0, 1, 2, 4, 5, 6, 8, 9, 10, 12, 13, 14, 16, 17, 18, 20, 21, 22, 24, 25, 26],
 ob 31 (.lit 6 7 zL0 [(0, 6), (1, 10), (2, 14), (3, 18), (4, 22), (5, 26), (6, 30)]) (rg 0 28),
 oD 32 163 ([31]) (rg 0 29),
 ⟨none, none, .store 5 2 32, (rg 0 30)⟩] true)
 (.ret))
def K30 : IFn := ⟨1, 33, [.cell 2 5 true], false, Q239⟩
def Q229 : IR :=
 .seq (.reg [o 2 (.box 5 0),
 o 4 (.mov (.c zB))] false)
 (.seq (.reg [oL 5 5 2,
 oM 6 1,
 oM 7 1,
 oC 8 170 ([5, 6, 7]),
 o 9 (.bin .geq 8 (.c zI)),
 oM 4 9] false)
 (.ret))
def K1r : IFn := ⟨2, 10, [.tmp 4], false, Q229⟩
def Q24y : IR :=
 .seq (.reg [o 1 (.box 21 0),
 o 2 (.zero zL2)] false)
 (.seq (.reg [oF 3 0 1,
 ob 4 (.load 13 true 3) [0],
 oF 5 13 1,
 ob 6 (.load 3 true 5) [2],
 oD 7 171 ([6]) [2, 3],
 oD 8 83 ([sA8, 7]) [2, 3, 4],
 oF 9 19 1,
 oE 10 1 9 [6],
 oD 11 79 ([sA31, 10]) (rg 2 8),
 ob 12 (.lit 6 2 zL0 [(0, 8), (1, 11)]) (rg 2 9),
 oD 13 78 ([12]) (rg 2 10),
 oF 14 16 1,
 ob 15 (.load 3 true 14) [11],
 oD 16 171 ([15]) (rg 2 13),
 oD 17 83 ([sA61, 16]) (rg 2 14),
 oF 18 20 1,
 oE 19 1 18 [15],
 oD 20 79 ([sA9, 19]) (rg 2 17),
 ob 21 (.lit 6 2 zL0 [(0, 17), (1, 20)]) (rg 2 18),
 oD 22 78 ([21]) (rg 2 19),
 oD 23 85 ([sA68, 4, 13, 22]) (rg 0 20),
 ⟨none, none, .store 23 2 23, (rg 0 21)⟩] true)
 (.ret))
def K5d : IFn := ⟨1, 24, [.cell 2 23 true], false, Q24y⟩
def Q139 : List Nat := [100012, 1, 2, 4, 6]
def Q1us : IR :=
 .seq (.seq (.reg [oM 10 6,
 oF 11 4 2,
 oK 12 1 11,
 oN 13 12,
 o 14 (.bin .lss 10 13)] false)
 (.cond 14 (.skip)
 (.exit 0)))
 (.seq (.block 1 (.seq (.reg [oF 17 4 2,
 oK 18 1 17,
 oM 19 6,
 oI 20 6 18 19,
 oF 21 0 20,
 oK 22 1 21,
 oM 23 1,
 o 24 (.bin .eql 22 23)] false)
 (.cond 24 (.seq (.reg [oF 25 4 2,
 oK 26 1 25,
 oM 27 6,
 oI 28 6 26 27,
 oF 29 1 28,
 oL 30 5 29,
 oC 31 172 ([30]),
 oS 5 4 31,
 o 5 (.mov (.c (.bool true)))] false)
 (.ret))
 (.skip))))
 (.reg [oM 15 6,
 oA 16 15,
 oM 6 16] false))
def Q226 : IR :=
 .seq (.reg [o 2 (.box 5 0),
 o 4 (.zero zL1),
 o 5 (.mov (.c zB))] false)
 (.seq (.seq (.reg [oF 7 0 2,
 oK 8 1 7,
 o 9 (.bin .eql 8 (.c (iN 5)))] false)
 (.cond 9 (.seq (.reg [o 6 (.mov (.c zI))] false)
 (.block 0 (.loop Q139 Q1us)))
 (.skip)))
 (.seq (.reg [o 32 (.build zL1 []),
 oS 5 4 32,
 o 5 (.mov (.c zB))] false)
 (.ret)))
def K1o : IFn := ⟨2, 33, [.cell 4 5 true, .tmp 5], false, Q226⟩
def Qk8 : List Nat := [100013, 0, 2, 3, 4, 200001]
def Q1ml : IR :=
 .seq (.seq (.reg [oM 6 4,
 oM 7 0,
 oN 8 7,
 o 9 (.bin .lss 6 8)] false)
 (.cond 9 (.skip)
 (.exit 0)))
 (.seq (.block 1 (.reg [oF 12 4 3,
 oE 13 1 12 [0],
 oM 14 0,
 oM 15 4,
 ob 16 (.iaddr 6 14 15) [2, 3],
 ob 17 (.faddr 0 16) [2, 3, 4],
 oE 18 1 17 [2, 3, 4, 5],
 oM 19 0,
 oM 20 4,
 ob 21 (.iaddr 6 19 20) [7, 8],
 ob 22 (.faddr 1 21) [7, 8, 9],
 ob 23 (.load 5 true 22) [7, 8, 9, 10],
 oD 24 172 ([23]) (rg 7 12),
 ob 25 (.build zL0 [(0, 1, 18), (1, 5, 24)]) (rg 2 13),
 oD 26 173 ([13, 25]) (rg 0 14),
 ob 27 (.faddr 4 3) (rg 0 15),
 ⟨none, none, .store 1 27 26, (rg 0 16)⟩] true))
 (.reg [oM 10 4,
 oA 11 10,
 oM 4 11] false))
def Q228 : IR :=
 .seq (.reg [o 2 (.zero zL1)] false)
 (.seq (.reg [o 5 (.build zL1 [(0, 1, .c (iN 5))]),
 o 3 (.zero zL1),
 oS 5 3 5] false)
 (.seq (.seq (.reg [o 4 (.mov (.c zI))] false)
 (.block 0 (.loop Qk8 Q1ml)))
 (.seq (.reg [oL 28 5 3,
 oS 5 2 28] false)
 (.ret))))
def K1q : IFn := ⟨1, 29, [.cell 2 5 true], false, Q228⟩
def Q227 : IR :=
 .seq (.reg [o 2 (.zero zL1)] false)
 (.seq (.reg [oM 3 0,
 o 4 (.build zL1 [(0, 1, .c (iN 2)), (1, 1, 3)]),
 oS 5 2 4] false)
 (.ret))
def K1p : IFn := ⟨1, 5, [.cell 2 5 true], false, Q227⟩
def Q260 : IR :=
 .seq (.reg [o 2 (.box 23 0),
 o 4 (.mov (.c (.np)))] false)
 (.seq (.reg [o 6 (.build [zI] []),
 o 7 (.box 1 6),
 oM 5 7] false)
 (.seq (.seq (.reg [oF 8 0 2,
 oF 9 0 8,
 oK 10 1 9,
 oM 11 1,
 o 12 (.bin .neq 10 11)] false)
 (.cond 12 (.reg [oM 13 5,
 o 14 (.nilck 13),
 oF 15 0 14,
 oK 16 1 15,
 oA 17 16,
 o 18 (.nilck 13),
 oF 19 0 18,
 oS 1 19 17] false)
 (.skip)))
 (.seq (.reg [oM 20 5,
 oF 21 13 2,
 oL 22 5 21,
 oC 23 174 ([20, 22, .c (iN 5)])] false)
 (.seq (.reg [oM 24 5,
 oF 25 18 2,
 oL 26 5 25,
 oC 27 174 ([24, 26, .c (iN 5)])] false)
 (.seq (.reg [oM 28 5,
 oM 4 28] false)
 (.ret))))))
def K77 : IFn := ⟨2, 29, [.tmp 4], false, Q260⟩
def Qlf : List Nat := [100014, 1, 2, 22, 23, 24]
def Q1ns : IR :=
 .seq (.reg [o 25 (.bin .lss 24 23)] false)
 (.seq (.cond 25 (.skip)
 (.exit 0))
 (.seq (.block 1 (.seq (.reg [oM 26 24,
 oI 27 2 22 24,
 oL 28 2 27,
 o 4 (.zero [zS, .ns 1]),
 oM 3 26,
 oS 2 4 28] false)
 (.reg [oF 29 12 1,
 oE 30 1 29 [0],
 oM 31 3,
 oF 32 1 4,
 oE 33 1 32 [3],
 oD 34 177 ([33]) [3, 4],
 ob 35 (.iaddr 2 30 31) (rg 0 6),
 ob 36 (.faddr 1 35) (rg 0 7),
 ⟨none, none, .store 1 36 34, (rg 0 8)⟩] true)))
 (.reg [oA 37 24,
 oM 24 37] false)))
def Q259 : IR :=
 .seq (.reg [o 1 (.box 13 0),
 o 2 (.zero zL12)] false)
 (.seq (.reg [oF 5 9 1,
 oE 6 1 5 [0],
 oD 7 175 ([6]) [0, 1],
 oF 8 10 1,
 oE 9 1 8 [3],
 oD 10 176 ([9]) (rg 0 5),
 oF 11 11 1,
 oE 12 1 11 [6],
 oD 13 177 ([12]) (rg 0 8),
 oF 14 12 1,
 oE 15 1 14 [9],
 oD 16 178 ([15]) (rg 0 11),
 ob 17 (.faddr 9 1) (rg 0 5 ++ [6, 7, 9, 10]),
 ⟨none, none, .store 1 17 7, (rg 0 13)⟩,
 ob 18 (.faddr 10 1) (rg 0 14),
 ⟨none, none, .store 1 18 10, (rg 0 15)⟩,
 ob 19 (.faddr 11 1) (rg 0 16),
 ⟨none, none, .store 1 19 13, (rg 0 17)⟩,
 ob 20 (.faddr 12 1) (rg 0 18),
 ⟨none, none, .store 1 20 16, (rg 0 19)⟩] true)
 (.seq (.seq (.reg [oF 21 12 1,
 oK 22 1 21,
 oN 23 22,
 o 24 (.mov (.c zI))] false)
 (.block 0 (.loop Qlf Q1ns)))
 (.seq (.reg [oL 38 13 1,
 oS 13 2 38] false)
 (.ret))))
def K5z : IFn := ⟨1, 39, [.cell 2 13 true], false, Q259⟩
def Q25f : IR :=
 .seq (.reg [o 4 (.box 5 1),
 o 6 (.mov (.c zI))] false)
 (.seq (.reg [oM 7 0,
 oM 8 0,
 oL 9 5 4,
 oM 10 2,
 oC 11 76 ([8, 9, 10]),
 oC 12 174 ([7, 11, .c (iN 2)]),
 o 13 (.field 1 1 false 12),
 oM 6 13] false)
 (.ret))
def K66 : IFn := ⟨3, 14, [.tmp 6], false, Q25f⟩
def Q25j : IR :=
 .seq (.reg [o 2 (.box 1 0),
 o 3 (.box 5 1),
 o 4 (.mov (.c (.ns 3)))] false)
 (.seq (.reg [oK 5 1 2,
 oL 6 5 3,
 o 7 (.mkfn 180 [] [2]),
 oC 8 179 ([5, 6, sA47, 7]),
 oM 4 8] false)
 (.ret))
def K6a : IFn := ⟨2, 9, [.tmp 4], false, Q25j⟩
def Q25n : IR :=
 .seq (.reg [o 3 (.box 5 1),
 o 4 (.zero [.ns 2, zS, zI, zI, zI, .ns 11, .ns 3, .ns 3, .ns 5, .ns 4, .ns 5])] false)
 (.seq (.reg [oM 8 0,
 oL 9 5 3,
 oC 10 76 ([8, 9, sA54]),
 o 5 (.zero zL1),
 oS 5 5 10] false)
 (.seq (.seq (.reg [oF 11 0 5,
 oK 12 1 11,
 o 13 (.bin .eql 12 (.c zI))] false)
 (.cond 13 (.seq (.reg [o 14 (.build [.ns 2, zS, zI, zI, zI, .ns 11, .ns 3, .ns 3, .ns 5, .ns 4, .ns 5] []),
 oS 11 4 14] false)
 (.ret))
 (.skip)))
 (.seq (.reg [oL 16 5 5,
 oC 17 183 ([16]),
 oM 15 17,
 oX 18 15 0,
 oX 19 15 1,
 o 6 (.zero [.ns 2, zS, zI, zI, zI, .ns 11, .ns 3, .ns 3, .ns 5, .ns 4, .ns 5]),
 oS 11 6 18,
 oM 7 19] false)
 (.seq (.seq (.reg [oM 20 7,
 o 21 (.bin .neq 20 (.c zI))] false)
 (.cond 21 (.reg [oM 22 0,
 o 23 (.nilck 22),
 oF 24 0 23,
 oK 25 1 24,
 oA 26 25,
 o 27 (.nilck 22),
 oF 28 0 27,
 oS 1 28 26] false)
 (.skip)))
 (.seq (.reg [oL 29 11 6,
 oS 11 4 29] false)
 (.ret))))))
def K6e : IFn := ⟨2, 30, [.cell 4 11 true], false, Q25n⟩
def Q25p : IR :=
 .seq (.reg [o 4 (.box 5 1),
 o 6 (.mov (.c zB))] false)
 (.seq (.reg [oM 7 0,
 oM 8 0,
 oL 9 5 4,
 oM 10 2,
 oC 11 76 ([8, 9, 10]),
 oC 12 174 ([7, 11, .c (iN 1)]),
 o 13 (.field 1 1 false 12),
 o 14 (.bin .neq 13 (.c zI)),
 oM 6 14] false)
 (.ret))
def K6g : IFn := ⟨3, 15, [.tmp 6], false, Q25p⟩
def Q25a : IR :=
 .seq (.reg [o 3 (.box 5 1),
 o 4 (.zero [zB, zI])] false)
 (.seq (.reg [oM 5 0,
 oL 6 5 3,
 oD 7 74 ([5, 6, sA30]) [0, 1],
 oM 8 0,
 oL 9 5 3,
 oD 10 71 ([8, 9, sA25]) (rg 0 5),
 ob 11 (.build [zB, zI] [(0, 1, 7), (1, 1, 10)]) (rg 0 6),
 ⟨none, none, .store 2 4 11, (rg 0 7)⟩] true)
 (.ret))
def K60 : IFn := ⟨2, 12, [.cell 4 2 true], false, Q25a⟩
def Q25c : IR :=
 .seq (.reg [o 4 (.box 5 1),
 o 6 (.zero zL1)] false)
 (.seq (.reg [oM 10 0,
 oL 11 5 4,
 oC 12 174 ([10, 11, .c (iN 5)]),
 oM 13 2,
 oC 14 184 ([12, 13]),
 oM 9 14,
 oX 15 9 0,
 oX 16 9 1,
 o 7 (.zero zL1),
 oS 5 7 15,
 oM 8 16] false)
 (.seq (.reg [oL 17 5 7,
 oS 5 6 17] false)
 (.ret)))
def K62 : IFn := ⟨3, 18, [.cell 6 5 true], false, Q25c⟩
def Q25o : IR :=
 .seq (.reg [o 3 (.box 5 1),
 o 4 (.zero zL13)] false)
 (.seq (.reg [oM 5 0,
 oL 6 5 3,
 oD 7 71 ([5, 6, sA27]) [0, 1],
 oM 8 0,
 oL 9 5 3,
 oD 10 71 ([8, 9, sA40]) (rg 0 5),
 oM 11 0,
 oL 12 5 3,
 oD 13 71 ([11, 12, sA60]) (rg 0 8),
 oM 14 0,
 oL 15 5 3,
 oD 16 71 ([14, 15, sA45]) (rg 0 11),
 oM 17 0,
 oL 18 5 3,
 oD 19 71 ([17, 18, sA74]) (rg 0 14),
 oM 20 0,
 oL 21 5 3,
 oD 22 71 ([20, 21, sA37]) (rg 0 17),
 oM 23 0,
 oL 24 5 3,
 oD 25 74 ([23, 24, sA5]) (rg 0 20),
 ob 26 (.build zL13 [(0, 1, 7), (1, 1, 10), (2, 1, 13), (3, 1, 16), (4, 1, 19), (5, 1, 22), (6, 1, 25)]) (rg 0 21),
 ⟨none, none, .store 7 4 26, (rg 0 22)⟩] true)
 (.ret))
def K6f : IFn := ⟨2, 27, [.cell 4 7 true], false, Q25o⟩
def Q13f : List Nat := [100015, 2, 3, 4, 12, 13, 14]
def Q1uy : IR :=
 .seq (.reg [o 15 (.bin .lss 14 13)] false)
 (.seq (.cond 15 (.skip)
 (.exit 0))
 (.seq (.block 1 (.seq (.reg [oM 16 14,
 oI 17 6 12 14,
 oL 18 6 17,
 o 6 (.zero zL0),
 oM 5 16,
 oS 6 6 18] false)
 (.seq (.reg [oM 19 5,
 ob 20 (.bin .add 19 (.c (iN 1))) [0],
 oM 21 3,
 ob 22 (.len false 21) [2],
 ob 23 (.bin .eql 20 22) [0, 1, 2, 3],
 ob 24 (.mov 23) (rg 0 5),
 ⟨(some 25), (some (24, false)), .mov 3, (rg 0 6)⟩,
 ⟨(some 26), (some (24, false)), .mov 5, (rg 0 6)⟩,
 ⟨(some 27), (some (24, false)), .bin .add 26 (.c (iN 1)), (rg 0 6 ++ [7])⟩,
 ⟨(some 28), (some (24, false)), .iaddr 6 25 27, (rg 0 9)⟩,
 ⟨(some 29), (some (24, false)), .faddr 0 28, (rg 0 10)⟩,
 ⟨(some 30), (some (24, false)), .load 1 false 29, (rg 0 11)⟩,
 ⟨(some 31), (some (24, false)), .faddr 0 6, (rg 0 6)⟩,
 ⟨(some 32), (some (24, false)), .load 1 false 31, (rg 0 6 ++ [12])⟩,
 ⟨(some 33), (some (24, false)), .bin .neq 30 32, (rg 0 14)⟩,
 ob 34 (.pick 24 (.c (.bool true)) 33) (rg 0 15)] true)
 (.cond 34 (.reg [oF 35 4 4,
 oK 36 1 35,
 oL 37 6 6,
 o 38 (.lit 6 1 zL0 [(0, 37)]),
 oJ 39 6 96 36 38,
 oF 40 4 4,
 oS 1 40 39] false)
 (.skip)))))
 (.reg [oA 41 14,
 oM 14 41] false)))
def Q24v : IR :=
 .seq (.reg [o 2 (.zero zL1)] false)
 (.seq (.reg [oM 7 0,
 oC 8 185 ([7]),
 oM 3 8] false)
 (.seq (.reg [oM 9 3,
 o 10 (.call true (.f 186) [9, .f 187])] false)
 (.seq (.reg [o 11 (.build zL1 [(0, 1, .c (iN 5))]),
 o 4 (.zero zL1),
 oS 5 4 11] false)
 (.seq (.seq (.reg [oM 12 3,
 oN 13 12,
 o 14 (.mov (.c zI))] false)
 (.block 0 (.loop Q13f Q1uy)))
 (.seq (.reg [oL 42 5 4,
 oC 43 189 ([42]),
 oS 5 2 43] false)
 (.ret))))))
def K50 : IFn := ⟨1, 44, [.cell 2 5 true], false, Q24v⟩
def Q25y : IR :=
 .seq (.reg [o 4 (.zero zL0)] false)
 (.seq (.reg [oM 5 0,
 oM 6 1,
 oC 7 109 ([6]),
 oC 8 83 ([5, 7]),
 oS 6 4 8] false)
 (.ret))
def K75 : IFn := ⟨2, 9, [.cell 4 6 true], false, Q25y⟩
def Q261 : IR :=
 .seq (.reg [o 3 (.box 5 1),
 o 4 (.zero zL0)] false)
 (.seq (.reg [oM 5 0,
 oL 6 5 3,
 o 7 (.build zL0 [(0, 1, 5), (1, 5, 6)]),
 oS 6 4 7] false)
 (.ret))
def K78 : IFn := ⟨2, 8, [.cell 4 6 true], false, Q261⟩
def Q25z : IR :=
 .seq (.reg [o 5 (.box 13 1),
 o 6 (.box 5 2),
 o 7 (.box 5 3),
 o 8 (.zero zL2)] false)
 (.seq (.reg [oL 9 13 5,
 oC 10 70 ([9]),
 oS 13 5 10] false)
 (.seq (.reg [oM 11 0,
 oF 12 0 5,
 oS 1 12 11] false)
 (.seq (.reg [oL 13 13 5,
 oL 14 5 6,
 oL 15 5 7,
 o 16 (.build zL2 [(0, 13, 13), (13, 5, 14), (18, 5, 15)]),
 oS 23 8 16] false)
 (.ret))))
def K76 : IFn := ⟨4, 17, [.cell 8 23 true], false, Q25z⟩
def Q25m : IR :=
 .seq (.reg [o 4 (.box 5 1),
 o 6 (.mov (.c (zS)))] false)
 (.seq (.reg [oM 7 0,
 oM 8 0,
 oL 9 5 4,
 oM 10 2,
 oC 11 76 ([8, 9, 10]),
 oC 12 174 ([7, 11, .c (iN 3)]),
 o 13 (.field 2 1 false 12),
 oM 6 13] false)
 (.ret))
def K6d : IFn := ⟨3, 14, [.tmp 6], false, Q25m⟩
def Q225 : IR :=
 .seq (.reg [o 2 (.box 5 0),
 o 3 (.box 5 1),
 o 4 (.mov (.c zB))] false)
 (.seq (.reg [oL 5 5 2,
 oL 6 5 3,
 oC 7 194 ([5, 6]),
 o 8 (.bin .eql 7 (.c zI)),
 oM 4 8] false)
 (.ret))
def K1n : IFn := ⟨2, 9, [.tmp 4], false, Q225⟩
def Q22z : IR :=
 .seq (.reg [o 1 (.box 35 0),
 o 2 (.zero zL1)] false)
 (.seq (.reg [oF 3 13 1,
 oE 4 1 3 [0],
 oD 5 164 ([4]) [0, 1],
 ob 6 (.build zL0 [(0, 1, sA40), (1, 5, 5)]) [0, 1, 2],
 oF 7 14 1,
 oE 8 1 7 [4],
 oD 9 164 ([8]) [0, 1, 2, 4, 5],
 ob 10 (.build zL0 [(0, 1, sA18), (1, 5, 9)]) [0, 1, 2, 4, 5, 6],
 oF 11 15 1,
 oE 12 1 11 [8],
 oD 13 164 ([12]) [0, 1, 2, 4, 5, 6, 8, 9],
 ob 14 (.build zL0 [(0, 1, sA44), (1, 5, 13)]) [0, 1, 2, 4, 5, 6, 8, 9, 10],
 oF 15 16 1,
 oE 16 1 15 [12],
 oD 17 165 ([16]) [0, 1, 2, 4, 5, 6, 8, 9, 10, 12, 13],
 ob 18 (.build zL0 [(0, 1, sA47), (1, 5, 17)]) [0, 1, 2, 4, 5, 6, 8, 9, 10, 12, 13, 14],
 oF 19 17 1,
 ob 20 (.load 11 true 19) [16],
 oD 21 166 ([20]) [0, 1, 2, 4, 5, 6, 8, 9, 10, 12, 13, 14, 16, 17],
 ob 22 (.build zL0 [(0, 1, sA54), (1, 5, 21)]) [0, 1, 2, 4, 5, 6, 8, 9, 10, 12, 13, 14, 16, 17, 18],
 ob 23 (.lit 6 5 zL0 [(0, 6), (1, 10), (2, 14), (3, 18), (4, 22)]) (rg 0 20),
 oD 24 163 ([23]) (rg 0 21),
 ⟨none, none, .store 5 2 24, (rg 0 22)⟩] true)
 (.ret))
def K2q : IFn := ⟨1, 25, [.cell 2 5 true], false, Q22z⟩
def Q262 : IR :=
 .seq (.reg [o 3 (.box 35 1),
 o 4 (.zero zL4),
 o 5 (.mov (.c zI))] false)
 (.seq (.seq (.reg [oM 7 0,
 o 8 (.nilck 7),
 oF 9 0 8,
 oK 10 1 9,
 o 11 (.bin .gtr 10 (.c zI))] false)
 (.cond 11 (.seq (.reg [o 6 (.zero zL4)] false)
 (.seq (.reg [oL 12 35 6,
 oS 35 4 12,
 o 5 (.mov (.c (iN 6)))] false)
 (.ret)))
 (.skip)))
 (.seq (.reg [oL 13 35 3,
 oS 35 4 13,
 o 5 (.mov (.c zI))] false)
 (.ret)))
def K7a : IFn := ⟨2, 14, [.cell 4 35 true, .tmp 5], false, Q262⟩
def Q25d : IR :=
 .seq (.reg [o 3 (.box 1 0),
 o 4 (.box 5 1),
 o 6 (.mov (.c (.ns 1)))] false)
 (.seq (.reg [oK 7 1 3,
 oL 8 5 4,
 oM 9 2,
 o 10 (.mkfn 198 [] [3]),
 oC 11 197 ([7, 8, 9, 10]),
 oM 6 11] false)
 (.ret))
def K63 : IFn := ⟨3, 12, [.tmp 6], false, Q25d⟩
def Q24u : IR :=
 .seq (.reg [o 2 (.zero zL1)] false)
 (.seq (.reg [oM 3 0,
 o 4 (.build zL1 [(0, 1, .c (iN 2)), (1, 1, 3)]),
 oS 5 2 4] false)
 (.ret))
def K4y : IFn := ⟨1, 5, [.cell 2 5 true], false, Q24u⟩
def Q22f : IR :=
 .seq (.reg [o 1 (.box 13 0),
 o 2 (.mov (.c (zS)))] false)
 (.seq (.reg [oF 3 0 1,
 oK 4 1 3,
 oF 5 1 1,
 oK 6 1 5,
 oF 7 2 1,
 oK 8 1 7,
 oC 9 199 ([4, 6, 8]),
 oM 2 9] false)
 (.ret))
def K1x : IFn := ⟨1, 10, [.tmp 2], false, Q22f⟩
def Qkf : List Nat := [100026, 0, 1, 5]
def Q1ms : IR :=
 .seq (.seq (.reg [oM 11 5,
 oM 12 0,
 oN 13 12,
 o 14 (.bin .lss 11 13)] false)
 (.cond 14 (.skip)
 (.exit 0)))
 (.seq (.block 1 (.seq (.reg [oM 17 0,
 oM 18 5,
 ob 19 (.iaddr 1 17 18) [0, 1],
 oE 20 1 19 [0, 1, 2],
 oM 21 1,
 oM 22 5,
 ob 23 (.iaddr 1 21 22) [4, 5],
 oE 24 1 23 [4, 5, 6],
 ob 25 (.bin .neq 20 24) (rg 0 8)] true)
 (.cond 25 (.seq (.reg [o 4 (.mov (.c zB))] false)
 (.ret))
 (.skip))))
 (.reg [oM 15 5,
 oA 16 15,
 oM 5 16] false))
def Q22h : IR :=
 .seq (.reg [o 4 (.mov (.c zB))] false)
 (.seq (.seq (.reg [oM 6 0,
 oN 7 6,
 oM 8 1,
 oN 9 8,
 o 10 (.bin .neq 7 9)] false)
 (.cond 10 (.seq (.reg [o 4 (.mov (.c zB))] false)
 (.ret))
 (.skip)))
 (.seq (.seq (.reg [o 5 (.mov (.c zI))] false)
 (.block 0 (.loop Qkf Q1ms)))
 (.seq (.reg [o 4 (.mov (.c (.bool true)))] false)
 (.ret))))
def K1z : IFn := ⟨2, 26, [.tmp 4], false, Q22h⟩
def Q249 : IR :=
 .seq (.reg [o 2 (.box 23 0),
 o 4 (.mov (.c (.np))),
 o 5 (.mov (.c (.np)))] false)
 (.seq (.reg [oF 8 13 2,
 ob 9 (.load 5 true 8) [0],
 oD 10 141 ([9]) [0, 1],
 oF 11 18 2,
 ob 12 (.load 5 true 11) [3],
 oD 13 141 ([12]) (rg 0 5),
 ob 6 (.mov 10) (rg 0 6),
 ob 7 (.mov 13) (rg 0 7)] true)
 (.seq (.reg [oM 14 6,
 oF 15 0 2,
 oF 16 0 15,
 oK 17 1 16,
 oM 18 1,
 o 19 (.bin .eql 17 18),
 oC 20 143 ([14, 19])] false)
 (.seq (.reg [oM 21 6,
 oM 22 7,
 oM 4 21,
 oM 5 22] false)
 (.ret))))
def K4a : IFn := ⟨2, 23, [.tmp 4, .tmp 5], false, Q249⟩
def Q24g : IR :=
 .seq (.reg [o 4 (.mov (.c zI))] false)
 (.seq (.reg [oM 8 0,
 o 9 (.nilck 8),
 oF 10 0 9,
 oL 11 5 10,
 oM 12 1,
 oC 13 200 ([11, 12]),
 oM 7 13,
 oX 14 7 0,
 oX 15 7 1,
 oM 5 14,
 oM 6 15] false)
 (.seq (.reg [oM 16 0,
 oM 17 6,
 oC 18 143 ([16, 17])] false)
 (.seq (.reg [oM 19 5,
 oM 4 19] false)
 (.ret))))
def K4j : IFn := ⟨2, 20, [.tmp 4], false, Q24g⟩
def Q24j : IR :=
 .seq (.reg [o 2 (.mov (.c (.ns 3)))] false)
 (.seq (.reg [oM 6 0,
 o 7 (.nilck 6),
 oF 8 0 7,
 oL 9 5 8,
 oC 10 201 ([9, sA47]),
 oM 5 10,
 oX 11 5 0,
 oX 12 5 1,
 oM 3 11,
 oM 4 12] false)
 (.seq (.reg [oM 13 0,
 oM 14 4,
 oC 15 143 ([13, 14])] false)
 (.seq (.reg [oM 16 3,
 oM 2 16] false)
 (.ret))))
def K4m : IFn := ⟨1, 17, [.tmp 2], false, Q24j⟩
def Q24m : IR :=
 .seq (.reg [o 2 (.zero [.ns 2, zS, zI, zI, zI, .ns 11, .ns 3, .ns 3, .ns 5, .ns 4, .ns 5])] false)
 (.seq (.reg [oM 6 0,
 o 7 (.nilck 6),
 oF 8 0 7,
 oL 9 5 8,
 oC 10 203 ([9, sA54]),
 oC 11 202 ([10]),
 oM 5 11,
 oX 12 5 0,
 oX 13 5 1,
 o 3 (.zero [.ns 2, zS, zI, zI, zI, .ns 11, .ns 3, .ns 3, .ns 5, .ns 4, .ns 5]),
 oS 11 3 12,
 oM 4 13] false)
 (.seq (.reg [oM 14 0,
 oM 15 4,
 o 16 (.bin .eql 15 (.c zI)),
 oC 17 143 ([14, 16])] false)
 (.seq (.reg [oL 18 11 3,
 oS 11 2 18] false)
 (.ret))))
def K4p : IFn := ⟨1, 19, [.cell 2 11 true], false, Q24m⟩
def Q24n : IR :=
 .seq (.reg [o 2 (.zero zL13)] false)
 (.seq (.reg [oM 3 0,
 oC 4 122 ([3, sA27]),
 oM 5 0,
 oC 6 122 ([5, sA40]),
 oM 7 0,
 oC 8 122 ([7, sA60]),
 oM 9 0,
 oC 10 122 ([9, sA45]),
 oM 11 0,
 oC 12 122 ([11, sA74]),
 oM 13 0,
 oC 14 122 ([13, sA37]),
 oM 15 0,
 oC 16 128 ([15, sA5]),
 o 17 (.build zL13 [(0, 1, 4), (1, 1, 6), (2, 1, 8), (3, 1, 10), (4, 1, 12), (5, 1, 14), (6, 1, 16)]),
 oS 7 2 17] false)
 (.ret))
def K4q : IFn := ⟨1, 18, [.cell 2 7 true], false, Q24n⟩
def Q247 : IR :=
 .seq (.reg [o 4 (.mov (.c zB))] false)
 (.seq (.reg [oM 5 0,
 o 6 (.nilck 5),
 oF 7 5 6,
 oK 8 1 7,
 oM 9 8,
 gF 10 9 (.mov 1),
 gF 11 9 (.nilck 10),
 gF 12 9 (.faddr 5 11),
 gF 13 9 (.load 1 false 12),
 oQ 14 9 13,
 oM 4 14] false)
 (.ret))
def K48 : IFn := ⟨2, 15, [.tmp 4], false, Q247⟩
def Q263 : IR :=
 .seq (.reg [o 3 (.box 36 1),
 o 4 (.zero zL3),
 o 5 (.mov (.c zI))] false)
 (.seq (.seq (.reg [oM 7 0,
 o 8 (.nilck 7),
 oF 9 0 8,
 oK 10 1 9,
 o 11 (.bin .gtr 10 (.c zI))] false)
 (.cond 11 (.seq (.reg [o 6 (.zero zL3)] false)
 (.seq (.reg [oL 12 36 6,
 oS 36 4 12,
 o 5 (.mov (.c (iN 6)))] false)
 (.ret)))
 (.skip)))
 (.seq (.reg [oL 13 36 3,
 oS 36 4 13,
 o 5 (.mov (.c zI))] false)
 (.ret)))
def K7d : IFn := ⟨2, 14, [.cell 4 36 true, .tmp 5], false, Q263⟩
def Q24d : IR :=
 .seq (.reg [o 4 (.mov (.c zB))] false)
 (.seq (.reg [oM 8 0,
 o 9 (.nilck 8),
 oF 10 0 9,
 oL 11 5 10,
 oM 12 1,
 oC 13 204 ([11, 12]),
 oM 7 13,
 oX 14 7 0,
 oX 15 7 1,
 oM 5 14,
 oM 6 15] false)
 (.seq (.reg [oM 16 0,
 oM 17 6,
 oC 18 143 ([16, 17])] false)
 (.seq (.reg [oM 19 5,
 oM 4 19] false)
 (.ret))))
def K4f : IFn := ⟨2, 20, [.tmp 4], false, Q24d⟩
def Q264 : IR :=
 .seq (.reg [o 3 (.box 35 1),
 o 4 (.zero zL5),
 o 5 (.mov (.c zI))] false)
 (.seq (.seq (.reg [oM 7 0,
 o 8 (.nilck 7),
 oF 9 0 8,
 oK 10 1 9,
 o 11 (.bin .gtr 10 (.c zI))] false)
 (.cond 11 (.seq (.reg [o 6 (.zero zL5)] false)
 (.seq (.reg [oL 12 35 6,
 oS 35 4 12,
 o 5 (.mov (.c (iN 6)))] false)
 (.ret)))
 (.skip)))
 (.seq (.reg [oL 13 35 3,
 oS 35 4 13,
 o 5 (.mov (.c zI))] false)
 (.ret)))
def K7e : IFn := ⟨2, 14, [.cell 4 35 true, .tmp 5], false, Q264⟩
def Q24b : IR :=
 .seq (.reg [o 4 (.zero [zB, zI])] false)
 (.seq (.reg [oM 6 1,
 oC 7 128 ([6, sA30]),
 oM 8 1,
 oC 9 122 ([8, sA25]),
 o 10 (.build [zB, zI] [(0, 1, 7), (1, 1, 9)]),
 o 5 (.zero [zB, zI]),
 oS 2 5 10] false)
 (.seq (.reg [oM 11 0,
 oM 12 1,
 o 13 (.nilck 12),
 oF 14 5 13,
 oK 15 1 14,
 oU 16 15,
 oC 17 143 ([11, 16])] false)
 (.seq (.reg [oL 18 2 5,
 oS 2 4 18] false)
 (.ret))))
def K4c : IFn := ⟨2, 19, [.cell 4 2 true], false, Q24b⟩
def Q24l : IR :=
 .seq (.reg [o 4 (.mov (.c (.np)))] false)
 (.seq (.reg [oM 5 0,
 o 6 (.nilck 5),
 oF 7 0 6,
 oL 8 5 7,
 oM 9 1,
 oC 10 203 ([8, 9]),
 oC 11 141 ([10]),
 oM 4 11] false)
 (.ret))
def K4o : IFn := ⟨2, 12, [.tmp 4], false, Q24l⟩
def Q234 : IR :=
 .seq (.reg [o 1 (.box 36 0),
 o 2 (.zero zL1)] false)
 (.seq (.reg [oF 3 13 1,
 oE 4 1 3 [0],
 oD 5 164 ([4]) [0, 1],
 ob 6 (.build zL0 [(0, 1, sA40), (1, 5, 5)]) [0, 1, 2],
 oF 7 14 1,
 oE 8 1 7 [4],
 oD 9 164 ([8]) [0, 1, 2, 4, 5],
 ob 10 (.build zL0 [(0, 1, sA38), (1, 5, 9)]) [0, 1, 2, 4, 5, 6],
 oF 11 15 1,
 oE 12 1 11 [8],
 oD 13 164 ([12]) [0, 1, 2, 4, 5, 6, 8, 9],
 ob 14 (.build zL0 [(0, 1, sA18), (1, 5, 13)]) [0, 1, 2, 4, 5, 6, 8, 9, 10],
 oF 15 16 1,
 oE 16 1 15 [12],
 oD 17 167 ([16]) [0, 1, 2, 4, 5, 6, 8, 9, 10, 12, 13],
 ob 18 (.build zL0 [(0, 1, sA39), (1, 5, 17)]) [0, 1, 2, 4, 5, 6, 8, 9, 10, 12, 13, 14],
 oF 19 17 1,
 oE 20 1 19 [16],
 oD 21 165 ([20]) [0, 1, 2, 4, 5, 6, 8, 9, 10, 12, 13, 14, 16, 17],
 ob 22 (.build zL0 [(0, 1, sA47), (1, 5, 21)]) [0, 1, 2, 4, 5, 6, 8, 9, 10, 12, 13, 14, 16, 17, 18],
 oF 23 18 1,
 ob 24 (.load 11 true 23) [20],
 oD 25 166 ([24]) [0, 1, 2, 4, 5, 6, 8, 9, 10, 12, 13, 14, 16, 17, 18, 20, 21],
 ob 26 (.build zL0 [(0, 1, sA54), (1, 5, 25)]) [0, 1, 2, 4, 5, 6, 8, 9, 10, 12, 13, 14, 16, 17, 18, 20, 21, 22],
 ob 27 (.lit 6 6 zL0 [(0, 6), (1, 10), (2, 14), (3, 18), (4, 22), (5, 26)]) (rg 0 24),
 oD 28 163 ([27]) (rg 0 25),
 ⟨none, none, .store 5 2 28, (rg 0 26)⟩] true)
 (.ret))
def K2v : IFn := ⟨1, 29, [.cell 2 5 true], false, Q234⟩
def Q22l : IR :=
 .seq (.reg [o 1 (.box 35 0),
 o 2 (.zero zL1)] false)
 (.seq (.reg [oF 3 13 1,
 oE 4 1 3 [0],
 oD 5 164 ([4]) [0, 1],
 ob 6 (.build zL0 [(0, 1, sA18), (1, 5, 5)]) [0, 1, 2],
 oF 7 14 1,
 ob 8 (.load 2 true 7) [4],
 oD 9 168 ([8]) [0, 1, 2, 4, 5],
 ob 10 (.build zL0 [(0, 1, sA59), (1, 5, 9)]) [0, 1, 2, 4, 5, 6],
 oF 11 16 1,
 oE 12 1 11 [8],
 oD 13 165 ([12]) [0, 1, 2, 4, 5, 6, 8, 9],
 ob 14 (.build zL0 [(0, 1, sA47), (1, 5, 13)]) [0, 1, 2, 4, 5, 6, 8, 9, 10],
 oF 15 17 1,
 ob 16 (.load 11 true 15) [12],
 oD 17 166 ([16]) [0, 1, 2, 4, 5, 6, 8, 9, 10, 12, 13],
 ob 18 (.build zL0 [(0, 1, sA54), (1, 5, 17)]) [0, 1, 2, 4, 5, 6, 8, 9, 10, 12, 13, 14],
 ob 19 (.lit 6 4 zL0 [(0, 6), (1, 10), (2, 14), (3, 18)]) (rg 0 16),
 oD 20 163 ([19]) (rg 0 17),
 ⟨none, none, .store 5 2 20, (rg 0 18)⟩] true)
 (.ret))
def K29 : IFn := ⟨1, 21, [.cell 2 5 true], false, Q22l⟩
def Q265 : IR :=
 .seq (.reg [o 3 (.box 17 1),
 o 4 (.zero zL7),
 o 5 (.mov (.c zI))] false)
 (.seq (.seq (.reg [oM 7 0,
 o 8 (.nilck 7),
 oF 9 0 8,
 oK 10 1 9,
 o 11 (.bin .gtr 10 (.c zI))] false)
 (.cond 11 (.seq (.reg [o 6 (.zero zL7)] false)
 (.seq (.reg [oL 12 17 6,
 oS 17 4 12,
 o 5 (.mov (.c (iN 6)))] false)
 (.ret)))
 (.skip)))
 (.seq (.reg [oL 13 17 3,
 oS 17 4 13,
 o 5 (.mov (.c zI))] false)
 (.ret)))
def K7f : IFn := ⟨2, 14, [.cell 4 17 true, .tmp 5], false, Q265⟩
def Q25g : IR :=
 .seq (.reg [o 2 (.box 1 0),
 o 3 (.box 5 1),
 o 4 (.mov (.c (.ns 3)))] false)
 (.seq (.reg [oK 5 1 2,
 oL 6 5 3,
 o 7 (.mkfn 206 [] [2]),
 oC 8 205 ([5, 6, sA34, 7]),
 oM 4 8] false)
 (.ret))
def K67 : IFn := ⟨2, 9, [.tmp 4], false, Q25g⟩
def Qla : List Nat := [100027, 0, 3, 4, 5]
def Q1nn : IR :=
 .seq (.seq (.reg [oM 9 5,
 oM 10 4,
 oN 11 10,
 o 12 (.bin .lss 9 11)] false)
 (.cond 12 (.skip)
 (.exit 0)))
 (.seq (.block 1 (.seq (.reg [oM 15 4,
 oM 16 5,
 oI 17 5 15 16,
 oL 18 5 17,
 oC 19 141 ([18]),
 oM 6 19] false)
 (.seq (.reg [oM 20 3,
 oM 21 6,
 oC 22 142 ([21, sA24]),
 oM 23 6,
 oC 24 122 ([23, sA35]),
 oM 25 6,
 oC 26 122 ([25, sA58]),
 o 27 (.build [zS, zI, zI] [(0, 1, 22), (1, 1, 24), (2, 1, 26)]),
 o 28 (.lit 3 1 [zS, zI, zI] [(0, 27)]),
 oJ 29 3 32 20 28,
 oM 3 29] false)
 (.reg [oM 30 0,
 oM 31 6,
 o 32 (.nilck 31),
 oF 33 5 32,
 oK 34 1 33,
 oU 35 34,
 oC 36 143 ([30, 35])] false))))
 (.reg [oM 13 5,
 oA 14 13,
 oM 5 14] false))
def Q24h : IR :=
 .seq (.reg [o 2 (.mov (.c (.ns 3)))] false)
 (.seq (.reg [o 3 (.mov (.c (.ns 3)))] false)
 (.seq (.reg [oM 7 0,
 oC 8 140 ([7, sA34]),
 oM 4 8] false)
 (.seq (.seq (.reg [o 5 (.mov (.c zI))] false)
 (.block 0 (.loop Qla Q1nn)))
 (.seq (.reg [oM 37 3,
 oM 2 37] false)
 (.ret)))))
def K4k : IFn := ⟨1, 38, [.tmp 2], false, Q24h⟩
def Qlg : List Nat := [100028, 3, 9, 18, 19, 20]
def Q1nt : IR :=
 .seq (.reg [o 21 (.bin .lss 20 19)] false)
 (.seq (.cond 21 (.skip)
 (.exit 0))
 (.seq (.block 1 (.seq (.reg [oI 22 5 18 20,
 oL 23 5 22,
 o 11 (.zero zL1),
 oS 5 11 23] false)
 (.reg [oM 24 9,
 oM 25 3,
 oL 26 5 11,
 o 27 (.call false 25 [26]),
 o 28 (.lit 5 1 [zS, zS, zI, zB, zB] [(0, 27)]),
 oJ 29 5 48 24 28,
 oM 9 29] false)))
 (.reg [oA 30 20,
 oM 20 30] false)))
def Q25q : IR :=
 .seq (.reg [o 5 (.box 5 1),
 o 8 (.mov (.c (.ns 5)))] false)
 (.seq (.reg [o 9 (.mov (.c (.ns 5)))] false)
 (.seq (.seq (.reg [oM 12 0,
 oM 13 0,
 oL 14 5 5,
 oM 15 2,
 oC 16 76 ([13, 14, 15]),
 oC 17 174 ([12, 16, .c (iN 4)]),
 o 18 (.field 3 1 false 17),
 oN 19 18,
 o 20 (.mov (.c zI))] false)
 (.block 0 (.loop Qlg Q1nt)))
 (.seq (.reg [oM 31 9,
 oM 8 31] false)
 (.ret))))
def K6k : IFn := ⟨4, 32, [.tmp 8], false, Q25q⟩
def Q251 : IR :=
 .seq (.reg [o 2 (.box 5 0),
 o 3 (.zero [zS, zS, zI, zB, zB])] false)
 (.seq (.reg [oK 4 1 1,
 oL 5 5 2,
 oD 6 89 ([4, 5, sA33]) [0, 1],
 oK 7 1 1,
 oL 8 5 2,
 oD 9 89 ([7, 8, sA22]) (rg 0 5),
 oK 10 1 1,
 oL 11 5 2,
 oD 12 71 ([10, 11, sA72]) (rg 0 8),
 oK 13 1 1,
 oL 14 5 2,
 oD 15 74 ([13, 14, sA45]) (rg 0 11),
 oK 16 1 1,
 oL 17 5 2,
 oD 18 74 ([16, 17, sA55]) (rg 0 14),
 ob 19 (.build [zS, zS, zI, zB, zB] [(0, 1, 6), (1, 1, 9), (2, 1, 12), (3, 1, 15), (4, 1, 18)]) (rg 0 15),
 ⟨none, none, .store 5 3 19, (rg 0 16)⟩] true)
 (.ret))
def K5q : IFn := ⟨2, 20, [.cell 3 5 true], false, Q251⟩
def Q266 : IR :=
 .seq (.reg [o 3 (.box 15 1),
 o 4 (.zero zL9),
 o 5 (.mov (.c zI))] false)
 (.seq (.seq (.reg [oM 7 0,
 o 8 (.nilck 7),
 oF 9 0 8,
 oK 10 1 9,
 o 11 (.bin .gtr 10 (.c zI))] false)
 (.cond 11 (.seq (.reg [o 6 (.zero zL9)] false)
 (.seq (.reg [oL 12 15 6,
 oS 15 4 12,
 o 5 (.mov (.c (iN 6)))] false)
 (.ret)))
 (.skip)))
 (.seq (.reg [oL 13 15 3,
 oS 15 4 13,
 o 5 (.mov (.c zI))] false)
 (.ret)))
def K7g : IFn := ⟨2, 14, [.cell 4 15 true, .tmp 5], false, Q266⟩
def Q24f : IR :=
 .seq (.reg [o 4 (.mov (.c (.ns 5)))] false)
 (.seq (.reg [oM 8 0,
 o 9 (.nilck 8),
 oF 10 0 9,
 oL 11 5 10,
 oM 12 1,
 oC 13 207 ([11, 12]),
 oM 7 13,
 oX 14 7 0,
 oX 15 7 1,
 oM 5 14,
 oM 6 15] false)
 (.seq (.reg [oM 16 0,
 oM 17 6,
 oC 18 143 ([16, 17])] false)
 (.seq (.reg [oM 19 5,
 oM 4 19] false)
 (.ret))))
def K4i : IFn := ⟨2, 20, [.tmp 4], false, Q24f⟩
def Q24a : IR :=
 .seq (.reg [o 1 (.box 5 0),
 o 2 (.mov (.c (.np)))] false)
 (.seq (.reg [oL 3 5 1,
 oL 4 5 1,
 oD 5 208 ([4]) [1],
 ob 6 (.un .not 5) [1, 2],
 ob 7 (.build [zI, zI, zS, .ns 5, .ns 6, zB] [(0, 5, 3), (5, 1, 6)]) [0, 1, 2, 3],
 ob 8 (.box 6 7) (rg 0 5),
 ob 2 (.mov 8) (rg 0 6)] true)
 (.ret))
def K4b : IFn := ⟨1, 9, [.tmp 2], false, Q24a⟩
def Q24k : IR :=
 .seq (.reg [o 4 (.mov (.c (zS)))] false)
 (.seq (.reg [oM 8 0,
 o 9 (.nilck 8),
 oF 10 0 9,
 oL 11 5 10,
 oM 12 1,
 oC 13 209 ([11, 12]),
 oM 7 13,
 oX 14 7 0,
 oX 15 7 1,
 oM 5 14,
 oM 6 15] false)
 (.seq (.reg [oM 16 0,
 oM 17 6,
 oC 18 143 ([16, 17])] false)
 (.seq (.reg [oM 19 5,
 oM 4 19] false)
 (.ret))))
def K4n : IFn := ⟨2, 20, [.tmp 4], false, Q24k⟩
def Q24c : IR :=
 .seq (.reg [oM 4 1,
 oU 5 4] false)
 (.cond 5 (.reg [oM 6 0,
 o 7 (.nilck 6),
 oF 8 5 7,
 ⟨none, none, .store 1 8 (.c (.bool true)), []⟩] false)
 (.skip))
def K4e : IFn := ⟨2, 9, [], false, Q24c⟩
def Q232 : IR :=
 .seq (.reg [o 1 (.box 17 0),
 o 2 (.zero zL1)] false)
 (.seq (.reg [oF 3 13 1,
 oE 4 1 3 [0],
 oD 5 165 ([4]) [0, 1],
 ob 6 (.build zL0 [(0, 1, sA47), (1, 5, 5)]) [0, 1, 2],
 oF 7 14 1,
 oE 8 1 7 [4],
 oD 9 210 ([8]) [0, 1, 2, 4, 5],
 ob 10 (.build zL0 [(0, 1, sA34), (1, 5, 9)]) [0, 1, 2, 4, 5, 6],
 oF 11 15 1,
 oE 12 1 11 [8],
 oD 13 167 ([12]) [0, 1, 2, 4, 5, 6, 8, 9],
 ob 14 (.build zL0 [(0, 1, sA51), (1, 5, 13)]) [0, 1, 2, 4, 5, 6, 8, 9, 10],
 ob 15 (.lit 6 3 zL0 [(0, 6), (1, 10), (2, 14)]) (rg 0 12),
 oD 16 163 ([15]) (rg 0 13),
 ⟨none, none, .store 5 2 16, (rg 0 14)⟩] true)
 (.ret))
def K2t : IFn := ⟨1, 17, [.cell 2 5 true], false, Q232⟩
def Qkh : List Nat := [100029, 1, 2, 3, 4]
def Q1mu : IR :=
 .seq (.seq (.reg [oM 6 4,
 oF 7 14 1,
 oK 8 1 7,
 oN 9 8,
 o 10 (.bin .lss 6 9)] false)
 (.cond 10 (.skip)
 (.exit 0)))
 (.seq (.block 1 (.seq (.reg [oF 13 14 1,
 oK 14 1 13,
 oM 15 4,
 oI 16 5 14 15,
 oL 17 5 16,
 o 5 (.zero [zS, zS, zI, zB, zB]),
 oS 5 5 17] false)
 (.reg [oM 18 3,
 oF 19 0 5,
 oE 20 1 19 [1],
 oD 21 169 ([20]) [1, 2],
 ob 22 (.build zL0 [(0, 1, sA33), (1, 5, 21)]) [1, 2, 3],
 oF 23 1 5,
 oE 24 1 23 [5],
 oD 25 169 ([24]) [1, 2, 3, 5, 6],
 ob 26 (.build zL0 [(0, 1, sA22), (1, 5, 25)]) [1, 2, 3, 5, 6, 7],
 oF 27 2 5,
 oE 28 1 27 [9],
 oD 29 164 ([28]) [1, 2, 3, 5, 6, 7, 9, 10],
 ob 30 (.build zL0 [(0, 1, sA72), (1, 5, 29)]) [1, 2, 3, 5, 6, 7, 9, 10, 11],
 oF 31 3 5,
 oE 32 1 31 [13],
 oD 33 167 ([32]) [1, 2, 3, 5, 6, 7, 9, 10, 11, 13, 14],
 ob 34 (.build zL0 [(0, 1, sA45), (1, 5, 33)]) [1, 2, 3, 5, 6, 7, 9, 10, 11, 13, 14, 15],
 oF 35 4 5,
 oE 36 1 35 [17],
 oD 37 167 ([36]) [1, 2, 3, 5, 6, 7, 9, 10, 11, 13, 14, 15, 17, 18],
 ob 38 (.build zL0 [(0, 1, sA55), (1, 5, 37)]) [1, 2, 3, 5, 6, 7, 9, 10, 11, 13, 14, 15, 17, 18, 19],
 ob 39 (.lit 6 5 zL0 [(0, 22), (1, 26), (2, 30), (3, 34), (4, 38)]) (rg 1 21),
 oD 40 163 ([39]) (rg 1 22),
 ob 41 (.lit 5 1 zL1 [(0, 40)]) (rg 1 23),
 ob 42 (.append 5 80 18 41) (rg 0 24),
 ob 3 (.mov 42) (rg 0 25)] true)))
 (.reg [oM 11 4,
 oA 12 11,
 oM 4 12] false))
def Q22m : IR :=
 .seq (.reg [o 1 (.box 15 0),
 o 2 (.zero zL1)] false)
 (.seq (.reg [o 3 (.mov (.c (.ns 5)))] false)
 (.seq (.seq (.reg [o 4 (.mov (.c zI))] false)
 (.block 0 (.loop Qkh Q1mu)))
 (.seq (.reg [oF 43 13 1,
 oK 44 1 43,
 oC 45 210 ([44]),
 o 46 (.build zL0 [(0, 1, sA34), (1, 5, 45)]),
 oM 47 3,
 o 48 (.build zL1 [(0, 1, .c (iN 4)), (3, 1, 47)]),
 o 49 (.build zL0 [(0, 1, sA12), (1, 5, 48)]),
 o 50 (.lit 6 2 zL0 [(0, 46), (1, 49)]),
 oC 51 163 ([50]),
 oS 5 2 51] false)
 (.ret))))
def K2b : IFn := ⟨1, 52, [.cell 2 5 true], false, Q22m⟩
def Qlh : List Nat := [100030, 3, 9, 18, 19, 20]
def Q1nu : IR :=
 .seq (.reg [o 21 (.bin .lss 20 19)] false)
 (.seq (.cond 21 (.skip)
 (.exit 0))
 (.seq (.block 1 (.seq (.reg [oI 22 5 18 20,
 oL 23 5 22,
 o 11 (.zero zL1),
 oS 5 11 23] false)
 (.reg [oM 24 9,
 oM 25 3,
 oL 26 5 11,
 o 27 (.call false 25 [26]),
 o 28 (.lit 3 1 [zB, .ns 2, .ns 1] [(0, 27)]),
 oJ 29 3 56 24 28,
 oM 9 29] false)))
 (.reg [oA 30 20,
 oM 20 30] false)))
def Q25r : IR :=
 .seq (.reg [o 5 (.box 5 1),
 o 8 (.mov (.c (.ns 3)))] false)
 (.seq (.reg [o 9 (.mov (.c (.ns 3)))] false)
 (.seq (.seq (.reg [oM 12 0,
 oM 13 0,
 oL 14 5 5,
 oM 15 2,
 oC 16 76 ([13, 14, 15]),
 oC 17 174 ([12, 16, .c (iN 4)]),
 o 18 (.field 3 1 false 17),
 oN 19 18,
 o 20 (.mov (.c zI))] false)
 (.block 0 (.loop Qlh Q1nu)))
 (.seq (.reg [oM 31 9,
 oM 8 31] false)
 (.ret))))
def K6l : IFn := ⟨4, 32, [.tmp 8], false, Q25r⟩
def Q253 : IR :=
 .seq (.reg [o 2 (.box 5 0),
 o 3 (.zero [zB, .ns 2, .ns 1])] false)
 (.seq (.reg [oK 5 1 1,
 oL 6 5 2,
 o 7 (.mkfn 149 [] [1]),
 oC 8 148 ([5, 6, sA28, 7]),
 oM 4 8] false)
 (.seq (.reg [oK 9 1 1,
 oL 10 5 2,
 oD 11 74 ([9, 10, sA3]) [0, 1],
 oM 12 4,
 oK 13 1 1,
 oL 14 5 2,
 oD 15 106 ([13, 14, sA34]) [0, 1, 2, 4, 5],
 ob 16 (.build [zB, .ns 2, .ns 1] [(0, 1, 11), (1, 1, 12), (2, 1, 15)]) (rg 0 7),
 ⟨none, none, .store 3 3 16, (rg 0 8)⟩] true)
 (.ret)))
def K5t : IFn := ⟨2, 17, [.cell 3 3 true], false, Q253⟩
def Qli : List Nat := [100031, 3, 9, 18, 19, 20]
def Q1nv : IR :=
 .seq (.reg [o 21 (.bin .lss 20 19)] false)
 (.seq (.cond 21 (.skip)
 (.exit 0))
 (.seq (.block 1 (.seq (.reg [oI 22 5 18 20,
 oL 23 5 22,
 o 11 (.zero zL1),
 oS 5 11 23] false)
 (.reg [oM 24 9,
 oM 25 3,
 oL 26 5 11,
 o 27 (.call false 25 [26]),
 o 28 (.lit 2 1 [zS, .ns 3] [(0, 27)]),
 oJ 29 2 40 24 28,
 oM 9 29] false)))
 (.reg [oA 30 20,
 oM 20 30] false)))
def Q25s : IR :=
 .seq (.reg [o 5 (.box 5 1),
 o 8 (.mov (.c (.ns 2)))] false)
 (.seq (.reg [o 9 (.mov (.c (.ns 2)))] false)
 (.seq (.seq (.reg [oM 12 0,
 oM 13 0,
 oL 14 5 5,
 oM 15 2,
 oC 16 76 ([13, 14, 15]),
 oC 17 174 ([12, 16, .c (iN 4)]),
 o 18 (.field 3 1 false 17),
 oN 19 18,
 o 20 (.mov (.c zI))] false)
 (.block 0 (.loop Qli Q1nv)))
 (.seq (.reg [oM 31 9,
 oM 8 31] false)
 (.ret))))
def K6m : IFn := ⟨4, 32, [.tmp 8], false, Q25s⟩
def Q254 : IR :=
 .seq (.reg [o 2 (.box 5 0),
 o 3 (.zero [zS, .ns 3])] false)
 (.seq (.reg [oK 4 1 1,
 oL 5 5 2,
 oD 6 89 ([4, 5, sA23]) [0, 1],
 oK 7 1 1,
 oL 8 5 2,
 oD 9 72 ([7, 8]) (rg 0 5),
 ob 10 (.build [zS, .ns 3] [(0, 1, 6), (1, 1, 9)]) (rg 0 6),
 ⟨none, none, .store 2 3 10, (rg 0 7)⟩] true)
 (.ret))
def K5u : IFn := ⟨2, 11, [.cell 3 2 true], false, Q254⟩
def Q267 : IR :=
 .seq (.reg [o 3 (.box 17 1),
 o 4 (.zero zL8),
 o 5 (.mov (.c zI))] false)
 (.seq (.seq (.reg [oM 7 0,
 o 8 (.nilck 7),
 oF 9 0 8,
 oK 10 1 9,
 o 11 (.bin .gtr 10 (.c zI))] false)
 (.cond 11 (.seq (.reg [o 6 (.zero zL8)] false)
 (.seq (.reg [oL 12 17 6,
 oS 17 4 12,
 o 5 (.mov (.c (iN 6)))] false)
 (.ret)))
 (.skip)))
 (.seq (.reg [oL 13 17 3,
 oS 17 4 13,
 o 5 (.mov (.c zI))] false)
 (.ret)))
def K7h : IFn := ⟨2, 14, [.cell 4 17 true, .tmp 5], false, Q267⟩
def Qlb : List Nat := [100032, 2, 4, 5, 6, 7]
def Q1no : IR :=
 .seq (.seq (.reg [oM 18 7,
 oM 19 6,
 oN 20 19,
 o 21 (.bin .lss 18 20)] false)
 (.cond 21 (.skip)
 (.exit 0)))
 (.seq (.block 1 (.seq (.reg [oM 24 6,
 oM 25 7,
 oI 26 5 24 25,
 oL 27 5 26,
 oC 28 141 ([27]),
 oM 8 28] false)
 (.seq (.reg [oF 29 1 5,
 oE 30 1 29 [0],
 oM 31 8,
 oD 32 142 ([31, sA23]) [2],
 oM 33 8,
 oD 34 123 ([33]) [2, 3, 4],
 ob 35 (.build [zS, .ns 3] [(0, 1, 32), (1, 1, 34)]) [2, 3, 4, 5],
 ob 36 (.lit 2 1 [zS, .ns 3] [(0, 35)]) (rg 2 7),
 ob 37 (.append 2 40 30 36) (rg 0 8),
 ob 38 (.faddr 1 5) (rg 0 9),
 ⟨none, none, .store 1 38 37, (rg 0 10)⟩] true)
 (.reg [oM 39 4,
 oM 40 8,
 o 41 (.nilck 40),
 oF 42 5 41,
 oK 43 1 42,
 oU 44 43,
 oC 45 143 ([39, 44])] false))))
 (.reg [oM 22 7,
 oA 23 22,
 oM 7 23] false))
def Q24o : IR :=
 .seq (.reg [o 1 (.box 5 0),
 o 2 (.zero [zB, .ns 2, .ns 1]),
 o 3 (.mov (.c zB))] false)
 (.seq (.reg [oL 9 5 1,
 oC 10 141 ([9]),
 oM 4 10] false)
 (.seq (.reg [oM 11 4,
 oC 12 128 ([11, sA3]),
 oM 13 4,
 oC 14 159 ([13, sA34]),
 o 15 (.build [zB, .ns 2, .ns 1] [(0, 1, 12), (2, 1, 14)]),
 o 5 (.zero [zB, .ns 2, .ns 1]),
 oS 3 5 15] false)
 (.seq (.reg [oM 16 4,
 oC 17 140 ([16, sA28]),
 oM 6 17] false)
 (.seq (.seq (.reg [o 7 (.mov (.c zI))] false)
 (.block 0 (.loop Qlb Q1no)))
 (.seq (.reg [oL 46 3 5,
 oM 47 4,
 ob 48 (.nilck 47) [1],
 ob 49 (.faddr 5 48) [1, 2],
 oE 50 1 49 [1, 2, 3],
 ob 51 (.un .not 50) [1, 2, 3, 4],
 ⟨none, none, .store 3 2 46, [0]⟩,
 ob 3 (.mov 51) (rg 0 7)] true)
 (.ret))))))
def K4r : IFn := ⟨1, 52, [.cell 2 3 true, .tmp 3], false, Q24o⟩
def Q268 : IR :=
 .seq (.reg [o 3 (.box 21 1),
 o 4 (.zero zL6),
 o 5 (.mov (.c zI))] false)
 (.seq (.seq (.reg [oM 7 0,
 o 8 (.nilck 7),
 oF 9 0 8,
 oK 10 1 9,
 o 11 (.bin .gtr 10 (.c zI))] false)
 (.cond 11 (.seq (.reg [o 6 (.zero zL6)] false)
 (.seq (.reg [oL 12 21 6,
 oS 21 4 12,
 o 5 (.mov (.c (iN 6)))] false)
 (.ret)))
 (.skip)))
 (.seq (.reg [oL 13 21 3,
 oS 21 4 13,
 o 5 (.mov (.c zI))] false)
 (.ret)))
def K7i : IFn := ⟨2, 14, [.cell 4 21 true, .tmp 5], false, Q268⟩
def Q25i : IR :=
 .seq (.reg [o 3 (.box 5 1),
 o 4 (.zero [zI, zI, zI])] false)
 (.seq (.reg [oM 5 0,
 oL 6 5 3,
 oD 7 71 ([5, 6, sA76]) [0, 1],
 oM 8 0,
 oL 9 5 3,
 oD 10 71 ([8, 9, sA17]) (rg 0 5),
 oM 11 0,
 oL 12 5 3,
 oD 13 71 ([11, 12, sA1]) (rg 0 8),
 ob 14 (.build [zI, zI, zI] [(0, 1, 7), (1, 1, 10), (2, 1, 13)]) (rg 0 9),
 ⟨none, none, .store 3 4 14, (rg 0 10)⟩] true)
 (.ret))
def K69 : IFn := ⟨2, 15, [.cell 4 3 true], false, Q25i⟩
def Q24i : IR :=
 .seq (.reg [o 4 (.zero [zI, zI, zI])] false)
 (.seq (.reg [oM 7 0,
 oM 8 1,
 oC 9 131 ([7, 8]),
 oM 5 9] false)
 (.seq (.reg [oM 10 5,
 oC 11 122 ([10, sA76]),
 oM 12 5,
 oC 13 122 ([12, sA17]),
 oM 14 5,
 oC 15 122 ([14, sA1]),
 o 16 (.build [zI, zI, zI] [(0, 1, 11), (1, 1, 13), (2, 1, 15)]),
 o 6 (.zero [zI, zI, zI]),
 oS 3 6 16] false)
 (.seq (.reg [oM 17 0,
 oM 18 5,
 o 19 (.nilck 18),
 oF 20 5 19,
 oK 21 1 20,
 oU 22 21,
 oC 23 143 ([17, 22])] false)
 (.seq (.reg [oL 24 3 6,
 oS 3 4 24] false)
 (.ret)))))
def K4l : IFn := ⟨2, 25, [.cell 4 3 true], false, Q24i⟩
def Qkn : List Nat := [100034, 1, 2, 3, 4, 5, 6]
def Q1n0 : IR :=
 .seq (.seq (.reg [oM 15 6,
 oF 16 16 1,
 oK 17 1 16,
 oM 18 4,
 oI 19 3 17 18,
 oF 20 1 19,
 oK 21 1 20,
 oN 22 21,
 o 23 (.bin .lss 15 22)] false)
 (.cond 23 (.skip)
 (.exit 2)))
 (.seq (.block 3 (.seq (.reg [oF 26 16 1,
 oK 27 1 26,
 oM 28 4,
 oI 29 3 27 28,
 oF 30 1 29,
 oK 31 1 30,
 oM 32 6,
 oI 33 2 31 32,
 oL 34 2 33,
 o 7 (.zero [zS, .ns 3]),
 oS 2 7 34] false)
 (.reg [oM 35 5,
 oF 36 0 7,
 oE 37 1 36 [1],
 oD 38 169 ([37]) [1, 2],
 ob 39 (.build zL0 [(0, 1, sA23), (1, 5, 38)]) [1, 2, 3],
 oF 40 1 7,
 oE 41 1 40 [5],
 oD 42 165 ([41]) [1, 2, 3, 5, 6],
 ob 43 (.build zL0 [(0, 1, sA47), (1, 5, 42)]) [1, 2, 3, 5, 6, 7],
 ob 44 (.lit 6 2 zL0 [(0, 39), (1, 43)]) (rg 1 9),
 oD 45 163 ([44]) (rg 1 10),
 ob 46 (.lit 5 1 zL1 [(0, 45)]) (rg 1 11),
 ob 47 (.append 5 80 35 46) (rg 0 12),
 ob 5 (.mov 47) (rg 0 13)] true)))
 (.reg [oM 24 6,
 oA 25 24,
 oM 6 25] false))
def Qkm : List Nat := [100033, 1, 2, 3, 4]
def Q1mz : IR :=
 .seq (.seq (.reg [oM 8 4,
 oF 9 16 1,
 oK 10 1 9,
 oN 11 10,
 o 12 (.bin .lss 8 11)] false)
 (.cond 12 (.skip)
 (.exit 0)))
 (.seq (.block 1 (.seq (.reg [o 5 (.mov (.c (.ns 5)))] false)
 (.seq (.seq (.reg [o 6 (.mov (.c zI))] false)
 (.block 2 (.loop Qkn Q1n0)))
 (.reg [oM 48 3,
 oF 49 16 1,
 oE 50 1 49 [1],
 oM 51 4,
 ob 52 (.iaddr 3 50 51) [1, 2, 3],
 ob 53 (.faddr 0 52) [1, 2, 3, 4],
 oE 54 1 53 (rg 1 6),
 oD 55 167 ([54]) (rg 1 7),
 ob 56 (.build zL0 [(0, 1, sA3), (1, 5, 55)]) (rg 1 8),
 oM 57 5,
 ob 58 (.build zL1 [(0, 1, .c (iN 4)), (3, 1, 57)]) [9],
 ob 59 (.build zL0 [(0, 1, sA28), (1, 5, 58)]) [9, 10],
 oF 60 16 1,
 oE 61 1 60 [12],
 oM 62 4,
 ob 63 (.iaddr 3 61 62) [12, 13, 14],
 ob 64 (.faddr 2 63) [12, 13, 14, 15],
 oE 65 1 64 (rg 12 17),
 oD 66 195 ([65]) (rg 1 8 ++ rg 12 18),
 ob 67 (.build zL0 [(0, 1, sA34), (1, 5, 66)]) (rg 1 8 ++ rg 12 19),
 ob 68 (.lit 6 3 zL0 [(0, 56), (1, 59), (2, 67)]) (rg 1 20),
 oD 69 163 ([68]) (rg 1 21),
 ob 70 (.lit 5 1 zL1 [(0, 69)]) (rg 1 22),
 ob 71 (.append 5 80 48 70) (rg 0 23),
 ob 3 (.mov 71) (rg 0 24)] true))))
 (.reg [oM 13 4,
 oA 14 13,
 oM 4 14] false))
def Q22r : IR :=
 .seq (.reg [o 1 (.box 17 0),
 o 2 (.zero zL1)] false)
 (.seq (.reg [o 3 (.mov (.c (.ns 5)))] false)
 (.seq (.seq (.reg [o 4 (.mov (.c zI))] false)
 (.block 0 (.loop Qkm Q1mz)))
 (.seq (.reg [oF 72 13 1,
 oE 73 1 72 [0],
 oD 74 165 ([73]) [0, 1],
 ob 75 (.build zL0 [(0, 1, sA47), (1, 5, 74)]) [0, 1, 2],
 oF 76 14 1,
 oE 77 1 76 [4],
 oD 78 167 ([77]) [0, 1, 2, 4, 5],
 ob 79 (.build zL0 [(0, 1, sA11), (1, 5, 78)]) [0, 1, 2, 4, 5, 6],
 oF 80 15 1,
 oE 81 1 80 [8],
 oD 82 167 ([81]) [0, 1, 2, 4, 5, 6, 8, 9],
 ob 83 (.build zL0 [(0, 1, sA3), (1, 5, 82)]) [0, 1, 2, 4, 5, 6, 8, 9, 10],
 oM 84 3,
 ob 85 (.build zL1 [(0, 1, .c (iN 4)), (3, 1, 84)]) [12],
 ob 86 (.build zL0 [(0, 1, sA46), (1, 5, 85)]) [12, 13],
 ob 87 (.lit 6 4 zL0 [(0, 75), (1, 79), (2, 83), (3, 86)]) (rg 0 15),
 oD 88 163 ([87]) (rg 0 16),
 ⟨none, none, .store 5 2 88, (rg 0 17)⟩] true)
 (.ret))))
def K2i : IFn := ⟨1, 89, [.cell 2 5 true], false, Q22r⟩
def Q22x : IR :=
 .seq (.reg [o 1 (.box 21 0),
 o 2 (.zero zL1)] false)
 (.seq (.reg [oF 3 13 1,
 ob 4 (.load 3 true 3) [0],
 oD 5 211 ([4]) [0, 1],
 ob 6 (.build zL0 [(0, 1, sA8), (1, 5, 5)]) [0, 1, 2],
 oF 7 19 1,
 oE 8 1 7 [4],
 oD 9 164 ([8]) [0, 1, 2, 4, 5],
 ob 10 (.build zL0 [(0, 1, sA31), (1, 5, 9)]) [0, 1, 2, 4, 5, 6],
 ob 11 (.lit 6 2 zL0 [(0, 6), (1, 10)]) (rg 0 8),
 oD 12 163 ([11]) (rg 0 9),
 ⟨none, none, .store 5 2 12, (rg 0 10)⟩] true)
 (.ret))
def K2o : IFn := ⟨1, 13, [.cell 2 5 true], false, Q22x⟩
def Q22y : IR :=
 .seq (.reg [o 1 (.box 21 0),
 o 2 (.zero zL1)] false)
 (.seq (.reg [oF 3 16 1,
 ob 4 (.load 3 true 3) [0],
 oD 5 211 ([4]) [0, 1],
 ob 6 (.build zL0 [(0, 1, sA61), (1, 5, 5)]) [0, 1, 2],
 oF 7 20 1,
 oE 8 1 7 [4],
 oD 9 164 ([8]) [0, 1, 2, 4, 5],
 ob 10 (.build zL0 [(0, 1, sA9), (1, 5, 9)]) [0, 1, 2, 4, 5, 6],
 ob 11 (.lit 6 2 zL0 [(0, 6), (1, 10)]) (rg 0 8),
 oD 12 163 ([11]) (rg 0 9),
 ⟨none, none, .store 5 2 12, (rg 0 10)⟩] true)
 (.ret))
def K2p : IFn := ⟨1, 13, [.cell 2 5 true], false, Q22y⟩
def Ql9 : List Nat := [100035, 0, 5, 6, 7]
def Q1nm : IR :=
 .seq (.seq (.reg [oM 12 7,
 oM 13 6,
 oN 14 13,
 o 15 (.bin .lss 12 14)] false)
 (.cond 15 (.skip)
 (.exit 0)))
 (.seq (.block 1 (.seq (.reg [o 8 (.mov (.c zI))] false)
 (.seq (.seq (.reg [oM 18 6,
 oM 19 7,
 oI 20 5 18 19,
 oF 21 0 20,
 oK 22 1 21,
 o 23 (.bin .eql 22 (.c (iN 2)))] false)
 (.cond 23 (.reg [oM 24 6,
 oM 25 7,
 oI 26 5 24 25,
 oF 27 1 26,
 oK 28 1 27,
 oM 8 28] false)
 (.skip)))
 (.seq (.reg [oM 29 0,
 oM 30 6,
 oM 31 7,
 oI 32 5 30 31,
 oF 33 0 32,
 oK 34 1 33,
 o 35 (.bin .eql 34 (.c (iN 2))),
 oM 36 35,
 gF 37 36 (.mov 6),
 gF 38 36 (.mov 7),
 gF 39 36 (.iaddr 5 37 38),
 gF 40 36 (.faddr 0 39),
 gF 41 36 (.load 1 false 40),
 gF 42 36 (.bin .eql 41 (.c zI)),
 oQ 43 36 42,
 oC 44 143 ([29, 43])] false)
 (.reg [oM 45 5,
 oM 46 8,
 o 47 (.lit 1 1 [zI] [(0, 46)]),
 oJ 48 1 8 45 47,
 oM 5 48] false)))))
 (.reg [oM 16 7,
 oA 17 16,
 oM 7 17] false))
def Q24e : IR :=
 .seq (.reg [o 4 (.mov (.c (.ns 1)))] false)
 (.seq (.reg [o 5 (.mov (.c (.ns 1)))] false)
 (.seq (.reg [oM 9 0,
 oM 10 1,
 oC 11 140 ([9, 10]),
 oM 6 11] false)
 (.seq (.seq (.reg [o 7 (.mov (.c zI))] false)
 (.block 0 (.loop Ql9 Q1nm)))
 (.seq (.reg [oM 49 5,
 oM 4 49] false)
 (.ret)))))
def K4g : IFn := ⟨2, 50, [.tmp 4], false, Q24e⟩
def Qkl : List Nat := [100038, 0, 2, 3, 4, 5]
def Q1my : IR :=
 .seq (.seq (.reg [oM 13 5,
 oM 14 3,
 ob 15 (.len false 14) [1],
 ob 16 (.bin .lss 13 15) [0, 1, 2],
 ob 17 (.mov 16) [0, 1, 2, 3],
 ⟨(some 18), (some (17, true)), .mov 3, (rg 0 5)⟩,
 ⟨(some 19), (some (17, true)), .mov 5, (rg 0 5)⟩,
 ⟨(some 20), (some (17, true)), .iaddr 6 18 19, (rg 0 7)⟩,
 ⟨(some 21), (some (17, true)), .faddr 0 20, (rg 0 8)⟩,
 ⟨(some 22), (some (17, true)), .load 1 false 21, (rg 0 9)⟩,
 ⟨(some 23), (some (17, true)), .mov 0, (rg 0 5)⟩,
 ⟨(some 24), (some (17, true)), .mov 4, (rg 0 5)⟩,
 ⟨(some 25), (some (17, true)), .iaddr 6 23 24, (rg 0 5 ++ [10, 11])⟩,
 ⟨(some 26), (some (17, true)), .faddr 0 25, (rg 0 5 ++ [10, 11, 12])⟩,
 ⟨(some 27), (some (17, true)), .load 1 false 26, (rg 0 5 ++ rg 10 14)⟩,
 ⟨(some 28), (some (17, true)), .bin .lss 22 27, (rg 0 15)⟩,
 ob 29 (.pick 17 28 (.c zB)) (rg 0 16)] true)
 (.cond 29 (.skip)
 (.exit 2)))
 (.block 3 (.reg [oM 30 5,
 oA 31 30,
 oM 5 31] false))
def Qkk : List Nat := [100037, 0, 2, 3, 4]
def Q1mx : IR :=
 .seq (.seq (.reg [oM 7 4,
 oM 8 0,
 oN 9 8,
 o 10 (.bin .lss 7 9)] false)
 (.cond 10 (.skip)
 (.exit 0)))
 (.seq (.block 1 (.seq (.reg [o 5 (.mov (.c zI))] false)
 (.seq (.block 2 (.loop Qkl Q1my))
 (.seq (.reg [o 6 (.mov (.c (.ns 6)))] false)
 (.seq (.reg [oM 32 6,
 oM 33 3,
 oM 34 5,
 o 35 (.slice 6 33 none (some 34) none),
 oJ 36 6 96 32 35,
 oM 6 36] false)
 (.seq (.reg [oM 37 6,
 oM 38 0,
 oM 39 4,
 oI 40 6 38 39,
 oL 41 6 40,
 o 42 (.lit 6 1 zL0 [(0, 41)]),
 oJ 43 6 96 37 42,
 oM 6 43] false)
 (.seq (.reg [oM 44 6,
 oM 45 3,
 oM 46 5,
 o 47 (.slice 6 45 (some 46) none none),
 oJ 48 6 96 44 47,
 oM 6 48] false)
 (.reg [oM 49 6,
 oM 3 49] false))))))))
 (.reg [oM 11 4,
 oA 12 11,
 oM 4 12] false))
def Q22q : IR :=
 .seq (.reg [o 2 (.zero zL1)] false)
 (.seq (.reg [o 3 (.mov (.c (.ns 6)))] false)
 (.seq (.seq (.reg [o 4 (.mov (.c zI))] false)
 (.block 0 (.loop Qkk Q1mx)))
 (.seq (.reg [oM 50 3,
 o 51 (.build zL1 [(0, 1, .c (iN 5)), (4, 1, 50)]),
 oS 5 2 51] false)
 (.ret))))
def K2h : IFn := ⟨1, 52, [.cell 2 5 true], false, Q22q⟩
def Q22n : IR :=
 .seq (.reg [o 2 (.zero zL1)] false)
 (.seq (.reg [oM 3 0,
 o 4 (.build zL1 [(0, 1, .c (iN 2)), (1, 1, 3)]),
 oS 5 2 4] false)
 (.ret))
def K2c : IFn := ⟨1, 5, [.cell 2 5 true], false, Q22n⟩
def Qks : List Nat := [100039, 0, 2, 3, 4]
def Q1n5 : IR :=
 .seq (.seq (.reg [oM 5 4,
 oM 6 0,
 oN 7 6,
 o 8 (.bin .lss 5 7)] false)
 (.cond 8 (.skip)
 (.exit 0)))
 (.seq (.block 1 (.reg [oM 11 3,
 oM 12 0,
 oM 13 4,
 ob 14 (.iaddr 3 12 13) [1, 2],
 ob 15 (.faddr 0 14) [1, 2, 3],
 oE 16 1 15 [1, 2, 3, 4],
 oD 17 169 ([16]) (rg 1 6),
 ob 18 (.build zL0 [(0, 1, sA13), (1, 5, 17)]) (rg 1 7),
 oM 19 0,
 oM 20 4,
 ob 21 (.iaddr 3 19 20) [8, 9],
 ob 22 (.faddr 1 21) [8, 9, 10],
 oE 23 1 22 [8, 9, 10, 11],
 oD 24 164 ([23]) (rg 1 7 ++ rg 8 13),
 ob 25 (.build zL0 [(0, 1, sA26), (1, 5, 24)]) (rg 1 7 ++ rg 8 14),
 oM 26 0,
 oM 27 4,
 ob 28 (.iaddr 3 26 27) [15, 16],
 ob 29 (.faddr 2 28) [15, 16, 17],
 oE 30 1 29 [15, 16, 17, 18],
 oD 31 212 ([30]) (rg 1 7 ++ rg 8 14 ++ rg 15 20),
 ob 32 (.build zL0 [(0, 1, sA62), (1, 5, 31)]) (rg 1 7 ++ rg 8 14 ++ rg 15 21),
 ob 33 (.lit 6 3 zL0 [(0, 18), (1, 25), (2, 32)]) (rg 1 22),
 oD 34 163 ([33]) (rg 1 23),
 ob 35 (.lit 5 1 zL1 [(0, 34)]) (rg 1 24),
 ob 36 (.append 5 80 11 35) (rg 0 25),
 ob 3 (.mov 36) (rg 0 26)] true))
 (.reg [oM 9 4,
 oA 10 9,
 oM 4 10] false))
def Q231 : IR :=
 .seq (.reg [o 2 (.zero zL1)] false)
 (.seq (.reg [o 3 (.mov (.c (.ns 5)))] false)
 (.seq (.seq (.reg [o 4 (.mov (.c zI))] false)
 (.block 0 (.loop Qks Q1n5)))
 (.seq (.reg [oM 37 3,
 o 38 (.build zL1 [(0, 1, .c (iN 4)), (3, 1, 37)]),
 oS 5 2 38] false)
 (.ret))))
def K2s : IFn := ⟨1, 39, [.cell 2 5 true], false, Q231⟩
def Q237 : IR :=
 .seq (.reg [o 1 (.box 11 0),
 o 2 (.zero zL1)] false)
 (.seq (.reg [oF 3 0 1,
 oE 4 1 3 [0],
 oD 5 213 ([4]) [0, 1],
 ob 6 (.build zL0 [(0, 1, sA16), (1, 5, 5)]) [0, 1, 2],
 oF 7 1 1,
 ob 8 (.load 10 true 7) [4],
 oD 9 214 ([8]) [0, 1, 2, 4, 5],
 ob 10 (.build zL0 [(0, 1, sA49), (1, 5, 9)]) [0, 1, 2, 4, 5, 6],
 ob 11 (.lit 6 2 zL0 [(0, 6), (1, 10)]) (rg 0 8),
 oD 12 163 ([11]) (rg 0 9),
 ⟨none, none, .store 5 2 12, (rg 0 10)⟩] true)
 (.ret))
def K2y : IFn := ⟨1, 13, [.cell 2 5 true], false, Q237⟩
def Q22j : IR :=
 .seq (.reg [o 2 (.zero zL1)] false)
 (.seq (.seq (.reg [oM 3 0] false)
 (.cond 3 (.seq (.reg [o 4 (.build zL1 [(0, 1, .c (iN 1)), (1, 1, .c (iN 1))]),
 oS 5 2 4] false)
 (.ret))
 (.skip)))
 (.seq (.reg [o 5 (.build zL1 [(0, 1, .c (iN 1))]),
 oS 5 2 5] false)
 (.ret)))
def K24 : IFn := ⟨1, 6, [.cell 2 5 true], false, Q22j⟩
def Q22i : IR :=
 .seq (.reg [o 1 (.box 2 0),
 o 2 (.zero zL1)] false)
 (.seq (.reg [oF 3 0 1,
 oE 4 1 3 [0],
 oD 5 167 ([4]) [0, 1],
 ob 6 (.build zL0 [(0, 1, sA30), (1, 5, 5)]) [0, 1, 2],
 oF 7 1 1,
 oE 8 1 7 [4],
 oD 9 164 ([8]) [0, 1, 2, 4, 5],
 ob 10 (.build zL0 [(0, 1, sA25), (1, 5, 9)]) [0, 1, 2, 4, 5, 6],
 ob 11 (.lit 6 2 zL0 [(0, 6), (1, 10)]) (rg 0 8),
 oD 12 163 ([11]) (rg 0 9),
 ⟨none, none, .store 5 2 12, (rg 0 10)⟩] true)
 (.ret))
def K20 : IFn := ⟨1, 13, [.cell 2 5 true], false, Q22i⟩
def Q235 : IR :=
 .seq (.reg [o 2 (.zero zL1)] false)
 (.seq (.reg [oM 3 0,
 o 4 (.build zL1 [(0, 1, .c (iN 3)), (2, 1, 3)]),
 oS 5 2 4] false)
 (.ret))
def K2w : IFn := ⟨1, 5, [.cell 2 5 true], false, Q235⟩
def Qka : List Nat := [100041, 1, 2, 3, 8]
def Q1mn : IR :=
 .seq (.seq (.reg [oM 43 8,
 oF 44 4 3,
 oK 45 1 44,
 oN 46 45,
 o 47 (.bin .lss 43 46),
 oM 48 47,
 gT 49 48 (.mov 1),
 gT 50 48 (.bin .geq 49 (.c zI)),
 oP 51 48 50] false)
 (.cond 51 (.skip)
 (.exit 2)))
 (.seq (.block 3 (.seq (.seq (.reg [oF 54 4 3,
 oK 55 1 54,
 oM 56 8,
 oI 57 6 55 56,
 oF 58 0 57,
 oK 59 1 58,
 o 60 (.len true 59),
 o 61 (.bin .gtr 60 (.c (iN 1000)))] false)
 (.cond 61 (.seq (.reg [o 6 (.mov (.c (iN (-1))))] false)
 (.ret))
 (.skip)))
 (.reg [oF 62 4 3,
 oK 63 1 62,
 oM 64 8,
 oI 65 6 63 64,
 oF 66 1 65,
 oL 67 5 66,
 oM 68 1,
 oM 69 2,
 o 70 (.bin .sub 69 (.c (iN 1))),
 oC 71 170 ([67, 68, 70]),
 oM 1 71] false)))
 (.reg [oM 52 8,
 oA 53 52,
 oM 8 53] false))
def Qk9 : List Nat := [100040, 1, 2, 3, 7]
def Q1mm : IR :=
 .seq (.seq (.reg [oM 23 7,
 oF 24 3 3,
 oK 25 1 24,
 oN 26 25,
 o 27 (.bin .lss 23 26),
 oM 28 27,
 gT 29 28 (.mov 1),
 gT 30 28 (.bin .geq 29 (.c zI)),
 oP 31 28 30] false)
 (.cond 31 (.skip)
 (.exit 0)))
 (.seq (.block 1 (.reg [oF 34 3 3,
 oK 35 1 34,
 oM 36 7,
 oI 37 5 35 36,
 oL 38 5 37,
 oM 39 1,
 oM 40 2,
 o 41 (.bin .sub 40 (.c (iN 1))),
 oC 42 170 ([38, 39, 41]),
 oM 1 42] false))
 (.reg [oM 32 7,
 oA 33 32,
 oM 7 33] false))
def Q22a : IR :=
 .seq (.reg [o 3 (.box 5 0),
 o 6 (.mov (.c zI))] false)
 (.seq (.seq (.reg [oM 9 1,
 o 10 (.bin .leq 9 (.c zI)),
 oM 11 10,
 gF 12 11 (.mov 2),
 gF 13 11 (.bin .leq 12 (.c zI)),
 oQ 14 11 13,
 oM 15 14,
 gF 16 15 (.faddr 2 3),
 gF 17 15 (.load 1 false 16),
 gF 18 15 (.len true 17),
 gF 19 15 (.bin .gtr 18 (.c (iN 1000))),
 oQ 20 15 19] false)
 (.cond 20 (.seq (.reg [o 6 (.mov (.c (iN (-1))))] false)
 (.ret))
 (.skip)))
 (.seq (.reg [oM 21 1,
 o 22 (.bin .sub 21 (.c (iN 1))),
 oM 1 22] false)
 (.seq (.seq (.reg [o 7 (.mov (.c zI))] false)
 (.block 0 (.loop Qk9 Q1mm)))
 (.seq (.seq (.reg [o 8 (.mov (.c zI))] false)
 (.block 2 (.loop Qka Q1mn)))
 (.seq (.reg [oM 72 1,
 oM 6 72] false)
 (.ret))))))
def K1s : IFn := ⟨3, 73, [.tmp 6], false, Q22a⟩
def Q25x : IR :=
 .seq (.reg [o 1 (.box 3 0),
 o 2 (.zero zL1)] false)
 (.seq (.reg [oF 3 0 1,
 oE 4 1 3 [0],
 oD 5 79 ([sA76, 4]) [0, 1],
 oF 6 1 1,
 oE 7 1 6 [3],
 oD 8 79 ([sA17, 7]) (rg 0 5),
 oF 9 2 1,
 oE 10 1 9 [6],
 oD 11 79 ([sA1, 10]) (rg 0 8),
 ob 12 (.lit 6 3 zL0 [(0, 5), (1, 8), (2, 11)]) (rg 0 9),
 oD 13 78 ([12]) (rg 0 10),
 ⟨none, none, .store 5 2 13, (rg 0 11)⟩] true)
 (.ret))
def K6u : IFn := ⟨1, 14, [.cell 2 5 true], false, Q25x⟩
def Qk7 : List Nat := [100043, 1, 2, 3, 5]
def Q1mk : IR :=
 .seq (.seq (.reg [oM 31 5,
 oF 32 4 1,
 oK 33 1 32,
 oN 34 33,
 o 35 (.bin .lss 31 34)] false)
 (.cond 35 (.skip)
 (.exit 2)))
 (.seq (.block 3 (.reg [oF 38 4 3,
 oE 39 1 38 [0],
 oF 40 4 1,
 oE 41 1 40 [2],
 oM 42 5,
 ob 43 (.iaddr 6 41 42) [2, 3, 4],
 ob 44 (.faddr 0 43) [2, 3, 4, 5],
 oE 45 1 44 (rg 2 7),
 oF 46 4 1,
 oE 47 1 46 [8],
 oM 48 5,
 ob 49 (.iaddr 6 47 48) [8, 9, 10],
 ob 50 (.faddr 1 49) [8, 9, 10, 11],
 ob 51 (.load 5 true 50) (rg 8 13),
 oD 52 172 ([51]) (rg 8 14),
 ob 53 (.build zL0 [(0, 1, 45), (1, 5, 52)]) (rg 2 15),
 ob 54 (.lit 6 1 zL0 [(0, 53)]) (rg 2 16),
 ob 55 (.append 6 96 39 54) (rg 0 17),
 ob 56 (.faddr 4 3) (rg 0 18),
 ⟨none, none, .store 1 56 55, (rg 0 19)⟩] true))
 (.reg [oM 36 5,
 oA 37 36,
 oM 5 37] false))
def Qk6 : List Nat := [100042, 1, 2, 3, 4]
def Q1mj : IR :=
 .seq (.seq (.reg [oM 13 4,
 oF 14 3 1,
 oK 15 1 14,
 oN 16 15,
 o 17 (.bin .lss 13 16)] false)
 (.cond 17 (.skip)
 (.exit 0)))
 (.seq (.block 1 (.reg [oF 20 3 3,
 oE 21 1 20 [0],
 oF 22 3 1,
 oE 23 1 22 [2],
 oM 24 4,
 ob 25 (.iaddr 5 23 24) [2, 3, 4],
 ob 26 (.load 5 true 25) [2, 3, 4, 5],
 oD 27 172 ([26]) (rg 2 7),
 ob 28 (.lit 5 1 zL1 [(0, 27)]) (rg 2 8),
 ob 29 (.append 5 80 21 28) (rg 0 9),
 ob 30 (.faddr 3 3) (rg 0 10),
 ⟨none, none, .store 1 30 29, (rg 0 11)⟩] true))
 (.reg [oM 18 4,
 oA 19 18,
 oM 4 19] false))
def Q224 : IR :=
 .seq (.reg [o 1 (.box 5 0),
 o 2 (.zero zL1)] false)
 (.seq (.reg [oF 6 0 1,
 oK 7 1 6,
 oF 8 1 1,
 oK 9 1 8,
 oF 10 2 1,
 oK 11 1 10,
 o 12 (.build zL1 [(0, 1, 7), (1, 1, 9), (2, 1, 11)]),
 o 3 (.zero zL1),
 oS 5 3 12] false)
 (.seq (.seq (.reg [o 4 (.mov (.c zI))] false)
 (.block 0 (.loop Qk6 Q1mj)))
 (.seq (.seq (.reg [o 5 (.mov (.c zI))] false)
 (.block 2 (.loop Qk7 Q1mk)))
 (.seq (.reg [oL 57 5 3,
 oS 5 2 57] false)
 (.ret)))))
def K1m : IFn := ⟨1, 58, [.cell 2 5 true], false, Q224⟩
def Qkb : List Nat := [100044, 0, 3, 5, 6, 7]
def Q1mo : IR :=
 .seq (.seq (.reg [oM 8 7,
 oM 9 0,
 oN 10 9,
 o 11 (.bin .lss 8 10)] false)
 (.cond 11 (.skip)
 (.exit 0)))
 (.seq (.block 1 (.seq (.seq (.reg [oM 14 6,
 ob 15 (.un .not 14) [0],
 ob 16 (.mov 15) [0, 1],
 ⟨(some 17), (some (16, true)), .faddr 0 3, [0, 1, 2]⟩,
 ⟨(some 18), (some (16, true)), .load 1 false 17, [0, 1, 2, 3]⟩,
 ⟨(some 19), (some (16, true)), .mov 0, [0, 1, 2]⟩,
 ⟨(some 20), (some (16, true)), .mov 7, [0, 1, 2]⟩,
 ⟨(some 21), (some (16, true)), .iaddr 6 19 20, [0, 1, 2, 5, 6]⟩,
 ⟨(some 22), (some (16, true)), .faddr 0 21, [0, 1, 2, 5, 6, 7]⟩,
 ⟨(some 23), (some (16, true)), .load 1 false 22, ([0, 1, 2] ++ rg 5 9)⟩,
 ⟨(some 24), (some (16, true)), .bin .leq 18 23, (rg 0 10)⟩,
 ob 25 (.pick 16 24 (.c zB)) (rg 0 11)] true)
 (.cond 25 (.seq (.reg [oM 26 5,
 oL 27 6 3,
 o 28 (.lit 6 1 zL0 [(0, 27)]),
 oJ 29 6 96 26 28,
 oM 5 29] false)
 (.reg [o 6 (.mov (.c (.bool true)))] false))
 (.skip)))
 (.seq (.reg [oM 30 0,
 oM 31 7,
 ob 32 (.iaddr 6 30 31) [0, 1],
 ob 33 (.faddr 0 32) [0, 1, 2],
 oE 34 1 33 [0, 1, 2, 3],
 oF 35 0 3,
 oE 36 1 35 [5],
 ob 37 (.bin .neq 34 36) (rg 0 7)] true)
 (.cond 37 (.reg [oM 38 5,
 oM 39 0,
 oM 40 7,
 oI 41 6 39 40,
 oL 42 6 41,
 o 43 (.lit 6 1 zL0 [(0, 42)]),
 oJ 44 6 96 38 43,
 oM 5 44] false)
 (.skip)))))
 (.reg [oM 12 7,
 oA 13 12,
 oM 7 13] false))
def Q22c : IR :=
 .seq (.reg [o 3 (.box 6 1),
 o 4 (.mov (.c (.ns 6)))] false)
 (.seq (.reg [o 5 (.mov (.c (.ns 6)))] false)
 (.seq (.reg [o 6 (.mov (.c zB))] false)
 (.seq (.seq (.reg [o 7 (.mov (.c zI))] false)
 (.block 0 (.loop Qkb Q1mo)))
 (.seq (.seq (.reg [oM 45 6,
 oU 46 45] false)
 (.cond 46 (.reg [oM 47 5,
 oL 48 6 3,
 o 49 (.lit 6 1 zL0 [(0, 48)]),
 oJ 50 6 96 47 49,
 oM 5 50] false)
 (.skip)))
 (.seq (.reg [oM 51 5,
 oM 4 51] false)
 (.ret))))))
def K1u : IFn := ⟨2, 52, [.tmp 4], false, Q22c⟩
def Q25b : IR :=
 .seq (.reg [o 4 (.box 5 1),
 o 6 (.zero zL1)] false)
 (.seq (.seq (.reg [oF 7 0 4,
 oK 8 1 7,
 oM 9 2,
 o 10 (.bin .eql 8 9)] false)
 (.cond 10 (.seq (.reg [oL 11 5 4,
 oS 5 6 11] false)
 (.ret))
 (.skip)))
 (.seq (.seq (.reg [oF 12 0 4,
 oK 13 1 12,
 o 14 (.bin .neq 13 (.c zI))] false)
 (.cond 14 (.reg [oM 15 0,
 o 16 (.nilck 15),
 oF 17 0 16,
 oK 18 1 17,
 oA 19 18,
 o 20 (.nilck 15),
 oF 21 0 20,
 oS 1 21 19] false)
 (.skip)))
 (.seq (.reg [o 22 (.build zL1 []),
 oS 5 6 22] false)
 (.ret))))
def K61 : IFn := ⟨3, 23, [.cell 6 5 true], false, Q25b⟩
def Qlj : List Nat := [100045, 3, 9, 18, 19, 20]
def Q1nw : IR :=
 .seq (.reg [o 21 (.bin .lss 20 19)] false)
 (.seq (.cond 21 (.skip)
 (.exit 0))
 (.seq (.block 1 (.seq (.reg [oI 22 5 18 20,
 oL 23 5 22,
 o 11 (.zero zL1),
 oS 5 11 23] false)
 (.reg [oM 24 9,
 oM 25 3,
 oL 26 5 11,
 o 27 (.call false 25 [26]),
 o 28 (.lit 3 1 [zS, zI, .ns 1] [(0, 27)]),
 oJ 29 3 48 24 28,
 oM 9 29] false)))
 (.reg [oA 30 20,
 oM 20 30] false)))
def Q25t : IR :=
 .seq (.reg [o 5 (.box 5 1),
 o 8 (.mov (.c (.ns 3)))] false)
 (.seq (.reg [o 9 (.mov (.c (.ns 3)))] false)
 (.seq (.seq (.reg [oM 12 0,
 oM 13 0,
 oL 14 5 5,
 oM 15 2,
 oC 16 76 ([13, 14, 15]),
 oC 17 174 ([12, 16, .c (iN 4)]),
 o 18 (.field 3 1 false 17),
 oN 19 18,
 o 20 (.mov (.c zI))] false)
 (.block 0 (.loop Qlj Q1nw)))
 (.seq (.reg [oM 31 9,
 oM 8 31] false)
 (.ret))))
def K6n : IFn := ⟨4, 32, [.tmp 8], false, Q25t⟩
def Q25k : IR :=
 .seq (.reg [o 2 (.box 5 0),
 o 3 (.zero [zS, zI, .ns 1])] false)
 (.seq (.reg [oK 5 1 1,
 oL 6 5 2,
 o 7 (.mkfn 182 [] [1]),
 oC 8 181 ([5, 6, sA62, 7]),
 oM 4 8] false)
 (.seq (.reg [oK 9 1 1,
 oL 10 5 2,
 oC 11 174 ([9, 10, .c (iN 5)])] false)
 (.seq (.reg [oK 12 1 1,
 oL 13 5 2,
 oD 14 89 ([12, 13, sA13]) [0, 1],
 oK 15 1 1,
 oL 16 5 2,
 oD 17 71 ([15, 16, sA26]) (rg 0 5),
 oM 18 4,
 ob 19 (.build [zS, zI, .ns 1] [(0, 1, 14), (1, 1, 17), (2, 1, 18)]) (rg 0 7),
 ⟨none, none, .store 3 3 19, (rg 0 8)⟩] true)
 (.ret))))
def K6b : IFn := ⟨2, 20, [.cell 3 3 true], false, Q25k⟩
def Qlk : List Nat := [100046, 3, 9, 18, 19, 20]
def Q1nx : IR :=
 .seq (.reg [o 21 (.bin .lss 20 19)] false)
 (.seq (.cond 21 (.skip)
 (.exit 0))
 (.seq (.block 1 (.seq (.reg [oI 22 5 18 20,
 oL 23 5 22,
 o 11 (.zero zL1),
 oS 5 11 23] false)
 (.reg [oM 24 9,
 oM 25 3,
 oL 26 5 11,
 o 27 (.call false 25 [26]),
 o 28 (.lit 1 1 [zS] [(0, 27)]),
 oJ 29 1 16 24 28,
 oM 9 29] false)))
 (.reg [oA 30 20,
 oM 20 30] false)))
def Q25u : IR :=
 .seq (.reg [o 5 (.box 5 1),
 o 8 (.mov (.c (.ns 1)))] false)
 (.seq (.reg [o 9 (.mov (.c (.ns 1)))] false)
 (.seq (.seq (.reg [oM 12 0,
 oM 13 0,
 oL 14 5 5,
 oM 15 2,
 oC 16 76 ([13, 14, 15]),
 oC 17 174 ([12, 16, .c (iN 4)]),
 o 18 (.field 3 1 false 17),
 oN 19 18,
 o 20 (.mov (.c zI))] false)
 (.block 0 (.loop Qlk Q1nx)))
 (.seq (.reg [oM 31 9,
 oM 8 31] false)
 (.ret))))
def K6o : IFn := ⟨4, 32, [.tmp 8], false, Q25u⟩
def Q25l : IR :=
 .seq (.reg [o 2 (.box 5 0),
 o 3 (.mov (.c (zS)))] false)
 (.seq (.reg [oK 4 1 1,
 oL 5 5 2,
 oC 6 174 ([4, 5, .c (iN 3)]),
 o 7 (.field 2 1 false 6),
 oM 3 7] false)
 (.ret))
def K6c : IFn := ⟨2, 8, [.tmp 3], false, Q25l⟩
def Ka_c : IR :=
 .seq (.reg [o 1 (.box 5 0),
 o 2 (.zero [.ns 2, zS, zI, zI, zI, .ns 11, .ns 3, .ns 3, .ns 5, .ns 4, .ns 5]),
 o 3 (.mov (.c zI))] false)
 (.seq (.reg [o 6 (.build [zB] []),
 o 7 (.box 1 6),
 oM 4 7] false)
 (.seq (.reg [oM 8 4,
 oL 9 5 1,
 oC 10 215 ([8, 9])] false)
 (.seq (.reg [oM 11 4,
 oL 12 5 1,
 oM 13 4,
 ob 14 (.mkfn 217 [13] []) [2],
 oD 15 216 ([11, 12, sA16, 14]) [0, 1, 2, 3],
 oM 16 4,
 oM 17 4,
 oL 18 5 1,
 oD 19 219 ([17, 18, sA49]) (rg 0 5 ++ [6, 7]),
 oD 20 218 ([16, 19]) (rg 0 9),
 ob 21 (.build [.ns 2, zS, zI, zI, zI, .ns 11, .ns 3, .ns 3, .ns 5, .ns 4, .ns 5] [(0, 1, 15), (1, 10, 20)]) (rg 0 10),
 o 5 (.zero [.ns 2, zS, zI, zI, zI, .ns 11, .ns 3, .ns 3, .ns 5, .ns 4, .ns 5]),
 ⟨none, none, .store 11 5 21, (rg 0 12)⟩] true)
 (.seq (.seq (.reg [oM 22 4,
 o 23 (.nilck 22),
 oF 24 0 23,
 oK 25 1 24] false)
 (.cond 25 (.seq (.reg [o 26 (.build [.ns 2, zS, zI, zI, zI, .ns 11, .ns 3, .ns 3, .ns 5, .ns 4, .ns 5] []),
 oS 11 2 26,
 o 3 (.mov (.c (iN 6)))] false)
 (.ret))
 (.skip)))
 (.seq (.reg [oL 27 11 5,
 oS 11 2 27,
 o 3 (.mov (.c zI))] false)
 (.ret))))))
def Ka : IFn := ⟨1, 28, [.cell 2 11 true, .tmp 3], false, Ka_c⟩
def Qlc : List Nat := [100047, 1, 4, 12, 13, 14]
def Q1np : IR :=
 .seq (.reg [o 15 (.bin .lss 14 13)] false)
 (.seq (.cond 15 (.skip)
 (.exit 0))
 (.seq (.block 1 (.seq (.reg [oI 16 6 12 14,
 oL 17 6 16,
 o 7 (.zero zL0),
 oS 6 7 17] false)
 (.seq (.reg [oF 18 0 7,
 oK 19 1 18,
 oM 20 1,
 o 21 (.bin .eql 19 20)] false)
 (.cond 21 (.seq (.reg [oF 22 1 7,
 oL 23 5 22,
 oC 24 189 ([23]),
 oS 5 4 24,
 o 5 (.mov (.c (.bool true)))] false)
 (.ret))
 (.skip)))))
 (.reg [oA 25 14,
 oM 14 25] false)))
def Q24t : IR :=
 .seq (.reg [o 2 (.box 5 0),
 o 4 (.zero zL1),
 o 5 (.mov (.c zB))] false)
 (.seq (.seq (.reg [oF 8 0 2,
 oK 9 1 8,
 o 10 (.bin .eql 9 (.c (iN 5)))] false)
 (.cond 10 (.seq (.reg [oF 11 4 2,
 oK 12 1 11,
 oN 13 12,
 o 14 (.mov (.c zI))] false)
 (.block 0 (.loop Qlc Q1np)))
 (.skip)))
 (.seq (.reg [o 26 (.build zL1 []),
 oS 5 4 26,
 o 5 (.mov (.c zB))] false)
 (.ret)))
def K4x : IFn := ⟨2, 27, [.cell 4 5 true, .tmp 5], false, Q24t⟩
def Q24p : IR :=
 .reg [oM 4 0,
 oM 5 0,
 oN 6 5,
 oM 7 1,
 o 8 (.call true (.f 220) [4, 6, 7])] false
def K4s : IFn := ⟨2, 9, [], false, Q24p⟩
def Q24w : IR :=
 .seq (.reg [o 2 (.box 6 0),
 o 3 (.box 6 1),
 o 4 (.mov (.c zI))] false)
 (.seq (.reg [oF 5 0 2,
 oK 6 1 5,
 oF 7 0 3,
 oK 8 1 7,
 oC 9 188 ([6, 8]),
 oM 4 9] false)
 (.ret))
def K51 : IFn := ⟨2, 10, [.tmp 4], false, Q24w⟩
def Q24s : IR :=
 .seq (.reg [o 4 (.mov (.c zI))] false)
 (.seq (.reg [oM 5 0,
 oM 6 1,
 oC 7 221 ([5, 6]),
 oM 4 7] false)
 (.ret))
def K4v : IFn := ⟨2, 8, [.tmp 4], false, Q24s⟩
def Qle : List Nat := [100049, 1, 2, 31, 32, 33]
def Q1nr : IR :=
 .seq (.reg [o 34 (.bin .lss 33 32)] false)
 (.seq (.cond 34 (.skip)
 (.exit 2))
 (.seq (.block 3 (.seq (.reg [oM 35 33,
 oI 36 6 31 33,
 oL 37 6 36,
 o 6 (.zero zL0),
 oM 5 35,
 oS 6 6 37] false)
 (.reg [oF 38 4 1,
 oE 39 1 38 [0],
 oM 40 5,
 oF 41 1 6,
 ob 42 (.load 5 true 41) [3],
 oD 43 189 ([42]) [3, 4],
 ob 44 (.iaddr 6 39 40) (rg 0 6),
 ob 45 (.faddr 1 44) (rg 0 7),
 ⟨none, none, .store 5 45 43, (rg 0 8)⟩] true)))
 (.reg [oA 46 33,
 oM 33 46] false)))
def Qld : List Nat := [100048, 1, 2, 12, 13, 14]
def Q1nq : IR :=
 .seq (.reg [o 15 (.bin .lss 14 13)] false)
 (.seq (.cond 15 (.skip)
 (.exit 0))
 (.seq (.block 1 (.seq (.reg [oM 16 14,
 oI 17 5 12 14,
 oL 18 5 17,
 o 4 (.zero zL1),
 oM 3 16,
 oS 5 4 18] false)
 (.reg [oF 19 3 1,
 oE 20 1 19 [0],
 oM 21 3,
 oL 22 5 4,
 oD 23 189 ([22]) [3],
 ob 24 (.iaddr 5 20 21) (rg 0 5),
 ⟨none, none, .store 5 24 23, (rg 0 6)⟩] true)))
 (.reg [oA 25 14,
 oM 14 25] false)))
def Q24x : IR :=
 .seq (.reg [o 1 (.box 5 0),
 o 2 (.zero zL1)] false)
 (.seq (.reg [oF 7 3 1,
 oK 8 1 7,
 oC 9 222 ([8]),
 oF 10 3 1,
 oS 1 10 9] false)
 (.seq (.seq (.reg [oF 11 3 1,
 oK 12 1 11,
 oN 13 12,
 o 14 (.mov (.c zI))] false)
 (.block 0 (.loop Qld Q1nq)))
 (.seq (.reg [oF 26 4 1,
 oK 27 1 26,
 oC 28 185 ([27]),
 oF 29 4 1,
 oS 1 29 28] false)
 (.seq (.seq (.reg [oF 30 4 1,
 oK 31 1 30,
 oN 32 31,
 o 33 (.mov (.c zI))] false)
 (.block 2 (.loop Qle Q1nr)))
 (.seq (.reg [oL 47 5 1,
 oS 5 2 47] false)
 (.ret))))))
def K53 : IFn := ⟨1, 48, [.cell 2 5 true], false, Q24x⟩
def Qk5 : List Nat := [100051, 2, 3, 5, 7]
def Q1mi : IR :=
 .seq (.seq (.reg [oM 91 7,
 oF 92 4 2,
 oK 93 1 92,
 oN 94 93,
 o 95 (.bin .lss 91 94),
 oM 96 95,
 gT 97 96 (.mov 7),
 gT 98 96 (.faddr 4 3),
 gT 99 96 (.load 1 false 98),
 gT 100 96 (.len false 99),
 gT 101 96 (.bin .lss 97 100),
 oP 102 96 101,
 oM 103 102,
 gT 104 103 (.mov 5),
 gT 105 103 (.bin .eql 104 (.c zI)),
 oP 106 103 105] false)
 (.cond 106 (.skip)
 (.exit 2)))
 (.seq (.block 3 (.seq (.reg [oF 109 4 2,
 oE 110 1 109 [0],
 oM 111 7,
 ob 112 (.iaddr 6 110 111) [0, 1, 2],
 ob 113 (.faddr 0 112) [0, 1, 2, 3],
 oE 114 1 113 (rg 0 5),
 oF 115 4 3,
 oE 116 1 115 [6],
 oM 117 7,
 ob 118 (.iaddr 6 116 117) [6, 7, 8],
 ob 119 (.faddr 0 118) [6, 7, 8, 9],
 oE 120 1 119 (rg 6 11),
 ob 121 (.bin .lss 114 120) (rg 0 12),
 oF 122 4 2,
 oE 123 1 122 [13],
 oM 124 7,
 ob 125 (.iaddr 6 123 124) [13, 14, 15],
 ob 126 (.faddr 0 125) [13, 14, 15, 16],
 oE 127 1 126 (rg 13 18),
 oF 128 4 3,
 oE 129 1 128 [19],
 oM 130 7,
 ob 131 (.iaddr 6 129 130) [19, 20, 21],
 ob 132 (.faddr 0 131) [19, 20, 21, 22],
 oE 133 1 132 (rg 19 24),
 ob 134 (.bin .gtr 127 133) (rg 13 25),
 oD 135 230 ([121, 134]) (rg 0 26),
 ob 5 (.mov 135) (rg 0 27)] true)
 (.seq (.reg [oM 136 5,
 o 137 (.bin .eql 136 (.c zI))] false)
 (.cond 137 (.reg [oF 138 4 2,
 oE 139 1 138 [0],
 oM 140 7,
 ob 141 (.iaddr 6 139 140) [0, 1, 2],
 ob 142 (.faddr 1 141) [0, 1, 2, 3],
 ob 143 (.load 5 true 142) (rg 0 5),
 oF 144 4 3,
 oE 145 1 144 [6],
 oM 146 7,
 ob 147 (.iaddr 6 145 146) [6, 7, 8],
 ob 148 (.faddr 1 147) [6, 7, 8, 9],
 ob 149 (.load 5 true 148) (rg 6 11),
 oD 150 194 ([143, 149]) (rg 0 12),
 ob 5 (.mov 150) (rg 0 13)] true)
 (.skip)))))
 (.reg [oM 107 7,
 oA 108 107,
 oM 7 108] false))
def Qk4 : List Nat := [100050, 2, 3, 5, 6]
def Q1mh : IR :=
 .seq (.seq (.reg [oM 45 6,
 oF 46 3 2,
 oK 47 1 46,
 oN 48 47,
 o 49 (.bin .lss 45 48),
 oM 50 49,
 gT 51 50 (.mov 6),
 gT 52 50 (.faddr 3 3),
 gT 53 50 (.load 1 false 52),
 gT 54 50 (.len false 53),
 gT 55 50 (.bin .lss 51 54),
 oP 56 50 55,
 oM 57 56,
 gT 58 57 (.mov 5),
 gT 59 57 (.bin .eql 58 (.c zI)),
 oP 60 57 59] false)
 (.cond 60 (.skip)
 (.exit 0)))
 (.seq (.block 1 (.reg [oF 63 3 2,
 oE 64 1 63 [0],
 oM 65 6,
 ob 66 (.iaddr 5 64 65) [0, 1, 2],
 ob 67 (.load 5 true 66) [0, 1, 2, 3],
 oF 68 3 3,
 oE 69 1 68 [5],
 oM 70 6,
 ob 71 (.iaddr 5 69 70) [5, 6, 7],
 ob 72 (.load 5 true 71) [5, 6, 7, 8],
 oD 73 194 ([67, 72]) (rg 0 10),
 ob 5 (.mov 73) (rg 0 11)] true))
 (.reg [oM 61 6,
 oA 62 61,
 oM 6 62] false))
def Q223 : IR :=
 .seq (.reg [o 2 (.box 5 0),
 o 3 (.box 5 1),
 o 4 (.mov (.c zI))] false)
 (.seq (.reg [oF 8 0 2,
 oK 9 1 8,
 oF 10 0 3,
 oK 11 1 10,
 o 12 (.bin .lss 9 11),
 oF 13 0 2,
 oK 14 1 13,
 oF 15 0 3,
 oK 16 1 15,
 o 17 (.bin .gtr 14 16),
 oC 18 230 ([12, 17]),
 oM 5 18] false)
 (.seq (.seq (.reg [oM 19 5,
 o 20 (.bin .eql 19 (.c zI))] false)
 (.cond 20 (.reg [oF 21 1 2,
 oK 22 1 21,
 oF 23 1 3,
 oK 24 1 23,
 o 25 (.bin .lss 22 24),
 oF 26 1 2,
 oK 27 1 26,
 oF 28 1 3,
 oK 29 1 28,
 o 30 (.bin .gtr 27 29),
 oC 31 230 ([25, 30]),
 oM 5 31] false)
 (.skip)))
 (.seq (.seq (.reg [oM 32 5,
 o 33 (.bin .eql 32 (.c zI))] false)
 (.cond 33 (.reg [oF 34 2 2,
 oK 35 1 34,
 oF 36 2 3,
 oK 37 1 36,
 o 38 (.bin .lss 35 37),
 oF 39 2 2,
 oK 40 1 39,
 oF 41 2 3,
 oK 42 1 41,
 o 43 (.bin .gtr 40 42),
 oC 44 230 ([38, 43]),
 oM 5 44] false)
 (.skip)))
 (.seq (.seq (.reg [o 6 (.mov (.c zI))] false)
 (.block 0 (.loop Qk4 Q1mh)))
 (.seq (.seq (.reg [oM 74 5,
 o 75 (.bin .eql 74 (.c zI))] false)
 (.cond 75 (.reg [oF 76 3 2,
 oK 77 1 76,
 oN 78 77,
 oF 79 3 3,
 oK 80 1 79,
 oN 81 80,
 o 82 (.bin .lss 78 81),
 oF 83 3 2,
 oK 84 1 83,
 oN 85 84,
 oF 86 3 3,
 oK 87 1 86,
 oN 88 87,
 o 89 (.bin .gtr 85 88),
 oC 90 230 ([82, 89]),
 oM 5 90] false)
 (.skip)))
 (.seq (.seq (.reg [o 7 (.mov (.c zI))] false)
 (.block 2 (.loop Qk5 Q1mi)))
 (.seq (.seq (.reg [oM 151 5,
 o 152 (.bin .eql 151 (.c zI))] false)
 (.cond 152 (.reg [oF 153 4 2,
 oK 154 1 153,
 oN 155 154,
 oF 156 4 3,
 oK 157 1 156,
 oN 158 157,
 o 159 (.bin .lss 155 158),
 oF 160 4 2,
 oK 161 1 160,
 oN 162 161,
 oF 163 4 3,
 oK 164 1 163,
 oN 165 164,
 o 166 (.bin .gtr 162 165),
 oC 167 230 ([159, 166]),
 oM 5 167] false)
 (.skip)))
 (.seq (.reg [oM 168 5,
 oM 4 168] false)
 (.ret)))))))))
def K1l : IFn := ⟨2, 169, [.tmp 4], false, Q223⟩
def Qki : List Nat := [100052, 0, 2, 3, 4]
def Q1mv : IR :=
 .seq (.seq (.reg [oM 5 4,
 oM 6 0,
 oN 7 6,
 o 8 (.bin .lss 5 7)] false)
 (.cond 8 (.skip)
 (.exit 0)))
 (.seq (.block 1 (.reg [oM 11 3,
 oM 12 0,
 oM 13 4,
 oI 14 1 12 13,
 oK 15 1 14,
 oC 16 164 ([15]),
 o 17 (.lit 5 1 zL1 [(0, 16)]),
 oJ 18 5 80 11 17,
 oM 3 18] false))
 (.reg [oM 9 4,
 oA 10 9,
 oM 4 10] false))
def Q22o : IR :=
 .seq (.reg [o 2 (.zero zL1)] false)
 (.seq (.reg [o 3 (.mov (.c (.ns 5)))] false)
 (.seq (.seq (.reg [o 4 (.mov (.c zI))] false)
 (.block 0 (.loop Qki Q1mv)))
 (.seq (.reg [oM 19 3,
 o 20 (.build zL1 [(0, 1, .c (iN 4)), (3, 1, 19)]),
 oS 5 2 20] false)
 (.ret))))
def K2d : IFn := ⟨1, 21, [.cell 2 5 true], false, Q22o⟩
def Qll : List Nat := [100054, 3, 9, 18, 19, 20]
def Q1ny : IR :=
 .seq (.reg [o 21 (.bin .lss 20 19)] false)
 (.seq (.cond 21 (.skip)
 (.exit 0))
 (.seq (.block 1 (.seq (.reg [oI 22 5 18 20,
 oL 23 5 22,
 o 11 (.zero zL1),
 oS 5 11 23] false)
 (.reg [oM 24 9,
 oM 25 3,
 oL 26 5 11,
 o 27 (.call false 25 [26]),
 o 28 (.lit 1 1 [zI] [(0, 27)]),
 oJ 29 1 8 24 28,
 oM 9 29] false)))
 (.reg [oA 30 20,
 oM 20 30] false)))
def Q25v : IR :=
 .seq (.reg [o 5 (.box 5 1),
 o 8 (.mov (.c (.ns 1)))] false)
 (.seq (.reg [o 9 (.mov (.c (.ns 1)))] false)
 (.seq (.seq (.reg [oM 12 0,
 oM 13 0,
 oL 14 5 5,
 oM 15 2,
 oC 16 76 ([13, 14, 15]),
 oC 17 174 ([12, 16, .c (iN 4)]),
 o 18 (.field 3 1 false 17),
 oN 19 18,
 o 20 (.mov (.c zI))] false)
 (.block 0 (.loop Qll Q1ny)))
 (.seq (.reg [oM 31 9,
 oM 8 31] false)
 (.ret))))
def K6p : IFn := ⟨4, 32, [.tmp 8], false, Q25v⟩
def Q25e : IR :=
 .seq (.reg [o 2 (.box 5 0),
 o 3 (.mov (.c zI))] false)
 (.seq (.reg [oK 4 1 1,
 oL 5 5 2,
 oC 6 174 ([4, 5, .c (iN 2)]),
 o 7 (.field 1 1 false 6),
 oM 3 7] false)
 (.ret))
def K64 : IFn := ⟨2, 8, [.tmp 3], false, Q25e⟩
def Q22e : IR :=
 .seq (.reg [o 6 (.mov (.c (zS)))] false)
 (.seq (.reg [oM 7 0,
 o 8 (.bin .add 7 (.c (.str ⟨#[47]⟩))),
 oM 9 1,
 o 10 (.bin .add 8 9),
 o 11 (.bin .add 10 (.c (.str ⟨#[47]⟩))),
 oM 12 2,
 o 13 (.bin .add 11 12),
 oM 6 13] false)
 (.ret))
def K1w : IFn := ⟨3, 14, [.tmp 6], false, Q22e⟩
def Q23b : IR :=
 .seq (.reg [o 2 (.box 5 0),
 o 4 (.mov (.c zI)),
 o 5 (.mov (.c zB))] false)
 (.seq (.reg [oL 7 5 2,
 oM 8 1,
 oC 9 203 ([7, 8]),
 o 6 (.zero zL1),
 oS 5 6 9] false)
 (.seq (.seq (.reg [oF 10 0 6,
 oK 11 1 10,
 o 12 (.bin .eql 11 (.c (iN 2)))] false)
 (.cond 12 (.seq (.reg [oF 13 1 6,
 oK 14 1 13,
 oM 4 14,
 o 5 (.mov (.c (.bool true)))] false)
 (.ret))
 (.skip)))
 (.seq (.reg [oF 15 0 6,
 oE 16 1 15 [0],
 ob 17 (.bin .eql 16 (.c zI)) [0, 1],
 o 4 (.mov (.c zI)),
 ob 5 (.mov 17) [0, 1, 2, 3]] true)
 (.ret))))
def K32 : IFn := ⟨2, 18, [.tmp 4, .tmp 5], false, Q23b⟩
def Qkx : List Nat := [100055, 6, 7, 8, 9]
def Q1na : IR :=
 .seq (.seq (.reg [oM 22 9,
 oM 23 6,
 oN 24 23,
 o 25 (.bin .lss 22 24)] false)
 (.cond 25 (.skip)
 (.exit 0)))
 (.seq (.block 1 (.seq (.reg [oM 29 6,
 oM 30 9,
 oI 31 5 29 30,
 oL 32 5 31,
 oC 33 209 ([32, sA13]),
 oM 28 33,
 oX 34 28 0,
 oX 35 28 1,
 oM 10 34,
 oM 11 35] false)
 (.seq (.reg [oM 37 6,
 oM 38 9,
 oI 39 5 37 38,
 oL 40 5 39,
 oC 41 200 ([40, sA26]),
 oM 36 41,
 oX 42 36 0,
 oX 43 36 1,
 oM 12 42,
 oM 13 43] false)
 (.seq (.reg [oM 45 6,
 oM 46 9,
 oI 47 5 45 46,
 oL 48 5 47,
 oC 49 231 ([48, sA62]),
 oM 44 49,
 oX 50 44 0,
 oX 51 44 1,
 oM 14 50,
 oM 15 51] false)
 (.seq (.reg [oM 52 8,
 oM 53 10,
 oM 54 12,
 oM 55 14,
 o 56 (.build [zS, zI, .ns 1] [(0, 1, 53), (1, 1, 54), (2, 1, 55)]),
 o 57 (.lit 3 1 [zS, zI, .ns 1] [(0, 56)]),
 oJ 58 3 48 52 57,
 oM 8 58] false)
 (.reg [oM 59 7,
 oM 60 59,
 gT 61 60 (.mov 6),
 gT 62 60 (.mov 9),
 gT 63 60 (.iaddr 5 61 62),
 gT 64 60 (.load 5 true 63),
 gT 65 60 (.call false (.f 208) [64]),
 oP 66 60 65,
 oM 67 66,
 gT 68 67 (.mov 11),
 oP 69 67 68,
 oM 70 69,
 gT 71 70 (.mov 13),
 oP 72 70 71,
 oM 73 72,
 gT 74 73 (.mov 15),
 oP 75 73 74,
 oM 7 75] false))))))
 (.reg [oM 26 9,
 oA 27 26,
 oM 9 27] false))
def Q23e : IR :=
 .seq (.reg [o 2 (.box 5 0),
 o 4 (.mov (.c (.ns 3))),
 o 5 (.mov (.c zB))] false)
 (.seq (.reg [oL 17 5 2,
 oM 18 1,
 oC 19 207 ([17, 18]),
 oM 16 19,
 oX 20 16 0,
 oX 21 16 1,
 oM 6 20,
 oM 7 21] false)
 (.seq (.reg [o 8 (.mov (.c (.ns 3)))] false)
 (.seq (.seq (.reg [o 9 (.mov (.c zI))] false)
 (.block 0 (.loop Qkx Q1na)))
 (.seq (.reg [oM 76 8,
 oM 77 7,
 oM 4 76,
 oM 5 77] false)
 (.ret)))))
def K35 : IFn := ⟨2, 78, [.tmp 4, .tmp 5], false, Q23e⟩
def Ql0 : List Nat := [100056, 1, 2, 4, 5, 6, 7]
def Q1nd : IR :=
 .seq (.seq (.reg [oM 20 7,
 oM 21 4,
 oN 22 21,
 o 23 (.bin .lss 20 22)] false)
 (.cond 23 (.skip)
 (.exit 0)))
 (.seq (.block 1 (.seq (.reg [oM 27 4,
 oM 28 7,
 oI 29 5 27 28,
 oL 30 5 29,
 oC 31 209 ([30, sA13]),
 oM 26 31,
 oX 32 26 0,
 oX 33 26 1,
 oM 8 32,
 oM 9 33] false)
 (.seq (.reg [oM 35 4,
 oM 36 7,
 oI 37 5 35 36,
 oL 38 5 37,
 oC 39 209 ([38, sA63]),
 oM 34 39,
 oX 40 34 0,
 oX 41 34 1,
 oM 10 40,
 oM 11 41] false)
 (.seq (.reg [oF 42 0 6,
 oK 43 1 42,
 oM 44 8,
 oM 45 10,
 o 46 (.build [zS, zS] [(0, 1, 44), (1, 1, 45)]),
 o 47 (.lit 2 1 [zS, zS] [(0, 46)]),
 oJ 48 2 32 43 47,
 oF 49 0 6,
 oS 1 49 48] false)
 (.reg [oM 50 5,
 oM 51 50,
 gT 52 51 (.mov 4),
 gT 53 51 (.mov 7),
 gT 54 51 (.iaddr 5 52 53),
 gT 55 51 (.load 5 true 54),
 gT 56 51 (.call false (.f 208) [55]),
 oP 57 51 56,
 oM 58 57,
 gT 59 58 (.mov 9),
 oP 60 58 59,
 oM 61 60,
 gT 62 61 (.mov 11),
 oP 63 61 62,
 oM 5 63] false)))))
 (.reg [oM 24 7,
 oA 25 24,
 oM 7 25] false))
def Q23i : IR :=
 .seq (.reg [o 1 (.box 5 0),
 o 2 (.zero [.ns 2, zS, zI, zI, zI, .ns 11, .ns 3, .ns 3, .ns 5, .ns 4, .ns 5]),
 o 3 (.mov (.c zI))] false)
 (.seq (.reg [oL 15 5 1,
 oC 16 207 ([15, sA16]),
 oM 14 16,
 oX 17 14 0,
 oX 18 14 1,
 oM 4 17,
 oM 5 18] false)
 (.seq (.reg [o 19 (.build [.ns 2, zS, zI, zI, zI, .ns 11, .ns 3, .ns 3, .ns 5, .ns 4, .ns 5] []),
 o 6 (.zero [.ns 2, zS, zI, zI, zI, .ns 11, .ns 3, .ns 3, .ns 5, .ns 4, .ns 5]),
 oS 11 6 19] false)
 (.seq (.seq (.reg [o 7 (.mov (.c zI))] false)
 (.block 0 (.loop Ql0 Q1nd)))
 (.seq (.reg [oL 65 5 1,
 oC 66 203 ([65, sA49]),
 oC 67 232 ([66]),
 oM 64 67,
 oX 68 64 0,
 oX 69 64 1,
 o 12 (.zero zL11),
 oS 10 12 68,
 oM 13 69] false)
 (.seq (.seq (.reg [oM 70 5,
 oU 71 70,
 oM 72 71,
 gF 73 72 (.mov 13),
 gF 74 72 (.un .not 73),
 oQ 75 72 74,
 oM 76 75,
 gF 77 76 (.load 5 true 1),
 gF 78 76 (.call false (.f 208) [77]),
 gF 79 76 (.un .not 78),
 oQ 80 76 79] false)
 (.cond 80 (.seq (.reg [o 81 (.build [.ns 2, zS, zI, zI, zI, .ns 11, .ns 3, .ns 3, .ns 5, .ns 4, .ns 5] []),
 oS 11 2 81,
 o 3 (.mov (.c (iN 6)))] false)
 (.ret))
 (.skip)))
 (.seq (.reg [oL 82 10 12,
 oF 83 1 6,
 oS 10 83 82] false)
 (.seq (.reg [oL 84 11 6,
 oS 11 2 84,
 o 3 (.mov (.c zI))] false)
 (.ret))))))))
def K39 : IFn := ⟨1, 85, [.cell 2 11 true, .tmp 3], false, Q23i⟩
def Qkw : List Nat := [100057, 1, 2, 4, 5]
def Q1n9 : IR :=
 .seq (.seq (.reg [oM 6 5,
 oF 7 4 2,
 oK 8 1 7,
 oN 9 8,
 o 10 (.bin .lss 6 9)] false)
 (.cond 10 (.skip)
 (.exit 0)))
 (.seq (.block 1 (.seq (.reg [oF 13 0 2,
 oK 14 1 13,
 o 15 (.bin .eql 14 (.c (iN 5))),
 oM 16 15,
 gT 17 16 (.faddr 4 2),
 gT 18 16 (.load 1 false 17),
 gT 19 16 (.mov 5),
 gT 20 16 (.iaddr 6 18 19),
 gT 21 16 (.faddr 0 20),
 gT 22 16 (.load 1 false 21),
 gT 23 16 (.mov 1),
 gT 24 16 (.bin .eql 22 23),
 oP 25 16 24] false)
 (.cond 25 (.seq (.reg [oF 26 4 2,
 oK 27 1 26,
 oM 28 5,
 oI 29 6 27 28,
 oF 30 1 29,
 oL 31 5 30,
 oS 5 4 31] false)
 (.ret))
 (.skip))))
 (.reg [oM 11 5,
 oA 12 11,
 oM 5 12] false))
def Q23d : IR :=
 .seq (.reg [o 2 (.box 5 0),
 o 4 (.zero zL1)] false)
 (.seq (.seq (.reg [o 5 (.mov (.c zI))] false)
 (.block 0 (.loop Qkw Q1n9)))
 (.seq (.reg [o 32 (.build zL1 []),
 oS 5 4 32] false)
 (.ret)))
def K34 : IFn := ⟨2, 33, [.cell 4 5 true], false, Q23d⟩
def Q23j : IR :=
 .seq (.reg [o 2 (.box 5 0),
 o 4 (.mov (.c zB)),
 o 5 (.mov (.c zB))] false)
 (.seq (.reg [oL 7 5 2,
 oM 8 1,
 oC 9 203 ([7, 8]),
 o 6 (.zero zL1),
 oS 5 6 9] false)
 (.seq (.seq (.reg [oF 10 0 6,
 oK 11 1 10,
 o 12 (.bin .eql 11 (.c (iN 1)))] false)
 (.cond 12 (.seq (.reg [oF 13 1 6,
 oK 14 1 13,
 o 15 (.bin .neq 14 (.c zI)),
 oM 4 15,
 o 5 (.mov (.c (.bool true)))] false)
 (.ret))
 (.skip)))
 (.seq (.reg [oF 16 0 6,
 oE 17 1 16 [0],
 ob 18 (.bin .eql 17 (.c zI)) [0, 1],
 o 4 (.mov (.c zB)),
 ob 5 (.mov 18) [0, 1, 2, 3]] true)
 (.ret))))
def K3a : IFn := ⟨2, 19, [.tmp 4, .tmp 5], false, Q23j⟩
def Qlm : List Nat := [100058, 3, 9, 18, 19, 20]
def Q1nz : IR :=
 .seq (.reg [o 21 (.bin .lss 20 19)] false)
 (.seq (.cond 21 (.skip)
 (.exit 0))
 (.seq (.block 1 (.seq (.reg [oI 22 5 18 20,
 oL 23 5 22,
 o 11 (.zero zL1),
 oS 5 11 23] false)
 (.reg [oM 24 9,
 oM 25 3,
 oL 26 5 11,
 o 27 (.call false 25 [26]),
 o 28 (.lit 3 1 [zS, zI, zI] [(0, 27)]),
 oJ 29 3 32 24 28,
 oM 9 29] false)))
 (.reg [oA 30 20,
 oM 20 30] false)))
def Q25w : IR :=
 .seq (.reg [o 5 (.box 5 1),
 o 8 (.mov (.c (.ns 3)))] false)
 (.seq (.reg [o 9 (.mov (.c (.ns 3)))] false)
 (.seq (.seq (.reg [oM 12 0,
 oM 13 0,
 oL 14 5 5,
 oM 15 2,
 oC 16 76 ([13, 14, 15]),
 oC 17 174 ([12, 16, .c (iN 4)]),
 o 18 (.field 3 1 false 17),
 oN 19 18,
 o 20 (.mov (.c zI))] false)
 (.block 0 (.loop Qlm Q1nz)))
 (.seq (.reg [oM 31 9,
 oM 8 31] false)
 (.ret))))
def K6q : IFn := ⟨4, 32, [.tmp 8], false, Q25w⟩
def Q25h : IR :=
 .seq (.reg [o 2 (.box 5 0),
 o 3 (.zero [zS, zI, zI])] false)
 (.seq (.reg [oK 4 1 1,
 oL 5 5 2,
 oD 6 89 ([4, 5, sA24]) [0, 1],
 oK 7 1 1,
 oL 8 5 2,
 oD 9 71 ([7, 8, sA35]) (rg 0 5),
 oK 10 1 1,
 oL 11 5 2,
 oD 12 71 ([10, 11, sA58]) (rg 0 8),
 ob 13 (.build [zS, zI, zI] [(0, 1, 6), (1, 1, 9), (2, 1, 12)]) (rg 0 9),
 ⟨none, none, .store 3 3 13, (rg 0 10)⟩] true)
 (.ret))
def K68 : IFn := ⟨2, 14, [.cell 3 3 true], false, Q25h⟩
def Q23a : IR :=
 .seq (.reg [o 2 (.box 5 0),
 o 4 (.mov (.c (.ns 5))),
 o 5 (.mov (.c zB))] false)
 (.seq (.reg [oL 7 5 2,
 oM 8 1,
 oC 9 203 ([7, 8]),
 o 6 (.zero zL1),
 oS 5 6 9] false)
 (.seq (.seq (.reg [oF 10 0 6,
 oK 11 1 10,
 o 12 (.bin .eql 11 (.c (iN 4)))] false)
 (.cond 12 (.seq (.reg [oF 13 3 6,
 oK 14 1 13,
 oM 4 14,
 o 5 (.mov (.c (.bool true)))] false)
 (.ret))
 (.skip)))
 (.seq (.reg [oF 15 0 6,
 oE 16 1 15 [0],
 ob 17 (.bin .eql 16 (.c zI)) [0, 1],
 o 4 (.mov (.c (.ns 5))),
 ob 5 (.mov 17) [0, 1, 2, 3]] true)
 (.ret))))
def K31 : IFn := ⟨2, 18, [.tmp 4, .tmp 5], false, Q23a⟩
def Q23c : IR :=
 .seq (.reg [o 1 (.box 5 0),
 o 2 (.mov (.c zB))] false)
 (.seq (.reg [oF 3 0 1,
 oK 4 1 3,
 o 5 (.bin .eql 4 (.c (iN 5))),
 oM 6 5,
 gF 7 6 (.faddr 0 1),
 gF 8 6 (.load 1 false 7),
 gF 9 6 (.bin .eql 8 (.c zI)),
 oQ 10 6 9,
 oM 2 10] false)
 (.ret))
def K33 : IFn := ⟨1, 11, [.tmp 2], false, Q23c⟩
def Q23f : IR :=
 .seq (.reg [o 2 (.box 5 0),
 o 4 (.mov (.c (zS))),
 o 5 (.mov (.c zB))] false)
 (.seq (.reg [oL 7 5 2,
 oM 8 1,
 oC 9 203 ([7, 8]),
 o 6 (.zero zL1),
 oS 5 6 9] false)
 (.seq (.seq (.reg [oF 10 0 6,
 oK 11 1 10,
 o 12 (.bin .eql 11 (.c (iN 3)))] false)
 (.cond 12 (.seq (.reg [oF 13 2 6,
 oK 14 1 13,
 oM 4 14,
 o 5 (.mov (.c (.bool true)))] false)
 (.ret))
 (.skip)))
 (.seq (.reg [oF 15 0 6,
 oE 16 1 15 [0],
 ob 17 (.bin .eql 16 (.c zI)) [0, 1],
 o 4 (.mov (.c (zS))),
 ob 5 (.mov 17) [0, 1, 2, 3]] true)
 (.ret))))
def K36 : IFn := ⟨2, 18, [.tmp 4, .tmp 5], false, Q23f⟩
def Qkq : List Nat := [100059, 0, 2, 3, 4]
def Q1n3 : IR :=
 .seq (.seq (.reg [oM 5 4,
 oM 6 0,
 oN 7 6,
 o 8 (.bin .lss 5 7)] false)
 (.cond 8 (.skip)
 (.exit 0)))
 (.seq (.block 1 (.reg [oM 11 3,
 oM 12 0,
 oM 13 4,
 ob 14 (.iaddr 3 12 13) [1, 2],
 ob 15 (.faddr 0 14) [1, 2, 3],
 oE 16 1 15 [1, 2, 3, 4],
 oD 17 169 ([16]) (rg 1 6),
 ob 18 (.build zL0 [(0, 1, sA24), (1, 5, 17)]) (rg 1 7),
 oM 19 0,
 oM 20 4,
 ob 21 (.iaddr 3 19 20) [8, 9],
 ob 22 (.faddr 1 21) [8, 9, 10],
 oE 23 1 22 [8, 9, 10, 11],
 oD 24 164 ([23]) (rg 1 7 ++ rg 8 13),
 ob 25 (.build zL0 [(0, 1, sA35), (1, 5, 24)]) (rg 1 7 ++ rg 8 14),
 oM 26 0,
 oM 27 4,
 ob 28 (.iaddr 3 26 27) [15, 16],
 ob 29 (.faddr 2 28) [15, 16, 17],
 oE 30 1 29 [15, 16, 17, 18],
 oD 31 164 ([30]) (rg 1 7 ++ rg 8 14 ++ rg 15 20),
 ob 32 (.build zL0 [(0, 1, sA58), (1, 5, 31)]) (rg 1 7 ++ rg 8 14 ++ rg 15 21),
 ob 33 (.lit 6 3 zL0 [(0, 18), (1, 25), (2, 32)]) (rg 1 22),
 oD 34 163 ([33]) (rg 1 23),
 ob 35 (.lit 5 1 zL1 [(0, 34)]) (rg 1 24),
 ob 36 (.append 5 80 11 35) (rg 0 25),
 ob 3 (.mov 36) (rg 0 26)] true))
 (.reg [oM 9 4,
 oA 10 9,
 oM 4 10] false))
def Q22v : IR :=
 .seq (.reg [o 2 (.zero zL1)] false)
 (.seq (.reg [o 3 (.mov (.c (.ns 5)))] false)
 (.seq (.seq (.reg [o 4 (.mov (.c zI))] false)
 (.block 0 (.loop Qkq Q1n3)))
 (.seq (.reg [oM 37 3,
 o 38 (.build zL1 [(0, 1, .c (iN 4)), (3, 1, 37)]),
 oS 5 2 38] false)
 (.ret))))
def K2m : IFn := ⟨1, 39, [.cell 2 5 true], false, Q22v⟩
def Q230 : IR :=
 .seq (.reg [o 1 (.box 3 0),
 o 2 (.zero zL1)] false)
 (.seq (.reg [oF 3 0 1,
 oE 4 1 3 [0],
 oD 5 164 ([4]) [0, 1],
 ob 6 (.build zL0 [(0, 1, sA76), (1, 5, 5)]) [0, 1, 2],
 oF 7 1 1,
 oE 8 1 7 [4],
 oD 9 164 ([8]) [0, 1, 2, 4, 5],
 ob 10 (.build zL0 [(0, 1, sA17), (1, 5, 9)]) [0, 1, 2, 4, 5, 6],
 oF 11 2 1,
 oE 12 1 11 [8],
 oD 13 164 ([12]) [0, 1, 2, 4, 5, 6, 8, 9],
 ob 14 (.build zL0 [(0, 1, sA1), (1, 5, 13)]) [0, 1, 2, 4, 5, 6, 8, 9, 10],
 ob 15 (.lit 6 3 zL0 [(0, 6), (1, 10), (2, 14)]) (rg 0 12),
 oD 16 163 ([15]) (rg 0 13),
 ⟨none, none, .store 5 2 16, (rg 0 14)⟩] true)
 (.ret))
def K2r : IFn := ⟨1, 17, [.cell 2 5 true], false, Q230⟩
def Qku : List Nat := [100060, 0, 2, 3, 4]
def Q1n7 : IR :=
 .seq (.seq (.reg [oM 5 4,
 oM 6 0,
 oN 7 6,
 o 8 (.bin .lss 5 7)] false)
 (.cond 8 (.skip)
 (.exit 0)))
 (.seq (.block 1 (.reg [oM 11 3,
 oM 12 0,
 oM 13 4,
 oI 14 1 12 13,
 oK 15 1 14,
 oC 16 169 ([15]),
 o 17 (.lit 5 1 zL1 [(0, 16)]),
 oJ 18 5 80 11 17,
 oM 3 18] false))
 (.reg [oM 9 4,
 oA 10 9,
 oM 4 10] false))
def Q236 : IR :=
 .seq (.reg [o 2 (.zero zL1)] false)
 (.seq (.reg [o 3 (.mov (.c (.ns 5)))] false)
 (.seq (.seq (.reg [o 4 (.mov (.c zI))] false)
 (.block 0 (.loop Qku Q1n7)))
 (.seq (.reg [oM 19 3,
 o 20 (.build zL1 [(0, 1, .c (iN 4)), (3, 1, 19)]),
 oS 5 2 20] false)
 (.ret))))
def K2x : IFn := ⟨1, 21, [.cell 2 5 true], false, Q236⟩
def Qkj : List Nat := [100061, 0, 2, 3, 4]
def Q1mw : IR :=
 .seq (.seq (.reg [oM 5 4,
 oM 6 0,
 oN 7 6,
 o 8 (.bin .lss 5 7)] false)
 (.cond 8 (.skip)
 (.exit 0)))
 (.seq (.block 1 (.reg [oM 11 3,
 oM 12 0,
 oM 13 4,
 ob 14 (.iaddr 2 12 13) [1, 2],
 ob 15 (.faddr 0 14) [1, 2, 3],
 oE 16 1 15 [1, 2, 3, 4],
 oD 17 169 ([16]) (rg 1 6),
 ob 18 (.build zL0 [(0, 1, sA13), (1, 5, 17)]) (rg 1 7),
 oM 19 0,
 oM 20 4,
 ob 21 (.iaddr 2 19 20) [8, 9],
 ob 22 (.faddr 1 21) [8, 9, 10],
 oE 23 1 22 [8, 9, 10, 11],
 oD 24 169 ([23]) (rg 1 7 ++ rg 8 13),
 ob 25 (.build zL0 [(0, 1, sA63), (1, 5, 24)]) (rg 1 7 ++ rg 8 14),
 ob 26 (.lit 6 2 zL0 [(0, 18), (1, 25)]) (rg 1 15),
 oD 27 163 ([26]) (rg 1 16),
 ob 28 (.lit 5 1 zL1 [(0, 27)]) (rg 1 17),
 ob 29 (.append 5 80 11 28) (rg 0 18),
 ob 3 (.mov 29) (rg 0 19)] true))
 (.reg [oM 9 4,
 oA 10 9,
 oM 4 10] false))
def Q22p : IR :=
 .seq (.reg [o 2 (.zero zL1)] false)
 (.seq (.reg [o 3 (.mov (.c (.ns 5)))] false)
 (.seq (.seq (.reg [o 4 (.mov (.c zI))] false)
 (.block 0 (.loop Qkj Q1mw)))
 (.seq (.reg [oM 30 3,
 o 31 (.build zL1 [(0, 1, .c (iN 4)), (3, 1, 30)]),
 oS 5 2 31] false)
 (.ret))))
def K2g : IFn := ⟨1, 32, [.cell 2 5 true], false, Q22p⟩
def Q22t : IR :=
 .seq (.reg [o 1 (.box 10 0),
 o 2 (.zero zL1)] false)
 (.seq (.reg [oF 3 0 1,
 oE 4 1 3 [0],
 oD 5 169 ([4]) [0, 1],
 ob 6 (.build zL0 [(0, 1, sA22), (1, 5, 5)]) [0, 1, 2],
 oF 7 1 1,
 oE 8 1 7 [4],
 oD 9 164 ([8]) [0, 1, 2, 4, 5],
 ob 10 (.build zL0 [(0, 1, sA36), (1, 5, 9)]) [0, 1, 2, 4, 5, 6],
 oF 11 2 1,
 oE 12 1 11 [8],
 oD 13 164 ([12]) [0, 1, 2, 4, 5, 6, 8, 9],
 ob 14 (.build zL0 [(0, 1, sA43), (1, 5, 13)]) [0, 1, 2, 4, 5, 6, 8, 9, 10],
 oF 15 3 1,
 oE 16 1 15 [12],
 oD 17 164 ([16]) [0, 1, 2, 4, 5, 6, 8, 9, 10, 12, 13],
 ob 18 (.build zL0 [(0, 1, sA7), (1, 5, 17)]) [0, 1, 2, 4, 5, 6, 8, 9, 10, 12, 13, 14],
 oF 19 4 1,
 oE 20 1 19 [16],
 oD 21 233 ([20]) [0, 1, 2, 4, 5, 6, 8, 9, 10, 12, 13, 14, 16, 17],
 ob 22 (.build zL0 [(0, 1, sA75), (1, 5, 21)]) [0, 1, 2, 4, 5, 6, 8, 9, 10, 12, 13, 14, 16, 17, 18],
 oF 23 5 1,
 oE 24 1 23 [20],
 oD 25 165 ([24]) [0, 1, 2, 4, 5, 6, 8, 9, 10, 12, 13, 14, 16, 17, 18, 20, 21],
 ob 26 (.build zL0 [(0, 1, sA20), (1, 5, 25)]) [0, 1, 2, 4, 5, 6, 8, 9, 10, 12, 13, 14, 16, 17, 18, 20, 21, 22],
 oF 27 6 1,
 oE 28 1 27 [24],
 oD 29 234 ([28]) [0, 1, 2, 4, 5, 6, 8, 9, 10, 12, 13, 14, 16, 17, 18, 20, 21, 22, 24, 25],
 ob 30 (.build zL0 [(0, 1, sA21), (1, 5, 29)]) [0, 1, 2, 4, 5, 6, 8, 9, 10, 12, 13, 14, 16, 17, 18, 20, 21, 22, 24, 25, 26],
 oF 31 7 1,
 oE 32 1 31 [28],
 oD 33 235 ([32]) [0, 1, 2, 4, 5, 6, 8, 9, 10, 12, 13, 14, 16, 17, 18, 20, 21, 22, 24, 25, 26, 28, 29],
 ob 34 (.build zL0 [(0, 1, sA32), (1, 5, 33)]) [0, 1, 2, 4, 5, 6, 8, 9, 10, 12, 13, 14, 16, 17, 18, 20, 21, 22, 24, 25, 26, 28, 29, 30],
 oF 35 8 1,
 oE 36 1 35 [32],
 oD 37 236 ([36]) [0, 1, 2, 4, 5, 6, 8, 9, 10, 12, 13, 14, 16, 17, 18, 20, 21, 22, 24, 25, 26, 28, 29, 30, 32, 33],
 ob 38 (.build zL0 [(0, 1, sA50), (1, 5, 37)]) [0, 1, 2, 4, 5, 6, 8, 9, 10, 12, 13, 14, 16, 17, 18, 20, 21, 22, 24, 25, 26, 28, 29, 30, 32, 33, 34],
 oF 39 9 1,
 oE 40 1 39 [36],
 oD 41 237 ([40]) [0, 1, 2, 4, 5, 6, 8, 9, 10, 12, 13, 14, 16, 17, 18, 20, 21, 22, 24, 25, 26, 28, 29, 30, 32, 33, 34, 36, 37],
 ob 42 (.build zL0 [(0, 1, sA56), (1, 5, 41)]) [0, 1, 2, 4, 5, 6, 8, 9, 10, 12, 13, 14, 16, 17, 18, 20, 21, 22, 24, 25, 26, 28, 29, 30, 32, 33, 34, 36, 37, 38],
 ob 43 (.lit 6 10 zL0 [(0, 6), (1, 10), (2, 14), (3, 18), (4, 22), (5, 26), (6, 30), (7, 34), (8, 38), (9, 42)]) (rg 0 40),
 oD 44 163 ([43]) (rg 0 41),
 ⟨none, none, .store 5 2 44, (rg 0 42)⟩] true)
 (.ret))
def K2k : IFn := ⟨1, 45, [.cell 2 5 true], false, Q22t⟩
def Ko_c : IR :=
 .seq (.reg [o 3 (.box 5 1),
 o 4 (.zero zL1)] false)
 (.seq (.reg [oM 5 0,
 oM 6 0,
 o 7 (.nilck 6),
 oF 8 0 7,
 oK 9 1 8,
 oM 10 9,
 gF 11 10 (.faddr 0 3),
 gF 12 10 (.load 1 false 11),
 gF 13 10 (.bin .neq 12 (.c (iN 5))),
 gF 14 10 (.mov 13),
 gT 15 14 (.faddr 0 3),
 gT 16 14 (.load 1 false 15),
 gT 17 14 (.bin .neq 16 (.c zI)),
 gF 18 10 (.pick 14 17 (.c zB)),
 oQ 19 10 18,
 o 20 (.nilck 5),
 oF 21 0 20,
 oS 1 21 19] false)
 (.seq (.reg [oL 22 5 3,
 oS 5 4 22] false)
 (.ret)))
def Ko : IFn := ⟨2, 23, [.cell 4 5 true], false, Ko_c⟩
def Qqr : List Nat := [100062, 3, 9, 16, 17, 18]
def Q1v0 : IR :=
 .seq (.reg [o 19 (.bin .lss 18 17)] false)
 (.seq (.cond 19 (.skip)
 (.exit 0))
 (.seq (.block 1 (.seq (.reg [oI 20 5 16 18,
 oL 21 5 20,
 o 11 (.zero zL1),
 oS 5 11 21] false)
 (.reg [oM 22 9,
 oM 23 3,
 oL 24 5 11,
 o 25 (.call false 23 [24]),
 o 26 (.lit 2 1 [zS, zS] [(0, 25)]),
 oJ 27 2 32 22 26,
 oM 9 27] false)))
 (.reg [oA 28 18,
 oM 18 28] false)))
def Ks_c : IR :=
 .seq (.reg [o 5 (.box 5 1),
 o 8 (.mov (.c (.ns 2)))] false)
 (.seq (.reg [o 9 (.mov (.c (.ns 2)))] false)
 (.seq (.seq (.reg [oM 12 0,
 oL 13 5 5,
 oM 14 2,
 oC 15 238 ([12, 13, 14, .c (iN 4)]),
 o 16 (.field 3 1 false 15),
 oN 17 16,
 o 18 (.mov (.c zI))] false)
 (.block 0 (.loop Qqr Q1v0)))
 (.seq (.reg [oM 29 9,
 oM 8 29] false)
 (.ret))))
def Ks : IFn := ⟨4, 30, [.tmp 8], false, Ks_c⟩
def Ke_c : IR :=
 .seq (.reg [o 3 (.box 5 1),
 o 4 (.zero [zS, zS])] false)
 (.seq (.reg [oM 5 0,
 oL 6 5 3,
 oC 7 215 ([5, 6])] false)
 (.seq (.reg [oM 8 0,
 oL 9 5 3,
 oD 10 239 ([8, 9, sA13]) [0, 1],
 oM 11 0,
 oL 12 5 3,
 oD 13 239 ([11, 12, sA63]) (rg 0 5),
 ob 14 (.build [zS, zS] [(0, 1, 10), (1, 1, 13)]) (rg 0 6),
 ⟨none, none, .store 2 4 14, (rg 0 7)⟩] true)
 (.ret)))
def Ke : IFn := ⟨2, 15, [.cell 4 2 true], false, Ke_c⟩
def Kl_c : IR :=
 .seq (.reg [o 3 (.box 5 1),
 o 4 (.zero zL11)] false)
 (.seq (.reg [oM 5 0,
 oL 6 5 3,
 oC 7 215 ([5, 6])] false)
 (.seq (.reg [oM 8 0,
 oL 9 5 3,
 oD 10 239 ([8, 9, sA22]) [0, 1],
 oM 11 0,
 oL 12 5 3,
 oD 13 240 ([11, 12, sA36]) (rg 0 5),
 oM 14 0,
 oL 15 5 3,
 oD 16 240 ([14, 15, sA43]) (rg 0 8),
 oM 17 0,
 oL 18 5 3,
 oD 19 240 ([17, 18, sA7]) (rg 0 11),
 oM 20 0,
 oL 21 5 3,
 oM 22 0,
 ob 23 (.mkfn 242 [22] []) [14],
 oD 24 241 ([20, 21, sA75, 23]) (rg 0 16),
 oM 25 0,
 oL 26 5 3,
 oM 27 0,
 ob 28 (.mkfn 244 [27] []) [19],
 oD 29 243 ([25, 26, sA20, 28]) (rg 0 21),
 oM 30 0,
 oL 31 5 3,
 oM 32 0,
 ob 33 (.mkfn 246 [32] []) [24],
 oD 34 245 ([30, 31, sA21, 33]) (rg 0 26),
 oM 35 0,
 oL 36 5 3,
 oM 37 0,
 ob 38 (.mkfn 248 [37] []) [29],
 oD 39 247 ([35, 36, sA32, 38]) (rg 0 31),
 oM 40 0,
 oL 41 5 3,
 oM 42 0,
 ob 43 (.mkfn 250 [42] []) [34],
 oD 44 249 ([40, 41, sA50, 43]) (rg 0 36),
 oM 45 0,
 oL 46 5 3,
 oM 47 0,
 ob 48 (.mkfn 252 [47] []) [39],
 oD 49 251 ([45, 46, sA56, 48]) (rg 0 41),
 ob 50 (.build zL11 [(0, 1, 10), (1, 1, 13), (2, 1, 16), (3, 1, 19), (4, 1, 24), (5, 1, 29), (6, 1, 34), (7, 1, 39), (8, 1, 44), (9, 1, 49)]) (rg 0 42),
 ⟨none, none, .store 10 4 50, (rg 0 43)⟩] true)
 (.ret)))
def Kl : IFn := ⟨2, 51, [.cell 4 10 true], false, Kl_c⟩
def Kp_c : IR :=
 .seq (.reg [o 4 (.box 5 1),
 o 6 (.zero zL1)] false)
 (.seq (.reg [oM 7 0,
 oL 8 5 4,
 oM 9 2,
 oC 10 238 ([7, 8, 9, .c (iN 5)]),
 oS 5 6 10] false)
 (.ret))
def Kp : IFn := ⟨3, 11, [.cell 6 5 true], false, Kp_c⟩
def Q13e : List Nat := [100065, 0, 1, 2, 6, 7, 8]
def Q1ux : IR :=
 .seq (.seq (.reg [oM 33 8,
 oM 34 1,
 o 35 (.bin .leq 33 34)] false)
 (.cond 35 (.skip)
 (.exit 4)))
 (.block 5 (.seq (.reg [oM 36 0,
 oM 37 7,
 oM 38 7,
 oM 39 6,
 o 40 (.bin .add 38 39),
 oM 41 8,
 oM 42 2,
 oC 43 254 ([36, 37, 40, 41, 42])] false)
 (.seq (.reg [oM 44 8,
 oM 7 44] false)
 (.reg [oM 45 8,
 oM 46 6,
 o 47 (.bin .mul (.c (iN 2)) 46),
 o 48 (.bin .add 45 47),
 oM 8 48] false))))
def Q13d : List Nat := [100064, 0, 1, 2, 6]
def Q1uw : IR :=
 .seq (.seq (.reg [oM 28 6,
 oM 29 1,
 o 30 (.bin .lss 28 29)] false)
 (.cond 30 (.skip)
 (.exit 2)))
 (.block 3 (.seq (.reg [oM 31 6,
 o 32 (.bin .mul (.c (iN 2)) 31),
 o 7 (.mov (.c zI)),
 oM 8 32] false)
 (.seq (.block 4 (.loop Q13e Q1ux))
 (.seq (.seq (.reg [oM 49 7,
 oM 50 6,
 o 51 (.bin .add 49 50),
 oM 9 51] false)
 (.seq (.reg [oM 52 9,
 oM 53 1,
 o 54 (.bin .lss 52 53)] false)
 (.cond 54 (.reg [oM 55 0,
 oM 56 7,
 oM 57 9,
 oM 58 1,
 oM 59 2,
 oC 60 254 ([55, 56, 57, 58, 59])] false)
 (.skip))))
 (.reg [oM 61 6,
 o 62 (.bin .mul 61 (.c (iN 2))),
 oM 6 62] false)))))
def Q13c : List Nat := [100063, 0, 1, 2, 6, 7, 8]
def Q1uv : IR :=
 .seq (.seq (.reg [oM 11 8,
 oM 12 1,
 o 13 (.bin .leq 11 12)] false)
 (.cond 13 (.skip)
 (.exit 0)))
 (.block 1 (.seq (.reg [oM 14 0,
 oM 15 7,
 oM 16 8,
 oM 17 2,
 o 18 (.call true (.f 253) [14, 15, 16, 17])] false)
 (.seq (.reg [oM 19 8,
 oM 7 19] false)
 (.reg [oM 20 8,
 oM 21 6,
 o 22 (.bin .add 20 21),
 oM 8 22] false))))
def Q24r : IR :=
 .seq (.reg [o 6 (.mov (.c (iN 20)))] false)
 (.seq (.reg [oM 10 6,
 o 7 (.mov (.c zI)),
 oM 8 10] false)
 (.seq (.block 0 (.loop Q13c Q1uv))
 (.seq (.reg [oM 23 0,
 oM 24 7,
 oM 25 1,
 oM 26 2,
 o 27 (.call true (.f 253) [23, 24, 25, 26])] false)
 (.block 2 (.loop Q13d Q1uw)))))
def K4u : IFn := ⟨3, 63, [], false, Q24r⟩
def Q22b : IR :=
 .seq (.reg [o 4 (.mov (.c zI))] false)
 (.seq (.seq (.reg [oM 5 0] false)
 (.cond 5 (.seq (.reg [o 4 (.mov (.c (iN (-1))))] false)
 (.ret))
 (.skip)))
 (.seq (.seq (.reg [oM 6 1] false)
 (.cond 6 (.seq (.reg [o 4 (.mov (.c (iN 1)))] false)
 (.ret))
 (.skip)))
 (.seq (.reg [o 4 (.mov (.c zI))] false)
 (.ret))))
def K1t : IFn := ⟨2, 7, [.tmp 4], false, Q22b⟩
def Qky : List Nat := [100069, 6, 7, 8, 9]
def Q1nb : IR :=
 .seq (.seq (.reg [oM 16 9,
 oM 17 6,
 oN 18 17,
 o 19 (.bin .lss 16 18)] false)
 (.cond 19 (.skip)
 (.exit 0)))
 (.seq (.block 1 (.seq (.reg [oM 22 8,
 oM 23 6,
 oM 24 9,
 oI 25 5 23 24,
 oF 26 2 25,
 oK 27 1 26,
 o 28 (.lit 1 1 [zS] [(0, 27)]),
 oJ 29 1 16 22 28,
 oM 8 29] false)
 (.seq (.reg [oM 30 7,
 oM 31 30,
 gT 32 31 (.mov 6),
 gT 33 31 (.mov 9),
 gT 34 31 (.iaddr 5 32 33),
 gT 35 31 (.faddr 0 34),
 gT 36 31 (.load 1 false 35),
 gT 37 31 (.bin .eql 36 (.c (iN 3))),
 gT 38 31 (.mov 37),
 gF 39 38 (.mov 6),
 gF 40 38 (.mov 9),
 gF 41 38 (.iaddr 5 39 40),
 gF 42 38 (.faddr 0 41),
 gF 43 38 (.load 1 false 42),
 gF 44 38 (.bin .eql 43 (.c zI)),
 gT 45 31 (.pick 38 (.c (.bool true)) 44),
 oP 46 31 45,
 oM 7 46] false)
 (.seq (.reg [oM 47 6,
 oM 48 9,
 oI 49 5 47 48,
 oF 50 0 49,
 oK 51 1 50,
 o 52 (.bin .eql 51 (.c zI))] false)
 (.cond 52 (.reg [oM 53 8,
 oM 54 9,
 oI 55 1 53 54,
 ⟨none, none, .store 1 55 (.c (zS)), []⟩] false)
 (.skip))))))
 (.reg [oM 20 9,
 oA 21 20,
 oM 9 21] false))
def Q23g : IR :=
 .seq (.reg [o 2 (.box 5 0),
 o 4 (.mov (.c (.ns 1))),
 o 5 (.mov (.c zB))] false)
 (.seq (.reg [oL 11 5 2,
 oM 12 1,
 oC 13 207 ([11, 12]),
 oM 10 13,
 oX 14 10 0,
 oX 15 10 1,
 oM 6 14,
 oM 7 15] false)
 (.seq (.reg [o 8 (.mov (.c (.ns 1)))] false)
 (.seq (.seq (.reg [o 9 (.mov (.c zI))] false)
 (.block 0 (.loop Qky Q1nb)))
 (.seq (.reg [oM 56 8,
 oM 57 7,
 oM 4 56,
 oM 5 57] false)
 (.ret)))))
def K37 : IFn := ⟨2, 58, [.tmp 4, .tmp 5], false, Q23g⟩
def Qkz : List Nat := [100070, 1, 2, 4, 5, 26]
def Q1nc : IR :=
 .seq (.seq (.reg [oM 119 26,
 o 120 (.bin .lss 119 (.c (iN 10)))] false)
 (.cond 120 (.skip)
 (.exit 0)))
 (.seq (.block 1 (.seq (.reg [oM 123 26,
 o 124 (.aaddr 10 1 5 123),
 oK 125 1 124,
 oU 126 125] false)
 (.cond 126 (.seq (.reg [o 127 (.build zL11 []),
 oS 10 2 127,
 o 3 (.mov (.c zB))] false)
 (.ret))
 (.skip))))
 (.reg [oM 121 26,
 oA 122 121,
 oM 26 122] false))
def Q23h : IR :=
 .seq (.reg [o 1 (.box 5 0),
 o 2 (.zero zL11),
 o 3 (.mov (.c zB))] false)
 (.seq (.reg [o 27 (.build zL11 []),
 o 4 (.zero zL11),
 oS 10 4 27] false)
 (.seq (.reg [o 28 (.bzero zL14),
 o 5 (.zero zL14),
 oS 10 5 28] false)
 (.seq (.reg [oL 30 5 1,
 oC 31 269 ([30]),
 oM 29 31,
 oX 32 29 0,
 oX 33 29 1,
 oM 6 32,
 oM 7 33] false)
 (.seq (.reg [oM 34 6,
 oF 35 4 4,
 oS 1 35 34] false)
 (.seq (.reg [oM 36 7,
 o 37 (.aaddr 10 1 5 (.c zI)),
 oS 1 37 36] false)
 (.seq (.reg [oL 39 5 1,
 oC 40 200 ([39, sA7]),
 oM 38 40,
 oX 41 38 0,
 oX 42 38 1,
 oM 8 41,
 oM 9 42] false)
 (.seq (.reg [oM 43 8,
 oF 44 3 4,
 oS 1 44 43] false)
 (.seq (.reg [oM 45 9,
 o 46 (.aaddr 10 1 5 (.c (iN 1))),
 oS 1 46 45] false)
 (.seq (.reg [oL 48 5 1,
 oC 49 209 ([48, sA22]),
 oM 47 49,
 oX 50 47 0,
 oX 51 47 1,
 oM 10 50,
 oM 11 51] false)
 (.seq (.reg [oM 52 10,
 oF 53 0 4,
 oS 1 53 52] false)
 (.seq (.reg [oM 54 11,
 o 55 (.aaddr 10 1 5 (.c (iN 2))),
 oS 1 55 54] false)
 (.seq (.reg [oL 57 5 1,
 oC 58 201 ([57, sA20]),
 oM 56 58,
 oX 59 56 0,
 oX 60 56 1,
 oM 12 59,
 oM 13 60] false)
 (.seq (.reg [oM 61 12,
 oF 62 5 4,
 oS 1 62 61] false)
 (.seq (.reg [oM 63 13,
 o 64 (.aaddr 10 1 5 (.c (iN 3))),
 oS 1 64 63] false)
 (.seq (.reg [oL 66 5 1,
 oC 67 270 ([66]),
 oM 65 67,
 oX 68 65 0,
 oX 69 65 1,
 oM 14 68,
 oM 15 69] false)
 (.seq (.reg [oM 70 14,
 oF 71 6 4,
 oS 1 71 70] false)
 (.seq (.reg [oM 72 15,
 o 73 (.aaddr 10 1 5 (.c (iN 4))),
 oS 1 73 72] false)
 (.seq (.reg [oL 75 5 1,
 oC 76 271 ([75]),
 oM 74 76,
 oX 77 74 0,
 oX 78 74 1,
 oM 16 77,
 oM 17 78] false)
 (.seq (.reg [oM 79 16,
 oF 80 7 4,
 oS 1 80 79] false)
 (.seq (.reg [oM 81 17,
 o 82 (.aaddr 10 1 5 (.c (iN 5))),
 oS 1 82 81] false)
 (.seq (.reg [oL 84 5 1,
 oC 85 200 ([84, sA36]),
 oM 83 85,
 oX 86 83 0,
 oX 87 83 1,
 oM 18 86,
 oM 19 87] false)
 (.seq (.reg [oM 88 18,
 oF 89 1 4,
 oS 1 89 88] false)
 (.seq (.reg [oM 90 19,
 o 91 (.aaddr 10 1 5 (.c (iN 6))),
 oS 1 91 90] false)
 (.seq (.reg [oL 93 5 1,
 oC 94 200 ([93, sA43]),
 oM 92 94,
 oX 95 92 0,
 oX 96 92 1,
 oM 20 95,
 oM 21 96] false)
 (.seq (.reg [oM 97 20,
 oF 98 2 4,
 oS 1 98 97] false)
 (.seq (.reg [oM 99 21,
 o 100 (.aaddr 10 1 5 (.c (iN 7))),
 oS 1 100 99] false)
 (.seq (.reg [oL 102 5 1,
 oC 103 272 ([102]),
 oM 101 103,
 oX 104 101 0,
 oX 105 101 1,
 oM 22 104,
 oM 23 105] false)
 (.seq (.reg [oM 106 22,
 oF 107 8 4,
 oS 1 107 106] false)
 (.seq (.reg [oM 108 23,
 o 109 (.aaddr 10 1 5 (.c (iN 8))),
 oS 1 109 108] false)
 (.seq (.reg [oL 111 5 1,
 oC 112 273 ([111]),
 oM 110 112,
 oX 113 110 0,
 oX 114 110 1,
 oM 24 113,
 oM 25 114] false)
 (.seq (.reg [oM 115 24,
 oF 116 9 4,
 oS 1 116 115] false)
 (.seq (.reg [oM 117 25,
 o 118 (.aaddr 10 1 5 (.c (iN 9))),
 oS 1 118 117] false)
 (.seq (.seq (.reg [o 26 (.mov (.c zI))] false)
 (.block 0 (.loop Qkz Q1nc)))
 (.seq (.reg [oL 128 10 4,
 oL 129 5 1,
 oD 130 208 ([129]) [1],
 ⟨none, none, .store 10 2 128, [0, 1, 2]⟩,
 ob 3 (.mov 130) [0, 1, 2, 3]] true)
 (.ret)))))))))))))))))))))))))))))))))))
def K38 : IFn := ⟨1, 131, [.cell 2 10 true, .tmp 3], false, Q23h⟩
def Qkg : List Nat := [100071, 0, 2, 3, 4]
def Q1mt : IR :=
 .seq (.seq (.reg [oM 6 4,
 oM 7 0,
 oN 8 7,
 o 9 (.bin .lss 6 8)] false)
 (.cond 9 (.skip)
 (.exit 0)))
 (.seq (.block 1 (.seq (.reg [oM 12 0,
 oM 13 4,
 oI 14 11 12 13,
 oL 15 11 14,
 o 5 (.zero zL10),
 oS 11 5 15] false)
 (.reg [oM 16 3,
 oF 17 0 5,
 oE 18 1 17 [1],
 oD 19 169 ([18]) [1, 2],
 ob 20 (.build zL0 [(0, 1, sA24), (1, 5, 19)]) [1, 2, 3],
 oF 21 1 5,
 oE 22 1 21 [5],
 oD 23 169 ([22]) [1, 2, 3, 5, 6],
 ob 24 (.build zL0 [(0, 1, sA10), (1, 5, 23)]) [1, 2, 3, 5, 6, 7],
 oF 25 2 5,
 ob 26 (.load 3 true 25) [9],
 oD 27 211 ([26]) [1, 2, 3, 5, 6, 7, 9, 10],
 ob 28 (.build zL0 [(0, 1, sA41), (1, 5, 27)]) [1, 2, 3, 5, 6, 7, 9, 10, 11],
 oF 29 5 5,
 ob 30 (.load 3 true 29) [13],
 oD 31 211 ([30]) [1, 2, 3, 5, 6, 7, 9, 10, 11, 13, 14],
 ob 32 (.build zL0 [(0, 1, sA14), (1, 5, 31)]) [1, 2, 3, 5, 6, 7, 9, 10, 11, 13, 14, 15],
 oF 33 8 5,
 oE 34 1 33 [17],
 oD 35 274 ([34]) [1, 2, 3, 5, 6, 7, 9, 10, 11, 13, 14, 15, 17, 18],
 ob 36 (.build zL0 [(0, 1, sA15), (1, 5, 35)]) [1, 2, 3, 5, 6, 7, 9, 10, 11, 13, 14, 15, 17, 18, 19],
 oF 37 9 5,
 oE 38 1 37 [21],
 oD 39 274 ([38]) [1, 2, 3, 5, 6, 7, 9, 10, 11, 13, 14, 15, 17, 18, 19, 21, 22],
 ob 40 (.build zL0 [(0, 1, sA45), (1, 5, 39)]) [1, 2, 3, 5, 6, 7, 9, 10, 11, 13, 14, 15, 17, 18, 19, 21, 22, 23],
 oF 41 10 5,
 oE 42 1 41 [25],
 oD 43 274 ([42]) [1, 2, 3, 5, 6, 7, 9, 10, 11, 13, 14, 15, 17, 18, 19, 21, 22, 23, 25, 26],
 ob 44 (.build zL0 [(0, 1, sA52), (1, 5, 43)]) [1, 2, 3, 5, 6, 7, 9, 10, 11, 13, 14, 15, 17, 18, 19, 21, 22, 23, 25, 26, 27],
 ob 45 (.lit 6 7 zL0 [(0, 20), (1, 24), (2, 28), (3, 32), (4, 36), (5, 40), (6, 44)]) (rg 1 29),
 oD 46 163 ([45]) (rg 1 30),
 ob 47 (.lit 5 1 zL1 [(0, 46)]) (rg 1 31),
 ob 48 (.append 5 80 16 47) (rg 0 32),
 ob 3 (.mov 48) (rg 0 33)] true)))
 (.reg [oM 10 4,
 oA 11 10,
 oM 4 11] false))
def Q22k : IR :=
 .seq (.reg [o 2 (.zero zL1)] false)
 (.seq (.reg [o 3 (.mov (.c (.ns 5)))] false)
 (.seq (.seq (.reg [o 4 (.mov (.c zI))] false)
 (.block 0 (.loop Qkg Q1mt)))
 (.seq (.reg [oM 49 3,
 o 50 (.build zL1 [(0, 1, .c (iN 4)), (3, 1, 49)]),
 oS 5 2 50] false)
 (.ret))))
def K27 : IFn := ⟨1, 51, [.cell 2 5 true], false, Q22k⟩
def Qko : List Nat := [100072, 0, 2, 3, 4]
def Q1n1 : IR :=
 .seq (.seq (.reg [oM 5 4,
 oM 6 0,
 oN 7 6,
 o 8 (.bin .lss 5 7)] false)
 (.cond 8 (.skip)
 (.exit 0)))
 (.seq (.block 1 (.reg [oM 11 3,
 oM 12 0,
 oM 13 4,
 ob 14 (.iaddr 3 12 13) [1, 2],
 ob 15 (.faddr 0 14) [1, 2, 3],
 oE 16 1 15 [1, 2, 3, 4],
 oD 17 167 ([16]) (rg 1 6),
 ob 18 (.build zL0 [(0, 1, sA42), (1, 5, 17)]) (rg 1 7),
 oM 19 0,
 oM 20 4,
 ob 21 (.iaddr 3 19 20) [8, 9],
 ob 22 (.faddr 1 21) [8, 9, 10],
 oE 23 1 22 [8, 9, 10, 11],
 oD 24 165 ([23]) (rg 1 7 ++ rg 8 13),
 ob 25 (.build zL0 [(0, 1, sA47), (1, 5, 24)]) (rg 1 7 ++ rg 8 14),
 oM 26 0,
 oM 27 4,
 ob 28 (.iaddr 3 26 27) [15, 16],
 ob 29 (.faddr 2 28) [15, 16, 17],
 oE 30 1 29 [15, 16, 17, 18],
 oD 31 164 ([30]) (rg 1 7 ++ rg 8 14 ++ rg 15 20),
 ob 32 (.build zL0 [(0, 1, sA64), (1, 5, 31)]) (rg 1 7 ++ rg 8 14 ++ rg 15 21),
 ob 33 (.lit 6 3 zL0 [(0, 18), (1, 25), (2, 32)]) (rg 1 22),
 oD 34 163 ([33]) (rg 1 23),
 ob 35 (.lit 5 1 zL1 [(0, 34)]) (rg 1 24),
 ob 36 (.append 5 80 11 35) (rg 0 25),
 ob 3 (.mov 36) (rg 0 26)] true))
 (.reg [oM 9 4,
 oA 10 9,
 oM 4 10] false))
def Q22s : IR :=
 .seq (.reg [o 2 (.zero zL1)] false)
 (.seq (.reg [o 3 (.mov (.c (.ns 5)))] false)
 (.seq (.seq (.reg [o 4 (.mov (.c zI))] false)
 (.block 0 (.loop Qko Q1n1)))
 (.seq (.reg [oM 37 3,
 o 38 (.build zL1 [(0, 1, .c (iN 4)), (3, 1, 37)]),
 oS 5 2 38] false)
 (.ret))))
def K2j : IFn := ⟨1, 39, [.cell 2 5 true], false, Q22s⟩
def Qkp : List Nat := [100073, 0, 2, 3, 4]
def Q1n2 : IR :=
 .seq (.seq (.reg [oM 6 4,
 oM 7 0,
 oN 8 7,
 o 9 (.bin .lss 6 8)] false)
 (.cond 9 (.skip)
 (.exit 0)))
 (.seq (.block 1 (.seq (.reg [oM 12 0,
 oM 13 4,
 oI 14 5 12 13,
 oL 15 5 14,
 o 5 (.zero [zB, zB, .ns 3, zS, zI]),
 oS 5 5 15] false)
 (.reg [oM 16 3,
 oF 17 0 5,
 oE 18 1 17 [1],
 oD 19 167 ([18]) [1, 2],
 ob 20 (.build zL0 [(0, 1, sA42), (1, 5, 19)]) [1, 2, 3],
 oF 21 1 5,
 oE 22 1 21 [5],
 oD 23 167 ([22]) [1, 2, 3, 5, 6],
 ob 24 (.build zL0 [(0, 1, sA73), (1, 5, 23)]) [1, 2, 3, 5, 6, 7],
 oF 25 2 5,
 oE 26 1 25 [9],
 oD 27 165 ([26]) [1, 2, 3, 5, 6, 7, 9, 10],
 ob 28 (.build zL0 [(0, 1, sA47), (1, 5, 27)]) [1, 2, 3, 5, 6, 7, 9, 10, 11],
 oF 29 3 5,
 oE 30 1 29 [13],
 oD 31 169 ([30]) [1, 2, 3, 5, 6, 7, 9, 10, 11, 13, 14],
 ob 32 (.build zL0 [(0, 1, sA57), (1, 5, 31)]) [1, 2, 3, 5, 6, 7, 9, 10, 11, 13, 14, 15],
 oF 33 4 5,
 oE 34 1 33 [17],
 oD 35 164 ([34]) [1, 2, 3, 5, 6, 7, 9, 10, 11, 13, 14, 15, 17, 18],
 ob 36 (.build zL0 [(0, 1, sA64), (1, 5, 35)]) [1, 2, 3, 5, 6, 7, 9, 10, 11, 13, 14, 15, 17, 18, 19],
 ob 37 (.lit 6 5 zL0 [(0, 20), (1, 24), (2, 28), (3, 32), (4, 36)]) (rg 1 21),
 oD 38 163 ([37]) (rg 1 22),
 ob 39 (.lit 5 1 zL1 [(0, 38)]) (rg 1 23),
 ob 40 (.append 5 80 16 39) (rg 0 24),
 ob 3 (.mov 40) (rg 0 25)] true)))
 (.reg [oM 10 4,
 oA 11 10,
 oM 4 11] false))
def Q22u : IR :=
 .seq (.reg [o 2 (.zero zL1)] false)
 (.seq (.reg [o 3 (.mov (.c (.ns 5)))] false)
 (.seq (.seq (.reg [o 4 (.mov (.c zI))] false)
 (.block 0 (.loop Qkp Q1n2)))
 (.seq (.reg [oM 41 3,
 o 42 (.build zL1 [(0, 1, .c (iN 4)), (3, 1, 41)]),
 oS 5 2 42] false)
 (.ret))))
def K2l : IFn := ⟨1, 43, [.cell 2 5 true], false, Q22u⟩
def Qkt : List Nat := [100074, 0, 2, 3, 4]
def Q1n6 : IR :=
 .seq (.seq (.reg [oM 6 4,
 oM 7 0,
 oN 8 7,
 o 9 (.bin .lss 6 8)] false)
 (.cond 9 (.skip)
 (.exit 0)))
 (.seq (.block 1 (.seq (.reg [oM 12 0,
 oM 13 4,
 oI 14 4 12 13,
 oL 15 4 14,
 o 5 (.zero [zI, zS, .ns 3, zB]),
 oS 4 5 15] false)
 (.reg [oM 16 3,
 oF 17 0 5,
 oE 18 1 17 [1],
 oD 19 164 ([18]) [1, 2],
 ob 20 (.build zL0 [(0, 1, sA19), (1, 5, 19)]) [1, 2, 3],
 oF 21 1 5,
 oE 22 1 21 [5],
 oD 23 169 ([22]) [1, 2, 3, 5, 6],
 ob 24 (.build zL0 [(0, 1, sA57), (1, 5, 23)]) [1, 2, 3, 5, 6, 7],
 oF 25 2 5,
 oE 26 1 25 [9],
 oD 27 165 ([26]) [1, 2, 3, 5, 6, 7, 9, 10],
 ob 28 (.build zL0 [(0, 1, sA47), (1, 5, 27)]) [1, 2, 3, 5, 6, 7, 9, 10, 11],
 oF 29 3 5,
 oE 30 1 29 [13],
 oD 31 167 ([30]) [1, 2, 3, 5, 6, 7, 9, 10, 11, 13, 14],
 ob 32 (.build zL0 [(0, 1, sA42), (1, 5, 31)]) [1, 2, 3, 5, 6, 7, 9, 10, 11, 13, 14, 15],
 ob 33 (.lit 6 4 zL0 [(0, 20), (1, 24), (2, 28), (3, 32)]) (rg 1 17),
 oD 34 163 ([33]) (rg 1 18),
 ob 35 (.lit 5 1 zL1 [(0, 34)]) (rg 1 19),
 ob 36 (.append 5 80 16 35) (rg 0 20),
 ob 3 (.mov 36) (rg 0 21)] true)))
 (.reg [oM 10 4,
 oA 11 10,
 oM 4 11] false))
def Q233 : IR :=
 .seq (.reg [o 2 (.zero zL1)] false)
 (.seq (.reg [o 3 (.mov (.c (.ns 5)))] false)
 (.seq (.seq (.reg [o 4 (.mov (.c zI))] false)
 (.block 0 (.loop Qkt Q1n6)))
 (.seq (.reg [oM 37 3,
 o 38 (.build zL1 [(0, 1, .c (iN 4)), (3, 1, 37)]),
 oS 5 2 38] false)
 (.ret))))
def K2u : IFn := ⟨1, 39, [.cell 2 5 true], false, Q233⟩
def Qkv : List Nat := [100075, 0, 2, 3, 4]
def Q1n8 : IR :=
 .seq (.seq (.reg [oM 6 4,
 oM 7 0,
 oN 8 7,
 o 9 (.bin .lss 6 8)] false)
 (.cond 9 (.skip)
 (.exit 0)))
 (.seq (.block 1 (.seq (.reg [oM 12 0,
 oM 13 4,
 oI 14 5 12 13,
 oL 15 5 14,
 o 5 (.zero [zS, zS, zB, zI, zI]),
 oS 5 5 15] false)
 (.reg [oM 16 3,
 oF 17 0 5,
 oE 18 1 17 [1],
 oD 19 169 ([18]) [1, 2],
 ob 20 (.build zL0 [(0, 1, sA13), (1, 5, 19)]) [1, 2, 3],
 oF 21 1 5,
 oE 22 1 21 [5],
 oD 23 169 ([22]) [1, 2, 3, 5, 6],
 ob 24 (.build zL0 [(0, 1, sA63), (1, 5, 23)]) [1, 2, 3, 5, 6, 7],
 oF 25 2 5,
 oE 26 1 25 [9],
 oD 27 167 ([26]) [1, 2, 3, 5, 6, 7, 9, 10],
 ob 28 (.build zL0 [(0, 1, sA4), (1, 5, 27)]) [1, 2, 3, 5, 6, 7, 9, 10, 11],
 oF 29 3 5,
 oE 30 1 29 [13],
 oD 31 164 ([30]) [1, 2, 3, 5, 6, 7, 9, 10, 11, 13, 14],
 ob 32 (.build zL0 [(0, 1, sA2), (1, 5, 31)]) [1, 2, 3, 5, 6, 7, 9, 10, 11, 13, 14, 15],
 oF 33 4 5,
 oE 34 1 33 [17],
 oD 35 164 ([34]) [1, 2, 3, 5, 6, 7, 9, 10, 11, 13, 14, 15, 17, 18],
 ob 36 (.build zL0 [(0, 1, sA48), (1, 5, 35)]) [1, 2, 3, 5, 6, 7, 9, 10, 11, 13, 14, 15, 17, 18, 19],
 ob 37 (.lit 6 5 zL0 [(0, 20), (1, 24), (2, 28), (3, 32), (4, 36)]) (rg 1 21),
 oD 38 163 ([37]) (rg 1 22),
 ob 39 (.lit 5 1 zL1 [(0, 38)]) (rg 1 23),
 ob 40 (.append 5 80 16 39) (rg 0 24),
 ob 3 (.mov 40) (rg 0 25)] true)))
 (.reg [oM 10 4,
 oA 11 10,
 oM 4 11] false))
def Q238 : IR :=
 .seq (.reg [o 2 (.zero zL1)] false)
 (.seq (.reg [o 3 (.mov (.c (.ns 5)))] false)
 (.seq (.seq (.reg [o 4 (.mov (.c zI))] false)
 (.block 0 (.loop Qkv Q1n8)))
 (.seq (.reg [oM 41 3,
 o 42 (.build zL1 [(0, 1, .c (iN 4)), (3, 1, 41)]),
 oS 5 2 42] false)
 (.ret))))
def K2z : IFn := ⟨1, 43, [.cell 2 5 true], false, Q238⟩
def Kd_c : IR :=
 .seq (.reg [o 5 (.box 5 1),
 o 8 (.zero zL1)] false)
 (.seq (.seq (.reg [oF 11 0 5,
 oK 12 1 11,
 o 13 (.bin .neq 12 (.c (iN 5)))] false)
 (.cond 13 (.seq (.reg [oM 14 0,
 oM 15 0,
 o 16 (.nilck 15),
 oF 17 0 16,
 oK 18 1 17,
 oM 19 18,
 gF 20 19 (.faddr 0 5),
 gF 21 19 (.load 1 false 20),
 gF 22 19 (.bin .neq 21 (.c zI)),
 oQ 23 19 22,
 o 24 (.nilck 14),
 oF 25 0 24,
 oS 1 25 23] false)
 (.seq (.reg [o 26 (.build zL1 []),
 oS 5 8 26] false)
 (.ret)))
 (.skip)))
 (.seq (.reg [oL 28 5 5,
 oM 29 2,
 oC 30 184 ([28, 29]),
 oM 27 30,
 oX 31 27 0,
 oX 32 27 1,
 o 9 (.zero zL1),
 oS 5 9 31,
 oM 10 32] false)
 (.seq (.seq (.reg [oF 33 0 9,
 oK 34 1 33,
 oM 35 3,
 o 36 (.bin .eql 34 35)] false)
 (.cond 36 (.seq (.reg [oL 37 5 9,
 oS 5 8 37] false)
 (.ret))
 (.skip)))
 (.seq (.reg [oM 38 0,
 oM 39 0,
 o 40 (.nilck 39),
 oF 41 0 40,
 oK 42 1 41,
 oM 43 42,
 gF 44 43 (.faddr 0 9),
 gF 45 43 (.load 1 false 44),
 gF 46 43 (.bin .neq 45 (.c zI)),
 oQ 47 43 46,
 o 48 (.nilck 38),
 oF 49 0 48,
 oS 1 49 47] false)
 (.seq (.reg [o 50 (.build zL1 []),
 oS 5 8 50] false)
 (.ret))))))
def Kd : IFn := ⟨4, 51, [.cell 8 5 true], false, Kd_c⟩
def Kn_c : IR :=
 .seq (.reg [o 4 (.box 5 1),
 o 6 (.mov (.c (zS)))] false)
 (.seq (.reg [oM 7 0,
 oL 8 5 4,
 oM 9 2,
 oC 10 238 ([7, 8, 9, .c (iN 3)]),
 o 11 (.field 2 1 false 10),
 oM 6 11] false)
 (.ret))
def Kn : IFn := ⟨3, 12, [.tmp 6], false, Kn_c⟩
def Kg_c : IR :=
 .seq (.reg [o 4 (.box 5 1),
 o 6 (.mov (.c zI))] false)
 (.seq (.reg [oM 7 0,
 oL 8 5 4,
 oM 9 2,
 oC 10 238 ([7, 8, 9, .c (iN 2)]),
 o 11 (.field 1 1 false 10),
 oM 6 11] false)
 (.ret))
def Kg : IFn := ⟨3, 12, [.tmp 6], false, Kg_c⟩
def Qqs : List Nat := [100076, 3, 9, 16, 17, 18]
def Q1v1 : IR :=
 .seq (.reg [o 19 (.bin .lss 18 17)] false)
 (.seq (.cond 19 (.skip)
 (.exit 0))
 (.seq (.block 1 (.seq (.reg [oI 20 5 16 18,
 oL 21 5 20,
 o 11 (.zero zL1),
 oS 5 11 21] false)
 (.reg [oM 22 9,
 oM 23 3,
 oL 24 5 11,
 o 25 (.call false 23 [24]),
 o 26 (.lit 11 1 zL10 [(0, 25)]),
 oJ 27 11 152 22 26,
 oM 9 27] false)))
 (.reg [oA 28 18,
 oM 18 28] false)))
def Kt_c : IR :=
 .seq (.reg [o 5 (.box 5 1),
 o 8 (.mov (.c (.ns 11)))] false)
 (.seq (.reg [o 9 (.mov (.c (.ns 11)))] false)
 (.seq (.seq (.reg [oM 12 0,
 oL 13 5 5,
 oM 14 2,
 oC 15 238 ([12, 13, 14, .c (iN 4)]),
 o 16 (.field 3 1 false 15),
 oN 17 16,
 o 18 (.mov (.c zI))] false)
 (.block 0 (.loop Qqs Q1v1)))
 (.seq (.reg [oM 29 9,
 oM 8 29] false)
 (.ret))))
def Kt : IFn := ⟨4, 30, [.tmp 8], false, Kt_c⟩
def Kb_c : IR :=
 .seq (.reg [o 3 (.box 5 1),
 o 4 (.zero zL10)] false)
 (.seq (.reg [oM 5 0,
 oL 6 5 3,
 oC 7 215 ([5, 6])] false)
 (.seq (.reg [oM 8 0,
 oL 9 5 3,
 oD 10 239 ([8, 9, sA24]) [0, 1],
 oM 11 0,
 oL 12 5 3,
 oD 13 239 ([11, 12, sA10]) (rg 0 5),
 oM 14 0,
 oM 15 0,
 oL 16 5 3,
 oD 17 219 ([15, 16, sA41]) (rg 0 6 ++ [7, 8]),
 oD 18 275 ([14, 17]) (rg 0 10),
 oM 19 0,
 oM 20 0,
 oL 21 5 3,
 oD 22 219 ([20, 21, sA14]) (rg 0 11 ++ [12, 13]),
 oD 23 275 ([19, 22]) (rg 0 15),
 oM 24 0,
 oL 25 5 3,
 oM 26 0,
 ob 27 (.mkfn 277 [26] []) [18],
 oD 28 276 ([24, 25, sA15, 27]) (rg 0 20),
 oM 29 0,
 oL 30 5 3,
 oM 31 0,
 ob 32 (.mkfn 277 [31] []) [23],
 oD 33 276 ([29, 30, sA45, 32]) (rg 0 25),
 oM 34 0,
 oL 35 5 3,
 oM 36 0,
 ob 37 (.mkfn 277 [36] []) [28],
 oD 38 276 ([34, 35, sA52, 37]) (rg 0 30),
 ob 39 (.build zL10 [(0, 1, 10), (1, 1, 13), (2, 3, 18), (5, 3, 23), (8, 1, 28), (9, 1, 33), (10, 1, 38)]) (rg 0 31),
 ⟨none, none, .store 11 4 39, (rg 0 32)⟩] true)
 (.ret)))
def Kb : IFn := ⟨2, 40, [.cell 4 11 true], false, Kb_c⟩
def Qqt : List Nat := [100077, 3, 9, 16, 17, 18]
def Q1v2 : IR :=
 .seq (.reg [o 19 (.bin .lss 18 17)] false)
 (.seq (.cond 19 (.skip)
 (.exit 0))
 (.seq (.block 1 (.seq (.reg [oI 20 5 16 18,
 oL 21 5 20,
 o 11 (.zero zL1),
 oS 5 11 21] false)
 (.reg [oM 22 9,
 oM 23 3,
 oL 24 5 11,
 o 25 (.call false 23 [24]),
 o 26 (.lit 3 1 [zS, zI, .ns 1] [(0, 25)]),
 oJ 27 3 48 22 26,
 oM 9 27] false)))
 (.reg [oA 28 18,
 oM 18 28] false)))
def Ku_c : IR :=
 .seq (.reg [o 5 (.box 5 1),
 o 8 (.mov (.c (.ns 3)))] false)
 (.seq (.reg [o 9 (.mov (.c (.ns 3)))] false)
 (.seq (.seq (.reg [oM 12 0,
 oL 13 5 5,
 oM 14 2,
 oC 15 238 ([12, 13, 14, .c (iN 4)]),
 o 16 (.field 3 1 false 15),
 oN 17 16,
 o 18 (.mov (.c zI))] false)
 (.block 0 (.loop Qqt Q1v2)))
 (.seq (.reg [oM 29 9,
 oM 8 29] false)
 (.ret))))
def Ku : IFn := ⟨4, 30, [.tmp 8], false, Ku_c⟩
def Kj_c : IR :=
 .seq (.reg [o 3 (.box 5 1),
 o 4 (.zero [zS, zI, .ns 1])] false)
 (.seq (.reg [oM 5 0,
 oL 6 5 3,
 oC 7 215 ([5, 6])] false)
 (.seq (.reg [oM 8 0,
 oL 9 5 3,
 oD 10 239 ([8, 9, sA13]) [0, 1],
 oM 11 0,
 oL 12 5 3,
 oD 13 240 ([11, 12, sA26]) (rg 0 5),
 oM 14 0,
 oL 15 5 3,
 oM 16 0,
 ob 17 (.mkfn 279 [16] []) [8],
 oD 18 278 ([14, 15, sA62, 17]) (rg 0 10),
 ob 19 (.build [zS, zI, .ns 1] [(0, 1, 10), (1, 1, 13), (2, 1, 18)]) (rg 0 11),
 ⟨none, none, .store 3 4 19, (rg 0 12)⟩] true)
 (.ret)))
def Kj : IFn := ⟨2, 20, [.cell 4 3 true], false, Kj_c⟩
def Qqu : List Nat := [100078, 3, 9, 16, 17, 18]
def Q1v3 : IR :=
 .seq (.reg [o 19 (.bin .lss 18 17)] false)
 (.seq (.cond 19 (.skip)
 (.exit 0))
 (.seq (.block 1 (.seq (.reg [oI 20 5 16 18,
 oL 21 5 20,
 o 11 (.zero zL1),
 oS 5 11 21] false)
 (.reg [oM 22 9,
 oM 23 3,
 oL 24 5 11,
 o 25 (.call false 23 [24]),
 o 26 (.lit 3 1 [zB, .ns 3, zI] [(0, 25)]),
 oJ 27 3 40 22 26,
 oM 9 27] false)))
 (.reg [oA 28 18,
 oM 18 28] false)))
def Kv_c : IR :=
 .seq (.reg [o 5 (.box 5 1),
 o 8 (.mov (.c (.ns 3)))] false)
 (.seq (.reg [o 9 (.mov (.c (.ns 3)))] false)
 (.seq (.seq (.reg [oM 12 0,
 oL 13 5 5,
 oM 14 2,
 oC 15 238 ([12, 13, 14, .c (iN 4)]),
 o 16 (.field 3 1 false 15),
 oN 17 16,
 o 18 (.mov (.c zI))] false)
 (.block 0 (.loop Qqu Q1v3)))
 (.seq (.reg [oM 29 9,
 oM 8 29] false)
 (.ret))))
def Kv : IFn := ⟨4, 30, [.tmp 8], false, Kv_c⟩
def Kf_c : IR :=
 .seq (.reg [o 3 (.box 5 1),
 o 4 (.zero [zB, .ns 3, zI])] false)
 (.seq (.reg [oM 5 0,
 oL 6 5 3,
 oC 7 215 ([5, 6])] false)
 (.seq (.reg [oM 8 0,
 oL 9 5 3,
 oD 10 280 ([8, 9, sA42]) [0, 1],
 oM 11 0,
 oL 12 5 3,
 oM 13 0,
 ob 14 (.mkfn 244 [13] []) [5],
 oD 15 243 ([11, 12, sA47, 14]) (rg 0 7),
 oM 16 0,
 oL 17 5 3,
 oD 18 240 ([16, 17, sA64]) (rg 0 10),
 ob 19 (.build [zB, .ns 3, zI] [(0, 1, 10), (1, 1, 15), (2, 1, 18)]) (rg 0 11),
 ⟨none, none, .store 3 4 19, (rg 0 12)⟩] true)
 (.ret)))
def Kf : IFn := ⟨2, 20, [.cell 4 3 true], false, Kf_c⟩
def Qqv : List Nat := [100079, 3, 9, 16, 17, 18]
def Q1v4 : IR :=
 .seq (.reg [o 19 (.bin .lss 18 17)] false)
 (.seq (.cond 19 (.skip)
 (.exit 0))
 (.seq (.block 1 (.seq (.reg [oI 20 5 16 18,
 oL 21 5 20,
 o 11 (.zero zL1),
 oS 5 11 21] false)
 (.reg [oM 22 9,
 oM 23 3,
 oL 24 5 11,
 o 25 (.call false 23 [24]),
 o 26 (.lit 5 1 [zB, zB, .ns 3, zS, zI] [(0, 25)]),
 oJ 27 5 56 22 26,
 oM 9 27] false)))
 (.reg [oA 28 18,
 oM 18 28] false)))
def Kw_c : IR :=
 .seq (.reg [o 5 (.box 5 1),
 o 8 (.mov (.c (.ns 5)))] false)
 (.seq (.reg [o 9 (.mov (.c (.ns 5)))] false)
 (.seq (.seq (.reg [oM 12 0,
 oL 13 5 5,
 oM 14 2,
 oC 15 238 ([12, 13, 14, .c (iN 4)]),
 o 16 (.field 3 1 false 15),
 oN 17 16,
 o 18 (.mov (.c zI))] false)
 (.block 0 (.loop Qqv Q1v4)))
 (.seq (.reg [oM 29 9,
 oM 8 29] false)
 (.ret))))
def Kw : IFn := ⟨4, 30, [.tmp 8], false, Kw_c⟩
def Kh_c : IR :=
 .seq (.reg [o 3 (.box 5 1),
 o 4 (.zero [zB, zB, .ns 3, zS, zI])] false)
 (.seq (.reg [oM 5 0,
 oL 6 5 3,
 oC 7 215 ([5, 6])] false)
 (.seq (.reg [oM 8 0,
 oL 9 5 3,
 oD 10 280 ([8, 9, sA42]) [0, 1],
 oM 11 0,
 oL 12 5 3,
 oD 13 280 ([11, 12, sA73]) (rg 0 5),
 oM 14 0,
 oL 15 5 3,
 oM 16 0,
 ob 17 (.mkfn 244 [16] []) [8],
 oD 18 243 ([14, 15, sA47, 17]) (rg 0 10),
 oM 19 0,
 oL 20 5 3,
 oD 21 239 ([19, 20, sA57]) (rg 0 13),
 oM 22 0,
 oL 23 5 3,
 oD 24 240 ([22, 23, sA64]) (rg 0 16),
 ob 25 (.build [zB, zB, .ns 3, zS, zI] [(0, 1, 10), (1, 1, 13), (2, 1, 18), (3, 1, 21), (4, 1, 24)]) (rg 0 17),
 ⟨none, none, .store 5 4 25, (rg 0 18)⟩] true)
 (.ret)))
def Kh : IFn := ⟨2, 26, [.cell 4 5 true], false, Kh_c⟩
def Qqw : List Nat := [100080, 3, 9, 16, 17, 18]
def Q1v5 : IR :=
 .seq (.reg [o 19 (.bin .lss 18 17)] false)
 (.seq (.cond 19 (.skip)
 (.exit 0))
 (.seq (.block 1 (.seq (.reg [oI 20 5 16 18,
 oL 21 5 20,
 o 11 (.zero zL1),
 oS 5 11 21] false)
 (.reg [oM 22 9,
 oM 23 3,
 oL 24 5 11,
 o 25 (.call false 23 [24]),
 o 26 (.lit 4 1 [zI, zS, .ns 3, zB] [(0, 25)]),
 oJ 27 4 56 22 26,
 oM 9 27] false)))
 (.reg [oA 28 18,
 oM 18 28] false)))
def Kx_c : IR :=
 .seq (.reg [o 5 (.box 5 1),
 o 8 (.mov (.c (.ns 4)))] false)
 (.seq (.reg [o 9 (.mov (.c (.ns 4)))] false)
 (.seq (.seq (.reg [oM 12 0,
 oL 13 5 5,
 oM 14 2,
 oC 15 238 ([12, 13, 14, .c (iN 4)]),
 o 16 (.field 3 1 false 15),
 oN 17 16,
 o 18 (.mov (.c zI))] false)
 (.block 0 (.loop Qqw Q1v5)))
 (.seq (.reg [oM 29 9,
 oM 8 29] false)
 (.ret))))
def Kx : IFn := ⟨4, 30, [.tmp 8], false, Kx_c⟩
def Km_c : IR :=
 .seq (.reg [o 3 (.box 5 1),
 o 4 (.zero [zI, zS, .ns 3, zB])] false)
 (.seq (.reg [oM 5 0,
 oL 6 5 3,
 oC 7 215 ([5, 6])] false)
 (.seq (.reg [oM 8 0,
 oL 9 5 3,
 oD 10 240 ([8, 9, sA19]) [0, 1],
 oM 11 0,
 oL 12 5 3,
 oD 13 239 ([11, 12, sA57]) (rg 0 5),
 oM 14 0,
 oL 15 5 3,
 oM 16 0,
 ob 17 (.mkfn 244 [16] []) [8],
 oD 18 243 ([14, 15, sA47, 17]) (rg 0 10),
 oM 19 0,
 oL 20 5 3,
 oD 21 280 ([19, 20, sA42]) (rg 0 13),
 ob 22 (.build [zI, zS, .ns 3, zB] [(0, 1, 10), (1, 1, 13), (2, 1, 18), (3, 1, 21)]) (rg 0 14),
 ⟨none, none, .store 4 4 22, (rg 0 15)⟩] true)
 (.ret)))
def Km : IFn := ⟨2, 23, [.cell 4 4 true], false, Km_c⟩
def Qqx : List Nat := [100081, 3, 9, 16, 17, 18]
def Q1v6 : IR :=
 .seq (.reg [o 19 (.bin .lss 18 17)] false)
 (.seq (.cond 19 (.skip)
 (.exit 0))
 (.seq (.block 1 (.seq (.reg [oI 20 5 16 18,
 oL 21 5 20,
 o 11 (.zero zL1),
 oS 5 11 21] false)
 (.reg [oM 22 9,
 oM 23 3,
 oL 24 5 11,
 o 25 (.call false 23 [24]),
 o 26 (.lit 5 1 [zS, zS, zB, zI, zI] [(0, 25)]),
 oJ 27 5 56 22 26,
 oM 9 27] false)))
 (.reg [oA 28 18,
 oM 18 28] false)))
def Ky_c : IR :=
 .seq (.reg [o 5 (.box 5 1),
 o 8 (.mov (.c (.ns 5)))] false)
 (.seq (.reg [o 9 (.mov (.c (.ns 5)))] false)
 (.seq (.seq (.reg [oM 12 0,
 oL 13 5 5,
 oM 14 2,
 oC 15 238 ([12, 13, 14, .c (iN 4)]),
 o 16 (.field 3 1 false 15),
 oN 17 16,
 o 18 (.mov (.c zI))] false)
 (.block 0 (.loop Qqx Q1v6)))
 (.seq (.reg [oM 29 9,
 oM 8 29] false)
 (.ret))))
def Ky : IFn := ⟨4, 30, [.tmp 8], false, Ky_c⟩
def Kr_c : IR :=
 .seq (.reg [o 3 (.box 5 1),
 o 4 (.zero [zS, zS, zB, zI, zI])] false)
 (.seq (.reg [oM 5 0,
 oL 6 5 3,
 oC 7 215 ([5, 6])] false)
 (.seq (.reg [oM 8 0,
 oL 9 5 3,
 oD 10 239 ([8, 9, sA13]) [0, 1],
 oM 11 0,
 oL 12 5 3,
 oD 13 239 ([11, 12, sA63]) (rg 0 5),
 oM 14 0,
 oL 15 5 3,
 oD 16 280 ([14, 15, sA4]) (rg 0 8),
 oM 17 0,
 oL 18 5 3,
 oD 19 240 ([17, 18, sA2]) (rg 0 11),
 oM 20 0,
 oL 21 5 3,
 oD 22 240 ([20, 21, sA48]) (rg 0 14),
 ob 23 (.build [zS, zS, zB, zI, zI] [(0, 1, 10), (1, 1, 13), (2, 1, 16), (3, 1, 19), (4, 1, 22)]) (rg 0 15),
 ⟨none, none, .store 5 4 23, (rg 0 16)⟩] true)
 (.ret)))
def Kr : IFn := ⟨2, 24, [.cell 4 5 true], false, Kr_c⟩
def Q13b : List Nat := [100083, 0, 1, 2, 3, 8, 9]
def Q1uu : IR :=
 .seq (.seq (.reg [oM 18 9,
 oM 19 1,
 ob 20 (.bin .gtr 18 19) [0, 1],
 ob 21 (.mov 20) [0, 1, 2],
 ⟨(some 22), (some (21, true)), .mov 3, [0, 1, 2, 3]⟩,
 ⟨(some 23), (some (21, true)), .mov 0, [0, 1, 2, 3]⟩,
 ⟨(some 24), (some (21, true)), .mov 9, [0, 1, 2, 3]⟩,
 ⟨(some 25), (some (21, true)), .iaddr 6 23 24, (rg 0 4 ++ [5, 6])⟩,
 ⟨(some 26), (some (21, true)), .load 6 true 25, (rg 0 4 ++ [5, 6, 7])⟩,
 ⟨(some 27), (some (21, true)), .mov 0, [0, 1, 2, 3]⟩,
 ⟨(some 28), (some (21, true)), .mov 9, [0, 1, 2, 3]⟩,
 ⟨(some 29), (some (21, true)), .bin .sub 28 (.c (iN 1)), (rg 0 4 ++ [10])⟩,
 ⟨(some 30), (some (21, true)), .iaddr 6 27 29, (rg 0 4 ++ [9, 10, 11])⟩,
 ⟨(some 31), (some (21, true)), .load 6 true 30, (rg 0 4 ++ rg 9 13)⟩,
 ⟨(some 32), (some (21, true)), .call false 22 [26, 31], (rg 0 14)⟩,
 ⟨(some 33), (some (21, true)), .bin .lss 32 (.c zI), (rg 0 15)⟩,
 ob 34 (.pick 21 33 (.c zB)) (rg 0 16)] true)
 (.cond 34 (.skip)
 (.exit 2)))
 (.seq (.block 3 (.reg [oM 37 0,
 oM 38 9,
 oM 39 0,
 oM 40 9,
 ob 41 (.bin .sub 40 (.c (iN 1))) [3],
 oM 42 0,
 oM 43 9,
 ob 44 (.bin .sub 43 (.c (iN 1))) [6],
 ob 45 (.iaddr 6 42 44) [5, 6, 7],
 ob 46 (.load 6 true 45) [5, 6, 7, 8],
 oM 47 0,
 oM 48 9,
 ob 49 (.iaddr 6 47 48) [10, 11],
 ob 50 (.load 6 true 49) [10, 11, 12],
 ob 51 (.iaddr 6 37 38) ([0, 1] ++ rg 5 14),
 ⟨none, none, .store 6 51 46, ([0, 1] ++ rg 5 15)⟩,
 ob 52 (.iaddr 6 39 41) (rg 0 16),
 ⟨none, none, .store 6 52 50, (rg 0 17)⟩] true))
 (.reg [oM 35 9,
 o 36 (.bin .sub 35 (.c (iN 1))),
 oM 9 36] false))
def Q13a : List Nat := [100082, 0, 1, 2, 3, 8]
def Q1ut : IR :=
 .seq (.seq (.reg [oM 12 8,
 oM 13 2,
 o 14 (.bin .lss 12 13)] false)
 (.cond 14 (.skip)
 (.exit 0)))
 (.seq (.block 1 (.seq (.reg [oM 17 8,
 oM 9 17] false)
 (.block 2 (.loop Q13b Q1uu))))
 (.reg [oM 15 8,
 oA 16 15,
 oM 8 16] false))
def Q24q : IR :=
 .seq (.reg [oM 10 1,
 oA 11 10,
 oM 8 11] false)
 (.block 0 (.loop Q13a Q1ut))
def K4t : IFn := ⟨4, 53, [], false, Q24q⟩
def Ql1 : List Nat := [100090, 4, 5, 6, 7]
def Q1ne : IR :=
 .seq (.seq (.reg [oM 15 7,
 oM 16 4,
 oN 17 16,
 o 18 (.bin .lss 15 17)] false)
 (.cond 18 (.skip)
 (.exit 0)))
 (.seq (.block 1 (.seq (.reg [oM 22 4,
 oM 23 7,
 oI 24 5 22 23,
 oL 25 5 24,
 oC 26 286 ([25]),
 oM 21 26,
 oX 27 21 0,
 oX 28 21 1,
 o 8 (.zero zL10),
 oS 11 8 27,
 oM 9 28] false)
 (.seq (.reg [oM 29 6,
 oL 30 11 8,
 o 31 (.lit 11 1 zL10 [(0, 30)]),
 oJ 32 11 152 29 31,
 oM 6 32] false)
 (.reg [oM 33 5,
 oM 34 33,
 gT 35 34 (.mov 9),
 oP 36 34 35,
 oM 5 36] false))))
 (.reg [oM 19 7,
 oA 20 19,
 oM 7 20] false))
def Q23l : IR :=
 .seq (.reg [o 1 (.box 5 0),
 o 2 (.mov (.c (.ns 11))),
 o 3 (.mov (.c zB))] false)
 (.seq (.reg [oL 11 5 1,
 oC 12 207 ([11, sA75]),
 oM 10 12,
 oX 13 10 0,
 oX 14 10 1,
 oM 4 13,
 oM 5 14] false)
 (.seq (.reg [o 6 (.mov (.c (.ns 11)))] false)
 (.seq (.seq (.reg [o 7 (.mov (.c zI))] false)
 (.block 0 (.loop Ql1 Q1ne)))
 (.seq (.reg [oM 37 6,
 oM 38 5,
 oM 2 37,
 oM 3 38] false)
 (.ret)))))
def K3c : IFn := ⟨1, 39, [.tmp 2, .tmp 3], false, Q23l⟩
def Ql2 : List Nat := [100091, 4, 5, 6, 7]
def Q1nf : IR :=
 .seq (.seq (.reg [oM 19 7,
 oM 20 4,
 oN 21 20,
 o 22 (.bin .lss 19 21)] false)
 (.cond 22 (.skip)
 (.exit 0)))
 (.seq (.block 1 (.seq (.reg [oM 26 4,
 oM 27 7,
 oI 28 5 26 27,
 oL 29 5 28,
 oC 30 204 ([29, sA42]),
 oM 25 30,
 oX 31 25 0,
 oX 32 25 1,
 oM 8 31,
 oM 9 32] false)
 (.seq (.reg [oM 34 4,
 oM 35 7,
 oI 36 5 34 35,
 oL 37 5 36,
 oC 38 201 ([37, sA47]),
 oM 33 38,
 oX 39 33 0,
 oX 40 33 1,
 oM 10 39,
 oM 11 40] false)
 (.seq (.reg [oM 42 4,
 oM 43 7,
 oI 44 5 42 43,
 oL 45 5 44,
 oC 46 200 ([45, sA64]),
 oM 41 46,
 oX 47 41 0,
 oX 48 41 1,
 oM 12 47,
 oM 13 48] false)
 (.seq (.reg [oM 49 6,
 oM 50 8,
 oM 51 10,
 oM 52 12,
 o 53 (.build [zB, .ns 3, zI] [(0, 1, 50), (1, 1, 51), (2, 1, 52)]),
 o 54 (.lit 3 1 [zB, .ns 3, zI] [(0, 53)]),
 oJ 55 3 40 49 54,
 oM 6 55] false)
 (.reg [oM 56 5,
 oM 57 56,
 gT 58 57 (.mov 4),
 gT 59 57 (.mov 7),
 gT 60 57 (.iaddr 5 58 59),
 gT 61 57 (.load 5 true 60),
 gT 62 57 (.call false (.f 208) [61]),
 oP 63 57 62,
 oM 64 63,
 gT 65 64 (.mov 9),
 oP 66 64 65,
 oM 67 66,
 gT 68 67 (.mov 11),
 oP 69 67 68,
 oM 70 69,
 gT 71 70 (.mov 13),
 oP 72 70 71,
 oM 5 72] false))))))
 (.reg [oM 23 7,
 oA 24 23,
 oM 7 24] false))
def Q23m : IR :=
 .seq (.reg [o 1 (.box 5 0),
 o 2 (.mov (.c (.ns 3))),
 o 3 (.mov (.c zB))] false)
 (.seq (.reg [oL 15 5 1,
 oC 16 207 ([15, sA21]),
 oM 14 16,
 oX 17 14 0,
 oX 18 14 1,
 oM 4 17,
 oM 5 18] false)
 (.seq (.reg [o 6 (.mov (.c (.ns 3)))] false)
 (.seq (.seq (.reg [o 7 (.mov (.c zI))] false)
 (.block 0 (.loop Ql2 Q1nf)))
 (.seq (.reg [oM 73 6,
 oM 74 5,
 oM 2 73,
 oM 3 74] false)
 (.ret)))))
def K3d : IFn := ⟨1, 75, [.tmp 2, .tmp 3], false, Q23m⟩
def Ql3 : List Nat := [100092, 4, 5, 6, 7]
def Q1ng : IR :=
 .seq (.seq (.reg [oM 23 7,
 oM 24 4,
 oN 25 24,
 o 26 (.bin .lss 23 25)] false)
 (.cond 26 (.skip)
 (.exit 0)))
 (.seq (.block 1 (.seq (.reg [oM 30 4,
 oM 31 7,
 oI 32 5 30 31,
 oL 33 5 32,
 oC 34 204 ([33, sA73]),
 oM 29 34,
 oX 35 29 0,
 oX 36 29 1,
 oM 8 35,
 oM 9 36] false)
 (.seq (.reg [oM 38 4,
 oM 39 7,
 oI 40 5 38 39,
 oL 41 5 40,
 oC 42 204 ([41, sA42]),
 oM 37 42,
 oX 43 37 0,
 oX 44 37 1,
 oM 10 43,
 oM 11 44] false)
 (.seq (.reg [oM 46 4,
 oM 47 7,
 oI 48 5 46 47,
 oL 49 5 48,
 oC 50 201 ([49, sA47]),
 oM 45 50,
 oX 51 45 0,
 oX 52 45 1,
 oM 12 51,
 oM 13 52] false)
 (.seq (.reg [oM 54 4,
 oM 55 7,
 oI 56 5 54 55,
 oL 57 5 56,
 oC 58 209 ([57, sA57]),
 oM 53 58,
 oX 59 53 0,
 oX 60 53 1,
 oM 14 59,
 oM 15 60] false)
 (.seq (.reg [oM 62 4,
 oM 63 7,
 oI 64 5 62 63,
 oL 65 5 64,
 oC 66 200 ([65, sA64]),
 oM 61 66,
 oX 67 61 0,
 oX 68 61 1,
 oM 16 67,
 oM 17 68] false)
 (.seq (.reg [oM 69 6,
 oM 70 10,
 oM 71 8,
 oM 72 12,
 oM 73 14,
 oM 74 16,
 o 75 (.build [zB, zB, .ns 3, zS, zI] [(0, 1, 70), (1, 1, 71), (2, 1, 72), (3, 1, 73), (4, 1, 74)]),
 o 76 (.lit 5 1 [zB, zB, .ns 3, zS, zI] [(0, 75)]),
 oJ 77 5 56 69 76,
 oM 6 77] false)
 (.reg [oM 78 5,
 oM 79 78,
 gT 80 79 (.mov 4),
 gT 81 79 (.mov 7),
 gT 82 79 (.iaddr 5 80 81),
 gT 83 79 (.load 5 true 82),
 gT 84 79 (.call false (.f 208) [83]),
 oP 85 79 84,
 oM 86 85,
 gT 87 86 (.mov 9),
 oP 88 86 87,
 oM 89 88,
 gT 90 89 (.mov 11),
 oP 91 89 90,
 oM 92 91,
 gT 93 92 (.mov 13),
 oP 94 92 93,
 oM 95 94,
 gT 96 95 (.mov 15),
 oP 97 95 96,
 oM 98 97,
 gT 99 98 (.mov 17),
 oP 100 98 99,
 oM 5 100] false))))))))
 (.reg [oM 27 7,
 oA 28 27,
 oM 7 28] false))
def Q23n : IR :=
 .seq (.reg [o 1 (.box 5 0),
 o 2 (.mov (.c (.ns 5))),
 o 3 (.mov (.c zB))] false)
 (.seq (.reg [oL 19 5 1,
 oC 20 207 ([19, sA32]),
 oM 18 20,
 oX 21 18 0,
 oX 22 18 1,
 oM 4 21,
 oM 5 22] false)
 (.seq (.reg [o 6 (.mov (.c (.ns 5)))] false)
 (.seq (.seq (.reg [o 7 (.mov (.c zI))] false)
 (.block 0 (.loop Ql3 Q1ng)))
 (.seq (.reg [oM 101 6,
 oM 102 5,
 oM 2 101,
 oM 3 102] false)
 (.ret)))))
def K3e : IFn := ⟨1, 103, [.tmp 2, .tmp 3], false, Q23n⟩
def Ql5 : List Nat := [100093, 4, 5, 6, 7]
def Q1ni : IR :=
 .seq (.seq (.reg [oM 21 7,
 oM 22 4,
 oN 23 22,
 o 24 (.bin .lss 21 23)] false)
 (.cond 24 (.skip)
 (.exit 0)))
 (.seq (.block 1 (.seq (.reg [oM 28 4,
 oM 29 7,
 oI 30 5 28 29,
 oL 31 5 30,
 oC 32 200 ([31, sA19]),
 oM 27 32,
 oX 33 27 0,
 oX 34 27 1,
 oM 8 33,
 oM 9 34] false)
 (.seq (.reg [oM 36 4,
 oM 37 7,
 oI 38 5 36 37,
 oL 39 5 38,
 oC 40 204 ([39, sA42]),
 oM 35 40,
 oX 41 35 0,
 oX 42 35 1,
 oM 10 41,
 oM 11 42] false)
 (.seq (.reg [oM 44 4,
 oM 45 7,
 oI 46 5 44 45,
 oL 47 5 46,
 oC 48 201 ([47, sA47]),
 oM 43 48,
 oX 49 43 0,
 oX 50 43 1,
 oM 12 49,
 oM 13 50] false)
 (.seq (.reg [oM 52 4,
 oM 53 7,
 oI 54 5 52 53,
 oL 55 5 54,
 oC 56 209 ([55, sA57]),
 oM 51 56,
 oX 57 51 0,
 oX 58 51 1,
 oM 14 57,
 oM 15 58] false)
 (.seq (.reg [oM 59 6,
 oM 60 8,
 oM 61 14,
 oM 62 12,
 oM 63 10,
 o 64 (.build [zI, zS, .ns 3, zB] [(0, 1, 60), (1, 1, 61), (2, 1, 62), (3, 1, 63)]),
 o 65 (.lit 4 1 [zI, zS, .ns 3, zB] [(0, 64)]),
 oJ 66 4 56 59 65,
 oM 6 66] false)
 (.reg [oM 67 5,
 oM 68 67,
 gT 69 68 (.mov 4),
 gT 70 68 (.mov 7),
 gT 71 68 (.iaddr 5 69 70),
 gT 72 68 (.load 5 true 71),
 gT 73 68 (.call false (.f 208) [72]),
 oP 74 68 73,
 oM 75 74,
 gT 76 75 (.mov 9),
 oP 77 75 76,
 oM 78 77,
 gT 79 78 (.mov 11),
 oP 80 78 79,
 oM 81 80,
 gT 82 81 (.mov 13),
 oP 83 81 82,
 oM 84 83,
 gT 85 84 (.mov 15),
 oP 86 84 85,
 oM 5 86] false)))))))
 (.reg [oM 25 7,
 oA 26 25,
 oM 7 26] false))
def Q23r : IR :=
 .seq (.reg [o 1 (.box 5 0),
 o 2 (.mov (.c (.ns 4))),
 o 3 (.mov (.c zB))] false)
 (.seq (.reg [oL 17 5 1,
 oC 18 207 ([17, sA50]),
 oM 16 18,
 oX 19 16 0,
 oX 20 16 1,
 oM 4 19,
 oM 5 20] false)
 (.seq (.reg [o 6 (.mov (.c (.ns 4)))] false)
 (.seq (.seq (.reg [o 7 (.mov (.c zI))] false)
 (.block 0 (.loop Ql5 Q1ni)))
 (.seq (.reg [oM 87 6,
 oM 88 5,
 oM 2 87,
 oM 3 88] false)
 (.ret)))))
def K3i : IFn := ⟨1, 89, [.tmp 2, .tmp 3], false, Q23r⟩
def Ql6 : List Nat := [100094, 4, 5, 6, 7]
def Q1nj : IR :=
 .seq (.seq (.reg [oM 23 7,
 oM 24 4,
 oN 25 24,
 o 26 (.bin .lss 23 25)] false)
 (.cond 26 (.skip)
 (.exit 0)))
 (.seq (.block 1 (.seq (.reg [oM 30 4,
 oM 31 7,
 oI 32 5 30 31,
 oL 33 5 32,
 oC 34 200 ([33, sA2]),
 oM 29 34,
 oX 35 29 0,
 oX 36 29 1,
 oM 8 35,
 oM 9 36] false)
 (.seq (.reg [oM 38 4,
 oM 39 7,
 oI 40 5 38 39,
 oL 41 5 40,
 oC 42 204 ([41, sA4]),
 oM 37 42,
 oX 43 37 0,
 oX 44 37 1,
 oM 10 43,
 oM 11 44] false)
 (.seq (.reg [oM 46 4,
 oM 47 7,
 oI 48 5 46 47,
 oL 49 5 48,
 oC 50 209 ([49, sA13]),
 oM 45 50,
 oX 51 45 0,
 oX 52 45 1,
 oM 12 51,
 oM 13 52] false)
 (.seq (.reg [oM 54 4,
 oM 55 7,
 oI 56 5 54 55,
 oL 57 5 56,
 oC 58 200 ([57, sA48]),
 oM 53 58,
 oX 59 53 0,
 oX 60 53 1,
 oM 14 59,
 oM 15 60] false)
 (.seq (.reg [oM 62 4,
 oM 63 7,
 oI 64 5 62 63,
 oL 65 5 64,
 oC 66 209 ([65, sA63]),
 oM 61 66,
 oX 67 61 0,
 oX 68 61 1,
 oM 16 67,
 oM 17 68] false)
 (.seq (.reg [oM 69 6,
 oM 70 12,
 oM 71 16,
 oM 72 10,
 oM 73 8,
 oM 74 14,
 o 75 (.build [zS, zS, zB, zI, zI] [(0, 1, 70), (1, 1, 71), (2, 1, 72), (3, 1, 73), (4, 1, 74)]),
 o 76 (.lit 5 1 [zS, zS, zB, zI, zI] [(0, 75)]),
 oJ 77 5 56 69 76,
 oM 6 77] false)
 (.reg [oM 78 5,
 oM 79 78,
 gT 80 79 (.mov 4),
 gT 81 79 (.mov 7),
 gT 82 79 (.iaddr 5 80 81),
 gT 83 79 (.load 5 true 82),
 gT 84 79 (.call false (.f 208) [83]),
 oP 85 79 84,
 oM 86 85,
 gT 87 86 (.mov 9),
 oP 88 86 87,
 oM 89 88,
 gT 90 89 (.mov 11),
 oP 91 89 90,
 oM 92 91,
 gT 93 92 (.mov 13),
 oP 94 92 93,
 oM 95 94,
 gT 96 95 (.mov 15),
 oP 97 95 96,
 oM 98 97,
 gT 99 98 (.mov 17),
 oP 100 98 99,
 oM 5 100] false))))))))
 (.reg [oM 27 7,
 oA 28 27,
 oM 7 28] false))
def Q23s : IR :=
 .seq (.reg [o 1 (.box 5 0),
 o 2 (.mov (.c (.ns 5))),
 o 3 (.mov (.c zB))] false)
 (.seq (.reg [oL 19 5 1,
 oC 20 207 ([19, sA56]),
 oM 18 20,
 oX 21 18 0,
 oX 22 18 1,
 oM 4 21,
 oM 5 22] false)
 (.seq (.reg [o 6 (.mov (.c (.ns 5)))] false)
 (.seq (.seq (.reg [o 7 (.mov (.c zI))] false)
 (.block 0 (.loop Ql6 Q1nj)))
 (.seq (.reg [oM 101 6,
 oM 102 5,
 oM 2 101,
 oM 3 102] false)
 (.ret)))))
def K3j : IFn := ⟨1, 103, [.tmp 2, .tmp 3], false, Q23s⟩
def Qkr : List Nat := [100095, 0, 2, 3, 4]
def Q1n4 : IR :=
 .seq (.seq (.reg [oM 5 4,
 oM 6 0,
 oN 7 6,
 o 8 (.bin .lss 5 7)] false)
 (.cond 8 (.skip)
 (.exit 0)))
 (.seq (.block 1 (.reg [oM 11 3,
 oM 12 0,
 oM 13 4,
 ob 14 (.iaddr 4 12 13) [1, 2],
 ob 15 (.faddr 0 14) [1, 2, 3],
 oE 16 1 15 [1, 2, 3, 4],
 oD 17 164 ([16]) (rg 1 6),
 ob 18 (.build zL0 [(0, 1, sA0), (1, 5, 17)]) (rg 1 7),
 oM 19 0,
 oM 20 4,
 ob 21 (.iaddr 4 19 20) [8, 9],
 ob 22 (.faddr 1 21) [8, 9, 10],
 oE 23 1 22 [8, 9, 10, 11],
 oD 24 164 ([23]) (rg 1 7 ++ rg 8 13),
 ob 25 (.build zL0 [(0, 1, sA29), (1, 5, 24)]) (rg 1 7 ++ rg 8 14),
 oM 26 0,
 oM 27 4,
 ob 28 (.iaddr 4 26 27) [15, 16],
 ob 29 (.faddr 2 28) [15, 16, 17],
 oE 30 1 29 [15, 16, 17, 18],
 oD 31 164 ([30]) (rg 1 7 ++ rg 8 14 ++ rg 15 20),
 ob 32 (.build zL0 [(0, 1, sA53), (1, 5, 31)]) (rg 1 7 ++ rg 8 14 ++ rg 15 21),
 oM 33 0,
 oM 34 4,
 ob 35 (.iaddr 4 33 34) [22, 23],
 ob 36 (.faddr 3 35) [22, 23, 24],
 oE 37 1 36 [22, 23, 24, 25],
 oD 38 164 ([37]) (rg 1 7 ++ rg 8 14 ++ rg 15 21 ++ rg 22 27),
 ob 39 (.build zL0 [(0, 1, sA6), (1, 5, 38)]) (rg 1 7 ++ rg 8 14 ++ rg 15 21 ++ rg 22 28),
 ob 40 (.lit 6 4 zL0 [(0, 18), (1, 25), (2, 32), (3, 39)]) (rg 1 29),
 oD 41 163 ([40]) (rg 1 30),
 ob 42 (.lit 5 1 zL1 [(0, 41)]) (rg 1 31),
 ob 43 (.append 5 80 11 42) (rg 0 32),
 ob 3 (.mov 43) (rg 0 33)] true))
 (.reg [oM 9 4,
 oA 10 9,
 oM 4 10] false))
def Q22w : IR :=
 .seq (.reg [o 2 (.zero zL1)] false)
 (.seq (.reg [o 3 (.mov (.c (.ns 5)))] false)
 (.seq (.seq (.reg [o 4 (.mov (.c zI))] false)
 (.block 0 (.loop Qkr Q1n4)))
 (.seq (.reg [oM 44 3,
 o 45 (.build zL1 [(0, 1, .c (iN 4)), (3, 1, 44)]),
 oS 5 2 45] false)
 (.ret))))
def K2n : IFn := ⟨1, 46, [.cell 2 5 true], false, Q22w⟩
def Kk_c : IR :=
 .seq (.reg [o 3 (.box 5 1),
 o 4 (.zero [zI, zI, zI])] false)
 (.seq (.reg [oM 5 0,
 oL 6 5 3,
 oD 7 240 ([5, 6, sA76]) [0, 1],
 oM 8 0,
 oL 9 5 3,
 oD 10 240 ([8, 9, sA17]) (rg 0 5),
 oM 11 0,
 oL 12 5 3,
 oD 13 240 ([11, 12, sA1]) (rg 0 8),
 ob 14 (.build [zI, zI, zI] [(0, 1, 7), (1, 1, 10), (2, 1, 13)]) (rg 0 9),
 ⟨none, none, .store 3 4 14, (rg 0 10)⟩] true)
 (.ret))
def Kk : IFn := ⟨2, 15, [.cell 4 3 true], false, Kk_c⟩
def Qqy : List Nat := [100096, 3, 9, 16, 17, 18]
def Q1v7 : IR :=
 .seq (.reg [o 19 (.bin .lss 18 17)] false)
 (.seq (.cond 19 (.skip)
 (.exit 0))
 (.seq (.block 1 (.seq (.reg [oI 20 5 16 18,
 oL 21 5 20,
 o 11 (.zero zL1),
 oS 5 11 21] false)
 (.reg [oM 22 9,
 oM 23 3,
 oL 24 5 11,
 o 25 (.call false 23 [24]),
 o 26 (.lit 4 1 [zI, zI, zI, zI] [(0, 25)]),
 oJ 27 4 32 22 26,
 oM 9 27] false)))
 (.reg [oA 28 18,
 oM 18 28] false)))
def Kz_c : IR :=
 .seq (.reg [o 5 (.box 5 1),
 o 8 (.mov (.c (.ns 4)))] false)
 (.seq (.reg [o 9 (.mov (.c (.ns 4)))] false)
 (.seq (.seq (.reg [oM 12 0,
 oL 13 5 5,
 oM 14 2,
 oC 15 238 ([12, 13, 14, .c (iN 4)]),
 o 16 (.field 3 1 false 15),
 oN 17 16,
 o 18 (.mov (.c zI))] false)
 (.block 0 (.loop Qqy Q1v7)))
 (.seq (.reg [oM 29 9,
 oM 8 29] false)
 (.ret))))
def Kz : IFn := ⟨4, 30, [.tmp 8], false, Kz_c⟩
def Ki_c : IR :=
 .seq (.reg [o 3 (.box 5 1),
 o 4 (.zero [zI, zI, zI, zI])] false)
 (.seq (.reg [oM 5 0,
 oL 6 5 3,
 oC 7 215 ([5, 6])] false)
 (.seq (.reg [oM 8 0,
 oL 9 5 3,
 oD 10 240 ([8, 9, sA0]) [0, 1],
 oM 11 0,
 oL 12 5 3,
 oD 13 240 ([11, 12, sA29]) (rg 0 5),
 oM 14 0,
 oL 15 5 3,
 oD 16 240 ([14, 15, sA53]) (rg 0 8),
 oM 17 0,
 oL 18 5 3,
 oD 19 240 ([17, 18, sA6]) (rg 0 11),
 ob 20 (.build [zI, zI, zI, zI] [(0, 1, 10), (1, 1, 13), (2, 1, 16), (3, 1, 19)]) (rg 0 12),
 ⟨none, none, .store 4 4 20, (rg 0 13)⟩] true)
 (.ret)))
def Ki : IFn := ⟨2, 21, [.cell 4 4 true], false, Ki_c⟩
def Qk3 : List Nat := [100097, 3, 9, 16, 17, 18]
def Q1mg : IR :=
 .seq (.reg [o 19 (.bin .lss 18 17)] false)
 (.seq (.cond 19 (.skip)
 (.exit 0))
 (.seq (.block 1 (.seq (.reg [oI 20 5 16 18,
 oL 21 5 20,
 o 11 (.zero zL1),
 oS 5 11 21] false)
 (.reg [oM 22 9,
 oM 23 3,
 oL 24 5 11,
 o 25 (.call false 23 [24]),
 o 26 (.lit 1 1 [zS] [(0, 25)]),
 oJ 27 1 16 22 26,
 oM 9 27] false)))
 (.reg [oA 28 18,
 oM 18 28] false)))
def Q222 : IR :=
 .seq (.reg [o 5 (.box 5 1),
 o 8 (.mov (.c (.ns 1)))] false)
 (.seq (.reg [o 9 (.mov (.c (.ns 1)))] false)
 (.seq (.seq (.reg [oM 12 0,
 oL 13 5 5,
 oM 14 2,
 oC 15 238 ([12, 13, 14, .c (iN 4)]),
 o 16 (.field 3 1 false 15),
 oN 17 16,
 o 18 (.mov (.c zI))] false)
 (.block 0 (.loop Qk3 Q1mg)))
 (.seq (.reg [oM 29 9,
 oM 8 29] false)
 (.ret))))
def K10 : IFn := ⟨4, 30, [.tmp 8], false, Q222⟩
def Kq_c : IR :=
 .seq (.reg [o 3 (.box 5 1),
 o 4 (.mov (.c (zS)))] false)
 (.seq (.reg [oM 5 0,
 oM 6 0,
 o 7 (.nilck 6),
 oF 8 0 7,
 oK 9 1 8,
 oM 10 9,
 gF 11 10 (.faddr 0 3),
 gF 12 10 (.load 1 false 11),
 gF 13 10 (.bin .neq 12 (.c (iN 3))),
 gF 14 10 (.mov 13),
 gT 15 14 (.faddr 0 3),
 gT 16 14 (.load 1 false 15),
 gT 17 14 (.bin .neq 16 (.c zI)),
 gF 18 10 (.pick 14 17 (.c zB)),
 oQ 19 10 18,
 o 20 (.nilck 5),
 oF 21 0 20,
 oS 1 21 19] false)
 (.seq (.seq (.reg [oF 22 0 3,
 oK 23 1 22,
 o 24 (.bin .neq 23 (.c (iN 3)))] false)
 (.cond 24 (.seq (.reg [o 4 (.mov (.c (zS)))] false)
 (.ret))
 (.skip)))
 (.seq (.reg [oF 25 2 3,
 oK 26 1 25,
 oM 4 26] false)
 (.ret))))
def Kq : IFn := ⟨2, 27, [.tmp 4], false, Kq_c⟩
def Kc_c : IR :=
 .seq (.reg [o 4 (.box 5 1),
 o 6 (.mov (.c zB))] false)
 (.seq (.reg [oM 7 0,
 oL 8 5 4,
 oM 9 2,
 oC 10 238 ([7, 8, 9, .c (iN 1)]),
 o 11 (.field 1 1 false 10),
 o 12 (.bin .neq 11 (.c zI)),
 oM 6 12] false)
 (.ret))
def Kc : IFn := ⟨3, 13, [.tmp 6], false, Kc_c⟩
def Q23k : IR :=
 .seq (.reg [o 1 (.box 5 0),
 o 2 (.zero zL10),
 o 3 (.mov (.c zB))] false)
 (.seq (.reg [o 20 (.build zL10 []),
 o 4 (.zero zL10),
 oS 11 4 20] false)
 (.seq (.reg [o 21 (.bzero zL15),
 o 5 (.zero zL15),
 oS 7 5 21] false)
 (.seq (.reg [oL 23 5 1,
 oC 24 209 ([23, sA10]),
 oM 22 24,
 oX 25 22 0,
 oX 26 22 1,
 oM 6 25,
 oM 7 26] false)
 (.seq (.reg [oM 27 6,
 oF 28 1 4,
 oS 1 28 27] false)
 (.seq (.reg [oM 29 7,
 o 30 (.aaddr 7 1 5 (.c zI)),
 oS 1 30 29] false)
 (.seq (.reg [oL 32 5 1,
 oC 33 288 ([32, sA14]),
 oM 31 33,
 oX 34 31 0,
 oX 35 31 1,
 o 8 (.zero [zI, zI, zI]),
 oS 3 8 34,
 oM 9 35] false)
 (.seq (.reg [oL 36 3 8,
 oF 37 5 4,
 oS 3 37 36] false)
 (.seq (.reg [oM 38 9,
 o 39 (.aaddr 7 1 5 (.c (iN 1))),
 oS 1 39 38] false)
 (.seq (.reg [oL 41 5 1,
 oC 42 289 ([41, sA15]),
 oM 40 42,
 oX 43 40 0,
 oX 44 40 1,
 oM 10 43,
 oM 11 44] false)
 (.seq (.reg [oM 45 10,
 oF 46 8 4,
 oS 1 46 45] false)
 (.seq (.reg [oM 47 11,
 o 48 (.aaddr 7 1 5 (.c (iN 2))),
 oS 1 48 47] false)
 (.seq (.reg [oL 50 5 1,
 oC 51 209 ([50, sA24]),
 oM 49 51,
 oX 52 49 0,
 oX 53 49 1,
 oM 12 52,
 oM 13 53] false)
 (.seq (.reg [oM 54 12,
 oF 55 0 4,
 oS 1 55 54] false)
 (.seq (.reg [oM 56 13,
 o 57 (.aaddr 7 1 5 (.c (iN 3))),
 oS 1 57 56] false)
 (.seq (.reg [oL 59 5 1,
 oC 60 289 ([59, sA45]),
 oM 58 60,
 oX 61 58 0,
 oX 62 58 1,
 oM 14 61,
 oM 15 62] false)
 (.seq (.reg [oM 63 14,
 oF 64 9 4,
 oS 1 64 63] false)
 (.seq (.reg [oM 65 15,
 o 66 (.aaddr 7 1 5 (.c (iN 4))),
 oS 1 66 65] false)
 (.seq (.reg [oL 68 5 1,
 oC 69 288 ([68, sA41]),
 oM 67 69,
 oX 70 67 0,
 oX 71 67 1,
 o 16 (.zero [zI, zI, zI]),
 oS 3 16 70,
 oM 17 71] false)
 (.seq (.reg [oL 72 3 16,
 oF 73 2 4,
 oS 3 73 72] false)
 (.seq (.reg [oM 74 17,
 o 75 (.aaddr 7 1 5 (.c (iN 5))),
 oS 1 75 74] false)
 (.seq (.reg [oL 77 5 1,
 oC 78 289 ([77, sA52]),
 oM 76 78,
 oX 79 76 0,
 oX 80 76 1,
 oM 18 79,
 oM 19 80] false)
 (.seq (.reg [oM 81 18,
 oF 82 10 4,
 oS 1 82 81] false)
 (.seq (.reg [oM 83 19,
 o 84 (.aaddr 7 1 5 (.c (iN 6))),
 oS 1 84 83] false)
 (.seq (.reg [oL 85 11 4,
 oL 86 5 1,
 oD 87 208 ([86]) [1],
 ob 88 (.mov 87) [1, 2],
 ⟨(some 89), (some (88, true)), .aaddr 7 1 5 (.c zI), [1, 2, 3]⟩,
 ⟨(some 90), (some (88, true)), .load 1 false 89, [1, 2, 3, 4]⟩,
 ob 91 (.pick 88 90 (.c zB)) (rg 1 6),
 ob 92 (.mov 91) (rg 1 7),
 ⟨(some 93), (some (92, true)), .aaddr 7 1 5 (.c (iN 1)), (rg 1 8)⟩,
 ⟨(some 94), (some (92, true)), .load 1 false 93, (rg 1 9)⟩,
 ob 95 (.pick 92 94 (.c zB)) (rg 1 10),
 ob 96 (.mov 95) (rg 1 11),
 ⟨(some 97), (some (96, true)), .aaddr 7 1 5 (.c (iN 2)), (rg 1 12)⟩,
 ⟨(some 98), (some (96, true)), .load 1 false 97, (rg 1 13)⟩,
 ob 99 (.pick 96 98 (.c zB)) (rg 1 14),
 ob 100 (.mov 99) (rg 1 15),
 ⟨(some 101), (some (100, true)), .aaddr 7 1 5 (.c (iN 3)), (rg 1 16)⟩,
 ⟨(some 102), (some (100, true)), .load 1 false 101, (rg 1 17)⟩,
 ob 103 (.pick 100 102 (.c zB)) (rg 1 18),
 ob 104 (.mov 103) (rg 1 19),
 ⟨(some 105), (some (104, true)), .aaddr 7 1 5 (.c (iN 4)), (rg 1 20)⟩,
 ⟨(some 106), (some (104, true)), .load 1 false 105, (rg 1 21)⟩,
 ob 107 (.pick 104 106 (.c zB)) (rg 1 22),
 ob 108 (.mov 107) (rg 1 23),
 ⟨(some 109), (some (108, true)), .aaddr 7 1 5 (.c (iN 5)), (rg 1 24)⟩,
 ⟨(some 110), (some (108, true)), .load 1 false 109, (rg 1 25)⟩,
 ob 111 (.pick 108 110 (.c zB)) (rg 1 26),
 ob 112 (.mov 111) (rg 1 27),
 ⟨(some 113), (some (112, true)), .aaddr 7 1 5 (.c (iN 6)), (rg 1 28)⟩,
 ⟨(some 114), (some (112, true)), .load 1 false 113, (rg 1 29)⟩,
 ob 115 (.pick 112 114 (.c zB)) (rg 1 30),
 ⟨none, none, .store 11 2 85, (rg 0 28)⟩,
 ob 3 (.mov 115) (rg 0 32)] true)
 (.ret)))))))))))))))))))))))))
def K3b : IFn := ⟨1, 116, [.cell 2 11 true, .tmp 3], false, Q23k⟩
def Q23q : IR :=
 .seq (.reg [o 2 (.box 5 0),
 o 4 (.zero [zI, zI, zI]),
 o 5 (.mov (.c zB))] false)
 (.seq (.reg [oL 13 5 2,
 oM 14 1,
 oC 15 203 ([13, 14]),
 o 6 (.zero zL1),
 oS 5 6 15] false)
 (.seq (.reg [oL 17 5 6,
 oC 18 200 ([17, sA76]),
 oM 16 18,
 oX 19 16 0,
 oX 20 16 1,
 oM 7 19,
 oM 8 20] false)
 (.seq (.reg [oL 22 5 6,
 oC 23 200 ([22, sA1]),
 oM 21 23,
 oX 24 21 0,
 oX 25 21 1,
 oM 9 24,
 oM 10 25] false)
 (.seq (.reg [oL 27 5 6,
 oC 28 200 ([27, sA17]),
 oM 26 28,
 oX 29 26 0,
 oX 30 26 1,
 oM 11 29,
 oM 12 30] false)
 (.seq (.reg [oM 31 7,
 oM 32 11,
 oM 33 9,
 o 34 (.build [zI, zI, zI] [(0, 1, 31), (1, 1, 32), (2, 1, 33)]),
 oL 35 5 6,
 oC 36 208 ([35]),
 oM 37 36,
 gT 38 37 (.mov 8),
 oP 39 37 38,
 oM 40 39,
 gT 41 40 (.mov 10),
 oP 42 40 41,
 oM 43 42,
 gT 44 43 (.mov 12),
 oP 45 43 44,
 oS 3 4 34,
 oM 5 45] false)
 (.ret))))))
def K3h : IFn := ⟨2, 46, [.cell 4 3 true, .tmp 5], false, Q23q⟩
def Ql4 : List Nat := [100100, 6, 7, 8, 9]
def Q1nh : IR :=
 .seq (.seq (.reg [oM 18 9,
 oM 19 6,
 oN 20 19,
 o 21 (.bin .lss 18 20)] false)
 (.cond 21 (.skip)
 (.exit 0)))
 (.seq (.block 1 (.seq (.reg [oM 25 6,
 oM 26 9,
 oI 27 5 25 26,
 oL 28 5 27,
 oC 29 290 ([28]),
 oM 24 29,
 oX 30 24 0,
 oX 31 24 1,
 o 10 (.zero [zI, zI, zI, zI]),
 oS 4 10 30,
 oM 11 31] false)
 (.seq (.reg [oM 32 8,
 oL 33 4 10,
 o 34 (.lit 4 1 [zI, zI, zI, zI] [(0, 33)]),
 oJ 35 4 32 32 34,
 oM 8 35] false)
 (.reg [oM 36 7,
 oM 37 36,
 gT 38 37 (.mov 11),
 oP 39 37 38,
 oM 7 39] false))))
 (.reg [oM 22 9,
 oA 23 22,
 oM 9 23] false))
def Q23p : IR :=
 .seq (.reg [o 2 (.box 5 0),
 o 4 (.mov (.c (.ns 4))),
 o 5 (.mov (.c zB))] false)
 (.seq (.reg [oL 13 5 2,
 oM 14 1,
 oC 15 207 ([13, 14]),
 oM 12 15,
 oX 16 12 0,
 oX 17 12 1,
 oM 6 16,
 oM 7 17] false)
 (.seq (.reg [o 8 (.mov (.c (.ns 4)))] false)
 (.seq (.seq (.reg [o 9 (.mov (.c zI))] false)
 (.block 0 (.loop Ql4 Q1nh)))
 (.seq (.reg [oM 40 8,
 oM 41 7,
 oM 4 40,
 oM 5 41] false)
 (.ret)))))
def K3g : IFn := ⟨2, 42, [.tmp 4, .tmp 5], false, Q23p⟩
def Q23o : IR :=
 .seq (.reg [o 1 (.box 5 0),
 o 2 (.zero [zI, zI, zI, zI]),
 o 3 (.mov (.c zB))] false)
 (.seq (.reg [oL 13 5 1,
 oC 14 200 ([13, sA0]),
 oM 12 14,
 oX 15 12 0,
 oX 16 12 1,
 oM 4 15,
 oM 5 16] false)
 (.seq (.reg [oL 18 5 1,
 oC 19 200 ([18, sA6]),
 oM 17 19,
 oX 20 17 0,
 oX 21 17 1,
 oM 6 20,
 oM 7 21] false)
 (.seq (.reg [oL 23 5 1,
 oC 24 200 ([23, sA29]),
 oM 22 24,
 oX 25 22 0,
 oX 26 22 1,
 oM 8 25,
 oM 9 26] false)
 (.seq (.reg [oL 28 5 1,
 oC 29 200 ([28, sA53]),
 oM 27 29,
 oX 30 27 0,
 oX 31 27 1,
 oM 10 30,
 oM 11 31] false)
 (.seq (.reg [oM 32 4,
 oM 33 8,
 oM 34 10,
 oM 35 6,
 o 36 (.build [zI, zI, zI, zI] [(0, 1, 32), (1, 1, 33), (2, 1, 34), (3, 1, 35)]),
 oL 37 5 1,
 oC 38 208 ([37]),
 oM 39 38,
 gT 40 39 (.mov 5),
 oP 41 39 40,
 oM 42 41,
 gT 43 42 (.mov 7),
 oP 44 42 43,
 oM 45 44,
 gT 46 45 (.mov 9),
 oP 47 45 46,
 oM 48 47,
 gT 49 48 (.mov 11),
 oP 50 48 49,
 oS 4 2 36,
 oM 3 50] false)
 (.ret))))))
def K3f : IFn := ⟨1, 51, [.cell 2 4 true, .tmp 3], false, Q23o⟩
def table : List (Nat × Fun) :=
  [(5, .ir K3),
   (11, .ir K8),
   (12, .ir K6),
   (17, .ir K1v),
   (18, .ir K3t),
   (21, .ir K5w),
   (27, .ir K1y),
   (28, .ir K45),
   (29, .ir K5y),
   (30, .ir K47),
   (31, .ir K5n),
   (32, .ir K3z),
   (33, .ir K3v),
   (34, .ir K3n),
   (35, .ir K5x),
   (36, .ir K46),
   (37, .ir K5p),
   (38, .ir K41),
   (39, .ir K3u),
   (40, .ir K3p),
   (41, .ir K5s),
   (42, .ir K43),
   (43, .ir K5v),
   (44, .ir K44),
   (45, .ir K3r),
   (46, .ir K3s),
   (58, .ir K49),
   (60, .ir K30),
   (63, .ir K1r),
   (64, .ir K5d),
   (65, .ir K1o),
   (66, .ir K1q),
   (67, .ir K1p),
   (68, .ir K77),
   (70, .ir K5z),
   (71, .ir K66),
   (72, .ir K6a),
   (73, .ir K6e),
   (74, .ir K6g),
   (75, .ir K60),
   (76, .ir K62),
   (77, .ir K6f),
   (78, .ir K50),
   (79, .ir K75),
   (83, .ir K78),
   (85, .ir K76),
   (89, .ir K6d),
   (98, .ir K1n),
   (99, .ir K2q),
   (104, .ir K7a),
   (106, .ir K63),
   (109, .ir K4y),
   (119, .ir K1x),
   (120, .ir K1z),
   (121, .ir K4a),
   (122, .ir K4j),
   (123, .ir K4m),
   (124, .ir K4p),
   (125, .ir K4q),
   (126, .ir K48),
   (127, .ir K7d),
   (128, .ir K4f),
   (129, .ir K7e),
   (130, .ir K4c),
   (131, .ir K4o),
   (132, .ir K2v),
   (133, .ir K29),
   (134, .ir K7f),
   (135, .ir K67),
   (136, .ir K4k),
   (137, .ir K6k),
   (138, .ir K5q),
   (139, .ir K7g),
   (140, .ir K4i),
   (141, .ir K4b),
   (142, .ir K4n),
   (143, .ir K4e),
   (144, .ir K2t),
   (145, .ir K2b),
   (146, .ir K6l),
   (147, .ir K5t),
   (148, .ir K6m),
   (149, .ir K5u),
   (150, .ir K7h),
   (151, .ir K4r),
   (152, .ir K7i),
   (153, .ir K69),
   (154, .ir K4l),
   (155, .ir K2i),
   (156, .ir K2o),
   (157, .ir K2p),
   (159, .ir K4g),
   (163, .ir K2h),
   (164, .ir K2c),
   (165, .ir K2s),
   (166, .ir K2y),
   (167, .ir K24),
   (168, .ir K20),
   (169, .ir K2w),
   (170, .ir K1s),
   (171, .ir K6u),
   (172, .ir K1m),
   (173, .ir K1u),
   (174, .ir K61),
   (175, .ax (Qno 2 32)),
   (176, .ax (Qno 5 48)),
   (177, .ax (Qno 1 16)),
   (178, .ax (Qnn 2 40)),
   (179, .ir K6n),
   (180, .ir K6b),
   (181, .ir K6o),
   (182, .ir K6c),
   (183, .ir Ka),
   (184, .ir K4x),
   (185, .ax (Qnn 6 96)),
   (186, .ir K4s),
   (187, .ir K51),
   (188, .ir K4v),
   (189, .ir K53),
   (194, .ir K1l),
   (195, .ir K2d),
   (197, .ir K6p),
   (198, .ir K64),
   (199, .ir K1w),
   (200, .ir K32),
   (201, .ir K35),
   (202, .ir K39),
   (203, .ir K34),
   (204, .ir K3a),
   (205, .ir K6q),
   (206, .ir K68),
   (207, .ir K31),
   (208, .ir K33),
   (209, .ir K36),
   (210, .ir K2m),
   (211, .ir K2r),
   (212, .ir K2x),
   (213, .ir K2g),
   (214, .ir K2k),
   (215, .ir Ko),
   (216, .ir Ks),
   (217, .ir Ke),
   (218, .ir Kl),
   (219, .ir Kp),
   (220, .ir K4u),
   (221, .cmpstr),
   (222, .ax (Qnn 5 80)),
   (230, .ir K1t),
   (231, .ir K37),
   (232, .ir K38),
   (233, .ir K27),
   (234, .ir K2j),
   (235, .ir K2l),
   (236, .ir K2u),
   (237, .ir K2z),
   (238, .ir Kd),
   (239, .ir Kn),
   (240, .ir Kg),
   (241, .ir Kt),
   (242, .ir Kb),
   (243, .ir Ku),
   (244, .ir Kj),
   (245, .ir Kv),
   (246, .ir Kf),
   (247, .ir Kw),
   (248, .ir Kh),
   (249, .ir Kx),
   (250, .ir Km),
   (251, .ir Ky),
   (252, .ir Kr),
   (253, .ir K4t),
   (269, .ir K3c),
   (270, .ir K3d),
   (271, .ir K3e),
   (272, .ir K3i),
   (273, .ir K3j),
   (274, .ir K2n),
   (275, .ir Kk),
   (276, .ir Kz),
   (277, .ir Ki),
   (278, .ir K10),
   (279, .ir Kq),
   (280, .ir Kc),
   (286, .ir K3b),
   (288, .ir K3h),
   (289, .ir K3g),
   (290, .ir K3f)]
end Go.Proofs.YtimjjohlpnkacaaGreat.Ir
end

section
/- The printed functions are the given ones. -/
namespace Go.Proofs.YtimjjohlpnkacaaGreat
open Go.Pv
theorem Q2gl : Q16 Tryz.prog Tryz.f5 Ir.K3 = true := by kernel_rfl
theorem Q20o : Q16 Tryz.prog Tryz.f11 Ir.K8 = true := by kernel_rfl
theorem Q20p : Q16 Tryz.prog Tryz.f12 Ir.K6 = true := by kernel_rfl
theorem Q20q : Q16 Tryz.prog Tryz.f17 Ir.K1v = true := by kernel_rfl
theorem Q20r : Q16 Tryz.prog Tryz.f18 Ir.K3t = true := by kernel_rfl
theorem Q20s : Q16 Tryz.prog Tryz.f21 Ir.K5w = true := by kernel_rfl
theorem Q20t : Q16 Tryz.prog Tryz.f27 Ir.K1y = true := by kernel_rfl
theorem Q20u : Q16 Tryz.prog Tryz.f28 Ir.K45 = true := by kernel_rfl
theorem Q20v : Q16 Tryz.prog Tryz.f29 Ir.K5y = true := by kernel_rfl
theorem Q20w : Q16 Tryz.prog Tryz.f30 Ir.K47 = true := by kernel_rfl
theorem Q20x : Q16 Tryz.prog Tryz.f31 Ir.K5n = true := by kernel_rfl
theorem Q20y : Q16 Tryz.prog Tryz.f32 Ir.K3z = true := by kernel_rfl
theorem Q20z : Q16 Tryz.prog Tryz.f33 Ir.K3v = true := by kernel_rfl
theorem Q210 : Q16 Tryz.prog Tryz.f34 Ir.K3n = true := by kernel_rfl
theorem Q211 : Q16 Tryz.prog Tryz.f35 Ir.K5x = true := by kernel_rfl
theorem Q212 : Q16 Tryz.prog Tryz.f36 Ir.K46 = true := by kernel_rfl
theorem Q213 : Q16 Tryz.prog Tryz.f37 Ir.K5p = true := by kernel_rfl
theorem Q214 : Q16 Tryz.prog Tryz.f38 Ir.K41 = true := by kernel_rfl
theorem Q215 : Q16 Tryz.prog Tryz.f39 Ir.K3u = true := by kernel_rfl
theorem Q216 : Q16 Tryz.prog Tryz.f40 Ir.K3p = true := by kernel_rfl
theorem Q217 : Q16 Tryz.prog Tryz.f41 Ir.K5s = true := by kernel_rfl
theorem Q218 : Q16 Tryz.prog Tryz.f42 Ir.K43 = true := by kernel_rfl
theorem Q219 : Q16 Tryz.prog Tryz.f43 Ir.K5v = true := by kernel_rfl
theorem Q21a : Q16 Tryz.prog Tryz.f44 Ir.K44 = true := by kernel_rfl
theorem Q21b : Q16 Tryz.prog Tryz.f45 Ir.K3r = true := by kernel_rfl
theorem Q21c : Q16 Tryz.prog Tryz.f46 Ir.K3s = true := by kernel_rfl
theorem Q21d : Q16 Tryz.prog Tryz.f58 Ir.K49 = true := by kernel_rfl
theorem Q21e : Q16 Tryz.prog Tryz.f60 Ir.K30 = true := by kernel_rfl
theorem Q21f : Q16 Tryz.prog Tryz.f63 Ir.K1r = true := by kernel_rfl
theorem Q21g : Q16 Tryz.prog Tryz.f64 Ir.K5d = true := by kernel_rfl
theorem Q21h : Q16 Tryz.prog Tryz.f65 Ir.K1o = true := by kernel_rfl
theorem Q21i : Q16 Tryz.prog Tryz.f66 Ir.K1q = true := by kernel_rfl
theorem Q21j : Q16 Tryz.prog Tryz.f67 Ir.K1p = true := by kernel_rfl
theorem Q21k : Q16 Tryz.prog Tryz.f68 Ir.K77 = true := by kernel_rfl
theorem Q21l : Q16 Tryz.prog Tryz.f70 Ir.K5z = true := by kernel_rfl
theorem Q21m : Q16 Tryz.prog Tryz.f71 Ir.K66 = true := by kernel_rfl
theorem Q21n : Q16 Tryz.prog Tryz.f72 Ir.K6a = true := by kernel_rfl
theorem Q21o : Q16 Tryz.prog Tryz.f73 Ir.K6e = true := by kernel_rfl
theorem Q21p : Q16 Tryz.prog Tryz.f74 Ir.K6g = true := by kernel_rfl
theorem Q21q : Q16 Tryz.prog Tryz.f75 Ir.K60 = true := by kernel_rfl
theorem Q21r : Q16 Tryz.prog Tryz.f76 Ir.K62 = true := by kernel_rfl
theorem Q21s : Q16 Tryz.prog Tryz.f77 Ir.K6f = true := by kernel_rfl
theorem Q21t : Q16 Tryz.prog Tryz.f78 Ir.K50 = true := by kernel_rfl
theorem Q21u : Q16 Tryz.prog Tryz.f79 Ir.K75 = true := by kernel_rfl
theorem Q21v : Q16 Tryz.prog Tryz.f83 Ir.K78 = true := by kernel_rfl
theorem Q21w : Q16 Tryz.prog Tryz.f85 Ir.K76 = true := by kernel_rfl
theorem Q21x : Q16 Tryz.prog Tryz.f89 Ir.K6d = true := by kernel_rfl
theorem Q21y : Q16 Tryz.prog Tryz.f98 Ir.K1n = true := by kernel_rfl
theorem Q21z : Q16 Tryz.prog Tryz.f99 Ir.K2q = true := by kernel_rfl
theorem Q1qn : Q16 Tryz.prog Tryz.f104 Ir.K7a = true := by kernel_rfl
theorem Q1qo : Q16 Tryz.prog Tryz.f106 Ir.K63 = true := by kernel_rfl
theorem Q1qp : Q16 Tryz.prog Tryz.f109 Ir.K4y = true := by kernel_rfl
theorem Q1qq : Q16 Tryz.prog Tryz.f119 Ir.K1x = true := by kernel_rfl
theorem Q1qr : Q16 Tryz.prog Tryz.f120 Ir.K1z = true := by kernel_rfl
theorem Q1qs : Q16 Tryz.prog Tryz.f121 Ir.K4a = true := by kernel_rfl
theorem Q1qt : Q16 Tryz.prog Tryz.f122 Ir.K4j = true := by kernel_rfl
theorem Q1qu : Q16 Tryz.prog Tryz.f123 Ir.K4m = true := by kernel_rfl
theorem Q1qv : Q16 Tryz.prog Tryz.f124 Ir.K4p = true := by kernel_rfl
theorem Q1qw : Q16 Tryz.prog Tryz.f125 Ir.K4q = true := by kernel_rfl
theorem Q1qx : Q16 Tryz.prog Tryz.f126 Ir.K48 = true := by kernel_rfl
theorem Q1qy : Q16 Tryz.prog Tryz.f127 Ir.K7d = true := by kernel_rfl
theorem Q1qz : Q16 Tryz.prog Tryz.f128 Ir.K4f = true := by kernel_rfl
theorem Q1r0 : Q16 Tryz.prog Tryz.f129 Ir.K7e = true := by kernel_rfl
theorem Q1r1 : Q16 Tryz.prog Tryz.f130 Ir.K4c = true := by kernel_rfl
theorem Q1r2 : Q16 Tryz.prog Tryz.f131 Ir.K4o = true := by kernel_rfl
theorem Q1r3 : Q16 Tryz.prog Tryz.f132 Ir.K2v = true := by kernel_rfl
theorem Q1r4 : Q16 Tryz.prog Tryz.f133 Ir.K29 = true := by kernel_rfl
theorem Q1r5 : Q16 Tryz.prog Tryz.f134 Ir.K7f = true := by kernel_rfl
theorem Q1r6 : Q16 Tryz.prog Tryz.f135 Ir.K67 = true := by kernel_rfl
theorem Q1r7 : Q16 Tryz.prog Tryz.f136 Ir.K4k = true := by kernel_rfl
theorem Q1r8 : Q16 Tryz.prog Tryz.f137 Ir.K6k = true := by kernel_rfl
theorem Q1r9 : Q16 Tryz.prog Tryz.f138 Ir.K5q = true := by kernel_rfl
theorem Q1ra : Q16 Tryz.prog Tryz.f139 Ir.K7g = true := by kernel_rfl
theorem Q1rb : Q16 Tryz.prog Tryz.f140 Ir.K4i = true := by kernel_rfl
theorem Q1rc : Q16 Tryz.prog Tryz.f141 Ir.K4b = true := by kernel_rfl
theorem Q1rd : Q16 Tryz.prog Tryz.f142 Ir.K4n = true := by kernel_rfl
theorem Q1re : Q16 Tryz.prog Tryz.f143 Ir.K4e = true := by kernel_rfl
theorem Q1rf : Q16 Tryz.prog Tryz.f144 Ir.K2t = true := by kernel_rfl
theorem Q1rg : Q16 Tryz.prog Tryz.f145 Ir.K2b = true := by kernel_rfl
theorem Q1rh : Q16 Tryz.prog Tryz.f146 Ir.K6l = true := by kernel_rfl
theorem Q1ri : Q16 Tryz.prog Tryz.f147 Ir.K5t = true := by kernel_rfl
theorem Q1rj : Q16 Tryz.prog Tryz.f148 Ir.K6m = true := by kernel_rfl
theorem Q1rk : Q16 Tryz.prog Tryz.f149 Ir.K5u = true := by kernel_rfl
theorem Q1rl : Q16 Tryz.prog Tryz.f150 Ir.K7h = true := by kernel_rfl
theorem Q1rm : Q16 Tryz.prog Tryz.f151 Ir.K4r = true := by kernel_rfl
theorem Q1rn : Q16 Tryz.prog Tryz.f152 Ir.K7i = true := by kernel_rfl
theorem Q1ro : Q16 Tryz.prog Tryz.f153 Ir.K69 = true := by kernel_rfl
theorem Q1rp : Q16 Tryz.prog Tryz.f154 Ir.K4l = true := by kernel_rfl
theorem Q1rq : Q16 Tryz.prog Tryz.f155 Ir.K2i = true := by kernel_rfl
theorem Q1rr : Q16 Tryz.prog Tryz.f156 Ir.K2o = true := by kernel_rfl
theorem Q1rs : Q16 Tryz.prog Tryz.f157 Ir.K2p = true := by kernel_rfl
theorem Q1rt : Q16 Tryz.prog Tryz.f159 Ir.K4g = true := by kernel_rfl
theorem Q1ru : Q16 Tryz.prog Tryz.f163 Ir.K2h = true := by kernel_rfl
theorem Q1rv : Q16 Tryz.prog Tryz.f164 Ir.K2c = true := by kernel_rfl
theorem Q1rw : Q16 Tryz.prog Tryz.f165 Ir.K2s = true := by kernel_rfl
theorem Q1rx : Q16 Tryz.prog Tryz.f166 Ir.K2y = true := by kernel_rfl
theorem Q1ry : Q16 Tryz.prog Tryz.f167 Ir.K24 = true := by kernel_rfl
theorem Q1rz : Q16 Tryz.prog Tryz.f168 Ir.K20 = true := by kernel_rfl
theorem Q1s0 : Q16 Tryz.prog Tryz.f169 Ir.K2w = true := by kernel_rfl
theorem Q1s1 : Q16 Tryz.prog Tryz.f170 Ir.K1s = true := by kernel_rfl
theorem Q1s2 : Q16 Tryz.prog Tryz.f171 Ir.K6u = true := by kernel_rfl
theorem Q1s3 : Q16 Tryz.prog Tryz.f172 Ir.K1m = true := by kernel_rfl
theorem Q1s4 : Q16 Tryz.prog Tryz.f173 Ir.K1u = true := by kernel_rfl
theorem Q1s5 : Q16 Tryz.prog Tryz.f174 Ir.K61 = true := by kernel_rfl
theorem Q1s6 : Q16 Tryz.prog Tryz.f179 Ir.K6n = true := by kernel_rfl
theorem Q1s7 : Q16 Tryz.prog Tryz.f180 Ir.K6b = true := by kernel_rfl
theorem Q1s8 : Q16 Tryz.prog Tryz.f181 Ir.K6o = true := by kernel_rfl
theorem Q1s9 : Q16 Tryz.prog Tryz.f182 Ir.K6c = true := by kernel_rfl
theorem Q1sa : Q16 Tryz.prog Tryz.f183 Ir.Ka = true := by kernel_rfl
theorem Q1sb : Q16 Tryz.prog Tryz.f184 Ir.K4x = true := by kernel_rfl
theorem Q1sc : Q16 Tryz.prog Tryz.f186 Ir.K4s = true := by kernel_rfl
theorem Q1sd : Q16 Tryz.prog Tryz.f187 Ir.K51 = true := by kernel_rfl
theorem Q1se : Q16 Tryz.prog Tryz.f188 Ir.K4v = true := by kernel_rfl
theorem Q1sf : Q16 Tryz.prog Tryz.f189 Ir.K53 = true := by kernel_rfl
theorem Q1sg : Q16 Tryz.prog Tryz.f194 Ir.K1l = true := by kernel_rfl
theorem Q1sh : Q16 Tryz.prog Tryz.f195 Ir.K2d = true := by kernel_rfl
theorem Q1si : Q16 Tryz.prog Tryz.f197 Ir.K6p = true := by kernel_rfl
theorem Q1sj : Q16 Tryz.prog Tryz.f198 Ir.K64 = true := by kernel_rfl
theorem Q1sk : Q16 Tryz.prog Tryz.f199 Ir.K1w = true := by kernel_rfl
theorem Q1sl : Q16 Tryz.prog Tryz.f200 Ir.K32 = true := by kernel_rfl
theorem Q1sm : Q16 Tryz.prog Tryz.f201 Ir.K35 = true := by kernel_rfl
theorem Q1sn : Q16 Tryz.prog Tryz.f202 Ir.K39 = true := by kernel_rfl
theorem Q1so : Q16 Tryz.prog Tryz.f203 Ir.K34 = true := by kernel_rfl
theorem Q1sp : Q16 Tryz.prog Tryz.f204 Ir.K3a = true := by kernel_rfl
theorem Q1sq : Q16 Tryz.prog Tryz.f205 Ir.K6q = true := by kernel_rfl
theorem Q1sr : Q16 Tryz.prog Tryz.f206 Ir.K68 = true := by kernel_rfl
theorem Q1ss : Q16 Tryz.prog Tryz.f207 Ir.K31 = true := by kernel_rfl
theorem Q1st : Q16 Tryz.prog Tryz.f208 Ir.K33 = true := by kernel_rfl
theorem Q1su : Q16 Tryz.prog Tryz.f209 Ir.K36 = true := by kernel_rfl
theorem Q1sv : Q16 Tryz.prog Tryz.f210 Ir.K2m = true := by kernel_rfl
theorem Q1sw : Q16 Tryz.prog Tryz.f211 Ir.K2r = true := by kernel_rfl
theorem Q1sx : Q16 Tryz.prog Tryz.f212 Ir.K2x = true := by kernel_rfl
theorem Q1sy : Q16 Tryz.prog Tryz.f213 Ir.K2g = true := by kernel_rfl
theorem Q1sz : Q16 Tryz.prog Tryz.f214 Ir.K2k = true := by kernel_rfl
theorem Q1t0 : Q16 Tryz.prog Tryz.f215 Ir.Ko = true := by kernel_rfl
theorem Q1t1 : Q16 Tryz.prog Tryz.f216 Ir.Ks = true := by kernel_rfl
theorem Q1t2 : Q16 Tryz.prog Tryz.f217 Ir.Ke = true := by kernel_rfl
theorem Q1t3 : Q16 Tryz.prog Tryz.f218 Ir.Kl = true := by kernel_rfl
theorem Q1t4 : Q16 Tryz.prog Tryz.f219 Ir.Kp = true := by kernel_rfl
theorem Q1t5 : Q16 Tryz.prog Tryz.f220 Ir.K4u = true := by kernel_rfl
theorem Q1t6 : Q16 Tryz.prog Tryz.f230 Ir.K1t = true := by kernel_rfl
theorem Q1t7 : Q16 Tryz.prog Tryz.f231 Ir.K37 = true := by kernel_rfl
theorem Q1t8 : Q16 Tryz.prog Tryz.f232 Ir.K38 = true := by kernel_rfl
theorem Q1t9 : Q16 Tryz.prog Tryz.f233 Ir.K27 = true := by kernel_rfl
theorem Q1ta : Q16 Tryz.prog Tryz.f234 Ir.K2j = true := by kernel_rfl
theorem Q1tb : Q16 Tryz.prog Tryz.f235 Ir.K2l = true := by kernel_rfl
theorem Q1tc : Q16 Tryz.prog Tryz.f236 Ir.K2u = true := by kernel_rfl
theorem Q1td : Q16 Tryz.prog Tryz.f237 Ir.K2z = true := by kernel_rfl
theorem Q1te : Q16 Tryz.prog Tryz.f238 Ir.Kd = true := by kernel_rfl
theorem Q1tf : Q16 Tryz.prog Tryz.f239 Ir.Kn = true := by kernel_rfl
theorem Q1tg : Q16 Tryz.prog Tryz.f240 Ir.Kg = true := by kernel_rfl
theorem Q1th : Q16 Tryz.prog Tryz.f241 Ir.Kt = true := by kernel_rfl
theorem Q1ti : Q16 Tryz.prog Tryz.f242 Ir.Kb = true := by kernel_rfl
theorem Q1tj : Q16 Tryz.prog Tryz.f243 Ir.Ku = true := by kernel_rfl
theorem Q1tk : Q16 Tryz.prog Tryz.f244 Ir.Kj = true := by kernel_rfl
theorem Q1tl : Q16 Tryz.prog Tryz.f245 Ir.Kv = true := by kernel_rfl
theorem Q1tm : Q16 Tryz.prog Tryz.f246 Ir.Kf = true := by kernel_rfl
theorem Q1tn : Q16 Tryz.prog Tryz.f247 Ir.Kw = true := by kernel_rfl
theorem Q1to : Q16 Tryz.prog Tryz.f248 Ir.Kh = true := by kernel_rfl
theorem Q1tp : Q16 Tryz.prog Tryz.f249 Ir.Kx = true := by kernel_rfl
theorem Q1tq : Q16 Tryz.prog Tryz.f250 Ir.Km = true := by kernel_rfl
theorem Q1tr : Q16 Tryz.prog Tryz.f251 Ir.Ky = true := by kernel_rfl
theorem Q1ts : Q16 Tryz.prog Tryz.f252 Ir.Kr = true := by kernel_rfl
theorem Q1tt : Q16 Tryz.prog Tryz.f253 Ir.K4t = true := by kernel_rfl
theorem Q1tu : Q16 Tryz.prog Tryz.f269 Ir.K3c = true := by kernel_rfl
theorem Q1tv : Q16 Tryz.prog Tryz.f270 Ir.K3d = true := by kernel_rfl
theorem Q1tw : Q16 Tryz.prog Tryz.f271 Ir.K3e = true := by kernel_rfl
theorem Q1tx : Q16 Tryz.prog Tryz.f272 Ir.K3i = true := by kernel_rfl
theorem Q1ty : Q16 Tryz.prog Tryz.f273 Ir.K3j = true := by kernel_rfl
theorem Q1tz : Q16 Tryz.prog Tryz.f274 Ir.K2n = true := by kernel_rfl
theorem Q1u0 : Q16 Tryz.prog Tryz.f275 Ir.Kk = true := by kernel_rfl
theorem Q1u1 : Q16 Tryz.prog Tryz.f276 Ir.Kz = true := by kernel_rfl
theorem Q1u2 : Q16 Tryz.prog Tryz.f277 Ir.Ki = true := by kernel_rfl
theorem Q1u3 : Q16 Tryz.prog Tryz.f278 Ir.K10 = true := by kernel_rfl
theorem Q1u4 : Q16 Tryz.prog Tryz.f279 Ir.Kq = true := by kernel_rfl
theorem Q1u5 : Q16 Tryz.prog Tryz.f280 Ir.Kc = true := by kernel_rfl
theorem Q1u6 : Q16 Tryz.prog Tryz.f286 Ir.K3b = true := by kernel_rfl
theorem Q1u7 : Q16 Tryz.prog Tryz.f288 Ir.K3h = true := by kernel_rfl
theorem Q1u8 : Q16 Tryz.prog Tryz.f289 Ir.K3g = true := by kernel_rfl
theorem Q1u9 : Q16 Tryz.prog Tryz.f290 Ir.K3f = true := by kernel_rfl
theorem Q1ua : Q71 Tryz.prog Tryz.f175 2 32 [.str ⟨#[]⟩, .str ⟨#[]⟩] = true := by kernel_rfl
theorem Q1ub : Q71 Tryz.prog Tryz.f176 5 48 [.str ⟨#[]⟩, .str ⟨#[]⟩, .int .i64 0, .bool false, .bool false] = true := by kernel_rfl
theorem Q1uc : Q71 Tryz.prog Tryz.f177 1 16 [.str ⟨#[]⟩] = true := by kernel_rfl
theorem Q1ud : Q71 Tryz.prog Tryz.f178 2 40 [.str ⟨#[]⟩, .ns 1] = true := by kernel_rfl
theorem Q1ue : Q71 Tryz.prog Tryz.f185 6 96 [.str ⟨#[]⟩, .int .i64 0, .int .i64 0, .str ⟨#[]⟩, .ns 5, .ns 6] = true := by kernel_rfl
theorem Q1uf : Q71 Tryz.prog Tryz.f222 5 80 [.int .i64 0, .int .i64 0, .str ⟨#[]⟩, .ns 5, .ns 6] = true := by kernel_rfl
theorem mixed : Tryz.prog.follows .mixedOrders = true := by kernel_rfl
theorem own : ownKnob Tryz.prog.godebug = none := by kernel_rfl
theorem laidOut : laidOutB Tryz.prog = true := by kernel_rfl
theorem tie (cmp : Q1j7 Tryz.prog 221) : Tie Tryz.prog (tabG Ir.table) :=
  Qk Tryz.func5 Q2gl <| Qk Tryz.func11 Q20o <| Qk Tryz.func12 Q20p <| Qk Tryz.func17 Q20q <| Qk Tryz.func18 Q20r <| Qk Tryz.func21 Q20s <| Qk Tryz.func27 Q20t <| Qk Tryz.func28 Q20u <| Qk Tryz.func29 Q20v <| Qk Tryz.func30 Q20w <| Qk Tryz.func31 Q20x <| Qk Tryz.func32 Q20y <| Qk Tryz.func33 Q20z <| Qk Tryz.func34 Q210 <| Qk Tryz.func35 Q211 <| Qk Tryz.func36 Q212 <| Qk Tryz.func37 Q213 <| Qk Tryz.func38 Q214 <| Qk Tryz.func39 Q215 <| Qk Tryz.func40 Q216 <| Qk Tryz.func41 Q217 <| Qk Tryz.func42 Q218 <| Qk Tryz.func43 Q219 <| Qk Tryz.func44 Q21a <| Qk Tryz.func45 Q21b <| Qk Tryz.func46 Q21c <| Qk Tryz.func58 Q21d <| Qk Tryz.func60 Q21e <| Qk Tryz.func63 Q21f <| Qk Tryz.func64 Q21g <| Qk Tryz.func65 Q21h <| Qk Tryz.func66 Q21i <| Qk Tryz.func67 Q21j <| Qk Tryz.func68 Q21k <| Qk Tryz.func70 Q21l <| Qk Tryz.func71 Q21m <| Qk Tryz.func72 Q21n <| Qk Tryz.func73 Q21o <| Qk Tryz.func74 Q21p <| Qk Tryz.func75 Q21q <| Qk Tryz.func76 Q21r <| Qk Tryz.func77 Q21s <| Qk Tryz.func78 Q21t <| Qk Tryz.func79 Q21u <| Qk Tryz.func83 Q21v <| Qk Tryz.func85 Q21w <| Qk Tryz.func89 Q21x <| Qk Tryz.func98 Q21y <| Qk Tryz.func99 Q21z <| Qk Tryz.func104 Q1qn <| Qk Tryz.func106 Q1qo <| Qk Tryz.func109 Q1qp <| Qk Tryz.func119 Q1qq <| Qk Tryz.func120 Q1qr <| Qk Tryz.func121 Q1qs <| Qk Tryz.func122 Q1qt <| Qk Tryz.func123 Q1qu <| Qk Tryz.func124 Q1qv <| Qk Tryz.func125 Q1qw <| Qk Tryz.func126 Q1qx <| Qk Tryz.func127 Q1qy <| Qk Tryz.func128 Q1qz <| Qk Tryz.func129 Q1r0 <| Qk Tryz.func130 Q1r1 <| Qk Tryz.func131 Q1r2 <| Qk Tryz.func132 Q1r3 <| Qk Tryz.func133 Q1r4 <| Qk Tryz.func134 Q1r5 <| Qk Tryz.func135 Q1r6 <| Qk Tryz.func136 Q1r7 <| Qk Tryz.func137 Q1r8 <| Qk Tryz.func138 Q1r9 <| Qk Tryz.func139 Q1ra <| Qk Tryz.func140 Q1rb <| Qk Tryz.func141 Q1rc <| Qk Tryz.func142 Q1rd <| Qk Tryz.func143 Q1re <| Qk Tryz.func144 Q1rf <| Qk Tryz.func145 Q1rg <| Qk Tryz.func146 Q1rh <| Qk Tryz.func147 Q1ri <| Qk Tryz.func148 Q1rj <| Qk Tryz.func149 Q1rk <| Qk Tryz.func150 Q1rl <| Qk Tryz.func151 Q1rm <| Qk Tryz.func152 Q1rn <| Qk Tryz.func153 Q1ro <| Qk Tryz.func154 Q1rp <| Qk Tryz.func155 Q1rq <| Qk Tryz.func156 Q1rr <| Qk Tryz.func157 Q1rs <| Qk Tryz.func159 Q1rt <| Qk Tryz.func163 Q1ru <| Qk Tryz.func164 Q1rv <| Qk Tryz.func165 Q1rw <| Qk Tryz.func166 Q1rx <| Qk Tryz.func167 Q1ry <| Qk Tryz.func168 Q1rz <| Qk Tryz.func169 Q1s0 <| Qk Tryz.func170 Q1s1 <| Qk Tryz.func171 Q1s2 <| Qk Tryz.func172 Q1s3 <| Qk Tryz.func173 Q1s4 <| Qk Tryz.func174 Q1s5 <| (fun h => Qaw h (Qnp mixed Tryz.func175 Q1ua)) <| (fun h => Qaw h (Qnp mixed Tryz.func176 Q1ub)) <| (fun h => Qaw h (Qnp mixed Tryz.func177 Q1uc)) <| (fun h => Qaw h (Qxg mixed Tryz.func178 Q1ud)) <| Qk Tryz.func179 Q1s6 <| Qk Tryz.func180 Q1s7 <| Qk Tryz.func181 Q1s8 <| Qk Tryz.func182 Q1s9 <| Qk Tryz.func183 Q1sa <| Qk Tryz.func184 Q1sb <| (fun h => Qaw h (Qxg mixed Tryz.func185 Q1ue)) <| Qk Tryz.func186 Q1sc <| Qk Tryz.func187 Q1sd <| Qk Tryz.func188 Q1se <| Qk Tryz.func189 Q1sf <| Qk Tryz.func194 Q1sg <| Qk Tryz.func195 Q1sh <| Qk Tryz.func197 Q1si <| Qk Tryz.func198 Q1sj <| Qk Tryz.func199 Q1sk <| Qk Tryz.func200 Q1sl <| Qk Tryz.func201 Q1sm <| Qk Tryz.func202 Q1sn <| Qk Tryz.func203 Q1so <| Qk Tryz.func204 Q1sp <| Qk Tryz.func205 Q1sq <| Qk Tryz.func206 Q1sr <| Qk Tryz.func207 Q1ss <| Qk Tryz.func208 Q1st <| Qk Tryz.func209 Q1su <| Qk Tryz.func210 Q1sv <| Qk Tryz.func211 Q1sw <| Qk Tryz.func212 Q1sx <| Qk Tryz.func213 Q1sy <| Qk Tryz.func214 Q1sz <| Qk Tryz.func215 Q1t0 <| Qk Tryz.func216 Q1t1 <| Qk Tryz.func217 Q1t2 <| Qk Tryz.func218 Q1t3 <| Qk Tryz.func219 Q1t4 <| Qk Tryz.func220 Q1t5 <| (fun h => Qaw h cmp) <| (fun h => Qaw h (Qxg mixed Tryz.func222 Q1uf)) <| Qk Tryz.func230 Q1t6 <| Qk Tryz.func231 Q1t7 <| Qk Tryz.func232 Q1t8 <| Qk Tryz.func233 Q1t9 <| Qk Tryz.func234 Q1ta <| Qk Tryz.func235 Q1tb <| Qk Tryz.func236 Q1tc <| Qk Tryz.func237 Q1td <| Qk Tryz.func238 Q1te <| Qk Tryz.func239 Q1tf <| Qk Tryz.func240 Q1tg <| Qk Tryz.func241 Q1th <| Qk Tryz.func242 Q1ti <| Qk Tryz.func243 Q1tj <| Qk Tryz.func244 Q1tk <| Qk Tryz.func245 Q1tl <| Qk Tryz.func246 Q1tm <| Qk Tryz.func247 Q1tn <| Qk Tryz.func248 Q1to <| Qk Tryz.func249 Q1tp <| Qk Tryz.func250 Q1tq <| Qk Tryz.func251 Q1tr <| Qk Tryz.func252 Q1ts <| Qk Tryz.func253 Q1tt <| Qk Tryz.func269 Q1tu <| Qk Tryz.func270 Q1tv <| Qk Tryz.func271 Q1tw <| Qk Tryz.func272 Q1tx <| Qk Tryz.func273 Q1ty <| Qk Tryz.func274 Q1tz <| Qk Tryz.func275 Q1u0 <| Qk Tryz.func276 Q1u1 <| Qk Tryz.func277 Q1u2 <| Qk Tryz.func278 Q1u3 <| Qk Tryz.func279 Q1u4 <| Qk Tryz.func280 Q1u5 <| Qk Tryz.func286 Q1u6 <| Qk Tryz.func288 Q1u7 <| Qk Tryz.func289 Q1u8 <| Qk Tryz.func290 Q1u9 <| Q1ug
end Go.Proofs.YtimjjohlpnkacaaGreat
end

section
/-
  Runs along a trace, over views: operations, regions, code, calls, loops' rounds.
-/
namespace Go.Pv
def Seen (o : Option Ob) (rows : List (List PV)) : Prop := ∃ ob, o = some ob ∧ ViewOK ob.sz ob.cells rows
theorem Q3r {ob : Ob} {rows : List (List PV)} (h : ViewOK ob.sz ob.cells rows) : Seen (some ob) rows := ⟨ob, rfl, h⟩
def putV (vw : Views) (cut : List Nat) (new : Views) : Views := new ++ vw.filter fun x => !(has cut x.1)
theorem Q13s {vw : Views} {cut : List Nat} {id : Nat} {rows : List (List PV)} (h : look (vw.filter fun x => !(has cut x.1)) id = some rows) : look vw id = some rows ∧ has cut id = false := by
 induction vw with
 | nil => cases h
 | cons x r ih =>
  obtain ⟨k, rs⟩ := x
  simp only [List.filter_cons] at h
  cases hc : has cut k with
  | true =>
   rw [hc] at h
   simp only [Bool.not_true, Bool.false_eq_true, if_false] at h
   obtain ⟨h1, h2⟩ := ih h
   refine ⟨?_, h2⟩
   simp only [look]
   cases c : Nat.beq k id with
   | true =>
    have := Nat.eq_of_beq_eq_true c
    subst this
    rw [hc] at h2
    cases h2
   | false => exact h1
  | false =>
   rw [hc] at h
   simp only [Bool.not_false, if_true, look] at h ⊢
   cases c : Nat.beq k id with
   | true =>
    rw [c] at h
    have := Nat.eq_of_beq_eq_true c
    subst this
    exact ⟨h, hc⟩
   | false =>
    rw [c] at h
    exact ih h
theorem Q118 {l : List Nat} {id : Nat} (h : has l id = false) : id ∉ l := by
  induction l with
  | nil => exact List.not_mem_nil
  | cons k r ih =>
    simp only [has] at h
    cases c : Nat.beq k id with
    | true => rw [c] at h; cases h
    | false =>
      rw [c] at h
      simp only [cond_false] at h
      intro hm
      rcases List.mem_cons.1 hm with rfl | hm
      · simp at c
      · exact ih h hm
theorem Qol {vw new : Views} {cut : List Nat} {id : Nat} {rows : List (List PV)} (h : look (putV vw cut new) id = some rows) : look new id = some rows ∨ (look vw id = some rows ∧ id ∉ cut) := by
 unfold putV at h
 rw [Qxs] at h
 cases hn : look new id with
 | some r => rw [hn] at h; exact .inl h
 | none =>
  rw [hn] at h
  obtain ⟨h1, h2⟩ := Q13s h
  exact .inr ⟨h1, Q118 h2⟩
theorem Q13t {α : Type} {l : List (Nat × α)} {id : Nat} {x : α} (h : look l id = some x) : (id, x) ∈ l := by
 induction l with
 | nil => cases h
 | cons y r ih =>
  obtain ⟨k, z⟩ := y
  simp only [look] at h
  cases c : Nat.beq k id with
  | true =>
   rw [c] at h
   have := Nat.eq_of_beq_eq_true c
   subst this
   simp only [cond_true, Option.some.injEq] at h
   subst h
   exact List.mem_cons_self
  | false =>
   rw [c] at h
   exact List.mem_cons_of_mem _ (ih h)
def Turned (H : Nat → Option Ob) (vw : Views) (e : EV) : Prop := VOK (upH H e.eff.hw) (putV vw e.cut e.new)
theorem Q194 {ws : List (Nat × Option Ob)} {H : Nat → Option Ob} {id : Nat} {o : Option Ob} (hn : (ws.map (·.1)).Nodup) (h : (id, o) ∈ ws) : upH H ws id = o := by
  induction ws generalizing H with
  | nil => cases h
  | cons x r ih =>
    obtain ⟨k, z⟩ := x
    simp only [List.map_cons, List.nodup_cons] at hn
    rw [upH]
    rcases List.mem_cons.1 h with e | h
    · injection e with e1 e2
      subst e1 e2
      rw [Q8g (fun y hy e => hn.1 (by rw [← e]; exact List.mem_map_of_mem hy))]
      simp
    · exact ih hn.2 h
theorem Q12o : ∀ {l : List Nat}, nodupB l = true → l.Nodup
 | [], _ => List.nodup_nil
 | k :: r, h => by
  simp only [nodupB, Bool.and_eq_true, Bool.not_eq_true'] at h
  exact List.nodup_cons.2 ⟨Q118 h.1, Q12o h.2⟩
theorem Q132 {H : Nat → Option Ob} : ∀ (l : List Nat) (cl : List (Nat × Option Ob)), shut H l = some cl → ∀ id o, (id, o) ∈ cl → ∃ ob ob', H id = some ob ∧ o = some ob' ∧ ob'.sz = ob.sz ∧ ob'.cells = ob.cells
  | [], cl, h, id, o, hm => by
    simp only [shut, Option.some.injEq] at h
    subst h
    cases hm
  | k :: r, cl, h, id, o, hm => by
    simp only [shut] at h
    obtain ⟨ob, hob, h⟩ := Qx h
    obtain ⟨m, hm', h⟩ := Qx h
    simp only [Option.some.injEq] at h
    subst h
    rcases List.mem_cons.1 hm with e | hm
    · injection e with e1 e2
      subst e1 e2
      exact ⟨ob, _, hob, rfl, rfl, rfl⟩
    · exact Q132 r m hm' id o hm
def Q1h6 (H : Nat → Option Ob) (vw : Views) (fr : Nat) (byRef : Bool) (f : Nat) (args : List PV) (az : List Ans) : Option EV :=
  (Q1o4 H vw fr byRef f args az).bind fun e => bif nodupB (e.eff.hw.map (·.1)) then some e else none
theorem Q119 {G : Nat → Option Fun} {H : Nat → Option Ob} {vw : Views} (hv : VOK H vw) {fr : Nat} {byRef : Bool} {f : Nat} {args : List PV} {az : List Ans} {e : EV} (h : Q1h6 H vw fr byRef f args az = some e) (hm : Met e.owed) (hq : Told G e.asked) : Qfw (lim G) H fr byRef f args = some e.eff ∧ Turned H vw e := by
  unfold Q1h6 at h
  obtain ⟨e', h0, h'⟩ := Qx h
  clear h
  cases hnd : nodupB (e'.eff.hw.map (·.1)) with
  | false => rw [hnd] at h'; cases h'
  | true =>
  rw [hnd] at h'
  simp only [cond_true, Option.some.injEq] at h'
  subst h'
  have hnd := Q12o hnd
  unfold Q1o4 at h0
  unfold Qfw
  obtain ⟨y, hy, h⟩ := Qx h0
  clear h0
  obtain ⟨z, hz, h⟩ := Qx h
  simp only at h
  cases hd : disj (y.1.2.2 ++ z.1.2.2) z.1.2.1 with
  | false => rw [hd] at h; cases h
  | true =>
    rw [hd] at h
    simp only [cond_true] at h
    cases az with
    | nil => cases h
    | cons a az' =>
      obtain ⟨r, avw⟩ := a
      cases r with
      | st _ _ => cases h
      | ret v hh =>
        simp only at h
        cases hb : (Nat.ble z.1.2.1.length hh.length && Nat.ble (hh.length - z.1.2.1.length) 64) with
        | false => rw [hb] at h; cases h
        | true =>
          rw [hb] at h
          simp only [cond_true] at h
          obtain ⟨v', hv', h⟩ := Qx h
          obtain ⟨ws, hws, h⟩ := Qx h
          have key : ∀ (hy' : Met y.2) (hz' : Met z.2) (hw' : Met ws.2.1) (ht : Q5 G (.call f y.1.1 z.1.1) (.ret v hh)) (E : Eff),
              (bif flat 8 v && hh.all (fun ob => ob.cells.all (flat 8)) then some ⟨v', ws.1, z.1.2.1 ++ (y.1.2.2 ++ z.1.2.2)⟩ else (shut H (y.1.2.2 ++ z.1.2.2)).bind fun cl => some ⟨v', ws.1 ++ cl, z.1.2.1 ++ (y.1.2.2 ++ z.1.2.2)⟩) = some E →
              ((Q66 (pass H byRef 8) args []).bind fun y => (Q3w H false false 16 0 y.2.1).bind fun z =>
                let ids := z.2.1
                let lent := y.2.2 ++ z.2.2
                bif disj lent ids then
                  (lim G (.call f y.1 z.1)).bind fun r =>
                    match r with
                    | .ret v h =>
                      bif Nat.ble ids.length h.length && Nat.ble (h.length - ids.length) 64 then
                        (back (ren ids fr) 8 v).bind fun v' => (Q9p (ren ids fr) 0 h).bind fun ws =>
                          bif flat 8 v && h.all (fun ob => ob.cells.all (flat 8)) then some ⟨v', ws, ids ++ lent⟩
                          else (shut H lent).bind fun cl => some ⟨v', ws ++ cl, ids ++ lent⟩
                      else none
                    | _ => none
                else none) = some E := by
            intro hy' hz' hw' ht E hE
            rw [Q4f (Q8a hv 8) _ _ y hy hy', Option.bind_some, Q5m hv 16 _ _ z hz hz', Option.bind_some]
            simp only
            rw [hd]
            simp only [cond_true]
            rw [Q1o6 ht, Option.bind_some]
            simp only
            rw [hb]
            simp only [cond_true]
            rw [hv', Option.bind_some, Q8w hh 0 ws hws hw', Option.bind_some]
            exact hE
          have turn : ∀ (cl : List (Nat × Option Ob)) (hcl : ∀ id o, (id, o) ∈ cl → ∃ ob ob', H id = some ob ∧ o = some ob' ∧ ob'.sz = ob.sz ∧ ob'.cells = ob.cells) (hn : ((ws.1 ++ cl).map (·.1)).Nodup) (hw' : Met ws.2.1) , VOK (upH H (ws.1 ++ cl)) (putV vw (ws.1.map (·.1)) ws.2.2) := by
            intro cl hcl hn hw' id rows hl
            rcases Qol hl with hl | ⟨hl, hc⟩
            · obtain ⟨ob, hob, hok⟩ := Q8x hh 0 ws hws hw' id rows (Q13t hl)
              exact ⟨ob, Q194 hn (List.mem_append_left _ hob), hok⟩
            · obtain ⟨ob, hob, hok⟩ := hv id rows hl
              by_cases hx : ∃ o, (id, o) ∈ cl
              · obtain ⟨o, ho⟩ := hx
                obtain ⟨ob1, ob', h1, rfl, h2, h3⟩ := hcl id o ho
                rw [hob] at h1
                injection h1 with h1
                subst h1
                refine ⟨ob', Q194 hn (List.mem_append_right _ ho), ?_⟩
                rw [h2, h3]
                exact hok
              · refine ⟨ob, ?_, hok⟩
                rw [Q8g (fun y hy e => ?_)]
                · exact hob
                · rcases List.mem_append.1 hy with hy | hy
                  · exact hc (by rw [← e]; exact List.mem_map_of_mem hy)
                  · exact hx ⟨y.2, by rw [← e]; exact hy⟩
          cases hlent : y.1.2.2 ++ z.1.2.2 with
          | nil =>
            rw [hlent] at h
            simp only [Option.some.injEq] at h
            subst h
            simp only at hm hq hnd
            refine ⟨key hm.left hm.right.left hm.right.right (hq _ List.mem_cons_self) _ ?_, ?_⟩
            · rw [hlent]
              cases (flat 8 v && hh.all (fun ob => ob.cells.all (flat 8))) <;> simp [shut]
            · have := turn [] (fun _ _ h => by cases h) (by simpa using hnd) hm.right.right
              rw [List.append_nil] at this
              exact this
          | cons l0 lr =>
            rw [hlent] at h
            simp only at h
            cases hf : (flat 8 v && hh.all (fun ob => ob.cells.all (flat 8))) with
            | true =>
              rw [hf] at h
              simp only [cond_true, Option.some.injEq] at h
              subst h
              simp only at hm hq hnd
              refine ⟨key hm.left hm.right.left hm.right.right (hq _ List.mem_cons_self) _ ?_, ?_⟩
              · rw [hlent, hf]
                rfl
              · have := turn [] (fun _ _ h => by cases h) (by simpa using hnd) hm.right.right
                rw [List.append_nil] at this
                exact this
            | false =>
              rw [hf] at h
              simp only [cond_false] at h
              obtain ⟨cl, hcl, h⟩ := Qx h
              simp only [Option.some.injEq] at h
              subst h
              simp only at hm hq hnd
              refine ⟨key hm.left hm.right.left hm.right.right (hq _ List.mem_cons_self) _ ?_, ?_⟩
              · rw [hlent, hf]
                simp only [cond_false]
                rw [hcl, Option.bind_some]
              · exact turn cl (Q132 _ _ hcl) hnd hm.right.right
def mute : Orc := fun _ => none
theorem Q17f {X : Orc} {e : Nat → PV} {H : Nat → Option Ob} {fr : Nat} {o : IOp} {x : Eff} (h : iop mute e H fr o = some x) : iop X e H fr o = some x := by
 cases o with
 | call b f xs =>
  simp only [iop] at h
  obtain ⟨t, _, h⟩ := Qx h
  obtain ⟨_, h, _⟩ := Qx h
  unfold Qfw at h
  obtain ⟨y, _, h⟩ := Qx h
  obtain ⟨z, _, h⟩ := Qx h
  simp only at h
  cases hd : disj (y.2.2 ++ z.2.2) z.2.1 with
  | false => rw [hd] at h; cases h
  | true =>
   rw [hd] at h
   simp only [cond_true] at h
   obtain ⟨_, h, _⟩ := Qx h
   cases h
 | _ => exact h
theorem Q19j {X : Orc} {e : Nat → PV} {H : Nat → Option Ob} {fr : Nat} {o : IOper} {x : Eff} (h : Q8z mute e H fr o = some x) : Q8z X e H fr o = some x := by
 unfold Q8z at h ⊢
 obtain ⟨w, hw, h⟩ := Qx h
 rw [hw, Option.bind_some]
 cases w with
 | true => exact Q17f h
 | false => exact h
def iopV (e : Nat → PV) (H : Nat → Option Ob) (vw : Views) (fr : Nat) (az : List Ans) : IOp → Option EV
  | .call byRef f args => (target (f.ev e) (evs e args)).bind fun t => (Q1h6 H vw fr byRef t.1 t.2 az).bind fun y => some { y with eff := trim H y.eff }
  | o => (iop mute e H fr o).bind fun x => some ⟨x, x.hw.map (·.1), [], az, [], []⟩
def Q17g (e : Nat → PV) (H : Nat → Option Ob) (vw : Views) (fr : Nat) (az : List Ans) (o : IOper) : Option EV :=
 (o.wanted e).bind fun w => bif w then iopV e H vw fr az o.op else some ⟨⟨.tup [], [], []⟩, [], [], az, [], []⟩
theorem Qfr {H : Nat → Option Ob} {vw : Views} (hv : VOK H vw) {x : Eff} {az : List Ans} : Turned H vw ⟨x, x.hw.map (·.1), [], az, [], []⟩ := by
  intro id rows hl
  rcases Qol hl with hl | ⟨hl, hc⟩
  · cases hl
  · obtain ⟨ob, hob, hok⟩ := hv id rows hl
    refine ⟨ob, ?_, hok⟩
    rw [Q8g (fun y hy e => hc (by rw [← e]; exact List.mem_map_of_mem hy))]
    exact hob
theorem Qfo {G : Nat → Option Fun} {e : Nat → PV} {H : Nat → Option Ob} {vw : Views} (hv : VOK H vw) {fr : Nat} {az : List Ans} {o : IOper} {y : EV} (h : Q17g e H vw fr az o = some y) (hm : Met y.owed) (hq : Told G y.asked) : Q8z (lim G) e H fr o = some y.eff ∧ Turned H vw y := by
  unfold Q17g at h
  obtain ⟨w, hw, h⟩ := Qx h
  unfold Q8z
  rw [hw, Option.bind_some]
  cases w with
  | false =>
    simp only [cond_false, Option.some.injEq] at h
    subst h
    exact ⟨rfl, Qfr hv (x := ⟨.tup [], [], []⟩)⟩
  | true =>
    simp only [cond_true] at h ⊢
    have gen : ((iop mute e H fr o.op).bind fun x => some (⟨x, x.hw.map (·.1), [], az, [], []⟩ : EV)) = some y → iop (lim G) e H fr o.op = some y.eff ∧ Turned H vw y := by
      intro h
      obtain ⟨x, hx, h⟩ := Qx h
      simp only [Option.some.injEq] at h
      subst h
      exact ⟨Q17f hx, Qfr hv⟩
    cases ho : o.op with
    | call b f xs =>
      rw [ho] at h
      simp only [iopV] at h
      obtain ⟨t, ht, h⟩ := Qx h
      simp only [iop]
      obtain ⟨y', h9, hy⟩ := Qx h
      clear h
      simp only [Option.some.injEq] at hy
      subst hy
      have hs := Q119 hv h9 hm hq
      rw [ht, Option.bind_some, hs.1, Option.bind_some]
      refine ⟨rfl, fun id rows hl => ?_⟩
      rw [Q14f]
      exact hs.2 id rows hl
    | _ =>
      rw [ho] at h gen
      exact gen h
abbrev Q8j := List (Nat × (Eff × Views))
structure TV where
  env : List PV
  heap : List (Nat × Ob)
  vw : Views
  effs : List Eff
  hs : Q8j
  az : List Ans
  owed : List Prop
  asked : Qc9
def nobody : Nat → Option Ob := fun _ => none
def Q11a (nx : Nat) : Nat → List IOper → Q8j → List Ans → List PV → List (Nat × Ob) → Views → Option TV
  | _, [], hs, az, env, h, vw => some ⟨env, h, vw, [], hs, az, [], []⟩
  | i, o :: r, hs, az, env, h, vw =>
    match hs with
    | [] => (Q17g (envF env) (look h) vw (nx + 64 * i) az o).bind fun x => (Q11a nx (i + 1) r [] x.az (put env o.dst x.eff.v) (hput h x.eff.hw) (putV vw x.cut x.new)).bind fun y => some ⟨y.env, y.heap, y.vw, x.eff :: y.effs, y.hs, y.az, x.owed ++ y.owed, x.asked ++ y.asked⟩
    | (k + 1, z) :: hs' => (Q17g (envF env) (look h) vw (nx + 64 * i) az o).bind fun x => (Q11a nx (i + 1) r ((k, z) :: hs') x.az (put env o.dst x.eff.v) (hput h x.eff.hw) (putV vw x.cut x.new)).bind fun y => some ⟨y.env, y.heap, y.vw, x.eff :: y.effs, y.hs, y.az, x.owed ++ y.owed, x.asked ++ y.asked⟩
    | (0, x) :: hs' => (Q11a nx (i + 1) r hs' az (put env o.dst x.1.v) (hput h x.1.hw) (putV vw (x.1.hw.map (·.1)) x.2)).bind fun y => some ⟨y.env, y.heap, y.vw, x.1 :: y.effs, y.hs, y.az, (Q8z mute (envF env) (look h) (nx + 64 * i) o = some x.1) :: ((x.2.map fun p => Seen (upH nobody x.1.hw p.1) p.2) ++ y.owed), y.asked⟩
theorem VOK.turned {h : List (Nat × Ob)} {vw : Views} {y : EV} (ht : Turned (look h) vw y) : VOK (look (hput h y.eff.hw)) (putV vw y.cut y.new) := by
 rw [Q87]
 exact ht
theorem Q1c8 {ws : List (Nat × Option Ob)} {H : Nat → Option Ob} {id : Nat} {ob : Ob} (h : upH nobody ws id = some ob) : upH H ws id = some ob := by
  by_cases c : ∃ x ∈ ws, x.1 = id
  · rw [Qp9 (H' := nobody) c]
    exact h
  · rw [Q8g (fun y hy e => c ⟨y, hy, e⟩)] at h
    cases h
theorem Qo0 {G : Nat → Option Fun} {nx : Nat} : ∀ (ops : List IOper) (i : Nat) (hs : Q8j) (az : List Ans) (env : List PV) (h : List (Nat × Ob)) (vw : Views) (t : TV), Q11a nx i ops hs az env h vw = some t → VOK (look h) vw → Met t.owed → Told G t.asked → Q6v (lim G) nx i ops env h = some (t.env, t.heap, t.effs) ∧ VOK (look t.heap) t.vw
  | [], i, hs, az, env, h, vw, t, ht, hv, _, _ => by
    simp only [Q11a, Option.some.injEq] at ht
    subst ht
    exact ⟨rfl, hv⟩
  | o :: r, i, hs, az, env, h, vw, t, ht, hv, hm, hq => by
    have go : ∀ (x : EV) (hs' : Q8j) (vw' : Views), Q8z (lim G) (envF env) (look h) (nx + 64 * i) o = some x.eff → VOK (look (hput h x.eff.hw)) vw' → ∀ (y : TV), Q11a nx (i + 1) r hs' x.az (put env o.dst x.eff.v) (hput h x.eff.hw) vw' = some y → Met y.owed → Told G y.asked → y.env = t.env → y.heap = t.heap → y.vw = t.vw → x.eff :: y.effs = t.effs → Q6v (lim G) nx i (o :: r) env h = some (t.env, t.heap, t.effs) ∧ VOK (look t.heap) t.vw := by
      intro x hs' vw' hx hvx y hy hmy hqy e1 e2 e3 e4
      obtain ⟨r1, r2⟩ := Qo0 r (i + 1) hs' _ _ _ _ y hy hvx hmy hqy
      simp only [Q6v]
      rw [hx, Option.bind_some, r1, Option.bind_some, ← e1, ← e2, ← e3, ← e4]
      exact ⟨rfl, r2⟩
    unfold Q11a at ht
    split at ht
    · obtain ⟨x, hx, ht⟩ := Qx ht
      obtain ⟨y, hy, ht⟩ := Qx ht
      simp only [Option.some.injEq] at ht
      subst ht
      obtain ⟨s1, s2⟩ := Qfo hv hx hm.left hq.left
      exact go x _ _ s1 (VOK.turned s2) y hy hm.right hq.right rfl rfl rfl rfl
    · obtain ⟨x, hx, ht⟩ := Qx ht
      obtain ⟨y, hy, ht⟩ := Qx ht
      simp only [Option.some.injEq] at ht
      subst ht
      obtain ⟨s1, s2⟩ := Qfo hv hx hm.left hq.left
      exact go x _ _ s1 (VOK.turned s2) y hy hm.right hq.right rfl rfl rfl rfl
    · rename_i x hs'
      obtain ⟨y, hy, ht⟩ := Qx ht
      simp only [Option.some.injEq] at ht
      subst ht
      have hx : Q8z (lim G) (envF env) (look h) (nx + 64 * i) o = some x.1 := Q19j hm.head
      have hseen : Met (x.2.map fun p => Seen (upH nobody x.1.hw p.1) p.2) := hm.tail.left
      have hvx : VOK (look (hput h x.1.hw)) (putV vw (x.1.hw.map (·.1)) x.2) := by
        rw [Q87]
        intro id rows hl
        rcases Qol hl with hl | ⟨hl, hc⟩
        · obtain ⟨ob, hob, hok⟩ := hseen _ (List.mem_map_of_mem (f := fun p : Nat × List (List PV) => Seen (upH nobody x.1.hw p.1) p.2) (Q13t hl))
          exact ⟨ob, Q1c8 hob, hok⟩
        · obtain ⟨ob, hob, hok⟩ := hv id rows hl
          refine ⟨ob, ?_, hok⟩
          rw [Q8g (fun y hy e => hc (by rw [← e]; exact List.mem_map_of_mem hy))]
          exact hob
      exact go ⟨x.1, x.1.hw.map (·.1), x.2, az, [], []⟩ hs' _ hx hvx y hy hm.tail.right hq rfl rfl rfl rfl
structure CV where
  ex : Ex
  st : St
  vw : Views
  hs : Q8j
  az : List Ans
  owed : List Prop
  asked : Qc9
def Q75 (m : Nat) : IR → Q8j → List Ans → Views → St → Option CV
 | .skip, hs, az, vw, s => some ⟨.normal, s, vw, hs, az, [], []⟩
 | .reg ops draw, hs, az, vw, s => (Q11a s.nx 0 ops hs az s.env s.heap vw).bind fun y => bif !draw || calm (ops.zip y.effs) 0 (ops.zip y.effs) then some ⟨.normal, ⟨y.env, y.heap, s.nx + 64 * ops.length⟩, y.vw, y.hs, y.az, y.owed, y.asked⟩ else none
 | .seq a b, hs, az, vw, s => (Q75 m a hs az vw s).bind fun x => (match x.ex with | .normal => (Q75 m b x.hs x.az x.vw x.st).bind fun y => some ⟨y.ex, y.st, y.vw, y.hs, y.az, x.owed ++ y.owed, x.asked ++ y.asked⟩ | _ => some x)
 | .cond c a b, hs, az, vw, s => (match c.ev (envF s.env) with | .bool t => (bif t then Q75 m a hs az vw s else Q75 m b hs az vw s) | _ => none)
 | .block id b, hs, az, vw, s => (Q75 m b hs az vw s).bind fun x => (match x.ex with | .exit j => (bif Nat.beq j id then some ⟨.normal, x.st, x.vw, x.hs, x.az, x.owed, x.asked⟩ else some x) | _ => some x)
 | .loop live b, hs, az, vw, s => (gcV vw m live s).bind fun y => (match az with
  | [] => none
  | a :: az' => (match a.r with | .st e s' => some ⟨e, s', a.vw, hs, az', y.2 ++ (a.vw.map fun p => Seen (look s'.heap p.1) p.2), [(.loop m live b y.1.1 y.1.2, a.r)]⟩ | _ => none))
 | .exit id, hs, az, vw, s => some ⟨.exit id, s, vw, hs, az, [], []⟩
 | .ret, hs, az, vw, s => some ⟨.ret, s, vw, hs, az, [], []⟩
theorem Q3b {G : Nat → Option Fun} {m : Nat} : ∀ (c : IR) (hs : Q8j) (az : List Ans) (vw : Views) (s : St) (t : CV), Q75 m c hs az vw s = some t → VOK (look s.heap) vw → Met t.owed → Told G t.asked → Q5h (lim G) m c s = some (t.ex, t.st) ∧ VOK (look t.st.heap) t.vw
  | .skip, hs, az, vw, s, t, ht, hv, _, _ => by
    simp only [Q75, Option.some.injEq] at ht
    subst ht
    exact ⟨rfl, hv⟩
  | .reg ops draw, hs, az, vw, s, t, ht, hv, hm, hq => by
    simp only [Q75] at ht
    obtain ⟨y, hy, ht⟩ := Qx ht
    cases hc : (!draw || calm (ops.zip y.effs) 0 (ops.zip y.effs)) with
    | false => rw [hc] at ht; cases ht
    | true =>
      rw [hc] at ht
      simp only [cond_true, Option.some.injEq] at ht
      subst ht
      obtain ⟨r1, r2⟩ := Qo0 ops 0 hs az s.env s.heap vw y hy hv hm hq
      have h1 : ireg (lim G) ops draw s = some ⟨y.env, y.heap, s.nx + 64 * ops.length⟩ := by
        unfold ireg
        rw [r1, Option.bind_some]
        simp only
        rw [hc]
        rfl
      simp only [Q5h]
      rw [h1]
      exact ⟨rfl, r2⟩
  | .seq a b, hs, az, vw, s, t, ht, hv, hm, hq => by
    simp only [Q75] at ht
    obtain ⟨x, hx, ht⟩ := Qx ht
    obtain ⟨ex, st, vw1, hs1, as1, ow1, ak1⟩ := x
    simp only [Q5h]
    cases ex with
    | normal =>
      simp only at ht
      obtain ⟨y, hy, ht⟩ := Qx ht
      simp only [Option.some.injEq] at ht
      subst ht
      obtain ⟨r1, r2⟩ := Q3b a hs az vw s _ hx hv hm.left hq.left
      rw [r1, Option.bind_some]
      exact Q3b b _ _ _ _ y hy r2 hm.right hq.right
    | exit j =>
      simp only [Option.some.injEq] at ht
      subst ht
      obtain ⟨r1, r2⟩ := Q3b a hs az vw s _ hx hv hm hq
      rw [r1, Option.bind_some]
      exact ⟨rfl, r2⟩
    | ret =>
      simp only [Option.some.injEq] at ht
      subst ht
      obtain ⟨r1, r2⟩ := Q3b a hs az vw s _ hx hv hm hq
      rw [r1, Option.bind_some]
      exact ⟨rfl, r2⟩
  | .cond c a b, hs, az, vw, s, t, ht, hv, hm, hq => by
    simp only [Q75] at ht
    simp only [Q5h]
    split at ht
    · rename_i q hq'
      rw [hq']
      simp only
      cases q with
      | true => exact Q3b a hs az vw s t ht hv hm hq
      | false => exact Q3b b hs az vw s t ht hv hm hq
    · cases ht
  | .block id b, hs, az, vw, s, t, ht, hv, hm, hq => by
    simp only [Q75] at ht
    obtain ⟨x, hx, ht⟩ := Qx ht
    obtain ⟨ex, st, vw1, hs1, as1, ow1, ak1⟩ := x
    simp only [Q5h]
    cases ex with
    | normal =>
      simp only [Option.some.injEq] at ht
      subst ht
      obtain ⟨r1, r2⟩ := Q3b b hs az vw s _ hx hv hm hq
      rw [r1, Option.bind_some]
      exact ⟨rfl, r2⟩
    | ret =>
      simp only [Option.some.injEq] at ht
      subst ht
      obtain ⟨r1, r2⟩ := Q3b b hs az vw s _ hx hv hm hq
      rw [r1, Option.bind_some]
      exact ⟨rfl, r2⟩
    | exit j =>
      simp only at ht
      cases hj : Nat.beq j id with
      | true =>
        rw [hj] at ht
        simp only [cond_true, Option.some.injEq] at ht
        subst ht
        obtain ⟨r1, r2⟩ := Q3b b hs az vw s _ hx hv hm hq
        rw [r1, Option.bind_some]
        simp only
        rw [hj]
        exact ⟨rfl, r2⟩
      | false =>
        rw [hj] at ht
        simp only [cond_false, Option.some.injEq] at ht
        subst ht
        obtain ⟨r1, r2⟩ := Q3b b hs az vw s _ hx hv hm hq
        rw [r1, Option.bind_some]
        simp only
        rw [hj]
        exact ⟨rfl, r2⟩
  | .loop live b, hs, az, vw, s, t, ht, hv, hm, hq => by
    simp only [Q75] at ht
    obtain ⟨y, hy, ht⟩ := Qx ht
    simp only [Q5h]
    cases az with
    | nil => cases ht
    | cons a az' =>
      obtain ⟨r, avw⟩ := a
      cases r with
      | ret _ _ => cases ht
      | st e s' =>
        simp only [Option.some.injEq] at ht
        subst ht
        rw [Q117 hv hy hm.left, Option.bind_some, Q1o6 (hq _ List.mem_cons_self), Option.bind_some]
        refine ⟨rfl, fun id rows hl => ?_⟩
        exact hm.right _ (List.mem_map_of_mem (f := fun p : Nat × List (List PV) => Seen (look s'.heap p.1) p.2) (Q13t hl))
  | .exit id, hs, az, vw, s, t, ht, hv, _, _ => by
    simp only [Q75, Option.some.injEq] at ht
    subst ht
    exact ⟨rfl, hv⟩
  | .ret, hs, az, vw, s, t, ht, hv, _, _ => by
    simp only [Q75, Option.some.injEq] at ht
    subst ht
    exact ⟨rfl, hv⟩
def finV (fn : IFn) (m : Nat) (vw : Views) (s : St) : Option (Rs × List Prop) :=
 (mapO (rv s) fn.res).bind fun vs =>
  let a := bif fn.keep then Q5k s.nx vs else (vs, s.nx, [])
  let H := look (s.heap ++ a.2.2)
  (Qa9 (Qcl H vw fn.keep 8) a.1 (upTo m)).bind fun y =>
   (Qa3 H vw false true 32 0 y.1.2.1).bind fun z =>
    bif disj (y.1.2.2 ++ z.1.2.2) z.1.2.1 then some (.ret (match y.1.1 with | [v] => v | l => .tup l) (regr m z.1.1), y.2 ++ z.2) else none
theorem Qut {fn : IFn} {m : Nat} {vw : Views} {s : St} (hv : VOK (look s.heap) vw) {y : Rs × List Prop} (h : finV fn m vw s = some y) (hm : Met y.2) : fin fn m s = some y.1 := by
 unfold finV at h
 unfold fin
 obtain ⟨vs, hvs, h⟩ := Qx h
 rw [hvs, Option.bind_some]
 simp only at h ⊢
 have hv' : VOK (look (s.heap ++ (bif fn.keep then Q5k s.nx vs else (vs, s.nx, [])).2.2)) vw := by
  intro id rows hl
  obtain ⟨ob, hob, hok⟩ := hv id rows hl
  refine ⟨ob, ?_, hok⟩
  rw [Qxs, hob]
 obtain ⟨x, hx, h⟩ := Qx h
 obtain ⟨z, hz, h⟩ := Qx h
 cases hd : disj (x.1.2.2 ++ z.1.2.2) z.1.2.1 with
 | false => rw [hd] at h; cases h
 | true =>
  rw [hd] at h
  simp only [cond_true, Option.some.injEq] at h
  subst h
  rw [Q4f (Q8a hv' 8) _ _ x hx hm.left, Option.bind_some, Q5m hv' 32 _ _ z hz hm.right, Option.bind_some, hd]
  rfl
def Q1pt (fn : IFn) (args : List PV) (h : List Ob) (vw : Views) (hs : Q8j) (az : List Ans) : Option (Rs × List Prop × Qc9) :=
 bif Nat.beq args.length fn.np then
  (Q75 h.length fn.body hs az vw ⟨args ++ nuns (fn.nt - fn.np), number 0 h, h.length⟩).bind fun x =>
   (match x.ex with
    | .exit _ => none
    | _ => (finV fn h.length x.vw x.st).bind fun r => some (r.1, x.owed ++ r.2, x.asked))
 else none
theorem Q1qm {G : Nat → Option Fun} {f : Nat} {fn : IFn} (hG : G f = some (.ir fn)) {args : List PV} {h : List Ob} {vw : Views} (hv : VOK (look (number 0 h)) vw) {hs : Q8j} {az : List Ans} {r : Rs} {ow : List Prop} {ak : Qc9} (hp : Met ow) (hq : Told G ak) (ht : Q1pt fn args h vw hs az = some (r, ow, ak)) : Q5 G (.call f args h) r := by
 refine Q1iu Qjf ?_
 unfold Q1pt at ht
 simp only [phi, hG]
 cases hl : Nat.beq args.length fn.np with
 | false => rw [hl] at ht; cases ht
 | true =>
  rw [hl] at ht
  simp only [cond_true] at ht ⊢
  obtain ⟨x, hx, ht⟩ := Qx ht
  obtain ⟨ex, st, vw1, hs1, as1, ow1, ak1⟩ := x
  cases ex with
  | exit j => cases ht
  | normal =>
   simp only at ht
   obtain ⟨r', hr, ht⟩ := Qx ht
   simp only [Option.some.injEq, Prod.mk.injEq] at ht
   obtain ⟨rfl, rfl, rfl⟩ := ht
   obtain ⟨r1, r2⟩ := Q3b _ hs az vw _ _ hx hv hp.left hq
   rw [r1, Option.bind_some]
   exact Qut r2 hr hp.right
  | ret =>
   simp only at ht
   obtain ⟨r', hr, ht⟩ := Qx ht
   simp only [Option.some.injEq, Prod.mk.injEq] at ht
   obtain ⟨rfl, rfl, rfl⟩ := ht
   obtain ⟨r1, r2⟩ := Q3b _ hs az vw _ _ hx hv hp.left hq
   rw [r1, Option.bind_some]
   exact Qut r2 hr hp.right
theorem VOK.nil {H : Nat → Option Ob} : VOK H [] := fun _ _ h => by cases h
def Q1q2 (m : Nat) (live : List Nat) (b : IR) (env : List PV) (h : List Ob) (vw : Views) (hs : Q8j) (az : List Ans) : Option ((List PV × List Ob) × List Prop × Qc9) :=
 (Q75 m b hs az vw ⟨env, number 0 h, h.length⟩).bind fun x => (match x.ex with | .normal => (gcV x.vw m live x.st).bind fun y => some (y.1, x.owed ++ y.2, x.asked) | _ => none)
theorem Q14d {G : Nat → Option Fun} {m : Nat} {live : List Nat} {b : IR} {env : List PV} {h : List Ob} {vw : Views} (hv : VOK (look (number 0 h)) vw) {hs : Q8j} {az : List Ans} {y : List PV × List Ob} {ow : List Prop} {ak : Qc9} {r : Rs} (hp : Met ow) (hq : Told G ak) (ht : Q1q2 m live b env h vw hs az = some (y, ow, ak)) (hr : Q5 G (.loop m live b y.1 y.2) r) : Q5 G (.loop m live b env h) r := by
 unfold Q1q2 at ht
 obtain ⟨x, hx, ht⟩ := Qx ht
 obtain ⟨ex, st, vw1, hs1, as1, ow1, ak1⟩ := x
 cases ex with
 | normal =>
  simp only at ht
  obtain ⟨y', hg, ht⟩ := Qx ht
  simp only [Option.some.injEq, Prod.mk.injEq] at ht
  obtain ⟨rfl, rfl, rfl⟩ := ht
  obtain ⟨r1, r2⟩ := Q3b _ hs az vw _ _ hx hv hp.left hq
  exact Q1c5 Qjf r1 (Q117 r2 hg hp.right) hr
 | exit j => cases ht
 | ret => cases ht
def Q1hb (m : Nat) (b : IR) (env : List PV) (h : List Ob) (vw : Views) (hs : Q8j) (az : List Ans) : Option ((Ex × St) × List Prop × Qc9) :=
 (Q75 m b hs az vw ⟨env, number 0 h, h.length⟩).bind fun x => (match x.ex with | .normal => none | e => some ((e, x.st), x.owed, x.asked))
theorem Q1c6 {G : Nat → Option Fun} {m : Nat} {live : List Nat} {b : IR} {env : List PV} {h : List Ob} {vw : Views} (hv : VOK (look (number 0 h)) vw) {hs : Q8j} {az : List Ans} {x : Ex × St} {ow : List Prop} {ak : Qc9} (hp : Met ow) (hq : Told G ak) (ht : Q1hb m b env h vw hs az = some (x, ow, ak)) : Q5 G (.loop m live b env h) (.st x.1 x.2) := by
 unfold Q1hb at ht
 obtain ⟨y, hy, ht⟩ := Qx ht
 obtain ⟨ex, st, vw1, hs1, as1, ow1, ak1⟩ := y
 cases ex with
 | normal => cases ht
 | exit j =>
  simp only [Option.some.injEq, Prod.mk.injEq] at ht
  obtain ⟨rfl, rfl, rfl⟩ := ht
  exact Qp8 Qjf (by intro h; cases h) (Q3b _ hs az vw _ _ hy hv hp hq).1
 | ret =>
  simp only [Option.some.injEq, Prod.mk.injEq] at ht
  obtain ⟨rfl, rfl, rfl⟩ := ht
  exact Qp8 Qjf (by intro h; cases h) (Q3b _ hs az vw _ _ hy hv hp hq).1
end Go.Pv
end

section
/-
  Small words and hints' lemmas for walks that a program prints.
-/
namespace Go.Pv
def bE (b : Bool) : Eff := ⟨.bool b, [], []⟩
def vE (v : PV) : Eff := ⟨v, [], []⟩
def w64 (n : Int) : Int := IntKind.i64.wrap n
def mx (x y : Int) : Int := if y > x then y else x
def sEq (a b : ByteArray) : Bool := a.toList == b.toList
def sLt (a b : ByteArray) : Bool := Op.bytesLess a.toList b.toList
theorem dec (c v : Bool) (h : c = v) : some (bE c) = some (bE v) := by rw [h]
theorem toldOf {G : Nat → Option Fun} {e : En} {r r' : Rs} (h : Q5 G e r) (hr : r = r') : Q5 G e r' := hr ▸ h
theorem Qb {α : Type} {f : α → List PV} {l : List α} {i : Nat} {x : α} (h : l[i]? = some x) : (l.map f)[i]? = some (f x) := by
 rw [List.getElem?_map, h]
 rfl
def ixE (sz : Nat) (l : List (List PV)) (i : Int) : Option Eff := (opP (fun _ => .un) (.iaddr sz (.c (.sl l)) (.c (.int .i64 i)))).bind fun v => some ⟨v, [], []⟩
theorem Q1f (sz : Nat) (l : List (List PV)) (i : Nat) (r : List PV) (h : l[i]? = some r) (hs : r.length = sz) : ixE sz l (i : Int) = some (vE (.rf r)) := by
 unfold ixE
 simp only [opP, Opd.ev, asNat]
 have h0 : decide (0 ≤ (i : Int)) = true := by simp
 rw [h0]
 simp only [cond_true, Option.bind_some, Int.toNat_natCast]
 rw [h]
 subst hs
 simp [vE]
theorem Q1o5 (sz : Nat) (l : List (List PV)) (i : Int) (r : List PV) (h0 : 0 ≤ i) (h : l[i.toNat]? = some r) (hs : r.length = sz) : ixE sz l i = some (vE (.rf r)) := by
 have := Q1f sz l i.toNat r h hs
 rw [show ((i.toNat : Nat) : Int) = i by omega] at this
 exact this
def lenE (l : List (List PV)) : Option Eff := some ⟨.int .i64 (l.length : Int), [], []⟩
theorem Qq (l : List (List PV)) (n : Nat) (h : l.length = n) : lenE l = some (vE (.int .i64 (n : Int))) := by
 unfold lenE
 rw [h]
 rfl
theorem Q134 {n : Int} (h : -9223372036854775808 ≤ n ∧ n ≤ 9223372036854775807) : w64 n = n := by
 unfold w64 IntKind.wrap
 simp [IntKind.signed, IntKind.bits]
 omega
def addE (a b : Int) : Option Eff := some ⟨.int .i64 (IntKind.i64.wrap (a + b)), [], []⟩
theorem Q26 (i : Nat) (h : i < 9223372036854775807) : addE (i : Int) 1 = some (vE (.int .i64 ((i + 1 : Nat) : Int))) := by
 unfold addE
 have : IntKind.i64.wrap ((i : Int) + 1) = ((i + 1 : Nat) : Int) := by
  have := Q134 (n := (i : Int) + 1) (by omega)
  unfold w64 at this
  rw [this]
  rfl
 rw [this]
 rfl
theorem Q1o2 {ob : Ob} {k : Nat} (h : ob.cells.length = k) : apC ob k = some ob.cells := by
 unfold apC
 rw [h, Nat.beq_refl]
 rfl
def apE (id lid fr sz bytes ro lro : Nat) (lgr : Bool) (rows : List (List PV)) (r : List PV) (n : Nat) : Option Eff :=
 Q4q (look [(id, ⟨sz, ro, true, rows.flatten⟩), (lid, ⟨sz, lro, lgr, r⟩)]) fr sz bytes (.ms id sz 0 n) (.ms lid sz 0 1)
theorem Q26a (id lid fr sz bytes ro lro : Nat) (lgr : Bool) (rows rows' : List (List PV)) (r : List PV) (n n' : Nat) (hne : Nat.beq id lid = false) (hn : n = rows.length) (hn' : n' = rows'.length) (hr' : rows' = rows ++ [r])
  (hs : ∀ r ∈ rows, r.length = sz) (hr : r.length = sz) (hb : (n + 1) * bytes ≤ 140737488355328) :
  apE id lid fr sz bytes ro lro lgr rows r n = some ⟨.ms fr sz 0 n', [(id, none), (fr, some ⟨sz, ro, true, rows'.flatten⟩)], [id, lid]⟩ := by
 subst hn hn' hr'
 unfold apE Q4q
 have h1 : look [(id, (⟨sz, ro, true, rows.flatten⟩ : Ob)), (lid, ⟨sz, lro, lgr, r⟩)] lid = some ⟨sz, lro, lgr, r⟩ := by simp [look, hne]
 have h2 : look [(id, (⟨sz, ro, true, rows.flatten⟩ : Ob)), (lid, ⟨sz, lro, lgr, r⟩)] id = some ⟨sz, ro, true, rows.flatten⟩ := by simp [look]
 have hsrc : source (look [(id, (⟨sz, ro, true, rows.flatten⟩ : Ob)), (lid, ⟨sz, lro, lgr, r⟩)]) sz (.ms lid sz 0 1) = some (1, r, [lid]) := by
  simp only [source, h1, Option.bind_some]
  subst hr
  have : Nat.ble r.length r.length = true := Nat.ble_eq_true_of_le (Nat.le_refl _)
  simp [this]
 rw [hsrc, Option.bind_some]
 simp only [h2, Option.bind_some]
 have hc : (true && Nat.beq sz sz && Nat.beq sz sz && Nat.beq 0 0 && Nat.ble ((rows.length + 1) * bytes) 140737488355328) = true := by
  simp only [Nat.beq_refl, Bool.and_true, Bool.true_and]
  exact Nat.ble_eq_true_of_le hb
 rw [hc, Q1o2 (ob := ⟨sz, ro, true, rows.flatten⟩) (Q62 sz rows hs)]
 simp
end Go.Pv
namespace Go.Pv
theorem VOK.cons {H : Nat → Option Ob} {vw : Views} {id : Nat} {rows : List (List PV)} (h : Seen (H id) rows) (hv : VOK H vw) : VOK H ((id, rows) :: vw) := by
 intro k rs hl
 simp only [look] at hl
 cases c : Nat.beq id k with
 | true =>
  have := Nat.eq_of_beq_eq_true c
  subst this
  rw [c] at hl
  simp only [cond_true, Option.some.injEq] at hl
  subst hl
  exact h
 | false =>
  rw [c] at hl
  exact hv k rs hl
theorem Q1o {α : Type} {l : List α} {i : Nat} {x : α} {r : List α} (h : l.drop i = x :: r) : l[i]? = some x ∧ i < l.length ∧ l.drop (i + 1) = r := by
 have h1 : l[i]? = some x := by
  have := congrArg (fun q => q[0]?) h
  simpa [List.getElem?_drop] using this
 have h2 : i < l.length := (List.getElem?_eq_some_iff.1 h1).1
 refine ⟨h1, h2, ?_⟩
 rw [← List.tail_drop, h]
 rfl
theorem Q1n {α : Type} {l : List α} {i : Nat} (h : l.drop i = []) : l.length ≤ i := by
 simpa using h
theorem Q15 {α : Type} {l : List α} {i : Nat} {x : α} (h : l[i]? = some x) : x ∈ l := List.mem_of_getElem? h
theorem Q160 (a b : ByteArray) (h : a.size + b.size ≤ 9223372036854775807) : ((sbin .add a b).bind fun v => some (⟨v, [], []⟩ : Eff)) = some (vE (.str (a ++ b))) := by
 simp only [sbin, Nat.ble_eq_true_of_le h, cond_true, Option.bind_some]
 rfl
def Q3h (l : List Int) : List (List PV) := l.map fun n => [.int .i64 n]
def Qz (l : List ByteArray) : List (List PV) := l.map fun n => [.str n]
theorem Q6u (l : List Int) : (Q3h l).length = l.length := by simp [Q3h]
theorem Q2d (l : List ByteArray) : (Qz l).length = l.length := by simp [Qz]
theorem Q19h {l : List Int} {i : Nat} {x : Int} (h : l[i]? = some x) : (Q3h l)[i]? = some [.int .i64 x] := Qb (f := fun n => [.int .i64 n]) h
theorem Q83 {l : List ByteArray} {i : Nat} {x : ByteArray} (h : l[i]? = some x) : (Qz l)[i]? = some [.str x] := Qb (f := fun n => [.str n]) h
theorem Qcg (l : List Int) (x : Int) : Q3h (l ++ [x]) = Q3h l ++ [[.int .i64 x]] := by simp [Q3h]
theorem Q53 (l : List ByteArray) (x : ByteArray) : Qz (l ++ [x]) = Qz l ++ [[.str x]] := by simp [Qz]
theorem Q4u {α : Type} {f : α → List PV} {n : Nat} (h : ∀ x, (f x).length = n) (l : List α) : ∀ r ∈ l.map f, r.length = n := fun r hr => by
 obtain ⟨x, _, rfl⟩ := List.mem_map.1 hr
 exact h x
theorem Q4d {α : Type} {f : α → List PV} (h : ∀ x, (f x).all plain = true) (l : List α) : ∀ r ∈ l.map f, ∀ p ∈ r, plain p = true := fun r hr p hp => by
 obtain ⟨x, _, rfl⟩ := List.mem_map.1 hr
 exact List.all_eq_true.1 (h x) p hp
theorem Qa0 (l : List Int) : ∀ r ∈ Q3h l, r.length = 1 := Q4u (f := fun n => [.int .i64 n]) (fun _ => rfl) l
theorem Q45 (l : List ByteArray) : ∀ r ∈ Qz l, r.length = 1 := Q4u (f := fun n => [.str n]) (fun _ => rfl) l
theorem Q65 (l : List Int) (sz : Nat) (h : sz = 1) : ViewOK sz (Q3h l).flatten (Q3h l) := by subst h; exact ⟨rfl, Qa0 l, Q4d (f := fun n => [.int .i64 n]) (fun _ => rfl) l⟩
theorem Q32 (l : List ByteArray) (sz : Nat) (h : sz = 1) : ViewOK sz (Qz l).flatten (Qz l) := by subst h; exact ⟨rfl, Q45 l, Q4d (f := fun n => [.str n]) (fun _ => rfl) l⟩
end Go.Pv
namespace Go.Pv
def zoF (l : List (Nat × List PV)) (j : Nat) : List PV := (look l j).getD []
end Go.Pv
namespace Go.Pv
def optI : Option Int → Option Opd
 | none => none
 | some n => some (.c (.int .i64 n))
theorem Q12u {l : List (List PV)} {sz : Nat} (hs : ∀ r ∈ l, r.length = sz) : Q8b l sz = true := by
 unfold Q8b
 rw [List.all_eq_true]
 intro r hr
 rw [hs r hr]
 exact Nat.beq_refl sz
theorem Q6y (l : List ByteArray) (n : Nat) : Qz (l.take n) = (Qz l).take n := by simp [Qz, List.map_take]
end Go.Pv
namespace Go.Pv
def ixmE (id sz off len : Nat) (i : Int) : Option Eff := (opP (fun _ => .un) (.iaddr sz (.c (.ms id sz off len)) (.c (.int .i64 i)))).bind fun v => some ⟨v, [], []⟩
theorem Q1zh (id sz off len : Nat) (i : Int) (k at_ : Nat) (h : i = (k : Int)) (hk : k < len) (ha : at_ = (off + k) * sz) : ixmE id sz off len i = some (vE (.bx id at_)) := by
 subst h ha
 unfold ixmE
 simp only [opP, Opd.ev, asNat]
 have h0 : decide (0 ≤ (k : Int)) = true := by simp
 rw [h0]
 simp only [cond_true, Option.bind_some, Int.toNat_natCast]
 have h1 : (Nat.beq sz sz && Nat.blt k len) = true := by
  rw [Nat.beq_refl, Bool.true_and]
  exact Nat.ble_eq_true_of_le hk
 rw [h1]
 rfl
end Go.Pv
namespace Go.Pv
theorem Qaq (id sz len : Nat) (i : Int) (k : Nat) (hk : k = i.toNat) (h0 : 0 ≤ i) (h1 : i < (len : Int)) : ixmE id sz 0 len i = some (vE (.bx id (k * sz))) :=
 Q1zh id sz 0 len i k (k * sz) (by omega) (by omega) (by rw [Nat.zero_add])
theorem Qao (sz : Nat) : ∀ (rows : List (List PV)) (k : Nat), (∀ r ∈ rows, r.length = sz) → rows.flatten.drop (k * sz) = (rows.drop k).flatten
 | [], k, _ => by simp
 | r :: rs, 0, _ => by simp
 | r :: rs, k + 1, h => by
  have h0 := h r List.mem_cons_self
  rw [List.flatten_cons, List.drop_succ_cons, ← Qao sz rs k (fun q hq => h q (List.mem_cons_of_mem _ hq)), Nat.add_mul, Nat.one_mul, Nat.add_comm, ← List.drop_drop, List.drop_left' h0]
theorem Q19e {sz : Nat} {rows : List (List PV)} {k : Nat} {r : List PV} {off n : Nat} (hr : rows[k]? = some r) (hs : ∀ r ∈ rows, r.length = sz) (hn : off + n ≤ sz) : (rows.flatten.drop (k * sz + off)).take n = (r.drop off).take n ∧ k * sz + off + n ≤ rows.flatten.length := by
  have hk : k < rows.length := (List.getElem?_eq_some_iff.1 hr).1
  have hd : rows.drop k = r :: rows.drop (k + 1) := by
    rw [List.drop_eq_getElem_cons hk]
    congr 1
    exact (List.getElem?_eq_some_iff.1 hr).2
  have hl := hs r (List.mem_of_getElem? hr)
  refine ⟨?_, ?_⟩
  · rw [← List.drop_drop, Qao sz rows k hs, hd, List.flatten_cons]
    rw [List.drop_append_of_le_length (by omega), List.take_append_of_le_length (by rw [List.length_drop]; omega)]
  · rw [Q62 sz rows hs]
    have : (k + 1) * sz ≤ rows.length * sz := Nat.mul_le_mul_right _ hk
    rw [Nat.add_mul] at this
    omega
def ldE (id sz ro : Nat) (gr : Bool) (cells : List PV) (n : Nat) (ag : Bool) (at_ : Nat) : Option Eff := Qee (look [(id, ⟨sz, ro, gr, cells⟩)]) n ag (.bx id at_)
theorem Q1ha (id sz ro : Nat) (gr : Bool) (cells : List PV) (rows : List (List PV)) (n : Nat) (ag : Bool) (k off at_ : Nat) (r : List PV) (v : PV) (hc : cells = rows.flatten) (ha : at_ = k * sz + off) (hr : rows[k]? = some r) (hs : ∀ r ∈ rows, r.length = sz) (hn : off + n ≤ sz) (hv : shape ag ((r.drop off).take n) = some v) :
  ldE id sz ro gr cells n ag at_ = some ⟨v, [], [id]⟩ := by
 subst hc ha
 obtain ⟨h1, h2⟩ := Q19e hr hs hn
 unfold ldE Qee reads
 simp only [look, Nat.beq_refl, cond_true, Option.bind_some]
 rw [Nat.ble_eq_true_of_le h2]
 simp only [cond_true, Option.bind_some]
 rw [h1, hv, Option.bind_some]
theorem Qap {α : Type} (l : List α) (k : Nat) (d : α) (h : k < l.length) : l[k]? = some (l.getD k d) := by
 rw [List.getD_eq_getElem?_getD, List.getElem?_eq_getElem h]
 rfl
end Go.Pv
namespace Go.Pv
theorem decR (c v : Bool) (hr : List Nat) (h : c = v) : some (⟨.bool c, [], hr⟩ : Eff) = some ⟨.bool v, [], hr⟩ := by rw [h]
end Go.Pv
namespace Go.Pv
end Go.Pv
end

section
/- More of single operations: sums that don't run over; shifts of indexes; stores into a slice of one's own that is known by its rows. -/
namespace Go.Pv
def wE (n : Int) : Option Eff := some ⟨.int .i64 (IntKind.i64.wrap n), [], []⟩
theorem w_ok (n : Int) (h : -9223372036854775808 ≤ n ∧ n ≤ 9223372036854775807) : wE n = some (vE (.int .i64 n)) := by
 unfold wE
 have := Q134 h
 unfold w64 at this
 rw [this]
 rfl
theorem beqT {x v : Bool} (h : (x == true) = v) : x = v := by cases x <;> cases v <;> simp_all
def sCmp (a b : ByteArray) : Int := cmpL a.toList b.toList
theorem Qnw {sz : Nat} : ∀ (rows : List (List PV)) (k : Nat) (r vals : List PV) (off n : Nat), rows[k]? = some r → (∀ q ∈ rows, q.length = sz) → off + n ≤ sz → vals.length = n →
  rows.flatten.take (k * sz + off) ++ (vals ++ rows.flatten.drop (k * sz + off + n)) = (rows.set k (r.take off ++ (vals ++ r.drop (off + n)))).flatten ∧ k * sz + off + n ≤ rows.flatten.length
 | [], _, _, _, _, _, h, _, _, _ => by simp at h
 | q :: rs, 0, r, vals, off, n, h, hs, hn, hv => by
  have hq := hs q List.mem_cons_self
  simp only [List.getElem?_cons_zero, Option.some.injEq] at h
  subst h
  simp only [Nat.zero_mul, Nat.zero_add, List.flatten_cons, List.set_cons_zero, List.length_append]
  refine ⟨?_, by omega⟩
  rw [List.take_append_of_le_length (by omega), List.drop_append_of_le_length (by omega)]
  simp only [List.append_assoc]
 | q :: rs, k + 1, r, vals, off, n, h, hs, hn, hv => by
  have hq := hs q List.mem_cons_self
  simp only [List.getElem?_cons_succ] at h
  obtain ⟨h1, h2⟩ := Qnw rs k r vals off n h (fun q hq => hs q (List.mem_cons_of_mem _ hq)) hn hv
  have e1 : (k + 1) * sz + off = q.length + (k * sz + off) := by rw [hq, Nat.add_mul]; omega
  have e2 : (k + 1) * sz + off + n = q.length + (k * sz + off + n) := by rw [hq, Nat.add_mul]; omega
  simp only [List.flatten_cons, List.set_cons_succ, List.length_append]
  refine ⟨?_, by omega⟩
  rw [e2, e1, List.take_length_add_append, List.drop_length_add_append, ← h1]
  simp only [List.append_assoc]
def stE (id sz ro : Nat) (gr : Bool) (cells : List PV) (n : Nat) (at_ : Nat) (x : PV) : Option Eff := Qci (look [(id, ⟨sz, ro, gr, cells⟩)]) n (.bx id at_) x
theorem Q1c0 (id sz : Nat) (gr : Bool) (cells : List PV) (rows rows' : List (List PV)) (n k off at_ : Nat) (r : List PV) (x : PV) (hc : cells = rows.flatten) (ha : at_ = k * sz + off) (hr : rows[k]? = some r) (hs : ∀ r ∈ rows, r.length = sz) (hn : off + n ≤ sz) (hx : x.cs.length = n) (hf : x.fits = true) (hrows : rows' = rows.set k (r.take off ++ (x.cs ++ r.drop (off + n)))) :
  stE id sz 0 gr cells n at_ x = some ⟨.un, [(id, some ⟨sz, 0, gr, rows'.flatten⟩)], [id]⟩ := by
 subst hc ha hrows
 obtain ⟨h1, h2⟩ := Qnw rows k r x.cs off n hr hs hn hx
 unfold stE Qci
 simp only [look, Nat.beq_refl, cond_true, Option.bind_some]
 rw [hx, hf, Nat.beq_refl, Nat.ble_eq_true_of_le h2, Nat.ble_eq_true_of_le (Nat.zero_le _), h1]
 rfl
theorem Qfd (l : List ByteArray) (k : Nat) (x : ByteArray) : Qz (l.set k x) = (Qz l).set k [.str x] := by simp [Qz, List.map_set]
end Go.Pv
end

section
/- A walk's hints and answers, each with its proof. -/
namespace Go.Pv
structure It where
  hint : Option (Nat × (Eff × Views))
  p : Prop
  pf : p
def hsOf : List It → Q8j
 | [] => []
 | x :: r => (match x.hint with | some h => h :: hsOf r | none => hsOf r)
def owOf : List It → List Prop
 | [] => []
 | x :: r => x.p :: owOf r
theorem Q1ll : ∀ l : List It, Met (owOf l)
 | [] => Met.nil
 | x :: r => Met.cons x.pf (Q1ll r)
structure An (G : Nat → Option Fun) where
  e : En
  r : Rs
  vw : Views
  pf : Q5 G e r
def asOf {G : Nat → Option Fun} : List (An G) → List Ans
 | [] => []
 | x :: r => ⟨x.r, x.vw⟩ :: asOf r
def akOf {G : Nat → Option Fun} : List (An G) → Qc9
 | [] => []
 | x :: r => (x.e, x.r) :: akOf r
theorem Q192 {G : Nat → Option Fun} : ∀ l : List (An G), Told G (akOf l)
 | [] => Told.nil
 | x :: r => Told.cons x.pf (Q192 r)
def hB {c v : Bool} (n : Nat) (h : c = v) : It := ⟨some (n, (bE v, [])), some (bE c) = some (bE v), dec c v h⟩
def hP {x : Option Eff} {y : Eff} (n : Nat) (h : x = some y) : It := ⟨some (n, (y, [])), x = some y, h⟩
def hV {x : Option Eff} {y : Eff} (n : Nat) (vw : Views) (h : x = some y) : It := ⟨some (n, (y, vw)), x = some y, h⟩
def hQ {p : Prop} (h : p) : It := ⟨none, p, h⟩
def aN {G : Nat → Option Fun} {e : En} {r : Rs} (h : Q5 G e r) : An G := ⟨e, r, [], h⟩
def aV {G : Nat → Option Fun} {e : En} {r : Rs} (vw : Views) (h : Q5 G e r) : An G := ⟨e, r, vw, h⟩
def aB {G : Nat → Option Fun} {e : En} {c v : Bool} (h : Q5 G e (.ret (.bool c) [])) (hc : c = v) : An G := ⟨e, .ret (.bool v) [], [], hc ▸ h⟩
theorem Q6 {G : Nat → Option Fun} {f : Nat} {fn : IFn} (hG : G f = some (.ir fn)) {args : List PV} {h : List Ob} {vw : Views} (hv : VOK (look (number 0 h)) vw) {r : Rs} (l : List It) (q : List (An G)) (ht : Q1pt fn args h vw (hsOf l) (asOf q) = some (r, owOf l, akOf q)) : Q5 G (.call f args h) r := Q1qm hG hv (Q1ll l) (Q192 q) ht
theorem Qg {G : Nat → Option Fun} {m : Nat} {live : List Nat} {b : IR} {env : List PV} {h : List Ob} {vw : Views} (hv : VOK (look (number 0 h)) vw) {x : Ex × St} (l : List It) (q : List (An G)) (ht : Q1hb m b env h vw (hsOf l) (asOf q) = some (x, owOf l, akOf q)) : Q5 G (.loop m live b env h) (.st x.1 x.2) := Q1c6 hv (Q1ll l) (Q192 q) ht
end Go.Pv
namespace Go.Pv
def hS {sz : Nat} {cells : List PV} {rows : List (List PV)} (ro : Nat) (gr : Bool) (h : ViewOK sz cells rows) : It := hQ (Q3r (ob := ⟨sz, ro, gr, cells⟩) h)
end Go.Pv
namespace Go.Pv
def hA (n id lid fr sz bytes ro lro : Nat) (lgr : Bool) {α : Type} {R : List α → List (List PV)} {C : α → List PV} (hl : ∀ l, (R l).length = l.length) (hs : ∀ l x, R (l ++ [x]) = R l ++ [C x]) (v : List α) (e : α) (hz : ∀ r ∈ R v, r.length = sz) (hne : Nat.beq id lid = false) (hr : (C e).length = sz) (hb : (v.length + 1) * bytes ≤ 140737488355328) : It :=
 hV n [(fr, R (v ++ [e]))] (Q26a id lid fr sz bytes ro lro lgr (R v) (R (v ++ [e])) (C e) v.length (v ++ [e]).length hne (hl v).symm (hl _).symm (hs v e) hz hr hb)
theorem Qc {G : Nat → Option Fun} {m : Nat} {live : List Nat} {b : IR} {env : List PV} {h : List Ob} {vw : Views} (hv : VOK (look (number 0 h)) vw) {y1 : List PV} {y2 : List Ob} {r : Rs} (l : List It) (q : List (An G)) (hr : Q5 G (.loop m live b y1 y2) r) (ht : Q1q2 m live b env h vw (hsOf l) (asOf q) = some ((y1, y2), owOf l, akOf q)) : Q5 G (.loop m live b env h) r := Q14d (y := (y1, y2)) hv (Q1ll l) (Q192 q) ht hr
end Go.Pv
end

section
/-
  What a law is handed, as plain Lean dK.
-/
namespace Go.Pv
def okI (k : IntKind) (n : Int) : Prop := (Lit.int k n).wf = true
def Qed (n : Int) : Prop := -9223372036854775808 ≤ n ∧ n ≤ 9223372036854775807
def okU8 (n : Int) : Prop := 0 ≤ n ∧ n ≤ 255
theorem okI.i64 {n : Int} (h : okI .i64 n) : Qed n := by
 unfold okI at h
 simp [Lit.wf, IntKind.min, IntKind.max, IntKind.signed, IntKind.bits] at h
 exact h
theorem okI.u8 {n : Int} (h : okI .u8 n) : okU8 n := by
 unfold okI at h
 simp [Lit.wf, IntKind.min, IntKind.max, IntKind.signed, IntKind.bits] at h
 unfold okU8
 omega
def okS (s : ByteArray) : Prop := s.size ≤ 140737488351232
def okL {α : Type} (bytes : Nat) (ok : α → Prop) (l : List α) : Prop := l.length * bytes ≤ 140737488351232 ∧ ∀ x ∈ l, ok x
section
variable {Γ : Nat → Option Ty}
theorem OfL.Q3z {f : Ty} {fs : List Ty} {c : List PV} (h : OfL Γ (f :: fs) c) : ∃ a b, c = a ++ b ∧ Of Γ f a ∧ OfL Γ fs b := by
 cases h with
 | cons _ _ a b h1 h2 => exact ⟨a, b, rfl, h1, h2⟩
theorem OfL.empty {c : List PV} (h : OfL Γ [] c) : c = [] := by cases h; rfl
theorem Of.str1 {c : List PV} (h : Of Γ .str c) : ∃ s, c = [.str s] ∧ okS s := by
 cases h with
 | str s h => exact ⟨s, rfl, h⟩
theorem Of.Q26b {c : List PV} (h : Of Γ .bool c) : ∃ b, c = [.bool b] := by
 cases h with
 | bool b => exact ⟨b, rfl⟩
theorem Of.bool2 {c : List PV} (h : Of Γ .bool c) : ∃ b, c = [.bool b] ∧ True := by
 obtain ⟨b, hb⟩ := h.Q26b
 exact ⟨b, hb, trivial⟩
theorem Of.int1 {k : IntKind} {c : List PV} (h : Of Γ (.int k) c) : ∃ n, c = [.int k n] ∧ okI k n := by
 cases h with
 | int _ n h => exact ⟨n, rfl, h⟩
theorem Of.i64 {c : List PV} (h : Of Γ (.int .i64) c) : ∃ n, c = [.int .i64 n] ∧ Qed n := by
 obtain ⟨n, h1, h2⟩ := h.int1
 exact ⟨n, h1, h2.i64⟩
theorem Of.u8 {c : List PV} (h : Of Γ (.int .u8) c) : ∃ n, c = [.int .u8 n] ∧ okU8 n := by
 obtain ⟨n, h1, h2⟩ := h.int1
 exact ⟨n, h1, h2.u8⟩
theorem Of.st1 {fs : List Ty} {c : List PV} (h : Of Γ (.st fs) c) : OfL Γ fs c := by
 cases h with
 | st _ _ h => exact h
theorem Q9r {α : Type} {f : α → List PV} {ok : α → Prop} : ∀ (l : List (List PV)), (∀ r ∈ l, ∃ x, r = f x ∧ ok x) → ∃ xs : List α, l = xs.map f ∧ ∀ x ∈ xs, ok x
  | [], _ => ⟨[], rfl, fun _ h => absurd h List.not_mem_nil⟩
  | r :: rs, h => by
    obtain ⟨x, hx, hok⟩ := h r List.mem_cons_self
    obtain ⟨xs, hxs, hoks⟩ := Q9r rs (fun q hq => h q (List.mem_cons_of_mem _ hq))
    refine ⟨x :: xs, by rw [hx, hxs]; rfl, fun y hy => ?_⟩
    rcases List.mem_cons.1 hy with rfl | hy
    · exact hok
    · exact hoks y hy
theorem Of.sl1 {bytes : Nat} {e : Ty} {c : List PV} {α : Type} {f : α → List PV} {ok : α → Prop} (h : Of Γ (.sl bytes e) c) (he : ∀ r, Of Γ e r → ∃ x, r = f x ∧ ok x) : ∃ xs : List α, c = [.sl (xs.map f)] ∧ okL bytes ok xs := by
 cases h with
 | sl _ _ l h hl =>
  obtain ⟨xs, rfl, hok⟩ := Q9r l (fun r hr => he r (hl r hr))
  exact ⟨xs, rfl, by simpa using h, hok⟩
theorem Arg.one {ty : Ty} {p : PV} (h : Arg Γ ty p) (hs : ty.isSt Γ = false) : Of Γ ty [p] := by
 obtain ⟨c, hc, hp⟩ := h
 rw [hs] at hp
 have hp : c = [p] := hp
 subst hp
 exact hc
theorem Arg.agg {ty : Ty} {p : PV} (h : Arg Γ ty p) (hs : ty.isSt Γ = true) : ∃ c, p = .agg c ∧ Of Γ ty c := by
 obtain ⟨c, hc, hp⟩ := h
 rw [hs] at hp
 exact ⟨c, hp, hc⟩
end
end Go.Pv
end

