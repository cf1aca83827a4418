/- Texts of the claim, merged by a program; what the statement does not reach is left out. -/
import Derived.Test.YtimjjohlpnkacaaGreatBWorkcodecBack2
import Derived.Test.YtimjjohlpnkacaaGreatProg
import Derived.KernelRfl
import Derived.OpenShut

section
/- The seat's functions as the evaluator takes them; printed by a program, checked against the given ones in YtimjjohlpnkacaaGreatTie. -/
namespace Go.Proofs.YtimjjohlpnkacaaGreat.Ir
open Go.Pv
def o (d : Nat) (op : IOp) : IOper := ⟨some d, none, op, []⟩
def ob (d : Nat) (op : IOp) (b : List Nat) : IOper := ⟨some d, none, op, b⟩
def oM (d t : Nat) : IOper := o d (.mov (.t t))
def oX (d t k : Nat) : IOper := o d (.extract (.t t) k)
def oL (d n t : Nat) : IOper := o d (.load n true (.t t))
def oK (d n t : Nat) : IOper := o d (.load n false (.t t))
def oF (d n t : Nat) : IOper := o d (.faddr n (.t t))
def oS (n a b : Nat) : IOper := ⟨none, none, .store n (.t a) (.t b), []⟩
def oC (d f : Nat) (l : List Opd) : IOper := o d (.call false (.f f) l)
def oI (d n a b : Nat) : IOper := o d (.iaddr n (.t a) (.t b))
def oN (d t : Nat) : IOper := o d (.len false (.t t))
def oU (d t : Nat) : IOper := o d (.un .not (.t t))
def gT (d s : Nat) (x : IOp) : IOper := ⟨some d, some (s, true), x, []⟩
def gF (d s : Nat) (x : IOp) : IOper := ⟨some d, some (s, false), x, []⟩
def oD (d f : Nat) (l : List Opd) (b : List Nat) : IOper := ob d (.call false (.f f) l) b
def oE (d n t : Nat) (b : List Nat) : IOper := ob d (.load n false (.t t)) b
def oP (d a b : Nat) : IOper := o d (.pick (.t a) (.t b) (.c (.bool false)))
def oQ (d a b : Nat) : IOper := o d (.pick (.t a) (.c (.bool true)) (.t b))
def oA (d t : Nat) : IOper := o d (.bin .add (.t t) (.c (iN 1)))
def oJ (d n k a b : Nat) : IOper := o d (.append n k (.t a) (.t b))
def zS : PV := .str ⟨#[]⟩
def zI : PV := iN 0
def zB : PV := .bool false
def sA0 : Opd := .c (.str ⟨#[100, 101, 108, 97, 121]⟩)
def sA1 : Opd := .c (.str ⟨#[100, 101, 115, 105, 114, 101, 100]⟩)
def sA2 : Opd := .c (.str ⟨#[100, 101, 97, 100, 108, 105, 110, 101]⟩)
def sA3 : Opd := .c (.str ⟨#[100, 105, 115, 107]⟩)
def sA4 : Opd := .c (.str ⟨#[100, 105, 115, 114, 117, 112, 116, 101, 100]⟩)
def sA5 : Opd := .c (.str ⟨#[100, 111, 110, 101]⟩)
def sA6 : Opd := .c (.str ⟨#[101, 102, 102, 101, 99, 116]⟩)
def sA7 : Opd := .c (.str ⟨#[101, 120, 105, 115, 116, 115]⟩)
def sA8 : Opd := .c (.str ⟨#[101, 120, 112, 101, 99, 116, 101, 100]⟩)
def sA9 : Opd := .c (.str ⟨#[102, 105, 110, 105, 115, 104, 101, 100]⟩)
def sA10 : Opd := .c (.str ⟨#[102, 97, 105, 108, 101, 100]⟩)
def sA11 : Opd := .c (.str ⟨#[102, 97, 105, 108, 117, 114, 101]⟩)
def sA12 : Opd := .c (.str ⟨#[103, 114, 97, 99, 101]⟩)
def sA13 : Opd := .c (.str ⟨#[104, 101, 97, 108, 116, 104, 121]⟩)
def sA14 : Opd := .c (.str ⟨#[104, 105, 115, 116, 111, 114, 121]⟩)
def sA15 : Opd := .c (.str ⟨#[104, 97, 114, 100]⟩)
def sA16 : Opd := .c (.str ⟨#[104, 97, 115]⟩)
def sA17 : Opd := .c (.str ⟨#[105, 109, 97, 103, 101]⟩)
def sA18 : Opd := .c (.str ⟨#[105, 110, 100, 101, 120, 101, 100]⟩)
def sA19 : Opd := .c (.str ⟨#[107, 101, 121]⟩)
def sA20 : Opd := .c (.str ⟨#[108, 105, 109, 105, 116]⟩)
def sA21 : Opd := .c (.str ⟨#[108, 105, 118, 101]⟩)
def sA22 : Opd := .c (.str ⟨#[108, 97, 98, 101, 108, 115]⟩)
def sA23 : Opd := .c (.str ⟨#[109, 101, 109, 111, 114, 121]⟩)
def sA24 : Opd := .c (.str ⟨#[109, 105, 110, 65, 118, 97, 105, 108, 97, 98, 108, 101]⟩)
def sA25 : Opd := .c (.str ⟨#[109, 105, 110, 82, 101, 97, 100, 121]⟩)
def sA26 : Opd := .c (.str ⟨#[109, 97, 120, 83, 107, 101, 119]⟩)
def sA27 : Opd := .c (.str ⟨#[109, 97, 120, 85, 110, 97, 118, 97, 105, 108, 97, 98, 108, 101]⟩)
def sA28 : Opd := .c (.str ⟨#[110, 111, 100, 101, 83, 101, 108, 101, 99, 116, 111, 114]⟩)
def sA29 : Opd := .c (.str ⟨#[110, 111, 100, 101, 84, 101, 114, 109, 115]⟩)
def sA30 : Opd := .c (.str ⟨#[110, 111, 100, 101]⟩)
def sA31 : Opd := .c (.str ⟨#[110, 97, 109, 101]⟩)
def sA32 : Opd := .c (.str ⟨#[110]⟩)
def sA33 : Opd := .c (.str ⟨#[111, 112]⟩)
def sA34 : Opd := .c (.str ⟨#[111, 98, 115, 101, 114, 118, 101, 100]⟩)
def sA35 : Opd := .c (.str ⟨#[112, 101, 114, 105, 111, 100]⟩)
def sA36 : Opd := .c (.str ⟨#[112, 101, 114, 99, 101, 110, 116]⟩)
def sA37 : Opd := .c (.str ⟨#[112, 111, 100, 115]⟩)
def sA38 : Opd := .c (.str ⟨#[112, 111, 100, 84, 101, 114, 109, 115]⟩)
def sA39 : Opd := .c (.str ⟨#[112, 114, 105, 111, 114, 105, 116, 121]⟩)
def sA40 : Opd := .c (.str ⟨#[112, 114, 111, 103, 114, 101, 115, 115]⟩)
def sA41 : Opd := .c (.str ⟨#[112, 97, 114, 97, 108, 108, 101, 108, 105, 115, 109]⟩)
def sA42 : Opd := .c (.str ⟨#[112, 97, 117, 115, 101, 100]⟩)
def sA43 : Opd := .c (.str ⟨#[114, 101, 112, 108, 105, 99, 97, 115]⟩)
def sA44 : Opd := .c (.str ⟨#[114, 101, 113, 117, 101, 115, 116]⟩)
def sA45 : Opd := .c (.str ⟨#[114, 101, 113, 117, 105, 114, 101, 100]⟩)
def sA46 : Opd := .c (.str ⟨#[114, 101, 115, 116, 97, 114, 116]⟩)
def sA47 : Opd := .c (.str ⟨#[114, 101, 115, 117, 108, 116]⟩)
def sA48 : Opd := .c (.str ⟨#[114, 101, 116, 114, 105, 101, 115]⟩)
def sA49 : Opd := .c (.str ⟨#[114, 101, 118, 105, 115, 105, 111, 110]⟩)
def sA50 : Opd := .c (.str ⟨#[114, 101, 97, 100, 121]⟩)
def sA51 : Opd := .c (.str ⟨#[114, 101, 99, 114, 101, 97, 116, 101]⟩)
def sA52 : Opd := .c (.str ⟨#[115, 101, 108, 101, 99, 116, 111, 114]⟩)
def sA53 : Opd := .c (.str ⟨#[115, 101, 99, 111, 110, 100, 115]⟩)
def sA54 : Opd := .c (.str ⟨#[115, 112, 101, 99]⟩)
def sA55 : Opd := .c (.str ⟨#[115, 112, 114, 101, 97, 100]⟩)
def sA56 : Opd := .c (.str ⟨#[115, 116, 105, 99, 107, 121]⟩)
def sA57 : Opd := .c (.str ⟨#[115, 116, 97, 114, 116, 101, 100]⟩)
def sA58 : Opd := .c (.str ⟨#[115, 116, 97, 114, 116, 117, 112]⟩)
def sA59 : Opd := .c (.str ⟨#[115, 117, 114, 103, 101]⟩)
def sA60 : Opd := .c (.str ⟨#[115, 117, 115, 112, 101, 110, 100, 101, 100]⟩)
def sA61 : Opd := .c (.str ⟨#[115, 117, 99, 99, 101, 101, 100, 101, 100]⟩)
def sA62 : Opd := .c (.str ⟨#[115, 117, 99, 99, 101, 115, 115]⟩)
def sA63 : Opd := .c (.str ⟨#[116, 101, 109, 112, 108, 97, 116, 101]⟩)
def sA64 : Opd := .c (.str ⟨#[116, 111, 108, 101, 114, 97, 116, 105, 111, 110, 115]⟩)
def sA65 : Opd := .c (.str ⟨#[116, 111, 112, 111, 108, 111, 103, 121]⟩)
def sA66 : Opd := .c (.str ⟨#[117, 110, 100, 111]⟩)
def sA67 : Opd := .c (.str ⟨#[117, 110, 97, 118, 97, 105, 108, 97, 98, 108, 101]⟩)
def sA68 : Opd := .c (.str ⟨#[117, 112, 100, 97, 116, 101, 100]⟩)
def sA69 : Opd := .c (.str ⟨#[117, 115, 101, 100]⟩)
def sA70 : Opd := .c (.str ⟨#[118, 97, 108, 117, 101, 115]⟩)
def sA71 : Opd := .c (.str ⟨#[118, 97, 108, 117, 101]⟩)
def sA72 : Opd := .c (.str ⟨#[119, 101, 105, 103, 104, 116]⟩)
def sA73 : Opd := .c (.str ⟨#[66, 117, 100, 103, 101, 116]⟩)
def sA74 : Opd := .c (.str ⟨#[68, 101, 112, 108, 111, 121, 109, 101, 110, 116]⟩)
def sA75 : Opd := .c (.str ⟨#[74, 111, 98]⟩)
def sA76 : Opd := .c (.str ⟨#[81, 117, 111, 116, 97]⟩)
def sA77 : Opd := .c (.str ⟨#[82, 101, 112, 108, 105, 99, 97, 83, 101, 116]⟩)
def sA78 : Opd := .c (.str ⟨#[83, 101, 114, 118, 105, 99, 101]⟩)
def sA79 : Opd := .c (.str ⟨#[97, 108, 108, 111, 119, 101, 100]⟩)
def sA80 : Opd := .c (.str ⟨#[97, 110, 116, 105]⟩)
def sA81 : Opd := .c (.str ⟨#[97, 116]⟩)
def sA82 : Opd := .c (.str ⟨#[97, 118, 97, 105, 108, 97, 98, 108, 101]⟩)
def sA83 : Opd := .c (.str ⟨#[97, 99, 116, 105, 118, 101]⟩)
def sA84 : Opd := .c (.str ⟨#[99, 111, 109, 112, 108, 101, 116, 105, 111, 110, 115]⟩)
def sA85 : Opd := .c (.str ⟨#[99, 111, 110, 116, 97, 105, 110, 101, 114, 115]⟩)
def sA86 : Opd := .c (.str ⟨#[99, 112, 117]⟩)
def zL0 : List PV := [zS, zI, zI, zS, .ns 5, .ns 6]
def zL1 : List PV := [zI, zI, zS, .ns 5, .ns 6]
def zL2 : List PV := [zS, zS, zS, zI, zI, zI, zI, zB, zI, .ns 2, .ns 5, .ns 1, .ns 2, zI, zI, zS, .ns 5, .ns 6, zI, zI, zS, .ns 5, .ns 6]
def zL3 : List PV := [zS, zS, zS, zI, zI, zI, zI, zB, zI, .ns 2, .ns 5, .ns 1, .ns 2, zI, zI, zI, zI, zB, zB, .ns 2, zS, zI, zI, zI, .ns 11, .ns 3, .ns 3, .ns 5, .ns 4, .ns 5, zI, zI, zI, zI, zI, .ns 1, zI]
def zL4 : List PV := [zS, zS, zS, zI, zI, zI, zI, zB, zI, .ns 2, .ns 5, .ns 1, .ns 2, zI, zI, zI, zI, .ns 3, .ns 2, zS, zI, zI, zI, .ns 11, .ns 3, .ns 3, .ns 5, .ns 4, .ns 5, zB, zB, zB, zI, zB, zI, zI, zI, zI, zI, zI, zI, zI, zB]
def zL5 : List PV := [zS, zS, zS, zI, zI, zI, zI, zB, zI, .ns 2, .ns 5, .ns 1, .ns 2, zI, zI, zI, .ns 3, .ns 2, zS, zI, zI, zI, .ns 11, .ns 3, .ns 3, .ns 5, .ns 4, .ns 5, zI, zI, zI, zI, zI, zI, zB]
def zL6 : List PV := [zS, zS, zS, zI, zI, zI, zI, zB, zI, .ns 2, .ns 5, .ns 1, .ns 2, zI, zI, zI, zI, zI, zI, zI, zI]
def zL7 : List PV := [zS, zS, zS, zI, zI, zI, zI, zB, zI, .ns 2, .ns 5, .ns 1, .ns 2, .ns 3, .ns 2, .ns 2, zI, zI, zI, zI, zI, .ns 2]
def zL8 : List PV := [zS, zS, zS, zI, zI, zI, zI, zB, zI, .ns 2, .ns 5, .ns 1, .ns 2, .ns 3, .ns 3, zB, zI]
def zL9 : List PV := [zS, zS, zI, zI, zI, zI, zI, zI, .ns 4, .ns 4, .ns 4]
def zL10 : List PV := [zS, zS, zS, zI, zI, zI, zI, zB, zI, .ns 2, .ns 5, .ns 1, .ns 2]
def zL11 : List PV := [zS, zI, zI, zI, .ns 11, .ns 3, .ns 3, .ns 5, .ns 4, .ns 5]
def zL12 : List PV := [zI, zI, zI, zI, zI, zI, zB]
def rg1 (a : Nat) : Nat → List Nat
  | 0 => []
  | n + 1 => a :: rg1 (a + 1) n
def rg (a b : Nat) : List Nat := rg1 a (b - a)
def K0_c : IR :=
 .seq (.reg [o 4 (.box 35 0),
 o 5 (.box 43 1),
 o 6 (.box 37 2),
 o 7 (.box 22 3),
 o 8 (.mov (.c zB))] false)
 (.seq (.reg [oF 21 0 4,
 oF 22 0 21,
 ⟨none, none, .store 1 22 (sA77), []⟩] false)
 (.seq (.reg [oF 23 0 5,
 oF 24 0 23,
 ⟨none, none, .store 1 24 (sA74), []⟩] false)
 (.seq (.reg [oF 25 0 6,
 oF 26 0 25,
 ⟨none, none, .store 1 26 (sA75), []⟩] false)
 (.seq (.reg [oF 27 0 7,
 oF 28 0 27,
 ⟨none, none, .store 1 28 (sA73), []⟩] false)
 (.seq (.reg [oL 29 35 4,
 oD 30 18 ([29]) [0],
 oL 31 43 5,
 oD 32 9 ([31]) [0, 1, 2],
 oL 33 37 6,
 oD 34 19 ([33]) (rg 0 5),
 oL 35 22 7,
 oD 36 20 ([35]) (rg 0 7),
 o 9 (.zero zL2),
 o 10 (.zero zL2),
 o 11 (.zero zL2),
 o 12 (.zero zL2),
 ⟨none, none, .store 23 9 30, (rg 0 12)⟩,
 ⟨none, none, .store 23 10 32, (rg 0 13)⟩,
 ⟨none, none, .store 23 11 34, (rg 0 14)⟩,
 ⟨none, none, .store 23 12 36, (rg 0 15)⟩] true)
 (.seq (.seq (.reg [oL 37 23 9,
 oC 38 11 ([37]),
 oU 39 38,
 oM 40 39,
 gF 41 40 (.load 23 true 10),
 gF 42 40 (.call false (.f 11) [41]),
 gF 43 40 (.un .not 42),
 oQ 44 40 43,
 oM 45 44,
 gF 46 45 (.load 23 true 11),
 gF 47 45 (.call false (.f 11) [46]),
 gF 48 45 (.un .not 47),
 oQ 49 45 48,
 oM 50 49,
 gF 51 50 (.load 23 true 12),
 gF 52 50 (.call false (.f 11) [51]),
 gF 53 50 (.un .not 52),
 oQ 54 50 53] false)
 (.cond 54 (.seq (.reg [oC 55 12 ([]),
 oM 8 55] false)
 (.ret))
 (.skip)))
 (.seq (.reg [oL 57 35 4,
 oC 58 22 ([57]),
 oC 59 21 ([58]),
 oM 56 59,
 oX 60 56 0,
 oX 61 56 1,
 o 13 (.zero zL5),
 oS 35 13 60,
 oM 14 61] false)
 (.seq (.reg [oL 63 43 5,
 oC 64 14 ([63]),
 oC 65 13 ([64]),
 oM 62 65,
 oX 66 62 0,
 oX 67 62 1,
 o 15 (.zero zL4),
 oS 43 15 66,
 oM 16 67] false)
 (.seq (.reg [oL 69 37 6,
 oC 70 24 ([69]),
 oC 71 23 ([70]),
 oM 68 71,
 oX 72 68 0,
 oX 73 68 1,
 o 17 (.zero zL3),
 oS 37 17 72,
 oM 18 73] false)
 (.seq (.reg [oL 75 22 7,
 oC 76 26 ([75]),
 oC 77 25 ([76]),
 oM 74 77,
 oX 78 74 0,
 oX 79 74 1,
 o 19 (.zero zL7),
 oS 22 19 78,
 oM 20 79] false)
 (.seq (.seq (.reg [oM 80 14,
 o 81 (.bin .neq 80 (.c zI)),
 oM 82 81,
 gF 83 82 (.mov 16),
 gF 84 82 (.bin .neq 83 (.c zI)),
 oQ 85 82 84,
 oM 86 85,
 gF 87 86 (.mov 18),
 gF 88 86 (.bin .neq 87 (.c zI)),
 oQ 89 86 88,
 oM 90 89,
 gF 91 90 (.mov 20),
 gF 92 90 (.bin .neq 91 (.c zI)),
 oQ 93 90 92] false)
 (.cond 93 (.seq (.reg [o 8 (.mov (.c zB))] false)
 (.ret))
 (.skip)))
 (.seq (.seq (.reg [oF 94 0 13,
 oL 95 13 94,
 oF 96 0 4,
 oL 97 13 96,
 oC 98 27 ([95, 97]),
 oU 99 98,
 oM 100 99,
 gF 101 100 (.faddr 0 15),
 gF 102 100 (.load 13 true 101),
 gF 103 100 (.faddr 0 5),
 gF 104 100 (.load 13 true 103),
 gF 105 100 (.call false (.f 27) [102, 104]),
 gF 106 100 (.un .not 105),
 oQ 107 100 106,
 oM 108 107,
 gF 109 108 (.faddr 0 17),
 gF 110 108 (.load 13 true 109),
 gF 111 108 (.faddr 0 6),
 gF 112 108 (.load 13 true 111),
 gF 113 108 (.call false (.f 27) [110, 112]),
 gF 114 108 (.un .not 113),
 oQ 115 108 114,
 oM 116 115,
 gF 117 116 (.faddr 0 19),
 gF 118 116 (.load 13 true 117),
 gF 119 116 (.faddr 0 7),
 gF 120 116 (.load 13 true 119),
 gF 121 116 (.call false (.f 27) [118, 120]),
 gF 122 116 (.un .not 121),
 oQ 123 116 122] false)
 (.cond 123 (.seq (.reg [o 8 (.mov (.c zB))] false)
 (.ret))
 (.skip)))
 (.seq (.reg [oF 124 13 13,
 oE 125 1 124 [0],
 oF 126 13 4,
 oE 127 1 126 [2],
 ob 128 (.bin .eql 125 127) [0, 1, 2, 3],
 ob 129 (.mov 128) (rg 0 5),
 ⟨(some 130), (some (129, true)), .faddr 14 13, (rg 0 6)⟩,
 ⟨(some 131), (some (129, true)), .load 1 false 130, (rg 0 7)⟩,
 ⟨(some 132), (some (129, true)), .faddr 14 4, (rg 0 6)⟩,
 ⟨(some 133), (some (129, true)), .load 1 false 132, (rg 0 6 ++ [8])⟩,
 ⟨(some 134), (some (129, true)), .bin .eql 131 133, (rg 0 10)⟩,
 ob 135 (.pick 129 134 (.c zB)) (rg 0 11),
 ob 136 (.mov 135) (rg 0 12),
 ⟨(some 137), (some (136, true)), .faddr 15 13, (rg 0 13)⟩,
 ⟨(some 138), (some (136, true)), .load 1 false 137, (rg 0 14)⟩,
 ⟨(some 139), (some (136, true)), .faddr 15 4, (rg 0 13)⟩,
 ⟨(some 140), (some (136, true)), .load 1 false 139, (rg 0 13 ++ [15])⟩,
 ⟨(some 141), (some (136, true)), .bin .eql 138 140, (rg 0 17)⟩,
 ob 142 (.pick 136 141 (.c zB)) (rg 0 18),
 ob 143 (.mov 142) (rg 0 19),
 ⟨(some 144), (some (143, true)), .faddr 28 13, (rg 0 20)⟩,
 ⟨(some 145), (some (143, true)), .load 7 true 144, (rg 0 21)⟩,
 ⟨(some 146), (some (143, true)), .faddr 28 4, (rg 0 20)⟩,
 ⟨(some 147), (some (143, true)), .load 7 true 146, (rg 0 20 ++ [22])⟩,
 ⟨(some 148), (some (143, true)), .eqs (.st [(0, 1, .int), (1, 1, .int), (2, 1, .int), (3, 1, .int), (4, 1, .int), (5, 1, .int), (6, 1, .bool)]) false 145 147, (rg 0 24)⟩,
 ob 149 (.pick 143 148 (.c zB)) (rg 0 25),
 ob 150 (.mov 149) (rg 0 26),
 ⟨(some 151), (some (150, true)), .faddr 31 15, (rg 0 27)⟩,
 ⟨(some 152), (some (150, true)), .load 2 true 151, (rg 0 28)⟩,
 ⟨(some 153), (some (150, true)), .faddr 31 5, (rg 0 27)⟩,
 ⟨(some 154), (some (150, true)), .load 2 true 153, (rg 0 27 ++ [29])⟩,
 ⟨(some 155), (some (150, true)), .eqs (.st [(0, 1, .bool), (1, 1, .int)]) false 152 154, (rg 0 31)⟩,
 ob 156 (.pick 150 155 (.c zB)) (rg 0 32),
 ob 157 (.mov 156) (rg 0 33),
 ⟨(some 158), (some (157, true)), .faddr 33 15, (rg 0 34)⟩,
 ⟨(some 159), (some (157, true)), .load 2 true 158, (rg 0 35)⟩,
 ⟨(some 160), (some (157, true)), .faddr 33 5, (rg 0 34)⟩,
 ⟨(some 161), (some (157, true)), .load 2 true 160, (rg 0 34 ++ [36])⟩,
 ⟨(some 162), (some (157, true)), .eqs (.st [(0, 1, .bool), (1, 1, .int)]) false 159 161, (rg 0 38)⟩,
 ob 163 (.pick 157 162 (.c zB)) (rg 0 39),
 ob 164 (.mov 163) (rg 0 40),
 ⟨(some 165), (some (164, true)), .faddr 36 15, (rg 0 41)⟩,
 ⟨(some 166), (some (164, true)), .load 7 true 165, (rg 0 42)⟩,
 ⟨(some 167), (some (164, true)), .faddr 36 5, (rg 0 41)⟩,
 ⟨(some 168), (some (164, true)), .load 7 true 167, (rg 0 41 ++ [43])⟩,
 ⟨(some 169), (some (164, true)), .eqs (.st [(0, 1, .int), (1, 1, .int), (2, 1, .int), (3, 1, .int), (4, 1, .int), (5, 1, .int), (6, 1, .bool)]) false 166 168, (rg 0 45)⟩,
 ob 170 (.pick 164 169 (.c zB)) (rg 0 46),
 ob 171 (.mov 170) (rg 0 47),
 ⟨(some 172), (some (171, true)), .faddr 13 17, (rg 0 48)⟩,
 ⟨(some 173), (some (171, true)), .load 1 false 172, (rg 0 49)⟩,
 ⟨(some 174), (some (171, true)), .faddr 13 6, (rg 0 48)⟩,
 ⟨(some 175), (some (171, true)), .load 1 false 174, (rg 0 48 ++ [50])⟩,
 ⟨(some 176), (some (171, true)), .bin .eql 173 175, (rg 0 52)⟩,
 ob 177 (.pick 171 176 (.c zB)) (rg 0 53),
 ob 178 (.mov 177) (rg 0 54),
 ⟨(some 179), (some (178, true)), .faddr 36 17, (rg 0 55)⟩,
 ⟨(some 180), (some (178, true)), .load 1 false 179, (rg 0 56)⟩,
 ⟨(some 181), (some (178, true)), .faddr 36 6, (rg 0 55)⟩,
 ⟨(some 182), (some (178, true)), .load 1 false 181, (rg 0 55 ++ [57])⟩,
 ⟨(some 183), (some (178, true)), .bin .eql 180 182, (rg 0 59)⟩,
 ob 184 (.pick 178 183 (.c zB)) (rg 0 60),
 ob 185 (.mov 184) (rg 0 61),
 ⟨(some 186), (some (185, true)), .faddr 35 17, (rg 0 62)⟩,
 ⟨(some 187), (some (185, true)), .load 1 false 186, (rg 0 63)⟩,
 ⟨(some 188), (some (185, true)), .len false 187, (rg 0 64)⟩,
 ⟨(some 189), (some (185, true)), .faddr 35 6, (rg 0 62)⟩,
 ⟨(some 190), (some (185, true)), .load 1 false 189, (rg 0 62 ++ [65])⟩,
 ⟨(some 191), (some (185, true)), .len false 190, (rg 0 62 ++ [65, 66])⟩,
 ⟨(some 192), (some (185, true)), .bin .eql 188 191, (rg 0 68)⟩,
 ob 193 (.pick 185 192 (.c zB)) (rg 0 69),
 ob 194 (.mov 193) (rg 0 70),
 ⟨(some 195), (some (194, true)), .faddr 20 19, (rg 0 71)⟩,
 ⟨(some 196), (some (194, true)), .load 1 false 195, (rg 0 72)⟩,
 ⟨(some 197), (some (194, true)), .faddr 20 7, (rg 0 71)⟩,
 ⟨(some 198), (some (194, true)), .load 1 false 197, (rg 0 71 ++ [73])⟩,
 ⟨(some 199), (some (194, true)), .bin .eql 196 198, (rg 0 75)⟩,
 ob 200 (.pick 194 199 (.c zB)) (rg 0 76),
 ob 201 (.mov 200) (rg 0 77),
 ⟨(some 202), (some (201, true)), .faddr 21 19, (rg 0 78)⟩,
 ⟨(some 203), (some (201, true)), .load 1 false 202, (rg 0 79)⟩,
 ⟨(some 204), (some (201, true)), .len false 203, (rg 0 80)⟩,
 ⟨(some 205), (some (201, true)), .faddr 21 7, (rg 0 78)⟩,
 ⟨(some 206), (some (201, true)), .load 1 false 205, (rg 0 78 ++ [81])⟩,
 ⟨(some 207), (some (201, true)), .len false 206, (rg 0 78 ++ [81, 82])⟩,
 ⟨(some 208), (some (201, true)), .bin .eql 204 207, (rg 0 84)⟩,
 ob 209 (.pick 201 208 (.c zB)) (rg 0 85),
 ob 210 (.mov 209) (rg 0 86),
 ⟨(some 211), (some (210, true)), .load 35 true 13, (rg 0 87)⟩,
 ⟨(some 212), (some (210, true)), .call false (.f 18) [211], (rg 0 88)⟩,
 ⟨(some 213), (some (210, true)), .load 23 true 9, (rg 0 87)⟩,
 ⟨(some 214), (some (210, true)), .call false (.f 17) [212, 213], (rg 0 90)⟩,
 ob 215 (.pick 210 214 (.c zB)) (rg 0 91),
 ob 216 (.mov 215) (rg 0 92),
 ⟨(some 217), (some (216, true)), .load 43 true 15, (rg 0 93)⟩,
 ⟨(some 218), (some (216, true)), .call false (.f 9) [217], (rg 0 94)⟩,
 ⟨(some 219), (some (216, true)), .load 23 true 10, (rg 0 93)⟩,
 ⟨(some 220), (some (216, true)), .call false (.f 17) [218, 219], (rg 0 96)⟩,
 ob 221 (.pick 216 220 (.c zB)) (rg 0 97),
 ob 222 (.mov 221) (rg 0 98),
 ⟨(some 223), (some (222, true)), .load 37 true 17, (rg 0 99)⟩,
 ⟨(some 224), (some (222, true)), .call false (.f 19) [223], (rg 0 100)⟩,
 ⟨(some 225), (some (222, true)), .load 23 true 11, (rg 0 99)⟩,
 ⟨(some 226), (some (222, true)), .call false (.f 17) [224, 225], (rg 0 102)⟩,
 ob 227 (.pick 222 226 (.c zB)) (rg 0 103),
 ob 228 (.mov 227) (rg 0 104),
 ⟨(some 229), (some (228, true)), .load 22 true 19, (rg 0 105)⟩,
 ⟨(some 230), (some (228, true)), .call false (.f 20) [229], (rg 0 106)⟩,
 ⟨(some 231), (some (228, true)), .load 23 true 12, (rg 0 105)⟩,
 ⟨(some 232), (some (228, true)), .call false (.f 17) [230, 231], (rg 0 108)⟩,
 ob 233 (.pick 228 232 (.c zB)) (rg 0 109),
 ob 234 (.mov 233) (rg 0 110),
 ⟨(some 235), (some (234, true)), .call false (.f 12) [], (rg 0 111)⟩,
 ob 236 (.pick 234 235 (.c zB)) (rg 0 112),
 ob 8 (.mov 236) (rg 0 113)] true)
 (.ret))))))))))))))
def K0 : IFn := ⟨4, 237, [.tmp 8], false, K0_c⟩
def Q24i : IR :=
 .seq (.reg [o 1 (.box 43 0),
 o 2 (.zero zL2)] false)
 (.seq (.reg [oF 3 0 1,
 ob 4 (.load 13 true 3) [0],
 oL 5 43 1,
 oD 6 59 ([5]) [2],
 oF 7 36 1,
 ob 8 (.load 7 true 7) [4],
 oD 9 60 ([8]) [2, 3, 4, 5],
 oD 10 58 ([sA74, 4, 6, 9]) (rg 0 7),
 ⟨none, none, .store 23 2 10, (rg 0 8)⟩] true)
 (.ret))
def K3o : IFn := ⟨1, 11, [.cell 2 23 true], false, Q24i⟩
def Qq7 : List Nat := [100001, 1, 3, 4]
def Q1wd : IR :=
 .seq (.seq (.reg [oM 29 4,
 oF 30 12 3,
 oK 31 1 30,
 oN 32 31,
 o 33 (.bin .lss 29 32)] false)
 (.cond 33 (.skip)
 (.exit 0)))
 (.seq (.block 1 (.seq (.reg [oF 36 12 3,
 oK 37 1 36,
 oM 38 4,
 oI 39 2 37 38,
 oF 40 1 39,
 oK 41 1 40,
 oN 42 41,
 o 43 (.bin .gtr 42 (.c (iN 60)))] false)
 (.cond 43 (.seq (.reg [o 2 (.mov (.c zB))] false)
 (.ret))
 (.skip))))
 (.reg [oM 34 4,
 oA 35 34,
 oM 4 35] false))
def K8_c : IR :=
 .seq (.reg [o 1 (.box 23 0),
 o 2 (.mov (.c zB))] false)
 (.seq (.reg [oF 5 0 1,
 oL 6 13 5,
 o 3 (.zero zL10),
 oS 13 3 6] false)
 (.seq (.seq (.reg [oF 7 9 3,
 oK 8 1 7,
 oN 9 8,
 o 10 (.bin .gtr 9 (.c (iN 40))),
 oM 11 10,
 gF 12 11 (.faddr 10 3),
 gF 13 11 (.load 1 false 12),
 gF 14 11 (.len false 13),
 gF 15 11 (.bin .gtr 14 (.c (iN 40))),
 oQ 16 11 15,
 oM 17 16,
 gF 18 17 (.faddr 11 3),
 gF 19 17 (.load 1 false 18),
 gF 20 17 (.len false 19),
 gF 21 17 (.bin .gtr 20 (.c (iN 40))),
 oQ 22 17 21,
 oM 23 22,
 gF 24 23 (.faddr 12 3),
 gF 25 23 (.load 1 false 24),
 gF 26 23 (.len false 25),
 gF 27 23 (.bin .gtr 26 (.c (iN 40))),
 oQ 28 23 27] false)
 (.cond 28 (.seq (.reg [o 2 (.mov (.c zB))] false)
 (.ret))
 (.skip)))
 (.seq (.seq (.reg [o 4 (.mov (.c zI))] false)
 (.block 0 (.loop Qq7 Q1wd)))
 (.seq (.reg [oF 44 13 1,
 oL 45 5 44,
 oC 46 63 ([45, .c (iN 900)]),
 oM 47 46,
 gT 48 47 (.faddr 18 1),
 gT 49 47 (.load 5 true 48),
 gT 50 47 (.call false (.f 63) [49, .c (iN 300)]),
 oP 51 47 50,
 oM 2 51] false)
 (.ret)))))
def K8 : IFn := ⟨1, 52, [.tmp 2], false, K8_c⟩
def K6_c : IR :=
 .seq (.reg [o 0 (.mov (.c zB))] false)
 (.seq (.reg [o 15 (.build [zI, zI, zI] [(0, 1, .c (iN 1000))]),
 o 16 (.build zL6 [(13, 3, 15), (19, 1, .c (iN 2))]),
 oC 17 64 ([16]),
 o 1 (.zero zL2),
 oS 23 1 17] false)
 (.seq (.reg [oF 19 13 1,
 oL 20 5 19,
 oC 21 65 ([20, sA15]),
 oM 18 21,
 oX 22 18 0,
 oX 23 18 1,
 o 2 (.zero zL1),
 oS 5 2 22,
 oM 3 23] false)
 (.seq (.reg [oL 25 5 2,
 oC 26 65 ([25, sA86]),
 oM 24 26,
 oX 27 24 0,
 oX 28 24 1,
 o 4 (.zero zL1),
 oS 5 4 27,
 oM 5 28] false)
 (.seq (.reg [oL 30 23 1,
 oC 31 43 ([30]),
 oM 29 31,
 oX 32 29 0,
 oX 33 29 1,
 o 6 (.zero zL6),
 oS 21 6 32,
 oM 7 33] false)
 (.seq (.reg [oC 34 67 ([.c (iN 1)]),
 o 35 (.build zL0 [(0, 1, sA56), (1, 5, 34)]),
 o 36 (.lit 6 1 zL0 [(0, 35)]),
 oC 37 66 ([36]),
 o 8 (.zero zL1),
 oS 5 8 37] false)
 (.seq (.reg [o 39 (.build zL10 [(0, 1, sA78)]),
 oL 40 5 8,
 o 41 (.build zL2 [(0, 13, 39), (13, 5, 40)]),
 oC 42 35 ([41]),
 oM 38 42,
 oX 43 38 0,
 oX 44 38 1,
 o 9 (.zero zL8),
 oS 17 9 43,
 oM 10 44] false)
 (.seq (.reg [o 46 (.build zL10 [(0, 1, sA78)]),
 o 47 (.build zL2 [(0, 13, 46)]),
 oC 48 35 ([47]),
 oM 45 48,
 oX 49 45 0,
 oX 50 45 1,
 o 11 (.zero zL8),
 oS 17 11 49,
 oM 12 50] false)
 (.seq (.reg [o 52 (.build zL2 []),
 oC 53 43 ([52]),
 oM 51 53,
 oX 54 51 0,
 oX 55 51 1,
 o 13 (.zero zL6),
 oS 21 13 54,
 oM 14 55] false)
 (.seq (.reg [oF 56 0 1,
 oF 57 0 56,
 oK 58 1 57,
 o 59 (.bin .eql 58 (sA76)),
 oM 60 59,
 gT 61 60 (.faddr 13 1),
 gT 62 60 (.faddr 4 61),
 gT 63 60 (.load 1 false 62),
 gT 64 60 (.len false 63),
 gT 65 60 (.bin .eql 64 (.c (iN 2))),
 oP 66 60 65,
 oM 67 66,
 gT 68 67 (.mov 3),
 oP 69 67 68,
 oM 70 69,
 gT 71 70 (.mov 5),
 oP 72 70 71,
 oM 73 72,
 gT 74 73 (.faddr 1 4),
 gT 75 73 (.load 1 false 74),
 gT 76 73 (.bin .eql 75 (.c (iN 1000))),
 oP 77 73 76,
 oM 78 77,
 gT 79 78 (.mov 7),
 gT 80 78 (.bin .eql 79 (.c zI)),
 oP 81 78 80,
 oM 82 81,
 gT 83 82 (.faddr 13 6),
 gT 84 82 (.faddr 0 83),
 gT 85 82 (.load 1 false 84),
 gT 86 82 (.bin .eql 85 (.c (iN 1000))),
 oP 87 82 86,
 oM 88 87,
 gT 89 88 (.faddr 19 6),
 gT 90 88 (.load 1 false 89),
 gT 91 88 (.bin .eql 90 (.c (iN 2))),
 oP 92 88 91,
 oM 93 92,
 gT 94 93 (.mov 10),
 gT 95 93 (.bin .eql 94 (.c (iN 6))),
 oP 96 93 95,
 oM 97 96,
 gT 98 97 (.mov 12),
 gT 99 97 (.bin .eql 98 (.c zI)),
 oP 100 97 99,
 oM 101 100,
 gT 102 101 (.faddr 15 11),
 gT 103 101 (.load 1 false 102),
 gT 104 101 (.un .not 103),
 oP 105 101 104,
 oM 106 105,
 gT 107 106 (.mov 14),
 gT 108 106 (.bin .eql 107 (.c (iN 6))),
 oP 109 106 108,
 oM 0 109] false)
 (.ret))))))))))
def K6 : IFn := ⟨0, 110, [.tmp 0], false, K6_c⟩
def Q257 : IR :=
 .seq (.reg [o 1 (.box 23 0),
 o 2 (.zero zL4),
 o 3 (.mov (.c zI))] false)
 (.seq (.reg [oL 6 23 1,
 oD 7 68 ([6, sA74]) [0],
 oF 8 13 1,
 ob 9 (.load 5 true 8) [2],
 o 5 (.zero zL1),
 ob 4 (.mov 7) [0, 1, 4],
 ⟨none, none, .store 5 5 9, (rg 0 6)⟩] true)
 (.seq (.reg [oM 10 4,
 oF 11 0 1,
 ob 12 (.load 13 true 11) [1],
 oD 13 70 ([12]) [1, 2],
 oM 14 4,
 oL 15 5 5,
 oD 16 71 ([14, 15, sA43]) (rg 1 6),
 oM 17 4,
 oL 18 5 5,
 oD 19 71 ([17, 18, sA25]) (rg 1 9),
 oM 20 4,
 oL 21 5 5,
 oD 22 71 ([20, 21, sA14]) (rg 1 12),
 oM 23 4,
 oL 24 5 5,
 oD 25 71 ([23, 24, sA2]) (rg 1 15),
 oM 26 4,
 oL 27 5 5,
 oD 28 72 ([26, 27]) (rg 1 18),
 oM 29 4,
 oL 30 5 5,
 oD 31 73 ([29, 30]) (rg 1 21),
 oM 32 4,
 oL 33 5 5,
 oD 34 74 ([32, 33, sA51]) (rg 1 24),
 oM 35 4,
 oL 36 5 5,
 oD 37 74 ([35, 36, sA42]) (rg 1 27),
 oM 38 4,
 oM 39 4,
 oL 40 5 5,
 oD 41 76 ([39, 40, sA59]) (rg 1 28 ++ [29, 30]),
 oD 42 75 ([38, 41]) (rg 1 32),
 oM 43 4,
 oM 44 4,
 oL 45 5 5,
 oD 46 76 ([44, 45, sA67]) (rg 1 33 ++ [34, 35]),
 oD 47 75 ([43, 46]) (rg 1 37),
 oM 48 4,
 oL 49 5 5,
 oD 50 71 ([48, 49, sA66]) (rg 1 40),
 oM 51 4,
 oF 52 18 1,
 ob 53 (.load 5 true 52) [42],
 oD 54 77 ([51, 53]) (rg 1 44),
 ob 55 (.build zL4 [(0, 13, 13), (13, 1, 16), (14, 1, 19), (15, 1, 22), (16, 1, 25), (17, 1, 28), (18, 11, 31), (29, 1, 34), (30, 1, 37), (31, 2, 42), (33, 2, 47), (35, 1, 50), (36, 7, 54)]) (rg 1 45),
 oD 56 69 ([10, 55]) (rg 0 46),
 ob 57 (.extract 56 0) (rg 0 47),
 ob 58 (.extract 56 1) (rg 0 47),
 ⟨none, none, .store 43 2 57, (rg 0 49)⟩,
 ob 3 (.mov 58) (rg 0 50)] true)
 (.ret)))
def K5o : IFn := ⟨1, 59, [.cell 2 43 true, .tmp 3], false, Q257⟩
def Q250 : IR :=
 .seq (.reg [o 1 (.box 43 0),
 o 2 (.zero zL2)] false)
 (.seq (.reg [oF 4 13 1,
 oE 5 1 4 [0],
 oD 6 79 ([sA43, 5]) [0, 1],
 oF 7 14 1,
 oE 8 1 7 [3],
 oD 9 79 ([sA25, 8]) (rg 0 5),
 oF 10 15 1,
 oE 11 1 10 [6],
 oD 12 79 ([sA14, 11]) (rg 0 8),
 oF 13 16 1,
 oE 14 1 13 [9],
 oD 15 79 ([sA2, 14]) (rg 0 11),
 oF 16 17 1,
 oE 17 1 16 [12],
 oD 18 80 ([17]) (rg 0 14),
 oF 19 18 1,
 ob 20 (.load 11 true 19) [15],
 oD 21 81 ([20]) (rg 0 17),
 oF 22 29 1,
 oE 23 1 22 [18],
 oD 24 82 ([sA51, 23]) (rg 0 20),
 oF 25 30 1,
 oE 26 1 25 [21],
 oD 27 82 ([sA42, 26]) (rg 0 23),
 oF 28 31 1,
 ob 29 (.load 2 true 28) [24],
 oD 30 84 ([29]) (rg 0 26),
 oD 31 83 ([sA59, 30]) (rg 0 27),
 oF 32 33 1,
 ob 33 (.load 2 true 32) [28],
 oD 34 84 ([33]) (rg 0 30),
 oD 35 83 ([sA67, 34]) (rg 0 31),
 oF 36 35 1,
 oE 37 1 36 [32],
 oD 38 79 ([sA66, 37]) (rg 0 34),
 ob 39 (.lit 6 11 zL0 [(0, 6), (1, 9), (2, 12), (3, 15), (4, 18), (5, 21), (6, 24), (7, 27), (8, 31), (9, 35), (10, 38)]) (rg 0 35),
 oD 40 78 ([39]) (rg 0 36),
 o 3 (.zero zL1),
 ⟨none, none, .store 5 3 40, (rg 0 38)⟩] true)
 (.seq (.reg [oF 41 0 1,
 ob 42 (.load 13 true 41) [0],
 oL 43 5 3,
 oF 44 36 1,
 ob 45 (.load 7 true 44) [3],
 oD 46 86 ([45]) [3, 4],
 oD 47 85 ([sA74, 42, 43, 46]) (rg 0 6),
 ⟨none, none, .store 23 2 47, (rg 0 7)⟩] true)
 (.ret)))
def K5b : IFn := ⟨1, 48, [.cell 2 23 true], false, Q250⟩
def Q23m : IR :=
 .seq (.reg [o 2 (.box 23 0),
 o 3 (.box 23 1),
 o 4 (.mov (.c zB))] false)
 (.seq (.reg [oF 5 0 2,
 oL 6 13 5,
 oF 7 0 3,
 oL 8 13 7,
 oC 9 27 ([6, 8]),
 oM 10 9,
 gT 11 10 (.faddr 13 2),
 gT 12 10 (.load 5 true 11),
 gT 13 10 (.faddr 13 3),
 gT 14 10 (.load 5 true 13),
 gT 15 10 (.call false (.f 98) [12, 14]),
 oP 16 10 15,
 oM 17 16,
 gT 18 17 (.faddr 18 2),
 gT 19 17 (.load 5 true 18),
 gT 20 17 (.faddr 18 3),
 gT 21 17 (.load 5 true 20),
 gT 22 17 (.call false (.f 98) [19, 21]),
 oP 23 17 22,
 oM 4 23] false)
 (.ret))
def K1v : IFn := ⟨2, 24, [.tmp 4], false, Q23m⟩
def Q24k : IR :=
 .seq (.reg [o 1 (.box 35 0),
 o 2 (.zero zL2)] false)
 (.seq (.reg [oF 3 0 1,
 ob 4 (.load 13 true 3) [0],
 oL 5 35 1,
 oD 6 99 ([5]) [2],
 oF 7 28 1,
 ob 8 (.load 7 true 7) [4],
 oD 9 60 ([8]) [2, 3, 4, 5],
 oD 10 58 ([sA77, 4, 6, 9]) (rg 0 7),
 ⟨none, none, .store 23 2 10, (rg 0 8)⟩] true)
 (.ret))
def K3t : IFn := ⟨1, 11, [.cell 2 23 true], false, Q24k⟩
def Q24j : IR :=
 .seq (.reg [o 1 (.box 37 0),
 o 2 (.zero zL2)] false)
 (.seq (.reg [oF 3 0 1,
 ob 4 (.load 13 true 3) [0],
 oL 5 37 1,
 oD 6 100 ([5]) [2],
 oL 7 37 1,
 oD 8 101 ([7]) [2, 3, 4],
 oD 9 58 ([sA75, 4, 6, 8]) (rg 0 6),
 ⟨none, none, .store 23 2 9, (rg 0 7)⟩] true)
 (.ret))
def K3q : IFn := ⟨1, 10, [.cell 2 23 true], false, Q24j⟩
def Q24h : IR :=
 .seq (.reg [o 1 (.box 22 0),
 o 2 (.zero zL2)] false)
 (.seq (.reg [oF 3 0 1,
 ob 4 (.load 13 true 3) [0],
 oL 5 22 1,
 oD 6 102 ([5]) [2],
 oL 7 22 1,
 oD 8 103 ([7]) [2, 3, 4],
 oD 9 58 ([sA73, 4, 6, 8]) (rg 0 6),
 ⟨none, none, .store 23 2 9, (rg 0 7)⟩] true)
 (.ret))
def K3l : IFn := ⟨1, 10, [.cell 2 23 true], false, Q24h⟩
def Q25a : IR :=
 .seq (.reg [o 1 (.box 23 0),
 o 2 (.zero zL5),
 o 3 (.mov (.c zI))] false)
 (.seq (.reg [oL 6 23 1,
 oD 7 68 ([6, sA77]) [0],
 oF 8 13 1,
 ob 9 (.load 5 true 8) [2],
 o 5 (.zero zL1),
 ob 4 (.mov 7) [0, 1, 4],
 ⟨none, none, .store 5 5 9, (rg 0 6)⟩] true)
 (.seq (.reg [oM 10 4,
 oF 11 0 1,
 ob 12 (.load 13 true 11) [1],
 oD 13 70 ([12]) [1, 2],
 oM 14 4,
 oL 15 5 5,
 oD 16 71 ([14, 15, sA43]) (rg 1 6),
 oM 17 4,
 oL 18 5 5,
 oD 19 71 ([17, 18, sA25]) (rg 1 9),
 oM 20 4,
 oL 21 5 5,
 oD 22 71 ([20, 21, sA49]) (rg 1 12),
 oM 23 4,
 oL 24 5 5,
 oD 25 72 ([23, 24]) (rg 1 15),
 oM 26 4,
 oL 27 5 5,
 oD 28 73 ([26, 27]) (rg 1 18),
 oM 29 4,
 oF 30 18 1,
 ob 31 (.load 5 true 30) [20],
 oD 32 77 ([29, 31]) (rg 1 22),
 ob 33 (.build zL5 [(0, 13, 13), (13, 1, 16), (14, 1, 19), (15, 1, 22), (16, 1, 25), (17, 11, 28), (28, 7, 32)]) (rg 1 23),
 oD 34 104 ([10, 33]) (rg 0 24),
 ob 35 (.extract 34 0) (rg 0 25),
 ob 36 (.extract 34 1) (rg 0 25),
 ⟨none, none, .store 35 2 35, (rg 0 27)⟩,
 ob 3 (.mov 36) (rg 0 28)] true)
 (.ret)))
def K5w : IFn := ⟨1, 37, [.cell 2 35 true, .tmp 3], false, Q25a⟩
def Q253 : IR :=
 .seq (.reg [o 1 (.box 35 0),
 o 2 (.zero zL2)] false)
 (.seq (.reg [oF 4 13 1,
 oE 5 1 4 [0],
 oD 6 79 ([sA43, 5]) [0, 1],
 oF 7 14 1,
 oE 8 1 7 [3],
 oD 9 79 ([sA25, 8]) (rg 0 5),
 oF 10 15 1,
 oE 11 1 10 [6],
 oD 12 79 ([sA49, 11]) (rg 0 8),
 oF 13 16 1,
 oE 14 1 13 [9],
 oD 15 80 ([14]) (rg 0 11),
 oF 16 17 1,
 ob 17 (.load 11 true 16) [12],
 oD 18 81 ([17]) (rg 0 14),
 ob 19 (.lit 6 5 zL0 [(0, 6), (1, 9), (2, 12), (3, 15), (4, 18)]) (rg 0 15),
 oD 20 78 ([19]) (rg 0 16),
 o 3 (.zero zL1),
 ⟨none, none, .store 5 3 20, (rg 0 18)⟩] true)
 (.seq (.reg [oF 21 0 1,
 ob 22 (.load 13 true 21) [0],
 oL 23 5 3,
 oF 24 28 1,
 ob 25 (.load 7 true 24) [3],
 oD 26 86 ([25]) [3, 4],
 oD 27 85 ([sA77, 22, 23, 26]) (rg 0 6),
 ⟨none, none, .store 23 2 27, (rg 0 7)⟩] true)
 (.ret)))
def K5e : IFn := ⟨1, 28, [.cell 2 23 true], false, Q253⟩
def Q258 : IR :=
 .seq (.reg [o 1 (.box 23 0),
 o 2 (.zero zL3),
 o 3 (.mov (.c zI))] false)
 (.seq (.reg [oL 7 23 1,
 oD 8 68 ([7, sA75]) [0],
 oF 9 18 1,
 ob 10 (.load 5 true 9) [2],
 o 5 (.zero zL1),
 ob 4 (.mov 8) [0, 1, 4],
 ⟨none, none, .store 5 5 10, (rg 0 6)⟩] true)
 (.seq (.reg [oM 11 4,
 oF 12 13 1,
 oL 13 5 12,
 oC 14 105 ([11, 13]),
 o 6 (.zero zL3),
 oS 37 6 14] false)
 (.seq (.reg [oF 15 0 1,
 oL 16 13 15,
 oC 17 70 ([16]),
 oF 18 0 6,
 oS 13 18 17] false)
 (.seq (.reg [oM 19 4,
 oL 20 5 5,
 oD 21 71 ([19, 20, sA83]) [0, 1],
 oM 22 4,
 oL 23 5 5,
 oD 24 71 ([22, 23, sA61]) (rg 0 5),
 oM 25 4,
 oL 26 5 5,
 oD 27 71 ([25, 26, sA10]) (rg 0 8),
 oM 28 4,
 oL 29 5 5,
 oD 30 71 ([28, 29, sA57]) (rg 0 11),
 oM 31 4,
 oL 32 5 5,
 oD 33 71 ([31, 32, sA9]) (rg 0 14),
 ob 34 (.faddr 30 6) [0, 1, 2],
 ⟨none, none, .store 1 34 21, (rg 0 16)⟩,
 ob 35 (.faddr 31 6) (rg 0 17),
 ⟨none, none, .store 1 35 24, (rg 0 18)⟩,
 ob 36 (.faddr 32 6) (rg 0 19),
 ⟨none, none, .store 1 36 27, (rg 0 20)⟩,
 ob 37 (.faddr 33 6) (rg 0 21),
 ⟨none, none, .store 1 37 30, (rg 0 22)⟩,
 ob 38 (.faddr 34 6) (rg 0 23),
 ⟨none, none, .store 1 38 33, (rg 0 24)⟩] true)
 (.seq (.reg [oM 39 4,
 oL 40 5 5,
 oD 41 106 ([39, 40, sA5]) [0, 1],
 oM 42 4,
 oL 43 5 5,
 oD 44 71 ([42, 43, sA47]) (rg 0 5),
 ob 45 (.faddr 35 6) [0, 1, 2],
 ⟨none, none, .store 1 45 41, (rg 0 7)⟩,
 ob 46 (.faddr 36 6) (rg 0 8),
 ⟨none, none, .store 1 46 44, (rg 0 9)⟩] true)
 (.seq (.reg [oM 47 4,
 oL 48 37 6,
 oC 49 107 ([47, 48]),
 oX 50 49 0,
 oX 51 49 1,
 oS 37 2 50,
 oM 3 51] false)
 (.ret)))))))
def K5r : IFn := ⟨1, 52, [.cell 2 37 true, .tmp 3], false, Q258⟩
def Q251 : IR :=
 .seq (.reg [o 1 (.box 37 0),
 o 2 (.zero zL2)] false)
 (.seq (.reg [oF 4 30 1,
 oE 5 1 4 [0],
 oD 6 79 ([sA83, 5]) [0, 1],
 oF 7 31 1,
 oE 8 1 7 [3],
 oD 9 79 ([sA61, 8]) (rg 0 5),
 oF 10 32 1,
 oE 11 1 10 [6],
 oD 12 79 ([sA10, 11]) (rg 0 8),
 oF 13 33 1,
 oE 14 1 13 [9],
 oD 15 79 ([sA57, 14]) (rg 0 11),
 oF 16 34 1,
 oE 17 1 16 [12],
 oD 18 79 ([sA9, 17]) (rg 0 14),
 oF 19 35 1,
 oE 20 1 19 [15],
 oD 21 108 ([20, .f 109]) (rg 0 17),
 oD 22 83 ([sA5, 21]) (rg 0 18),
 oF 23 36 1,
 oE 24 1 23 [19],
 oD 25 79 ([sA47, 24]) (rg 0 21),
 ob 26 (.lit 6 7 zL0 [(0, 6), (1, 9), (2, 12), (3, 15), (4, 18), (5, 22), (6, 25)]) (rg 0 22),
 oD 27 78 ([26]) (rg 0 23),
 o 3 (.zero zL1),
 ⟨none, none, .store 5 3 27, (rg 0 25)⟩] true)
 (.seq (.reg [oF 28 0 1,
 ob 29 (.load 13 true 28) [0],
 oL 30 37 1,
 oD 31 110 ([30]) [2],
 oL 32 5 3,
 oD 33 85 ([sA75, 29, 31, 32]) (rg 0 5),
 ⟨none, none, .store 23 2 33, (rg 0 6)⟩] true)
 (.ret)))
def K5c : IFn := ⟨1, 34, [.cell 2 23 true], false, Q251⟩
def Q254 : IR :=
 .seq (.reg [o 1 (.box 23 0),
 o 2 (.zero zL7),
 o 3 (.mov (.c zI))] false)
 (.seq (.reg [oL 9 23 1,
 oD 10 68 ([9, sA73]) [0],
 oF 11 13 1,
 ob 12 (.load 5 true 11) [2],
 oF 13 18 1,
 ob 14 (.load 5 true 13) [4],
 o 4 (.zero [.np]),
 o 5 (.zero zL1),
 o 6 (.zero zL1),
 ⟨none, none, .store 1 4 10, [0, 1, 6, 7, 8]⟩,
 ⟨none, none, .store 5 5 12, (rg 0 4 ++ rg 6 10)⟩,
 ⟨none, none, .store 5 6 14, (rg 0 11)⟩] true)
 (.seq (.reg [oK 15 1 4,
 oL 16 5 6,
 o 17 (.mkfn 112 [] [4]),
 oC 18 111 ([15, 16, sA4, 17]),
 oM 7 18] false)
 (.seq (.reg [o 19 (.mkfn 113 [] [4]),
 oM 8 19] false)
 (.seq (.reg [oK 20 1 4,
 oF 21 0 1,
 ob 22 (.load 13 true 21) [1],
 oD 23 70 ([22]) [1, 2],
 oK 24 1 4,
 oL 25 5 5,
 oD 26 72 ([24, 25]) (rg 1 6),
 oK 27 1 4,
 oL 28 5 5,
 oM 29 8,
 oD 30 115 ([27, 28, sA24, 29]) (rg 1 10),
 oK 31 1 4,
 oL 32 5 5,
 oM 33 8,
 oD 34 115 ([31, 32, sA27, 33]) (rg 1 14),
 oK 35 1 4,
 oL 36 5 6,
 oD 37 71 ([35, 36, sA34]) (rg 1 17),
 oK 38 1 4,
 oL 39 5 6,
 oD 40 71 ([38, 39, sA13]) (rg 1 20),
 oK 41 1 4,
 oL 42 5 6,
 oD 43 71 ([41, 42, sA1]) (rg 1 23),
 oK 44 1 4,
 oL 45 5 6,
 oD 46 71 ([44, 45, sA8]) (rg 1 26),
 oK 47 1 4,
 oL 48 5 6,
 oD 49 71 ([47, 48, sA79]) (rg 1 29),
 oM 50 7,
 ob 51 (.build zL7 [(0, 13, 23), (13, 1, 26), (14, 1, 30), (15, 1, 34), (16, 1, 37), (17, 1, 40), (18, 1, 43), (19, 1, 46), (20, 1, 49), (21, 1, 50)]) (rg 1 31),
 oD 52 114 ([20, 51]) (rg 0 32),
 ob 53 (.extract 52 0) (rg 0 33),
 ob 54 (.extract 52 1) (rg 0 33),
 ⟨none, none, .store 22 2 53, (rg 0 35)⟩,
 ob 3 (.mov 54) (rg 0 36)] true)
 (.ret)))))
def K5j : IFn := ⟨1, 55, [.cell 2 22 true, .tmp 3], false, Q254⟩
def Q24y : IR :=
 .seq (.reg [o 1 (.box 22 0),
 o 2 (.zero zL2)] false)
 (.seq (.reg [oF 6 13 1,
 oE 7 1 6 [0],
 oD 8 80 ([7]) [0, 1],
 oF 9 14 1,
 oE 10 1 9 [3],
 oD 11 116 ([10, .f 84]) (rg 0 5),
 oD 12 83 ([sA24, 11]) (rg 0 6),
 oF 13 15 1,
 oE 14 1 13 [7],
 oD 15 116 ([14, .f 84]) (rg 0 9),
 oD 16 83 ([sA27, 15]) (rg 0 10),
 ob 17 (.lit 6 3 zL0 [(0, 8), (1, 12), (2, 16)]) (rg 0 11),
 oD 18 78 ([17]) (rg 0 12),
 o 3 (.zero zL1),
 ⟨none, none, .store 5 3 18, (rg 0 14)⟩] true)
 (.seq (.reg [oF 19 21 1,
 oK 20 1 19,
 oC 21 117 ([20, .f 118]),
 o 4 (.zero zL1),
 oS 5 4 21] false)
 (.seq (.reg [oF 22 16 1,
 oE 23 1 22 [0],
 oD 24 79 ([sA34, 23]) [0, 1],
 oF 25 17 1,
 oE 26 1 25 [3],
 oD 27 79 ([sA13, 26]) (rg 0 5),
 oF 28 18 1,
 oE 29 1 28 [6],
 oD 30 79 ([sA1, 29]) (rg 0 8),
 oF 31 19 1,
 oE 32 1 31 [9],
 oD 33 79 ([sA8, 32]) (rg 0 11),
 oF 34 20 1,
 oE 35 1 34 [12],
 oD 36 79 ([sA79, 35]) (rg 0 14),
 oL 37 5 4,
 oD 38 83 ([sA4, 37]) (rg 0 16),
 ob 39 (.lit 6 6 zL0 [(0, 24), (1, 27), (2, 30), (3, 33), (4, 36), (5, 38)]) (rg 0 17),
 oD 40 78 ([39]) (rg 0 18),
 o 5 (.zero zL1),
 ⟨none, none, .store 5 5 40, (rg 0 20)⟩] true)
 (.seq (.reg [oF 41 0 1,
 oL 42 13 41,
 oL 43 5 3,
 oL 44 5 5,
 oC 45 85 ([sA73, 42, 43, 44]),
 oS 23 2 45] false)
 (.ret)))))
def K57 : IFn := ⟨1, 46, [.cell 2 23 true], false, Q24y⟩
def Qko : List Nat := [100004, 2, 3, 7]
def Q1om : IR :=
 .seq (.seq (.reg [oM 138 7,
 oF 139 12 2,
 oK 140 1 139,
 oN 141 140,
 o 142 (.bin .lss 138 141)] false)
 (.cond 142 (.skip)
 (.exit 4)))
 (.seq (.block 5 (.seq (.reg [oF 145 12 2,
 oE 146 1 145 [0],
 oM 147 7,
 ob 148 (.iaddr 2 146 147) [0, 1, 2],
 ob 149 (.faddr 0 148) [0, 1, 2, 3],
 oE 150 1 149 (rg 0 5),
 oF 151 12 3,
 oE 152 1 151 [6],
 oM 153 7,
 ob 154 (.iaddr 2 152 153) [6, 7, 8],
 ob 155 (.faddr 0 154) [6, 7, 8, 9],
 oE 156 1 155 (rg 6 11),
 ob 157 (.bin .neq 150 156) (rg 0 12),
 ob 158 (.mov 157) (rg 0 13),
 ⟨(some 159), (some (158, false)), .faddr 12 2, (rg 0 14)⟩,
 ⟨(some 160), (some (158, false)), .load 1 false 159, (rg 0 15)⟩,
 ⟨(some 161), (some (158, false)), .mov 7, (rg 0 14)⟩,
 ⟨(some 162), (some (158, false)), .iaddr 2 160 161, (rg 0 17)⟩,
 ⟨(some 163), (some (158, false)), .faddr 1 162, (rg 0 18)⟩,
 ⟨(some 164), (some (158, false)), .load 1 false 163, (rg 0 19)⟩,
 ⟨(some 165), (some (158, false)), .faddr 12 3, (rg 0 14)⟩,
 ⟨(some 166), (some (158, false)), .load 1 false 165, (rg 0 14 ++ [20])⟩,
 ⟨(some 167), (some (158, false)), .mov 7, (rg 0 14)⟩,
 ⟨(some 168), (some (158, false)), .iaddr 2 166 167, (rg 0 14 ++ [20, 21, 22])⟩,
 ⟨(some 169), (some (158, false)), .faddr 1 168, (rg 0 14 ++ rg 20 24)⟩,
 ⟨(some 170), (some (158, false)), .load 1 false 169, (rg 0 14 ++ rg 20 25)⟩,
 ⟨(some 171), (some (158, false)), .call false (.f 120) [164, 170], (rg 0 26)⟩,
 ⟨(some 172), (some (158, false)), .un .not 171, (rg 0 27)⟩,
 ob 173 (.pick 158 (.c (.bool true)) 172) (rg 0 28)] true)
 (.cond 173 (.seq (.reg [o 4 (.mov (.c zB))] false)
 (.ret))
 (.skip))))
 (.reg [oM 143 7,
 oA 144 143,
 oM 7 144] false))
def Qkn : List Nat := [100003, 2, 3, 6]
def Q1ol : IR :=
 .seq (.seq (.reg [oM 120 6,
 oF 121 10 2,
 oK 122 1 121,
 oN 123 122,
 o 124 (.bin .lss 120 123)] false)
 (.cond 124 (.skip)
 (.exit 2)))
 (.seq (.block 3 (.seq (.reg [oF 127 10 2,
 oE 128 1 127 [0],
 oM 129 6,
 ob 130 (.iaddr 5 128 129) [0, 1, 2],
 ob 131 (.load 5 true 130) [0, 1, 2, 3],
 oF 132 10 3,
 oE 133 1 132 [5],
 oM 134 6,
 ob 135 (.iaddr 5 133 134) [5, 6, 7],
 ob 136 (.load 5 true 135) [5, 6, 7, 8],
 ob 137 (.eqs (.st [(0, 1, .str), (1, 1, .str), (2, 1, .int), (3, 1, .bool), (4, 1, .bool)]) true 131 136) (rg 0 10)] true)
 (.cond 137 (.seq (.reg [o 4 (.mov (.c zB))] false)
 (.ret))
 (.skip))))
 (.reg [oM 125 6,
 oA 126 125,
 oM 6 126] false))
def Qkm : List Nat := [100002, 2, 3, 5]
def Q1ok : IR :=
 .seq (.seq (.reg [oM 102 5,
 oF 103 9 2,
 oK 104 1 103,
 oN 105 104,
 o 106 (.bin .lss 102 105)] false)
 (.cond 106 (.skip)
 (.exit 0)))
 (.seq (.block 1 (.seq (.reg [oF 109 9 2,
 oE 110 1 109 [0],
 oM 111 5,
 ob 112 (.iaddr 2 110 111) [0, 1, 2],
 ob 113 (.load 2 true 112) [0, 1, 2, 3],
 oF 114 9 3,
 oE 115 1 114 [5],
 oM 116 5,
 ob 117 (.iaddr 2 115 116) [5, 6, 7],
 ob 118 (.load 2 true 117) [5, 6, 7, 8],
 ob 119 (.eqs (.st [(0, 1, .str), (1, 1, .str)]) true 113 118) (rg 0 10)] true)
 (.cond 119 (.seq (.reg [o 4 (.mov (.c zB))] false)
 (.ret))
 (.skip))))
 (.reg [oM 107 5,
 oA 108 107,
 oM 5 108] false))
def Q23p : IR :=
 .seq (.reg [o 2 (.box 13 0),
 o 3 (.box 13 1),
 o 4 (.mov (.c zB))] false)
 (.seq (.seq (.reg [oL 8 13 2,
 oD 9 119 ([8]) [0],
 oL 10 13 3,
 oD 11 119 ([10]) [0, 1, 2],
 ob 12 (.bin .neq 9 11) [0, 1, 2, 3],
 ob 13 (.mov 12) (rg 0 5),
 ⟨(some 14), (some (13, false)), .faddr 0 2, (rg 0 6)⟩,
 ⟨(some 15), (some (13, false)), .load 1 false 14, (rg 0 7)⟩,
 ⟨(some 16), (some (13, false)), .faddr 0 3, (rg 0 6)⟩,
 ⟨(some 17), (some (13, false)), .load 1 false 16, (rg 0 6 ++ [8])⟩,
 ⟨(some 18), (some (13, false)), .bin .neq 15 17, (rg 0 10)⟩,
 ob 19 (.pick 13 (.c (.bool true)) 18) (rg 0 11),
 ob 20 (.mov 19) (rg 0 12),
 ⟨(some 21), (some (20, false)), .faddr 1 2, (rg 0 13)⟩,
 ⟨(some 22), (some (20, false)), .load 1 false 21, (rg 0 14)⟩,
 ⟨(some 23), (some (20, false)), .faddr 1 3, (rg 0 13)⟩,
 ⟨(some 24), (some (20, false)), .load 1 false 23, (rg 0 13 ++ [15])⟩,
 ⟨(some 25), (some (20, false)), .bin .neq 22 24, (rg 0 17)⟩,
 ob 26 (.pick 20 (.c (.bool true)) 25) (rg 0 18),
 ob 27 (.mov 26) (rg 0 19),
 ⟨(some 28), (some (27, false)), .faddr 3 2, (rg 0 20)⟩,
 ⟨(some 29), (some (27, false)), .load 1 false 28, (rg 0 21)⟩,
 ⟨(some 30), (some (27, false)), .faddr 3 3, (rg 0 20)⟩,
 ⟨(some 31), (some (27, false)), .load 1 false 30, (rg 0 20 ++ [22])⟩,
 ⟨(some 32), (some (27, false)), .bin .neq 29 31, (rg 0 24)⟩,
 ob 33 (.pick 27 (.c (.bool true)) 32) (rg 0 25),
 ob 34 (.mov 33) (rg 0 26),
 ⟨(some 35), (some (34, false)), .faddr 4 2, (rg 0 27)⟩,
 ⟨(some 36), (some (34, false)), .load 1 false 35, (rg 0 28)⟩,
 ⟨(some 37), (some (34, false)), .faddr 4 3, (rg 0 27)⟩,
 ⟨(some 38), (some (34, false)), .load 1 false 37, (rg 0 27 ++ [29])⟩,
 ⟨(some 39), (some (34, false)), .bin .neq 36 38, (rg 0 31)⟩,
 ob 40 (.pick 34 (.c (.bool true)) 39) (rg 0 32),
 ob 41 (.mov 40) (rg 0 33),
 ⟨(some 42), (some (41, false)), .faddr 5 2, (rg 0 34)⟩,
 ⟨(some 43), (some (41, false)), .load 1 false 42, (rg 0 35)⟩,
 ⟨(some 44), (some (41, false)), .faddr 5 3, (rg 0 34)⟩,
 ⟨(some 45), (some (41, false)), .load 1 false 44, (rg 0 34 ++ [36])⟩,
 ⟨(some 46), (some (41, false)), .bin .neq 43 45, (rg 0 38)⟩,
 ob 47 (.pick 41 (.c (.bool true)) 46) (rg 0 39),
 ob 48 (.mov 47) (rg 0 40),
 ⟨(some 49), (some (48, false)), .faddr 6 2, (rg 0 41)⟩,
 ⟨(some 50), (some (48, false)), .load 1 false 49, (rg 0 42)⟩,
 ⟨(some 51), (some (48, false)), .faddr 6 3, (rg 0 41)⟩,
 ⟨(some 52), (some (48, false)), .load 1 false 51, (rg 0 41 ++ [43])⟩,
 ⟨(some 53), (some (48, false)), .bin .neq 50 52, (rg 0 45)⟩,
 ob 54 (.pick 48 (.c (.bool true)) 53) (rg 0 46),
 ob 55 (.mov 54) (rg 0 47),
 ⟨(some 56), (some (55, false)), .faddr 7 2, (rg 0 48)⟩,
 ⟨(some 57), (some (55, false)), .load 1 false 56, (rg 0 49)⟩,
 ⟨(some 58), (some (55, false)), .faddr 7 3, (rg 0 48)⟩,
 ⟨(some 59), (some (55, false)), .load 1 false 58, (rg 0 48 ++ [50])⟩,
 ⟨(some 60), (some (55, false)), .eqb true 57 59, (rg 0 52)⟩,
 ob 61 (.pick 55 (.c (.bool true)) 60) (rg 0 53),
 ob 62 (.mov 61) (rg 0 54),
 ⟨(some 63), (some (62, false)), .faddr 8 2, (rg 0 55)⟩,
 ⟨(some 64), (some (62, false)), .load 1 false 63, (rg 0 56)⟩,
 ⟨(some 65), (some (62, false)), .faddr 8 3, (rg 0 55)⟩,
 ⟨(some 66), (some (62, false)), .load 1 false 65, (rg 0 55 ++ [57])⟩,
 ⟨(some 67), (some (62, false)), .bin .neq 64 66, (rg 0 59)⟩,
 ob 68 (.pick 62 (.c (.bool true)) 67) (rg 0 60)] true)
 (.cond 68 (.seq (.reg [o 4 (.mov (.c zB))] false)
 (.ret))
 (.skip)))
 (.seq (.seq (.reg [oF 69 9 2,
 oK 70 1 69,
 oN 71 70,
 oF 72 9 3,
 oK 73 1 72,
 oN 74 73,
 o 75 (.bin .neq 71 74),
 oM 76 75,
 gF 77 76 (.faddr 10 2),
 gF 78 76 (.load 1 false 77),
 gF 79 76 (.len false 78),
 gF 80 76 (.faddr 10 3),
 gF 81 76 (.load 1 false 80),
 gF 82 76 (.len false 81),
 gF 83 76 (.bin .neq 79 82),
 oQ 84 76 83,
 oM 85 84,
 gF 86 85 (.faddr 12 2),
 gF 87 85 (.load 1 false 86),
 gF 88 85 (.len false 87),
 gF 89 85 (.faddr 12 3),
 gF 90 85 (.load 1 false 89),
 gF 91 85 (.len false 90),
 gF 92 85 (.bin .neq 88 91),
 oQ 93 85 92,
 oM 94 93,
 gF 95 94 (.faddr 11 2),
 gF 96 94 (.load 1 false 95),
 gF 97 94 (.faddr 11 3),
 gF 98 94 (.load 1 false 97),
 gF 99 94 (.call false (.f 120) [96, 98]),
 gF 100 94 (.un .not 99),
 oQ 101 94 100] false)
 (.cond 101 (.seq (.reg [o 4 (.mov (.c zB))] false)
 (.ret))
 (.skip)))
 (.seq (.seq (.reg [o 5 (.mov (.c zI))] false)
 (.block 0 (.loop Qkm Q1ok)))
 (.seq (.seq (.reg [o 6 (.mov (.c zI))] false)
 (.block 2 (.loop Qkn Q1ol)))
 (.seq (.seq (.reg [o 7 (.mov (.c zI))] false)
 (.block 4 (.loop Qko Q1om)))
 (.seq (.reg [o 4 (.mov (.c (.bool true)))] false)
 (.ret)))))))
def K1y : IFn := ⟨2, 174, [.tmp 4], false, Q23p⟩
def Q25b : IR :=
 .seq (.reg [o 1 (.box 23 0),
 o 2 (.zero zL8),
 o 3 (.mov (.c zI))] false)
 (.seq (.reg [oL 6 23 1,
 oD 7 68 ([6, sA78]) [0],
 oF 8 13 1,
 ob 9 (.load 5 true 8) [2],
 o 5 (.zero zL1),
 ob 4 (.mov 7) [0, 1, 4],
 ⟨none, none, .store 5 5 9, (rg 0 6)⟩] true)
 (.seq (.reg [oM 10 4,
 oF 11 0 1,
 ob 12 (.load 13 true 11) [1],
 oD 13 70 ([12]) [1, 2],
 oM 14 4,
 oL 15 5 5,
 oD 16 72 ([14, 15]) (rg 1 6),
 oM 17 4,
 oL 18 5 5,
 oD 19 135 ([17, 18]) (rg 1 9),
 oM 20 4,
 oL 21 5 5,
 oD 22 74 ([20, 21, sA56]) (rg 1 12),
 oM 23 4,
 oF 24 18 1,
 ob 25 (.load 5 true 24) [14],
 oD 26 71 ([23, 25, .c (.str ⟨#[97, 100, 100, 114, 101, 115, 115]⟩)]) (rg 1 16),
 ob 27 (.build zL8 [(0, 13, 13), (13, 1, 16), (14, 1, 19), (15, 1, 22), (16, 1, 26)]) (rg 1 17),
 oD 28 134 ([10, 27]) (rg 0 18),
 ob 29 (.extract 28 0) (rg 0 19),
 ob 30 (.extract 28 1) (rg 0 19),
 ⟨none, none, .store 17 2 29, (rg 0 21)⟩,
 ob 3 (.mov 30) (rg 0 22)] true)
 (.ret)))
def K5x : IFn := ⟨1, 31, [.cell 2 17 true, .tmp 3], false, Q25b⟩
def Q259 : IR :=
 .seq (.reg [o 1 (.box 23 0),
 o 2 (.zero zL6),
 o 3 (.mov (.c zI))] false)
 (.seq (.reg [oL 6 23 1,
 oD 7 68 ([6, sA76]) [0],
 oF 8 13 1,
 ob 9 (.load 5 true 8) [2],
 o 5 (.zero zL1),
 ob 4 (.mov 7) [0, 1, 4],
 ⟨none, none, .store 5 5 9, (rg 0 6)⟩] true)
 (.seq (.reg [oM 10 4,
 oF 11 0 1,
 ob 12 (.load 13 true 11) [1],
 oD 13 70 ([12]) [1, 2],
 oM 14 4,
 oM 15 4,
 oL 16 5 5,
 oD 17 76 ([15, 16, sA15]) [1, 2, 3, 5, 6],
 oD 18 153 ([14, 17]) (rg 1 8),
 oM 19 4,
 oL 20 5 5,
 oD 21 71 ([19, 20, sA37]) (rg 1 11),
 oM 22 4,
 oM 23 4,
 oF 24 18 1,
 ob 25 (.load 5 true 24) [14],
 oD 26 76 ([23, 25, sA69]) (rg 1 12 ++ [13, 14, 15]),
 oD 27 153 ([22, 26]) (rg 1 17),
 oM 28 4,
 oF 29 18 1,
 ob 30 (.load 5 true 29) [19],
 oD 31 71 ([28, 30, sA16]) (rg 1 21),
 ob 32 (.build zL6 [(0, 13, 13), (13, 3, 18), (19, 1, 21), (16, 3, 27), (20, 1, 31)]) (rg 1 22),
 oD 33 152 ([10, 32]) (rg 0 23),
 ob 34 (.extract 33 0) (rg 0 24),
 ob 35 (.extract 33 1) (rg 0 24),
 ⟨none, none, .store 21 2 34, (rg 0 26)⟩,
 ob 3 (.mov 35) (rg 0 27)] true)
 (.ret)))
def K5v : IFn := ⟨1, 36, [.cell 2 21 true, .tmp 3], false, Q259⟩
def Q24l : IR :=
 .seq (.reg [o 5 (.box 13 1),
 o 6 (.box 5 2),
 o 7 (.box 5 3),
 o 8 (.zero zL2)] false)
 (.seq (.reg [oM 9 0,
 oF 10 0 5,
 oS 1 10 9] false)
 (.seq (.reg [oL 11 13 5,
 oL 12 5 6,
 oL 13 5 7,
 o 14 (.build zL2 [(0, 13, 11), (13, 5, 12), (18, 5, 13)]),
 oS 23 8 14] false)
 (.ret)))
def K49 : IFn := ⟨4, 15, [.cell 8 23 true], false, Q24l⟩
def Q23x : IR :=
 .seq (.reg [o 1 (.box 43 0),
 o 2 (.zero zL1)] false)
 (.seq (.reg [oF 3 13 1,
 oE 4 1 3 [0],
 oD 5 164 ([4]) [0, 1],
 ob 6 (.build zL0 [(0, 1, sA43), (1, 5, 5)]) [0, 1, 2],
 oF 7 14 1,
 oE 8 1 7 [4],
 oD 9 164 ([8]) [0, 1, 2, 4, 5],
 ob 10 (.build zL0 [(0, 1, sA25), (1, 5, 9)]) [0, 1, 2, 4, 5, 6],
 oF 11 15 1,
 oE 12 1 11 [8],
 oD 13 164 ([12]) [0, 1, 2, 4, 5, 6, 8, 9],
 ob 14 (.build zL0 [(0, 1, sA14), (1, 5, 13)]) [0, 1, 2, 4, 5, 6, 8, 9, 10],
 oF 15 16 1,
 oE 16 1 15 [12],
 oD 17 164 ([16]) [0, 1, 2, 4, 5, 6, 8, 9, 10, 12, 13],
 ob 18 (.build zL0 [(0, 1, sA2), (1, 5, 17)]) [0, 1, 2, 4, 5, 6, 8, 9, 10, 12, 13, 14],
 oF 19 17 1,
 oE 20 1 19 [16],
 oD 21 165 ([20]) [0, 1, 2, 4, 5, 6, 8, 9, 10, 12, 13, 14, 16, 17],
 ob 22 (.build zL0 [(0, 1, sA52), (1, 5, 21)]) [0, 1, 2, 4, 5, 6, 8, 9, 10, 12, 13, 14, 16, 17, 18],
 oF 23 18 1,
 ob 24 (.load 11 true 23) [20],
 oD 25 166 ([24]) [0, 1, 2, 4, 5, 6, 8, 9, 10, 12, 13, 14, 16, 17, 18, 20, 21],
 ob 26 (.build zL0 [(0, 1, sA63), (1, 5, 25)]) [0, 1, 2, 4, 5, 6, 8, 9, 10, 12, 13, 14, 16, 17, 18, 20, 21, 22],
 oF 27 29 1,
 oE 28 1 27 [24],
 oD 29 167 ([28]) [0, 1, 2, 4, 5, 6, 8, 9, 10, 12, 13, 14, 16, 17, 18, 20, 21, 22, 24, 25],
 ob 30 (.build zL0 [(0, 1, sA51), (1, 5, 29)]) [0, 1, 2, 4, 5, 6, 8, 9, 10, 12, 13, 14, 16, 17, 18, 20, 21, 22, 24, 25, 26],
 oF 31 30 1,
 oE 32 1 31 [28],
 oD 33 167 ([32]) [0, 1, 2, 4, 5, 6, 8, 9, 10, 12, 13, 14, 16, 17, 18, 20, 21, 22, 24, 25, 26, 28, 29],
 ob 34 (.build zL0 [(0, 1, sA42), (1, 5, 33)]) [0, 1, 2, 4, 5, 6, 8, 9, 10, 12, 13, 14, 16, 17, 18, 20, 21, 22, 24, 25, 26, 28, 29, 30],
 oF 35 31 1,
 ob 36 (.load 2 true 35) [32],
 oD 37 168 ([36]) [0, 1, 2, 4, 5, 6, 8, 9, 10, 12, 13, 14, 16, 17, 18, 20, 21, 22, 24, 25, 26, 28, 29, 30, 32, 33],
 ob 38 (.build zL0 [(0, 1, sA59), (1, 5, 37)]) [0, 1, 2, 4, 5, 6, 8, 9, 10, 12, 13, 14, 16, 17, 18, 20, 21, 22, 24, 25, 26, 28, 29, 30, 32, 33, 34],
 oF 39 33 1,
 ob 40 (.load 2 true 39) [36],
 oD 41 168 ([40]) [0, 1, 2, 4, 5, 6, 8, 9, 10, 12, 13, 14, 16, 17, 18, 20, 21, 22, 24, 25, 26, 28, 29, 30, 32, 33, 34, 36, 37],
 ob 42 (.build zL0 [(0, 1, sA67), (1, 5, 41)]) [0, 1, 2, 4, 5, 6, 8, 9, 10, 12, 13, 14, 16, 17, 18, 20, 21, 22, 24, 25, 26, 28, 29, 30, 32, 33, 34, 36, 37, 38],
 oF 43 35 1,
 oE 44 1 43 [40],
 oD 45 164 ([44]) [0, 1, 2, 4, 5, 6, 8, 9, 10, 12, 13, 14, 16, 17, 18, 20, 21, 22, 24, 25, 26, 28, 29, 30, 32, 33, 34, 36, 37, 38, 40, 41],
 ob 46 (.build zL0 [(0, 1, sA66), (1, 5, 45)]) [0, 1, 2, 4, 5, 6, 8, 9, 10, 12, 13, 14, 16, 17, 18, 20, 21, 22, 24, 25, 26, 28, 29, 30, 32, 33, 34, 36, 37, 38, 40, 41, 42],
 ob 47 (.lit 6 11 zL0 [(0, 6), (1, 10), (2, 14), (3, 18), (4, 22), (5, 26), (6, 30), (7, 34), (8, 38), (9, 42), (10, 46)]) (rg 0 44),
 oD 48 163 ([47]) (rg 0 45),
 ⟨none, none, .store 5 2 48, (rg 0 46)⟩] true)
 (.ret))
def K2a : IFn := ⟨1, 49, [.cell 2 5 true], false, Q23x⟩
def Q24g : IR :=
 .seq (.reg [o 1 (.box 7 0),
 o 2 (.zero zL1)] false)
 (.seq (.reg [oF 3 0 1,
 oE 4 1 3 [0],
 oD 5 164 ([4]) [0, 1],
 ob 6 (.build zL0 [(0, 1, sA34), (1, 5, 5)]) [0, 1, 2],
 oF 7 1 1,
 oE 8 1 7 [4],
 oD 9 164 ([8]) [0, 1, 2, 4, 5],
 ob 10 (.build zL0 [(0, 1, sA43), (1, 5, 9)]) [0, 1, 2, 4, 5, 6],
 oF 11 2 1,
 oE 12 1 11 [8],
 oD 13 164 ([12]) [0, 1, 2, 4, 5, 6, 8, 9],
 ob 14 (.build zL0 [(0, 1, sA68), (1, 5, 13)]) [0, 1, 2, 4, 5, 6, 8, 9, 10],
 oF 15 3 1,
 oE 16 1 15 [12],
 oD 17 164 ([16]) [0, 1, 2, 4, 5, 6, 8, 9, 10, 12, 13],
 ob 18 (.build zL0 [(0, 1, sA50), (1, 5, 17)]) [0, 1, 2, 4, 5, 6, 8, 9, 10, 12, 13, 14],
 oF 19 4 1,
 oE 20 1 19 [16],
 oD 21 164 ([20]) [0, 1, 2, 4, 5, 6, 8, 9, 10, 12, 13, 14, 16, 17],
 ob 22 (.build zL0 [(0, 1, sA82), (1, 5, 21)]) [0, 1, 2, 4, 5, 6, 8, 9, 10, 12, 13, 14, 16, 17, 18],
 oF 23 5 1,
 oE 24 1 23 [20],
 oD 25 164 ([24]) [0, 1, 2, 4, 5, 6, 8, 9, 10, 12, 13, 14, 16, 17, 18, 20, 21],
 ob 26 (.build zL0 [(0, 1, sA40), (1, 5, 25)]) [0, 1, 2, 4, 5, 6, 8, 9, 10, 12, 13, 14, 16, 17, 18, 20, 21, 22],
 oF 27 6 1,
 oE 28 1 27 [24],
 oD 29 167 ([28]) [0, 1, 2, 4, 5, 6, 8, 9, 10, 12, 13, 14, 16, 17, 18, 20, 21, 22, 24, 25],
 ob 30 (.build zL0 [(0, 1, sA10), (1, 5, 29)]) [0, 1, 2, 4, 5, 6, 8, 9, 10, 12, 13, 14, 16, 17, 18, 20, 21, 22, 24, 25, 26],
 ob 31 (.lit 6 7 zL0 [(0, 6), (1, 10), (2, 14), (3, 18), (4, 22), (5, 26), (6, 30)]) (rg 0 28),
 oD 32 163 ([31]) (rg 0 29),
 ⟨none, none, .store 5 2 32, (rg 0 30)⟩] true)
 (.ret))
def K30 : IFn := ⟨1, 33, [.cell 2 5 true], false, Q24g⟩
def Q23i : IR :=
 .seq (.reg [o 2 (.box 5 0),
 o 4 (.mov (.c zB))] false)
 (.seq (.reg [oL 5 5 2,
 oM 6 1,
 oM 7 1,
 oC 8 170 ([5, 6, 7]),
 o 9 (.bin .geq 8 (.c zI)),
 oM 4 9] false)
 (.ret))
def K1r : IFn := ⟨2, 10, [.tmp 4], false, Q23i⟩
def Q252 : IR :=
 .seq (.reg [o 1 (.box 21 0),
 o 2 (.zero zL2)] false)
 (.seq (.reg [oF 3 0 1,
 ob 4 (.load 13 true 3) [0],
 oF 5 13 1,
 ob 6 (.load 3 true 5) [2],
 oD 7 171 ([6]) [2, 3],
 oD 8 83 ([sA15, 7]) [2, 3, 4],
 oF 9 19 1,
 oE 10 1 9 [6],
 oD 11 79 ([sA37, 10]) (rg 2 8),
 ob 12 (.lit 6 2 zL0 [(0, 8), (1, 11)]) (rg 2 9),
 oD 13 78 ([12]) (rg 2 10),
 oF 14 16 1,
 ob 15 (.load 3 true 14) [11],
 oD 16 171 ([15]) (rg 2 13),
 oD 17 83 ([sA69, 16]) (rg 2 14),
 oF 18 20 1,
 oE 19 1 18 [15],
 oD 20 79 ([sA16, 19]) (rg 2 17),
 ob 21 (.lit 6 2 zL0 [(0, 17), (1, 20)]) (rg 2 18),
 oD 22 78 ([21]) (rg 2 19),
 oD 23 85 ([sA76, 4, 13, 22]) (rg 0 20),
 ⟨none, none, .store 23 2 23, (rg 0 21)⟩] true)
 (.ret))
def K5d : IFn := ⟨1, 24, [.cell 2 23 true], false, Q252⟩
def Q13n : List Nat := [100012, 1, 2, 4, 6]
def Q1w8 : IR :=
 .seq (.seq (.reg [oM 10 6,
 oF 11 4 2,
 oK 12 1 11,
 oN 13 12,
 o 14 (.bin .lss 10 13)] false)
 (.cond 14 (.skip)
 (.exit 0)))
 (.seq (.block 1 (.seq (.reg [oF 17 4 2,
 oK 18 1 17,
 oM 19 6,
 oI 20 6 18 19,
 oF 21 0 20,
 oK 22 1 21,
 oM 23 1,
 o 24 (.bin .eql 22 23)] false)
 (.cond 24 (.seq (.reg [oF 25 4 2,
 oK 26 1 25,
 oM 27 6,
 oI 28 6 26 27,
 oF 29 1 28,
 oL 30 5 29,
 oC 31 172 ([30]),
 oS 5 4 31,
 o 5 (.mov (.c (.bool true)))] false)
 (.ret))
 (.skip))))
 (.reg [oM 15 6,
 oA 16 15,
 oM 6 16] false))
def Q23f : IR :=
 .seq (.reg [o 2 (.box 5 0),
 o 4 (.zero zL1),
 o 5 (.mov (.c zB))] false)
 (.seq (.seq (.reg [oF 7 0 2,
 oK 8 1 7,
 o 9 (.bin .eql 8 (.c (iN 5)))] false)
 (.cond 9 (.seq (.reg [o 6 (.mov (.c zI))] false)
 (.block 0 (.loop Q13n Q1w8)))
 (.skip)))
 (.seq (.reg [o 32 (.build zL1 []),
 oS 5 4 32,
 o 5 (.mov (.c zB))] false)
 (.ret)))
def K1o : IFn := ⟨2, 33, [.cell 4 5 true, .tmp 5], false, Q23f⟩
def Q13o : List Nat := [100013, 0, 2, 3, 4, 200001]
def Q1w9 : IR :=
 .seq (.seq (.reg [oM 6 4,
 oM 7 0,
 oN 8 7,
 o 9 (.bin .lss 6 8)] false)
 (.cond 9 (.skip)
 (.exit 0)))
 (.seq (.block 1 (.reg [oF 12 4 3,
 oE 13 1 12 [0],
 oM 14 0,
 oM 15 4,
 ob 16 (.iaddr 6 14 15) [2, 3],
 ob 17 (.faddr 0 16) [2, 3, 4],
 oE 18 1 17 [2, 3, 4, 5],
 oM 19 0,
 oM 20 4,
 ob 21 (.iaddr 6 19 20) [7, 8],
 ob 22 (.faddr 1 21) [7, 8, 9],
 ob 23 (.load 5 true 22) [7, 8, 9, 10],
 oD 24 172 ([23]) (rg 7 12),
 ob 25 (.build zL0 [(0, 1, 18), (1, 5, 24)]) (rg 2 13),
 oD 26 173 ([13, 25]) (rg 0 14),
 ob 27 (.faddr 4 3) (rg 0 15),
 ⟨none, none, .store 1 27 26, (rg 0 16)⟩] true))
 (.reg [oM 10 4,
 oA 11 10,
 oM 4 11] false))
def Q23h : IR :=
 .seq (.reg [o 2 (.zero zL1)] false)
 (.seq (.reg [o 5 (.build zL1 [(0, 1, .c (iN 5))]),
 o 3 (.zero zL1),
 oS 5 3 5] false)
 (.seq (.seq (.reg [o 4 (.mov (.c zI))] false)
 (.block 0 (.loop Q13o Q1w9)))
 (.seq (.reg [oL 28 5 3,
 oS 5 2 28] false)
 (.ret))))
def K1q : IFn := ⟨1, 29, [.cell 2 5 true], false, Q23h⟩
def Q23g : IR :=
 .seq (.reg [o 2 (.zero zL1)] false)
 (.seq (.reg [oM 3 0,
 o 4 (.build zL1 [(0, 1, .c (iN 2)), (1, 1, 3)]),
 oS 5 2 4] false)
 (.ret))
def K1p : IFn := ⟨1, 5, [.cell 2 5 true], false, Q23g⟩
def Q26d : IR :=
 .seq (.reg [o 2 (.box 23 0),
 o 4 (.mov (.c (.np)))] false)
 (.seq (.reg [o 6 (.build [zI] []),
 o 7 (.box 1 6),
 oM 5 7] false)
 (.seq (.seq (.reg [oF 8 0 2,
 oF 9 0 8,
 oK 10 1 9,
 oM 11 1,
 o 12 (.bin .neq 10 11)] false)
 (.cond 12 (.reg [oM 13 5,
 o 14 (.nilck 13),
 oF 15 0 14,
 oK 16 1 15,
 oA 17 16,
 o 18 (.nilck 13),
 oF 19 0 18,
 oS 1 19 17] false)
 (.skip)))
 (.seq (.reg [oM 20 5,
 oF 21 13 2,
 oL 22 5 21,
 oC 23 174 ([20, 22, .c (iN 5)])] false)
 (.seq (.reg [oM 24 5,
 oF 25 18 2,
 oL 26 5 25,
 oC 27 174 ([24, 26, .c (iN 5)])] false)
 (.seq (.reg [oM 28 5,
 oM 4 28] false)
 (.ret))))))
def K77 : IFn := ⟨2, 29, [.tmp 4], false, Q26d⟩
def Q26f : IR :=
 .seq (.reg [o 3 (.box 43 1),
 o 4 (.zero zL4),
 o 5 (.mov (.c zI))] false)
 (.seq (.seq (.reg [oM 7 0,
 o 8 (.nilck 7),
 oF 9 0 8,
 oK 10 1 9,
 o 11 (.bin .gtr 10 (.c zI))] false)
 (.cond 11 (.seq (.reg [o 6 (.zero zL4)] false)
 (.seq (.reg [oL 12 43 6,
 oS 43 4 12,
 o 5 (.mov (.c (iN 6)))] false)
 (.ret)))
 (.skip)))
 (.seq (.reg [oL 13 43 3,
 oS 43 4 13,
 o 5 (.mov (.c zI))] false)
 (.ret)))
def K79 : IFn := ⟨2, 14, [.cell 4 43 true, .tmp 5], false, Q26f⟩
def Qlc : List Nat := [100014, 1, 2, 22, 23, 24]
def Q1pa : IR :=
 .seq (.reg [o 25 (.bin .lss 24 23)] false)
 (.seq (.cond 25 (.skip)
 (.exit 0))
 (.seq (.block 1 (.seq (.reg [oM 26 24,
 oI 27 2 22 24,
 oL 28 2 27,
 o 4 (.zero [zS, .ns 1]),
 oM 3 26,
 oS 2 4 28] false)
 (.reg [oF 29 12 1,
 oE 30 1 29 [0],
 oM 31 3,
 oF 32 1 4,
 oE 33 1 32 [3],
 oD 34 177 ([33]) [3, 4],
 ob 35 (.iaddr 2 30 31) (rg 0 6),
 ob 36 (.faddr 1 35) (rg 0 7),
 ⟨none, none, .store 1 36 34, (rg 0 8)⟩] true)))
 (.reg [oA 37 24,
 oM 24 37] false)))
def Q25c : IR :=
 .seq (.reg [o 1 (.box 13 0),
 o 2 (.zero zL10)] false)
 (.seq (.reg [oF 5 9 1,
 oE 6 1 5 [0],
 oD 7 175 ([6]) [0, 1],
 oF 8 10 1,
 oE 9 1 8 [3],
 oD 10 176 ([9]) (rg 0 5),
 oF 11 11 1,
 oE 12 1 11 [6],
 oD 13 177 ([12]) (rg 0 8),
 oF 14 12 1,
 oE 15 1 14 [9],
 oD 16 178 ([15]) (rg 0 11),
 ob 17 (.faddr 9 1) (rg 0 5 ++ [6, 7, 9, 10]),
 ⟨none, none, .store 1 17 7, (rg 0 13)⟩,
 ob 18 (.faddr 10 1) (rg 0 14),
 ⟨none, none, .store 1 18 10, (rg 0 15)⟩,
 ob 19 (.faddr 11 1) (rg 0 16),
 ⟨none, none, .store 1 19 13, (rg 0 17)⟩,
 ob 20 (.faddr 12 1) (rg 0 18),
 ⟨none, none, .store 1 20 16, (rg 0 19)⟩] true)
 (.seq (.seq (.reg [oF 21 12 1,
 oK 22 1 21,
 oN 23 22,
 o 24 (.mov (.c zI))] false)
 (.block 0 (.loop Qlc Q1pa)))
 (.seq (.reg [oL 38 13 1,
 oS 13 2 38] false)
 (.ret))))
def K5z : IFn := ⟨1, 39, [.cell 2 13 true], false, Q25c⟩
def Q25j : IR :=
 .seq (.reg [o 4 (.box 5 1),
 o 6 (.mov (.c zI))] false)
 (.seq (.reg [oM 7 0,
 oM 8 0,
 oL 9 5 4,
 oM 10 2,
 oC 11 76 ([8, 9, 10]),
 oC 12 174 ([7, 11, .c (iN 2)]),
 o 13 (.field 1 1 false 12),
 oM 6 13] false)
 (.ret))
def K66 : IFn := ⟨3, 14, [.tmp 6], false, Q25j⟩
def Q25n : IR :=
 .seq (.reg [o 2 (.box 1 0),
 o 3 (.box 5 1),
 o 4 (.mov (.c (.ns 3)))] false)
 (.seq (.reg [oK 5 1 2,
 oL 6 5 3,
 o 7 (.mkfn 180 [] [2]),
 oC 8 179 ([5, 6, sA52, 7]),
 oM 4 8] false)
 (.ret))
def K6a : IFn := ⟨2, 9, [.tmp 4], false, Q25n⟩
def Q25r : IR :=
 .seq (.reg [o 3 (.box 5 1),
 o 4 (.zero [.ns 2, zS, zI, zI, zI, .ns 11, .ns 3, .ns 3, .ns 5, .ns 4, .ns 5])] false)
 (.seq (.reg [oM 8 0,
 oL 9 5 3,
 oC 10 76 ([8, 9, sA63]),
 o 5 (.zero zL1),
 oS 5 5 10] false)
 (.seq (.seq (.reg [oF 11 0 5,
 oK 12 1 11,
 o 13 (.bin .eql 12 (.c zI))] false)
 (.cond 13 (.seq (.reg [o 14 (.build [.ns 2, zS, zI, zI, zI, .ns 11, .ns 3, .ns 3, .ns 5, .ns 4, .ns 5] []),
 oS 11 4 14] false)
 (.ret))
 (.skip)))
 (.seq (.reg [oL 16 5 5,
 oC 17 183 ([16]),
 oM 15 17,
 oX 18 15 0,
 oX 19 15 1,
 o 6 (.zero [.ns 2, zS, zI, zI, zI, .ns 11, .ns 3, .ns 3, .ns 5, .ns 4, .ns 5]),
 oS 11 6 18,
 oM 7 19] false)
 (.seq (.seq (.reg [oM 20 7,
 o 21 (.bin .neq 20 (.c zI))] false)
 (.cond 21 (.reg [oM 22 0,
 o 23 (.nilck 22),
 oF 24 0 23,
 oK 25 1 24,
 oA 26 25,
 o 27 (.nilck 22),
 oF 28 0 27,
 oS 1 28 26] false)
 (.skip)))
 (.seq (.reg [oL 29 11 6,
 oS 11 4 29] false)
 (.ret))))))
def K6e : IFn := ⟨2, 30, [.cell 4 11 true], false, Q25r⟩
def Q25t : IR :=
 .seq (.reg [o 4 (.box 5 1),
 o 6 (.mov (.c zB))] false)
 (.seq (.reg [oM 7 0,
 oM 8 0,
 oL 9 5 4,
 oM 10 2,
 oC 11 76 ([8, 9, 10]),
 oC 12 174 ([7, 11, .c (iN 1)]),
 o 13 (.field 1 1 false 12),
 o 14 (.bin .neq 13 (.c zI)),
 oM 6 14] false)
 (.ret))
def K6g : IFn := ⟨3, 15, [.tmp 6], false, Q25t⟩
def Q25d : IR :=
 .seq (.reg [o 3 (.box 5 1),
 o 4 (.zero [zB, zI])] false)
 (.seq (.reg [oM 5 0,
 oL 6 5 3,
 oD 7 74 ([5, 6, sA36]) [0, 1],
 oM 8 0,
 oL 9 5 3,
 oD 10 71 ([8, 9, sA32]) (rg 0 5),
 ob 11 (.build [zB, zI] [(0, 1, 7), (1, 1, 10)]) (rg 0 6),
 ⟨none, none, .store 2 4 11, (rg 0 7)⟩] true)
 (.ret))
def K60 : IFn := ⟨2, 12, [.cell 4 2 true], false, Q25d⟩
def Q25f : IR :=
 .seq (.reg [o 4 (.box 5 1),
 o 6 (.zero zL1)] false)
 (.seq (.reg [oM 10 0,
 oL 11 5 4,
 oC 12 174 ([10, 11, .c (iN 5)]),
 oM 13 2,
 oC 14 184 ([12, 13]),
 oM 9 14,
 oX 15 9 0,
 oX 16 9 1,
 o 7 (.zero zL1),
 oS 5 7 15,
 oM 8 16] false)
 (.seq (.reg [oL 17 5 7,
 oS 5 6 17] false)
 (.ret)))
def K62 : IFn := ⟨3, 18, [.cell 6 5 true], false, Q25f⟩
def Q25s : IR :=
 .seq (.reg [o 3 (.box 5 1),
 o 4 (.zero zL12)] false)
 (.seq (.reg [oM 5 0,
 oL 6 5 3,
 oD 7 71 ([5, 6, sA34]) [0, 1],
 oM 8 0,
 oL 9 5 3,
 oD 10 71 ([8, 9, sA43]) (rg 0 5),
 oM 11 0,
 oL 12 5 3,
 oD 13 71 ([11, 12, sA68]) (rg 0 8),
 oM 14 0,
 oL 15 5 3,
 oD 16 71 ([14, 15, sA50]) (rg 0 11),
 oM 17 0,
 oL 18 5 3,
 oD 19 71 ([17, 18, sA82]) (rg 0 14),
 oM 20 0,
 oL 21 5 3,
 oD 22 71 ([20, 21, sA40]) (rg 0 17),
 oM 23 0,
 oL 24 5 3,
 oD 25 74 ([23, 24, sA10]) (rg 0 20),
 ob 26 (.build zL12 [(0, 1, 7), (1, 1, 10), (2, 1, 13), (3, 1, 16), (4, 1, 19), (5, 1, 22), (6, 1, 25)]) (rg 0 21),
 ⟨none, none, .store 7 4 26, (rg 0 22)⟩] true)
 (.ret))
def K6f : IFn := ⟨2, 27, [.cell 4 7 true], false, Q25s⟩
def Ql9 : List Nat := [100015, 2, 3, 4, 12, 13, 14]
def Q1p7 : IR :=
 .seq (.reg [o 15 (.bin .lss 14 13)] false)
 (.seq (.cond 15 (.skip)
 (.exit 0))
 (.seq (.block 1 (.seq (.reg [oM 16 14,
 oI 17 6 12 14,
 oL 18 6 17,
 o 6 (.zero zL0),
 oM 5 16,
 oS 6 6 18] false)
 (.seq (.reg [oM 19 5,
 ob 20 (.bin .add 19 (.c (iN 1))) [0],
 oM 21 3,
 ob 22 (.len false 21) [2],
 ob 23 (.bin .eql 20 22) [0, 1, 2, 3],
 ob 24 (.mov 23) (rg 0 5),
 ⟨(some 25), (some (24, false)), .mov 3, (rg 0 6)⟩,
 ⟨(some 26), (some (24, false)), .mov 5, (rg 0 6)⟩,
 ⟨(some 27), (some (24, false)), .bin .add 26 (.c (iN 1)), (rg 0 6 ++ [7])⟩,
 ⟨(some 28), (some (24, false)), .iaddr 6 25 27, (rg 0 9)⟩,
 ⟨(some 29), (some (24, false)), .faddr 0 28, (rg 0 10)⟩,
 ⟨(some 30), (some (24, false)), .load 1 false 29, (rg 0 11)⟩,
 ⟨(some 31), (some (24, false)), .faddr 0 6, (rg 0 6)⟩,
 ⟨(some 32), (some (24, false)), .load 1 false 31, (rg 0 6 ++ [12])⟩,
 ⟨(some 33), (some (24, false)), .bin .neq 30 32, (rg 0 14)⟩,
 ob 34 (.pick 24 (.c (.bool true)) 33) (rg 0 15)] true)
 (.cond 34 (.reg [oF 35 4 4,
 oK 36 1 35,
 oL 37 6 6,
 o 38 (.lit 6 1 zL0 [(0, 37)]),
 oJ 39 6 96 36 38,
 oF 40 4 4,
 oS 1 40 39] false)
 (.skip)))))
 (.reg [oA 41 14,
 oM 14 41] false)))
def Q24u : IR :=
 .seq (.reg [o 2 (.zero zL1)] false)
 (.seq (.reg [oM 7 0,
 oC 8 185 ([7]),
 oM 3 8] false)
 (.seq (.reg [oM 9 3,
 o 10 (.call true (.f 186) [9, .f 187])] false)
 (.seq (.reg [o 11 (.build zL1 [(0, 1, .c (iN 5))]),
 o 4 (.zero zL1),
 oS 5 4 11] false)
 (.seq (.seq (.reg [oM 12 3,
 oN 13 12,
 o 14 (.mov (.c zI))] false)
 (.block 0 (.loop Ql9 Q1p7)))
 (.seq (.reg [oL 42 5 4,
 oC 43 189 ([42]),
 oS 5 2 43] false)
 (.ret))))))
def K50 : IFn := ⟨1, 44, [.cell 2 5 true], false, Q24u⟩
def Q26b : IR :=
 .seq (.reg [o 4 (.zero zL0)] false)
 (.seq (.reg [oM 5 0,
 oM 6 1,
 oC 7 109 ([6]),
 oC 8 83 ([5, 7]),
 oS 6 4 8] false)
 (.ret))
def K75 : IFn := ⟨2, 9, [.cell 4 6 true], false, Q26b⟩
def Q26l : IR :=
 .seq (.reg [o 2 (.zero zL0)] false)
 (.seq (.reg [oM 3 0,
 oC 4 190 ([3]),
 oC 5 83 ([sA52, 4]),
 oS 6 2 5] false)
 (.ret))
def K7l : IFn := ⟨1, 6, [.cell 2 6 true], false, Q26l⟩
def Q26n : IR :=
 .seq (.reg [o 1 (.box 11 0),
 o 2 (.zero zL0)] false)
 (.seq (.reg [oL 3 11 1,
 oC 4 191 ([3]),
 oC 5 83 ([sA63, 4]),
 oS 6 2 5] false)
 (.ret))
def K7n : IFn := ⟨1, 6, [.cell 2 6 true], false, Q26n⟩
def Q26o : IR :=
 .seq (.reg [o 4 (.zero zL0)] false)
 (.seq (.reg [oM 5 0,
 oM 6 1,
 oC 7 192 ([6]),
 oC 8 83 ([5, 7]),
 oS 6 4 8] false)
 (.ret))
def K7o : IFn := ⟨2, 9, [.cell 4 6 true], false, Q26o⟩
def Q26e : IR :=
 .seq (.reg [o 3 (.box 5 1),
 o 4 (.zero zL0)] false)
 (.seq (.reg [oM 5 0,
 oL 6 5 3,
 o 7 (.build zL0 [(0, 1, 5), (1, 5, 6)]),
 oS 6 4 7] false)
 (.ret))
def K78 : IFn := ⟨2, 8, [.cell 4 6 true], false, Q26e⟩
def Q260 : IR :=
 .seq (.reg [o 1 (.box 2 0),
 o 2 (.zero zL1)] false)
 (.seq (.reg [oF 3 0 1,
 oE 4 1 3 [0],
 oD 5 82 ([sA36, 4]) [0, 1],
 oF 6 1 1,
 oE 7 1 6 [3],
 oD 8 79 ([sA32, 7]) (rg 0 5),
 ob 9 (.lit 6 2 zL0 [(0, 5), (1, 8)]) (rg 0 6),
 oD 10 78 ([9]) (rg 0 7),
 ⟨none, none, .store 5 2 10, (rg 0 8)⟩] true)
 (.ret))
def K6s : IFn := ⟨1, 11, [.cell 2 5 true], false, Q260⟩
def Q26c : IR :=
 .seq (.reg [o 5 (.box 13 1),
 o 6 (.box 5 2),
 o 7 (.box 5 3),
 o 8 (.zero zL2)] false)
 (.seq (.reg [oL 9 13 5,
 oC 10 70 ([9]),
 oS 13 5 10] false)
 (.seq (.reg [oM 11 0,
 oF 12 0 5,
 oS 1 12 11] false)
 (.seq (.reg [oL 13 13 5,
 oL 14 5 6,
 oL 15 5 7,
 o 16 (.build zL2 [(0, 13, 13), (13, 5, 14), (18, 5, 15)]),
 oS 23 8 16] false)
 (.ret))))
def K76 : IFn := ⟨4, 17, [.cell 8 23 true], false, Q26c⟩
def Q265 : IR :=
 .seq (.reg [o 1 (.box 7 0),
 o 2 (.zero zL1)] false)
 (.seq (.reg [oF 3 0 1,
 oE 4 1 3 [0],
 oD 5 79 ([sA34, 4]) [0, 1],
 oF 6 1 1,
 oE 7 1 6 [3],
 oD 8 79 ([sA43, 7]) (rg 0 5),
 oF 9 2 1,
 oE 10 1 9 [6],
 oD 11 79 ([sA68, 10]) (rg 0 8),
 oF 12 3 1,
 oE 13 1 12 [9],
 oD 14 79 ([sA50, 13]) (rg 0 11),
 oF 15 4 1,
 oE 16 1 15 [12],
 oD 17 79 ([sA82, 16]) (rg 0 14),
 oF 18 5 1,
 oE 19 1 18 [15],
 oD 20 79 ([sA40, 19]) (rg 0 17),
 oF 21 6 1,
 oE 22 1 21 [18],
 oD 23 82 ([sA10, 22]) (rg 0 20),
 ob 24 (.lit 6 7 zL0 [(0, 5), (1, 8), (2, 11), (3, 14), (4, 17), (5, 20), (6, 23)]) (rg 0 21),
 oD 25 78 ([24]) (rg 0 22),
 ⟨none, none, .store 5 2 25, (rg 0 23)⟩] true)
 (.ret))
def K6x : IFn := ⟨1, 26, [.cell 2 5 true], false, Q265⟩
def Q25q : IR :=
 .seq (.reg [o 4 (.box 5 1),
 o 6 (.mov (.c (zS)))] false)
 (.seq (.reg [oM 7 0,
 oM 8 0,
 oL 9 5 4,
 oM 10 2,
 oC 11 76 ([8, 9, 10]),
 oC 12 174 ([7, 11, .c (iN 3)]),
 o 13 (.field 2 1 false 12),
 oM 6 13] false)
 (.ret))
def K6d : IFn := ⟨3, 14, [.tmp 6], false, Q25q⟩
def Q26m : IR :=
 .seq (.reg [o 4 (.zero zL0)] false)
 (.seq (.reg [oM 5 0,
 oM 6 1,
 oC 7 193 ([6]),
 oC 8 83 ([5, 7]),
 oS 6 4 8] false)
 (.ret))
def K7m : IFn := ⟨2, 9, [.cell 4 6 true], false, Q26m⟩
def Q23e : IR :=
 .seq (.reg [o 2 (.box 5 0),
 o 3 (.box 5 1),
 o 4 (.mov (.c zB))] false)
 (.seq (.reg [oL 5 5 2,
 oL 6 5 3,
 oC 7 194 ([5, 6]),
 o 8 (.bin .eql 7 (.c zI)),
 oM 4 8] false)
 (.ret))
def K1n : IFn := ⟨2, 9, [.tmp 4], false, Q23e⟩
def Q248 : IR :=
 .seq (.reg [o 1 (.box 35 0),
 o 2 (.zero zL1)] false)
 (.seq (.reg [oF 3 13 1,
 oE 4 1 3 [0],
 oD 5 164 ([4]) [0, 1],
 ob 6 (.build zL0 [(0, 1, sA43), (1, 5, 5)]) [0, 1, 2],
 oF 7 14 1,
 oE 8 1 7 [4],
 oD 9 164 ([8]) [0, 1, 2, 4, 5],
 ob 10 (.build zL0 [(0, 1, sA25), (1, 5, 9)]) [0, 1, 2, 4, 5, 6],
 oF 11 15 1,
 oE 12 1 11 [8],
 oD 13 164 ([12]) [0, 1, 2, 4, 5, 6, 8, 9],
 ob 14 (.build zL0 [(0, 1, sA49), (1, 5, 13)]) [0, 1, 2, 4, 5, 6, 8, 9, 10],
 oF 15 16 1,
 oE 16 1 15 [12],
 oD 17 165 ([16]) [0, 1, 2, 4, 5, 6, 8, 9, 10, 12, 13],
 ob 18 (.build zL0 [(0, 1, sA52), (1, 5, 17)]) [0, 1, 2, 4, 5, 6, 8, 9, 10, 12, 13, 14],
 oF 19 17 1,
 ob 20 (.load 11 true 19) [16],
 oD 21 166 ([20]) [0, 1, 2, 4, 5, 6, 8, 9, 10, 12, 13, 14, 16, 17],
 ob 22 (.build zL0 [(0, 1, sA63), (1, 5, 21)]) [0, 1, 2, 4, 5, 6, 8, 9, 10, 12, 13, 14, 16, 17, 18],
 ob 23 (.lit 6 5 zL0 [(0, 6), (1, 10), (2, 14), (3, 18), (4, 22)]) (rg 0 20),
 oD 24 163 ([23]) (rg 0 21),
 ⟨none, none, .store 5 2 24, (rg 0 22)⟩] true)
 (.ret))
def K2q : IFn := ⟨1, 25, [.cell 2 5 true], false, Q248⟩
def Q240 : IR :=
 .seq (.reg [o 1 (.box 37 0),
 o 2 (.zero zL1)] false)
 (.seq (.reg [oF 3 13 1,
 oE 4 1 3 [0],
 oD 5 164 ([4]) [0, 1],
 ob 6 (.build zL0 [(0, 1, sA84), (1, 5, 5)]) [0, 1, 2],
 oF 7 14 1,
 oE 8 1 7 [4],
 oD 9 164 ([8]) [0, 1, 2, 4, 5],
 ob 10 (.build zL0 [(0, 1, sA41), (1, 5, 9)]) [0, 1, 2, 4, 5, 6],
 oF 11 15 1,
 oE 12 1 11 [8],
 oD 13 164 ([12]) [0, 1, 2, 4, 5, 6, 8, 9],
 ob 14 (.build zL0 [(0, 1, sA48), (1, 5, 13)]) [0, 1, 2, 4, 5, 6, 8, 9, 10],
 oF 15 16 1,
 oE 16 1 15 [12],
 oD 17 164 ([16]) [0, 1, 2, 4, 5, 6, 8, 9, 10, 12, 13],
 ob 18 (.build zL0 [(0, 1, sA2), (1, 5, 17)]) [0, 1, 2, 4, 5, 6, 8, 9, 10, 12, 13, 14],
 oF 19 17 1,
 oE 20 1 19 [16],
 oD 21 167 ([20]) [0, 1, 2, 4, 5, 6, 8, 9, 10, 12, 13, 14, 16, 17],
 ob 22 (.build zL0 [(0, 1, sA18), (1, 5, 21)]) [0, 1, 2, 4, 5, 6, 8, 9, 10, 12, 13, 14, 16, 17, 18],
 oF 23 18 1,
 oE 24 1 23 [20],
 oD 25 167 ([24]) [0, 1, 2, 4, 5, 6, 8, 9, 10, 12, 13, 14, 16, 17, 18, 20, 21],
 ob 26 (.build zL0 [(0, 1, sA60), (1, 5, 25)]) [0, 1, 2, 4, 5, 6, 8, 9, 10, 12, 13, 14, 16, 17, 18, 20, 21, 22],
 oF 27 19 1,
 ob 28 (.load 11 true 27) [24],
 oD 29 166 ([28]) [0, 1, 2, 4, 5, 6, 8, 9, 10, 12, 13, 14, 16, 17, 18, 20, 21, 22, 24, 25],
 ob 30 (.build zL0 [(0, 1, sA63), (1, 5, 29)]) [0, 1, 2, 4, 5, 6, 8, 9, 10, 12, 13, 14, 16, 17, 18, 20, 21, 22, 24, 25, 26],
 ob 31 (.lit 6 7 zL0 [(0, 6), (1, 10), (2, 14), (3, 18), (4, 22), (5, 26), (6, 30)]) (rg 0 28),
 oD 32 163 ([31]) (rg 0 29),
 ⟨none, none, .store 5 2 32, (rg 0 30)⟩] true)
 (.ret))
def K2e : IFn := ⟨1, 33, [.cell 2 5 true], false, Q240⟩
def Q241 : IR :=
 .seq (.reg [o 1 (.box 37 0),
 o 2 (.zero zL1)] false)
 (.seq (.reg [oF 3 30 1,
 oE 4 1 3 [0],
 oD 5 164 ([4]) [0, 1],
 ob 6 (.build zL0 [(0, 1, sA83), (1, 5, 5)]) [0, 1, 2],
 oF 7 31 1,
 oE 8 1 7 [4],
 oD 9 164 ([8]) [0, 1, 2, 4, 5],
 ob 10 (.build zL0 [(0, 1, sA61), (1, 5, 9)]) [0, 1, 2, 4, 5, 6],
 oF 11 32 1,
 oE 12 1 11 [8],
 oD 13 164 ([12]) [0, 1, 2, 4, 5, 6, 8, 9],
 ob 14 (.build zL0 [(0, 1, sA10), (1, 5, 13)]) [0, 1, 2, 4, 5, 6, 8, 9, 10],
 oF 15 33 1,
 oE 16 1 15 [12],
 oD 17 164 ([16]) [0, 1, 2, 4, 5, 6, 8, 9, 10, 12, 13],
 ob 18 (.build zL0 [(0, 1, sA57), (1, 5, 17)]) [0, 1, 2, 4, 5, 6, 8, 9, 10, 12, 13, 14],
 oF 19 34 1,
 oE 20 1 19 [16],
 oD 21 164 ([20]) [0, 1, 2, 4, 5, 6, 8, 9, 10, 12, 13, 14, 16, 17],
 ob 22 (.build zL0 [(0, 1, sA9), (1, 5, 21)]) [0, 1, 2, 4, 5, 6, 8, 9, 10, 12, 13, 14, 16, 17, 18],
 oF 23 35 1,
 oE 24 1 23 [20],
 oD 25 195 ([24]) [0, 1, 2, 4, 5, 6, 8, 9, 10, 12, 13, 14, 16, 17, 18, 20, 21],
 ob 26 (.build zL0 [(0, 1, sA5), (1, 5, 25)]) [0, 1, 2, 4, 5, 6, 8, 9, 10, 12, 13, 14, 16, 17, 18, 20, 21, 22],
 oF 27 36 1,
 oE 28 1 27 [24],
 oD 29 164 ([28]) [0, 1, 2, 4, 5, 6, 8, 9, 10, 12, 13, 14, 16, 17, 18, 20, 21, 22, 24, 25],
 ob 30 (.build zL0 [(0, 1, sA47), (1, 5, 29)]) [0, 1, 2, 4, 5, 6, 8, 9, 10, 12, 13, 14, 16, 17, 18, 20, 21, 22, 24, 25, 26],
 ob 31 (.lit 6 7 zL0 [(0, 6), (1, 10), (2, 14), (3, 18), (4, 22), (5, 26), (6, 30)]) (rg 0 28),
 oD 32 163 ([31]) (rg 0 29),
 ⟨none, none, .store 5 2 32, (rg 0 30)⟩] true)
 (.ret))
def K2f : IFn := ⟨1, 33, [.cell 2 5 true], false, Q241⟩
def Q23u : IR :=
 .seq (.reg [o 1 (.box 22 0),
 o 2 (.zero zL1)] false)
 (.seq (.reg [oF 3 13 1,
 oE 4 1 3 [0],
 oD 5 165 ([4]) [0, 1],
 ob 6 (.build zL0 [(0, 1, sA52), (1, 5, 5)]) [0, 1, 2],
 oF 7 14 1,
 oE 8 1 7 [4],
 oD 9 196 ([8]) [0, 1, 2, 4, 5],
 ob 10 (.build zL0 [(0, 1, sA24), (1, 5, 9)]) [0, 1, 2, 4, 5, 6],
 oF 11 15 1,
 oE 12 1 11 [8],
 oD 13 196 ([12]) [0, 1, 2, 4, 5, 6, 8, 9],
 ob 14 (.build zL0 [(0, 1, sA27), (1, 5, 13)]) [0, 1, 2, 4, 5, 6, 8, 9, 10],
 ob 15 (.lit 6 3 zL0 [(0, 6), (1, 10), (2, 14)]) (rg 0 12),
 oD 16 163 ([15]) (rg 0 13),
 ⟨none, none, .store 5 2 16, (rg 0 14)⟩] true)
 (.ret))
def K25 : IFn := ⟨1, 17, [.cell 2 5 true], false, Q23u⟩
def Qkr : List Nat := [100020, 1, 2, 3, 4]
def Q1op : IR :=
 .seq (.seq (.reg [oM 5 4,
 oF 6 21 1,
 oK 7 1 6,
 oN 8 7,
 o 9 (.bin .lss 5 8)] false)
 (.cond 9 (.skip)
 (.exit 0)))
 (.seq (.block 1 (.reg [oM 12 3,
 oF 13 21 1,
 oE 14 1 13 [1],
 oM 15 4,
 ob 16 (.iaddr 2 14 15) [1, 2, 3],
 ob 17 (.faddr 0 16) [1, 2, 3, 4],
 oE 18 1 17 (rg 1 6),
 oD 19 169 ([18]) (rg 1 7),
 ob 20 (.build zL0 [(0, 1, sA19), (1, 5, 19)]) (rg 1 8),
 oF 21 21 1,
 oE 22 1 21 [9],
 oM 23 4,
 ob 24 (.iaddr 2 22 23) [9, 10, 11],
 ob 25 (.faddr 1 24) [9, 10, 11, 12],
 oE 26 1 25 (rg 9 14),
 oD 27 164 ([26]) (rg 1 8 ++ rg 9 15),
 ob 28 (.build zL0 [(0, 1, sA81), (1, 5, 27)]) (rg 1 8 ++ rg 9 16),
 ob 29 (.lit 6 2 zL0 [(0, 20), (1, 28)]) (rg 1 17),
 oD 30 163 ([29]) (rg 1 18),
 ob 31 (.lit 5 1 zL1 [(0, 30)]) (rg 1 19),
 ob 32 (.append 5 80 12 31) (rg 0 20),
 ob 3 (.mov 32) (rg 0 21)] true))
 (.reg [oM 10 4,
 oA 11 10,
 oM 4 11] false))
def Q23v : IR :=
 .seq (.reg [o 1 (.box 22 0),
 o 2 (.zero zL1)] false)
 (.seq (.reg [o 3 (.mov (.c (.ns 5)))] false)
 (.seq (.seq (.reg [o 4 (.mov (.c zI))] false)
 (.block 0 (.loop Qkr Q1op)))
 (.seq (.reg [oF 33 16 1,
 oE 34 1 33 [0],
 oD 35 164 ([34]) [0, 1],
 ob 36 (.build zL0 [(0, 1, sA34), (1, 5, 35)]) [0, 1, 2],
 oF 37 17 1,
 oE 38 1 37 [4],
 oD 39 164 ([38]) [0, 1, 2, 4, 5],
 ob 40 (.build zL0 [(0, 1, sA13), (1, 5, 39)]) [0, 1, 2, 4, 5, 6],
 oF 41 18 1,
 oE 42 1 41 [8],
 oD 43 164 ([42]) [0, 1, 2, 4, 5, 6, 8, 9],
 ob 44 (.build zL0 [(0, 1, sA1), (1, 5, 43)]) [0, 1, 2, 4, 5, 6, 8, 9, 10],
 oF 45 19 1,
 oE 46 1 45 [12],
 oD 47 164 ([46]) [0, 1, 2, 4, 5, 6, 8, 9, 10, 12, 13],
 ob 48 (.build zL0 [(0, 1, sA8), (1, 5, 47)]) [0, 1, 2, 4, 5, 6, 8, 9, 10, 12, 13, 14],
 oF 49 20 1,
 oE 50 1 49 [16],
 oD 51 164 ([50]) [0, 1, 2, 4, 5, 6, 8, 9, 10, 12, 13, 14, 16, 17],
 ob 52 (.build zL0 [(0, 1, sA79), (1, 5, 51)]) [0, 1, 2, 4, 5, 6, 8, 9, 10, 12, 13, 14, 16, 17, 18],
 oM 53 3,
 ob 54 (.build zL1 [(0, 1, .c (iN 4)), (3, 1, 53)]) [20],
 ob 55 (.build zL0 [(0, 1, sA4), (1, 5, 54)]) [20, 21],
 ob 56 (.lit 6 6 zL0 [(0, 36), (1, 40), (2, 44), (3, 48), (4, 52), (5, 55)]) (rg 0 23),
 oD 57 163 ([56]) (rg 0 24),
 ⟨none, none, .store 5 2 57, (rg 0 25)⟩] true)
 (.ret))))
def K26 : IFn := ⟨1, 58, [.cell 2 5 true], false, Q23v⟩
def Q26g : IR :=
 .seq (.reg [o 3 (.box 35 1),
 o 4 (.zero zL5),
 o 5 (.mov (.c zI))] false)
 (.seq (.seq (.reg [oM 7 0,
 o 8 (.nilck 7),
 oF 9 0 8,
 oK 10 1 9,
 o 11 (.bin .gtr 10 (.c zI))] false)
 (.cond 11 (.seq (.reg [o 6 (.zero zL5)] false)
 (.seq (.reg [oL 12 35 6,
 oS 35 4 12,
 o 5 (.mov (.c (iN 6)))] false)
 (.ret)))
 (.skip)))
 (.seq (.reg [oL 13 35 3,
 oS 35 4 13,
 o 5 (.mov (.c zI))] false)
 (.ret)))
def K7a : IFn := ⟨2, 14, [.cell 4 35 true, .tmp 5], false, Q26g⟩
def Q25i : IR :=
 .seq (.reg [o 3 (.box 5 1),
 o 4 (.zero zL3)] false)
 (.seq (.reg [oM 5 0,
 oL 6 5 3,
 oD 7 71 ([5, 6, sA84]) [0, 1],
 oM 8 0,
 oL 9 5 3,
 oD 10 71 ([8, 9, sA41]) (rg 0 5),
 oM 11 0,
 oL 12 5 3,
 oD 13 71 ([11, 12, sA48]) (rg 0 8),
 oM 14 0,
 oL 15 5 3,
 oD 16 71 ([14, 15, sA2]) (rg 0 11),
 oM 17 0,
 oL 18 5 3,
 oD 19 74 ([17, 18, sA18]) (rg 0 14),
 oM 20 0,
 oL 21 5 3,
 oD 22 74 ([20, 21, sA60]) (rg 0 17),
 oM 23 0,
 oL 24 5 3,
 oD 25 73 ([23, 24]) (rg 0 20),
 ob 26 (.build zL3 [(13, 1, 7), (14, 1, 10), (15, 1, 13), (16, 1, 16), (17, 1, 19), (18, 1, 22), (19, 11, 25)]) (rg 0 21),
 ⟨none, none, .store 37 4 26, (rg 0 22)⟩] true)
 (.ret))
def K65 : IFn := ⟨2, 27, [.cell 4 37 true], false, Q25i⟩
def Q25g : IR :=
 .seq (.reg [o 3 (.box 1 0),
 o 4 (.box 5 1),
 o 6 (.mov (.c (.ns 1)))] false)
 (.seq (.reg [oK 7 1 3,
 oL 8 5 4,
 oM 9 2,
 o 10 (.mkfn 198 [] [3]),
 oC 11 197 ([7, 8, 9, 10]),
 oM 6 11] false)
 (.ret))
def K63 : IFn := ⟨3, 12, [.tmp 6], false, Q25g⟩
def Q26h : IR :=
 .seq (.reg [o 3 (.box 37 1),
 o 4 (.zero zL3),
 o 5 (.mov (.c zI))] false)
 (.seq (.seq (.reg [oM 7 0,
 o 8 (.nilck 7),
 oF 9 0 8,
 oK 10 1 9,
 o 11 (.bin .gtr 10 (.c zI))] false)
 (.cond 11 (.seq (.reg [o 6 (.zero zL3)] false)
 (.seq (.reg [oL 12 37 6,
 oS 37 4 12,
 o 5 (.mov (.c (iN 6)))] false)
 (.ret)))
 (.skip)))
 (.seq (.reg [oL 13 37 3,
 oS 37 4 13,
 o 5 (.mov (.c zI))] false)
 (.ret)))
def K7b : IFn := ⟨2, 14, [.cell 4 37 true, .tmp 5], false, Q26h⟩
def Qli : List Nat := [100021, 1, 4, 5, 8, 9, 10]
def Q1pg : IR :=
 .seq (.reg [o 11 (.bin .lss 10 9)] false)
 (.seq (.cond 11 (.skip)
 (.exit 0))
 (.seq (.block 1 (.seq (.reg [oI 12 1 8 10,
 oK 13 1 12,
 oM 7 13] false)
 (.reg [oM 14 5,
 oM 15 1,
 oM 16 7,
 o 17 (.call false 15 [16]),
 o 18 (.lit 5 1 zL1 [(0, 17)]),
 oJ 19 5 80 14 18,
 oM 5 19] false)))
 (.reg [oA 20 10,
 oM 10 20] false)))
def Q266 : IR :=
 .seq (.reg [o 4 (.zero zL1)] false)
 (.seq (.reg [o 5 (.mov (.c (.ns 5)))] false)
 (.seq (.seq (.reg [oM 8 0,
 oN 9 8,
 o 10 (.mov (.c zI))] false)
 (.block 0 (.loop Qli Q1pg)))
 (.seq (.reg [oM 21 5,
 o 22 (.build zL1 [(0, 1, .c (iN 4)), (3, 1, 21)]),
 oS 5 4 22] false)
 (.ret))))
def K6z : IFn := ⟨2, 23, [.cell 4 5 true], false, Q266⟩
def Q24s : IR :=
 .seq (.reg [o 2 (.zero zL1)] false)
 (.seq (.reg [oM 3 0,
 o 4 (.build zL1 [(0, 1, .c (iN 2)), (1, 1, 3)]),
 oS 5 2 4] false)
 (.ret))
def K4y : IFn := ⟨1, 5, [.cell 2 5 true], false, Q24s⟩
def Q261 : IR :=
 .seq (.reg [o 1 (.box 37 0),
 o 2 (.zero zL1)] false)
 (.seq (.reg [oF 3 13 1,
 oE 4 1 3 [0],
 oD 5 79 ([sA84, 4]) [0, 1],
 oF 6 14 1,
 oE 7 1 6 [3],
 oD 8 79 ([sA41, 7]) (rg 0 5),
 oF 9 15 1,
 oE 10 1 9 [6],
 oD 11 79 ([sA48, 10]) (rg 0 8),
 oF 12 16 1,
 oE 13 1 12 [9],
 oD 14 79 ([sA2, 13]) (rg 0 11),
 oF 15 17 1,
 oE 16 1 15 [12],
 oD 17 82 ([sA18, 16]) (rg 0 14),
 oF 18 18 1,
 oE 19 1 18 [15],
 oD 20 82 ([sA60, 19]) (rg 0 17),
 oF 21 19 1,
 ob 22 (.load 11 true 21) [18],
 oD 23 81 ([22]) (rg 0 20),
 ob 24 (.lit 6 7 zL0 [(0, 5), (1, 8), (2, 11), (3, 14), (4, 17), (5, 20), (6, 23)]) (rg 0 21),
 oD 25 78 ([24]) (rg 0 22),
 ⟨none, none, .store 5 2 25, (rg 0 23)⟩] true)
 (.ret))
def K6t : IFn := ⟨1, 26, [.cell 2 5 true], false, Q261⟩
def Qld : List Nat := [100022, 3, 9, 18, 19, 20]
def Q1pb : IR :=
 .seq (.reg [o 21 (.bin .lss 20 19)] false)
 (.seq (.cond 21 (.skip)
 (.exit 0))
 (.seq (.block 1 (.seq (.reg [oI 22 5 18 20,
 oL 23 5 22,
 o 11 (.zero zL1),
 oS 5 11 23] false)
 (.reg [oM 24 9,
 oM 25 3,
 oL 26 5 11,
 o 27 (.call false 25 [26]),
 o 28 (.lit 2 1 [zS, zI] [(0, 27)]),
 oJ 29 2 24 24 28,
 oM 9 29] false)))
 (.reg [oA 30 20,
 oM 20 30] false)))
def Q25u : IR :=
 .seq (.reg [o 5 (.box 5 1),
 o 8 (.mov (.c (.ns 2)))] false)
 (.seq (.reg [o 9 (.mov (.c (.ns 2)))] false)
 (.seq (.seq (.reg [oM 12 0,
 oM 13 0,
 oL 14 5 5,
 oM 15 2,
 oC 16 76 ([13, 14, 15]),
 oC 17 174 ([12, 16, .c (iN 4)]),
 o 18 (.field 3 1 false 17),
 oN 19 18,
 o 20 (.mov (.c zI))] false)
 (.block 0 (.loop Qld Q1pb)))
 (.seq (.reg [oM 31 9,
 oM 8 31] false)
 (.ret))))
def K6i : IFn := ⟨4, 32, [.tmp 8], false, Q25u⟩
def Q255 : IR :=
 .seq (.reg [o 2 (.box 5 0),
 o 3 (.zero [zS, zI])] false)
 (.seq (.reg [oK 4 1 1,
 oL 5 5 2,
 oD 6 89 ([4, 5, sA19]) [0, 1],
 oK 7 1 1,
 oL 8 5 2,
 oD 9 71 ([7, 8, sA81]) (rg 0 5),
 ob 10 (.build [zS, zI] [(0, 1, 6), (1, 1, 9)]) (rg 0 6),
 ⟨none, none, .store 2 3 10, (rg 0 7)⟩] true)
 (.ret))
def K5k : IFn := ⟨2, 11, [.cell 3 2 true], false, Q255⟩
def Q256 : IR :=
 .seq (.reg [o 2 (.box 5 0),
 o 3 (.zero [zB, zI])] false)
 (.seq (.reg [oK 4 1 1,
 oL 5 5 2,
 oC 6 75 ([4, 5]),
 oS 2 3 6] false)
 (.ret))
def K5l : IFn := ⟨2, 7, [.cell 3 2 true], false, Q256⟩
def Q26i : IR :=
 .seq (.reg [o 3 (.box 22 1),
 o 4 (.zero zL7),
 o 5 (.mov (.c zI))] false)
 (.seq (.seq (.reg [oM 7 0,
 o 8 (.nilck 7),
 oF 9 0 8,
 oK 10 1 9,
 o 11 (.bin .gtr 10 (.c zI))] false)
 (.cond 11 (.seq (.reg [o 6 (.zero zL7)] false)
 (.seq (.reg [oL 12 22 6,
 oS 22 4 12,
 o 5 (.mov (.c (iN 6)))] false)
 (.ret)))
 (.skip)))
 (.seq (.reg [oL 13 22 3,
 oS 22 4 13,
 o 5 (.mov (.c zI))] false)
 (.ret)))
def K7c : IFn := ⟨2, 14, [.cell 4 22 true, .tmp 5], false, Q26i⟩
def Qle : List Nat := [100023, 3, 9, 18, 19, 20]
def Q1pc : IR :=
 .seq (.reg [o 21 (.bin .lss 20 19)] false)
 (.seq (.cond 21 (.skip)
 (.exit 0))
 (.seq (.block 1 (.seq (.reg [oI 22 5 18 20,
 oL 23 5 22,
 o 11 (.zero zL1),
 oS 5 11 23] false)
 (.reg [oM 24 9,
 oM 25 3,
 oL 26 5 11,
 o 27 (.call false 25 [26]),
 o 28 (.lit 2 1 [zB, zI] [(0, 27)]),
 oJ 29 2 16 24 28,
 oM 9 29] false)))
 (.reg [oA 30 20,
 oM 20 30] false)))
def Q25v : IR :=
 .seq (.reg [o 5 (.box 5 1),
 o 8 (.mov (.c (.ns 2)))] false)
 (.seq (.reg [o 9 (.mov (.c (.ns 2)))] false)
 (.seq (.seq (.reg [oM 12 0,
 oM 13 0,
 oL 14 5 5,
 oM 15 2,
 oC 16 76 ([13, 14, 15]),
 oC 17 174 ([12, 16, .c (iN 4)]),
 o 18 (.field 3 1 false 17),
 oN 19 18,
 o 20 (.mov (.c zI))] false)
 (.block 0 (.loop Qle Q1pc)))
 (.seq (.reg [oM 31 9,
 oM 8 31] false)
 (.ret))))
def K6j : IFn := ⟨4, 32, [.tmp 8], false, Q25v⟩
def Qlj : List Nat := [100024, 1, 4, 5, 8, 9, 10]
def Q1ph : IR :=
 .seq (.reg [o 11 (.bin .lss 10 9)] false)
 (.seq (.cond 11 (.skip)
 (.exit 0))
 (.seq (.block 1 (.seq (.reg [oI 12 2 8 10,
 oL 13 2 12,
 o 7 (.zero [zB, zI]),
 oS 2 7 13] false)
 (.reg [oM 14 5,
 oM 15 1,
 oL 16 2 7,
 o 17 (.call false 15 [16]),
 o 18 (.lit 5 1 zL1 [(0, 17)]),
 oJ 19 5 80 14 18,
 oM 5 19] false)))
 (.reg [oA 20 10,
 oM 10 20] false)))
def Q267 : IR :=
 .seq (.reg [o 4 (.zero zL1)] false)
 (.seq (.reg [o 5 (.mov (.c (.ns 5)))] false)
 (.seq (.seq (.reg [oM 8 0,
 oN 9 8,
 o 10 (.mov (.c zI))] false)
 (.block 0 (.loop Qlj Q1ph)))
 (.seq (.reg [oM 21 5,
 o 22 (.build zL1 [(0, 1, .c (iN 4)), (3, 1, 21)]),
 oS 5 4 22] false)
 (.ret))))
def K70 : IFn := ⟨2, 23, [.cell 4 5 true], false, Q267⟩
def Qlk : List Nat := [100025, 1, 4, 5, 8, 9, 10]
def Q1pi : IR :=
 .seq (.reg [o 11 (.bin .lss 10 9)] false)
 (.seq (.cond 11 (.skip)
 (.exit 0))
 (.seq (.block 1 (.seq (.reg [oI 12 2 8 10,
 oL 13 2 12,
 o 7 (.zero [zS, zI]),
 oS 2 7 13] false)
 (.reg [oM 14 5,
 oM 15 1,
 oL 16 2 7,
 o 17 (.call false 15 [16]),
 o 18 (.lit 5 1 zL1 [(0, 17)]),
 oJ 19 5 80 14 18,
 oM 5 19] false)))
 (.reg [oA 20 10,
 oM 10 20] false)))
def Q268 : IR :=
 .seq (.reg [o 4 (.zero zL1)] false)
 (.seq (.reg [o 5 (.mov (.c (.ns 5)))] false)
 (.seq (.seq (.reg [oM 8 0,
 oN 9 8,
 o 10 (.mov (.c zI))] false)
 (.block 0 (.loop Qlk Q1pi)))
 (.seq (.reg [oM 21 5,
 o 22 (.build zL1 [(0, 1, .c (iN 4)), (3, 1, 21)]),
 oS 5 4 22] false)
 (.ret))))
def K71 : IFn := ⟨2, 23, [.cell 4 5 true], false, Q268⟩
def Q24z : IR :=
 .seq (.reg [o 1 (.box 2 0),
 o 2 (.zero zL1)] false)
 (.seq (.reg [oF 3 0 1,
 oE 4 1 3 [0],
 oD 5 95 ([sA19, 4]) [0, 1],
 oF 6 1 1,
 oE 7 1 6 [3],
 oD 8 79 ([sA81, 7]) (rg 0 5),
 ob 9 (.lit 6 2 zL0 [(0, 5), (1, 8)]) (rg 0 6),
 oD 10 78 ([9]) (rg 0 7),
 ⟨none, none, .store 5 2 10, (rg 0 8)⟩] true)
 (.ret))
def K58 : IFn := ⟨1, 11, [.cell 2 5 true], false, Q24z⟩
def Q23o : IR :=
 .seq (.reg [o 1 (.box 13 0),
 o 2 (.mov (.c (zS)))] false)
 (.seq (.reg [oF 3 0 1,
 oK 4 1 3,
 oF 5 1 1,
 oK 6 1 5,
 oF 7 2 1,
 oK 8 1 7,
 oC 9 199 ([4, 6, 8]),
 oM 2 9] false)
 (.ret))
def K1x : IFn := ⟨1, 10, [.tmp 2], false, Q23o⟩
def Qkp : List Nat := [100026, 0, 1, 5]
def Q1on : IR :=
 .seq (.seq (.reg [oM 11 5,
 oM 12 0,
 oN 13 12,
 o 14 (.bin .lss 11 13)] false)
 (.cond 14 (.skip)
 (.exit 0)))
 (.seq (.block 1 (.seq (.reg [oM 17 0,
 oM 18 5,
 ob 19 (.iaddr 1 17 18) [0, 1],
 oE 20 1 19 [0, 1, 2],
 oM 21 1,
 oM 22 5,
 ob 23 (.iaddr 1 21 22) [4, 5],
 oE 24 1 23 [4, 5, 6],
 ob 25 (.bin .neq 20 24) (rg 0 8)] true)
 (.cond 25 (.seq (.reg [o 4 (.mov (.c zB))] false)
 (.ret))
 (.skip))))
 (.reg [oM 15 5,
 oA 16 15,
 oM 5 16] false))
def Q23q : IR :=
 .seq (.reg [o 4 (.mov (.c zB))] false)
 (.seq (.seq (.reg [oM 6 0,
 oN 7 6,
 oM 8 1,
 oN 9 8,
 o 10 (.bin .neq 7 9)] false)
 (.cond 10 (.seq (.reg [o 4 (.mov (.c zB))] false)
 (.ret))
 (.skip)))
 (.seq (.seq (.reg [o 5 (.mov (.c zI))] false)
 (.block 0 (.loop Qkp Q1on)))
 (.seq (.reg [o 4 (.mov (.c (.bool true)))] false)
 (.ret))))
def K1z : IFn := ⟨2, 26, [.tmp 4], false, Q23q⟩
def Q26j : IR :=
 .seq (.reg [o 3 (.box 17 1),
 o 4 (.zero zL8),
 o 5 (.mov (.c zI))] false)
 (.seq (.seq (.reg [oM 7 0,
 o 8 (.nilck 7),
 oF 9 0 8,
 oK 10 1 9,
 o 11 (.bin .gtr 10 (.c zI))] false)
 (.cond 11 (.seq (.reg [o 6 (.zero zL8)] false)
 (.seq (.reg [oL 12 17 6,
 oS 17 4 12,
 o 5 (.mov (.c (iN 6)))] false)
 (.ret)))
 (.skip)))
 (.seq (.reg [oL 13 17 3,
 oS 17 4 13,
 o 5 (.mov (.c zI))] false)
 (.ret)))
def K7f : IFn := ⟨2, 14, [.cell 4 17 true, .tmp 5], false, Q26j⟩
def Q25k : IR :=
 .seq (.reg [o 2 (.box 1 0),
 o 3 (.box 5 1),
 o 4 (.mov (.c (.ns 3)))] false)
 (.seq (.reg [oK 5 1 2,
 oL 6 5 3,
 o 7 (.mkfn 206 [] [2]),
 oC 8 205 ([5, 6, .c (.str ⟨#[112, 111, 114, 116, 115]⟩), 7]),
 oM 4 8] false)
 (.ret))
def K67 : IFn := ⟨2, 9, [.tmp 4], false, Q25k⟩
def Q26k : IR :=
 .seq (.reg [o 3 (.box 21 1),
 o 4 (.zero zL6),
 o 5 (.mov (.c zI))] false)
 (.seq (.seq (.reg [oM 7 0,
 o 8 (.nilck 7),
 oF 9 0 8,
 oK 10 1 9,
 o 11 (.bin .gtr 10 (.c zI))] false)
 (.cond 11 (.seq (.reg [o 6 (.zero zL6)] false)
 (.seq (.reg [oL 12 21 6,
 oS 21 4 12,
 o 5 (.mov (.c (iN 6)))] false)
 (.ret)))
 (.skip)))
 (.seq (.reg [oL 13 21 3,
 oS 21 4 13,
 o 5 (.mov (.c zI))] false)
 (.ret)))
def K7i : IFn := ⟨2, 14, [.cell 4 21 true, .tmp 5], false, Q26k⟩
def Q25m : IR :=
 .seq (.reg [o 3 (.box 5 1),
 o 4 (.zero [zI, zI, zI])] false)
 (.seq (.reg [oM 5 0,
 oL 6 5 3,
 oD 7 71 ([5, 6, sA86]) [0, 1],
 oM 8 0,
 oL 9 5 3,
 oD 10 71 ([8, 9, sA23]) (rg 0 5),
 oM 11 0,
 oL 12 5 3,
 oD 13 71 ([11, 12, sA3]) (rg 0 8),
 ob 14 (.build [zI, zI, zI] [(0, 1, 7), (1, 1, 10), (2, 1, 13)]) (rg 0 9),
 ⟨none, none, .store 3 4 14, (rg 0 10)⟩] true)
 (.ret))
def K69 : IFn := ⟨2, 15, [.cell 4 3 true], false, Q25m⟩
def Qkw : List Nat := [100038, 0, 2, 3, 4, 5]
def Q1ou : IR :=
 .seq (.seq (.reg [oM 13 5,
 oM 14 3,
 ob 15 (.len false 14) [1],
 ob 16 (.bin .lss 13 15) [0, 1, 2],
 ob 17 (.mov 16) [0, 1, 2, 3],
 ⟨(some 18), (some (17, true)), .mov 3, (rg 0 5)⟩,
 ⟨(some 19), (some (17, true)), .mov 5, (rg 0 5)⟩,
 ⟨(some 20), (some (17, true)), .iaddr 6 18 19, (rg 0 7)⟩,
 ⟨(some 21), (some (17, true)), .faddr 0 20, (rg 0 8)⟩,
 ⟨(some 22), (some (17, true)), .load 1 false 21, (rg 0 9)⟩,
 ⟨(some 23), (some (17, true)), .mov 0, (rg 0 5)⟩,
 ⟨(some 24), (some (17, true)), .mov 4, (rg 0 5)⟩,
 ⟨(some 25), (some (17, true)), .iaddr 6 23 24, (rg 0 5 ++ [10, 11])⟩,
 ⟨(some 26), (some (17, true)), .faddr 0 25, (rg 0 5 ++ [10, 11, 12])⟩,
 ⟨(some 27), (some (17, true)), .load 1 false 26, (rg 0 5 ++ rg 10 14)⟩,
 ⟨(some 28), (some (17, true)), .bin .lss 22 27, (rg 0 15)⟩,
 ob 29 (.pick 17 28 (.c zB)) (rg 0 16)] true)
 (.cond 29 (.skip)
 (.exit 2)))
 (.block 3 (.reg [oM 30 5,
 oA 31 30,
 oM 5 31] false))
def Qkv : List Nat := [100037, 0, 2, 3, 4]
def Q1ot : IR :=
 .seq (.seq (.reg [oM 7 4,
 oM 8 0,
 oN 9 8,
 o 10 (.bin .lss 7 9)] false)
 (.cond 10 (.skip)
 (.exit 0)))
 (.seq (.block 1 (.seq (.reg [o 5 (.mov (.c zI))] false)
 (.seq (.block 2 (.loop Qkw Q1ou))
 (.seq (.reg [o 6 (.mov (.c (.ns 6)))] false)
 (.seq (.reg [oM 32 6,
 oM 33 3,
 oM 34 5,
 o 35 (.slice 6 33 none (some 34) none),
 oJ 36 6 96 32 35,
 oM 6 36] false)
 (.seq (.reg [oM 37 6,
 oM 38 0,
 oM 39 4,
 oI 40 6 38 39,
 oL 41 6 40,
 o 42 (.lit 6 1 zL0 [(0, 41)]),
 oJ 43 6 96 37 42,
 oM 6 43] false)
 (.seq (.reg [oM 44 6,
 oM 45 3,
 oM 46 5,
 o 47 (.slice 6 45 (some 46) none none),
 oJ 48 6 96 44 47,
 oM 6 48] false)
 (.reg [oM 49 6,
 oM 3 49] false))))))))
 (.reg [oM 11 4,
 oA 12 11,
 oM 4 12] false))
def Q243 : IR :=
 .seq (.reg [o 2 (.zero zL1)] false)
 (.seq (.reg [o 3 (.mov (.c (.ns 6)))] false)
 (.seq (.seq (.reg [o 4 (.mov (.c zI))] false)
 (.block 0 (.loop Qkv Q1ot)))
 (.seq (.reg [oM 50 3,
 o 51 (.build zL1 [(0, 1, .c (iN 5)), (4, 1, 50)]),
 oS 5 2 51] false)
 (.ret))))
def K2h : IFn := ⟨1, 52, [.cell 2 5 true], false, Q243⟩
def Q23y : IR :=
 .seq (.reg [o 2 (.zero zL1)] false)
 (.seq (.reg [oM 3 0,
 o 4 (.build zL1 [(0, 1, .c (iN 2)), (1, 1, 3)]),
 oS 5 2 4] false)
 (.ret))
def K2c : IFn := ⟨1, 5, [.cell 2 5 true], false, Q23y⟩
def Ql0 : List Nat := [100039, 0, 2, 3, 4]
def Q1oy : IR :=
 .seq (.seq (.reg [oM 5 4,
 oM 6 0,
 oN 7 6,
 o 8 (.bin .lss 5 7)] false)
 (.cond 8 (.skip)
 (.exit 0)))
 (.seq (.block 1 (.reg [oM 11 3,
 oM 12 0,
 oM 13 4,
 ob 14 (.iaddr 3 12 13) [1, 2],
 ob 15 (.faddr 0 14) [1, 2, 3],
 oE 16 1 15 [1, 2, 3, 4],
 oD 17 169 ([16]) (rg 1 6),
 ob 18 (.build zL0 [(0, 1, sA19), (1, 5, 17)]) (rg 1 7),
 oM 19 0,
 oM 20 4,
 ob 21 (.iaddr 3 19 20) [8, 9],
 ob 22 (.faddr 1 21) [8, 9, 10],
 oE 23 1 22 [8, 9, 10, 11],
 oD 24 164 ([23]) (rg 1 7 ++ rg 8 13),
 ob 25 (.build zL0 [(0, 1, sA33), (1, 5, 24)]) (rg 1 7 ++ rg 8 14),
 oM 26 0,
 oM 27 4,
 ob 28 (.iaddr 3 26 27) [15, 16],
 ob 29 (.faddr 2 28) [15, 16, 17],
 oE 30 1 29 [15, 16, 17, 18],
 oD 31 212 ([30]) (rg 1 7 ++ rg 8 14 ++ rg 15 20),
 ob 32 (.build zL0 [(0, 1, sA70), (1, 5, 31)]) (rg 1 7 ++ rg 8 14 ++ rg 15 21),
 ob 33 (.lit 6 3 zL0 [(0, 18), (1, 25), (2, 32)]) (rg 1 22),
 oD 34 163 ([33]) (rg 1 23),
 ob 35 (.lit 5 1 zL1 [(0, 34)]) (rg 1 24),
 ob 36 (.append 5 80 11 35) (rg 0 25),
 ob 3 (.mov 36) (rg 0 26)] true))
 (.reg [oM 9 4,
 oA 10 9,
 oM 4 10] false))
def Q24a : IR :=
 .seq (.reg [o 2 (.zero zL1)] false)
 (.seq (.reg [o 3 (.mov (.c (.ns 5)))] false)
 (.seq (.seq (.reg [o 4 (.mov (.c zI))] false)
 (.block 0 (.loop Ql0 Q1oy)))
 (.seq (.reg [oM 37 3,
 o 38 (.build zL1 [(0, 1, .c (iN 4)), (3, 1, 37)]),
 oS 5 2 38] false)
 (.ret))))
def K2s : IFn := ⟨1, 39, [.cell 2 5 true], false, Q24a⟩
def Q24e : IR :=
 .seq (.reg [o 1 (.box 11 0),
 o 2 (.zero zL1)] false)
 (.seq (.reg [oF 3 0 1,
 oE 4 1 3 [0],
 oD 5 213 ([4]) [0, 1],
 ob 6 (.build zL0 [(0, 1, sA22), (1, 5, 5)]) [0, 1, 2],
 oF 7 1 1,
 ob 8 (.load 10 true 7) [4],
 oD 9 214 ([8]) [0, 1, 2, 4, 5],
 ob 10 (.build zL0 [(0, 1, sA54), (1, 5, 9)]) [0, 1, 2, 4, 5, 6],
 ob 11 (.lit 6 2 zL0 [(0, 6), (1, 10)]) (rg 0 8),
 oD 12 163 ([11]) (rg 0 9),
 ⟨none, none, .store 5 2 12, (rg 0 10)⟩] true)
 (.ret))
def K2y : IFn := ⟨1, 13, [.cell 2 5 true], false, Q24e⟩
def Q23t : IR :=
 .seq (.reg [o 2 (.zero zL1)] false)
 (.seq (.seq (.reg [oM 3 0] false)
 (.cond 3 (.seq (.reg [o 4 (.build zL1 [(0, 1, .c (iN 1)), (1, 1, .c (iN 1))]),
 oS 5 2 4] false)
 (.ret))
 (.skip)))
 (.seq (.reg [o 5 (.build zL1 [(0, 1, .c (iN 1))]),
 oS 5 2 5] false)
 (.ret)))
def K24 : IFn := ⟨1, 6, [.cell 2 5 true], false, Q23t⟩
def Q23r : IR :=
 .seq (.reg [o 1 (.box 2 0),
 o 2 (.zero zL1)] false)
 (.seq (.reg [oF 3 0 1,
 oE 4 1 3 [0],
 oD 5 167 ([4]) [0, 1],
 ob 6 (.build zL0 [(0, 1, sA36), (1, 5, 5)]) [0, 1, 2],
 oF 7 1 1,
 oE 8 1 7 [4],
 oD 9 164 ([8]) [0, 1, 2, 4, 5],
 ob 10 (.build zL0 [(0, 1, sA32), (1, 5, 9)]) [0, 1, 2, 4, 5, 6],
 ob 11 (.lit 6 2 zL0 [(0, 6), (1, 10)]) (rg 0 8),
 oD 12 163 ([11]) (rg 0 9),
 ⟨none, none, .store 5 2 12, (rg 0 10)⟩] true)
 (.ret))
def K20 : IFn := ⟨1, 13, [.cell 2 5 true], false, Q23r⟩
def Q24c : IR :=
 .seq (.reg [o 2 (.zero zL1)] false)
 (.seq (.reg [oM 3 0,
 o 4 (.build zL1 [(0, 1, .c (iN 3)), (2, 1, 3)]),
 oS 5 2 4] false)
 (.ret))
def K2w : IFn := ⟨1, 5, [.cell 2 5 true], false, Q24c⟩
def Qkl : List Nat := [100041, 1, 2, 3, 8]
def Q1oj : IR :=
 .seq (.seq (.reg [oM 43 8,
 oF 44 4 3,
 oK 45 1 44,
 oN 46 45,
 o 47 (.bin .lss 43 46),
 oM 48 47,
 gT 49 48 (.mov 1),
 gT 50 48 (.bin .geq 49 (.c zI)),
 oP 51 48 50] false)
 (.cond 51 (.skip)
 (.exit 2)))
 (.seq (.block 3 (.seq (.seq (.reg [oF 54 4 3,
 oK 55 1 54,
 oM 56 8,
 oI 57 6 55 56,
 oF 58 0 57,
 oK 59 1 58,
 o 60 (.len true 59),
 o 61 (.bin .gtr 60 (.c (iN 1000)))] false)
 (.cond 61 (.seq (.reg [o 6 (.mov (.c (iN (-1))))] false)
 (.ret))
 (.skip)))
 (.reg [oF 62 4 3,
 oK 63 1 62,
 oM 64 8,
 oI 65 6 63 64,
 oF 66 1 65,
 oL 67 5 66,
 oM 68 1,
 oM 69 2,
 o 70 (.bin .sub 69 (.c (iN 1))),
 oC 71 170 ([67, 68, 70]),
 oM 1 71] false)))
 (.reg [oM 52 8,
 oA 53 52,
 oM 8 53] false))
def Qkk : List Nat := [100040, 1, 2, 3, 7]
def Q1oi : IR :=
 .seq (.seq (.reg [oM 23 7,
 oF 24 3 3,
 oK 25 1 24,
 oN 26 25,
 o 27 (.bin .lss 23 26),
 oM 28 27,
 gT 29 28 (.mov 1),
 gT 30 28 (.bin .geq 29 (.c zI)),
 oP 31 28 30] false)
 (.cond 31 (.skip)
 (.exit 0)))
 (.seq (.block 1 (.reg [oF 34 3 3,
 oK 35 1 34,
 oM 36 7,
 oI 37 5 35 36,
 oL 38 5 37,
 oM 39 1,
 oM 40 2,
 o 41 (.bin .sub 40 (.c (iN 1))),
 oC 42 170 ([38, 39, 41]),
 oM 1 42] false))
 (.reg [oM 32 7,
 oA 33 32,
 oM 7 33] false))
def Q23j : IR :=
 .seq (.reg [o 3 (.box 5 0),
 o 6 (.mov (.c zI))] false)
 (.seq (.seq (.reg [oM 9 1,
 o 10 (.bin .leq 9 (.c zI)),
 oM 11 10,
 gF 12 11 (.mov 2),
 gF 13 11 (.bin .leq 12 (.c zI)),
 oQ 14 11 13,
 oM 15 14,
 gF 16 15 (.faddr 2 3),
 gF 17 15 (.load 1 false 16),
 gF 18 15 (.len true 17),
 gF 19 15 (.bin .gtr 18 (.c (iN 1000))),
 oQ 20 15 19] false)
 (.cond 20 (.seq (.reg [o 6 (.mov (.c (iN (-1))))] false)
 (.ret))
 (.skip)))
 (.seq (.reg [oM 21 1,
 o 22 (.bin .sub 21 (.c (iN 1))),
 oM 1 22] false)
 (.seq (.seq (.reg [o 7 (.mov (.c zI))] false)
 (.block 0 (.loop Qkk Q1oi)))
 (.seq (.seq (.reg [o 8 (.mov (.c zI))] false)
 (.block 2 (.loop Qkl Q1oj)))
 (.seq (.reg [oM 72 1,
 oM 6 72] false)
 (.ret))))))
def K1s : IFn := ⟨3, 73, [.tmp 6], false, Q23j⟩
def Q262 : IR :=
 .seq (.reg [o 1 (.box 3 0),
 o 2 (.zero zL1)] false)
 (.seq (.reg [oF 3 0 1,
 oE 4 1 3 [0],
 oD 5 79 ([sA86, 4]) [0, 1],
 oF 6 1 1,
 oE 7 1 6 [3],
 oD 8 79 ([sA23, 7]) (rg 0 5),
 oF 9 2 1,
 oE 10 1 9 [6],
 oD 11 79 ([sA3, 10]) (rg 0 8),
 ob 12 (.lit 6 3 zL0 [(0, 5), (1, 8), (2, 11)]) (rg 0 9),
 oD 13 78 ([12]) (rg 0 10),
 ⟨none, none, .store 5 2 13, (rg 0 11)⟩] true)
 (.ret))
def K6u : IFn := ⟨1, 14, [.cell 2 5 true], false, Q262⟩
def Q13m : List Nat := [100043, 1, 2, 3, 5]
def Q1w7 : IR :=
 .seq (.seq (.reg [oM 31 5,
 oF 32 4 1,
 oK 33 1 32,
 oN 34 33,
 o 35 (.bin .lss 31 34)] false)
 (.cond 35 (.skip)
 (.exit 2)))
 (.seq (.block 3 (.reg [oF 38 4 3,
 oE 39 1 38 [0],
 oF 40 4 1,
 oE 41 1 40 [2],
 oM 42 5,
 ob 43 (.iaddr 6 41 42) [2, 3, 4],
 ob 44 (.faddr 0 43) [2, 3, 4, 5],
 oE 45 1 44 (rg 2 7),
 oF 46 4 1,
 oE 47 1 46 [8],
 oM 48 5,
 ob 49 (.iaddr 6 47 48) [8, 9, 10],
 ob 50 (.faddr 1 49) [8, 9, 10, 11],
 ob 51 (.load 5 true 50) (rg 8 13),
 oD 52 172 ([51]) (rg 8 14),
 ob 53 (.build zL0 [(0, 1, 45), (1, 5, 52)]) (rg 2 15),
 ob 54 (.lit 6 1 zL0 [(0, 53)]) (rg 2 16),
 ob 55 (.append 6 96 39 54) (rg 0 17),
 ob 56 (.faddr 4 3) (rg 0 18),
 ⟨none, none, .store 1 56 55, (rg 0 19)⟩] true))
 (.reg [oM 36 5,
 oA 37 36,
 oM 5 37] false))
def Q13l : List Nat := [100042, 1, 2, 3, 4]
def Q1w6 : IR :=
 .seq (.seq (.reg [oM 13 4,
 oF 14 3 1,
 oK 15 1 14,
 oN 16 15,
 o 17 (.bin .lss 13 16)] false)
 (.cond 17 (.skip)
 (.exit 0)))
 (.seq (.block 1 (.reg [oF 20 3 3,
 oE 21 1 20 [0],
 oF 22 3 1,
 oE 23 1 22 [2],
 oM 24 4,
 ob 25 (.iaddr 5 23 24) [2, 3, 4],
 ob 26 (.load 5 true 25) [2, 3, 4, 5],
 oD 27 172 ([26]) (rg 2 7),
 ob 28 (.lit 5 1 zL1 [(0, 27)]) (rg 2 8),
 ob 29 (.append 5 80 21 28) (rg 0 9),
 ob 30 (.faddr 3 3) (rg 0 10),
 ⟨none, none, .store 1 30 29, (rg 0 11)⟩] true))
 (.reg [oM 18 4,
 oA 19 18,
 oM 4 19] false))
def Q23d : IR :=
 .seq (.reg [o 1 (.box 5 0),
 o 2 (.zero zL1)] false)
 (.seq (.reg [oF 6 0 1,
 oK 7 1 6,
 oF 8 1 1,
 oK 9 1 8,
 oF 10 2 1,
 oK 11 1 10,
 o 12 (.build zL1 [(0, 1, 7), (1, 1, 9), (2, 1, 11)]),
 o 3 (.zero zL1),
 oS 5 3 12] false)
 (.seq (.seq (.reg [o 4 (.mov (.c zI))] false)
 (.block 0 (.loop Q13l Q1w6)))
 (.seq (.seq (.reg [o 5 (.mov (.c zI))] false)
 (.block 2 (.loop Q13m Q1w7)))
 (.seq (.reg [oL 57 5 3,
 oS 5 2 57] false)
 (.ret)))))
def K1m : IFn := ⟨1, 58, [.cell 2 5 true], false, Q23d⟩
def Q13p : List Nat := [100044, 0, 3, 5, 6, 7]
def Q1wa : IR :=
 .seq (.seq (.reg [oM 8 7,
 oM 9 0,
 oN 10 9,
 o 11 (.bin .lss 8 10)] false)
 (.cond 11 (.skip)
 (.exit 0)))
 (.seq (.block 1 (.seq (.seq (.reg [oM 14 6,
 ob 15 (.un .not 14) [0],
 ob 16 (.mov 15) [0, 1],
 ⟨(some 17), (some (16, true)), .faddr 0 3, [0, 1, 2]⟩,
 ⟨(some 18), (some (16, true)), .load 1 false 17, [0, 1, 2, 3]⟩,
 ⟨(some 19), (some (16, true)), .mov 0, [0, 1, 2]⟩,
 ⟨(some 20), (some (16, true)), .mov 7, [0, 1, 2]⟩,
 ⟨(some 21), (some (16, true)), .iaddr 6 19 20, [0, 1, 2, 5, 6]⟩,
 ⟨(some 22), (some (16, true)), .faddr 0 21, [0, 1, 2, 5, 6, 7]⟩,
 ⟨(some 23), (some (16, true)), .load 1 false 22, ([0, 1, 2] ++ rg 5 9)⟩,
 ⟨(some 24), (some (16, true)), .bin .leq 18 23, (rg 0 10)⟩,
 ob 25 (.pick 16 24 (.c zB)) (rg 0 11)] true)
 (.cond 25 (.seq (.reg [oM 26 5,
 oL 27 6 3,
 o 28 (.lit 6 1 zL0 [(0, 27)]),
 oJ 29 6 96 26 28,
 oM 5 29] false)
 (.reg [o 6 (.mov (.c (.bool true)))] false))
 (.skip)))
 (.seq (.reg [oM 30 0,
 oM 31 7,
 ob 32 (.iaddr 6 30 31) [0, 1],
 ob 33 (.faddr 0 32) [0, 1, 2],
 oE 34 1 33 [0, 1, 2, 3],
 oF 35 0 3,
 oE 36 1 35 [5],
 ob 37 (.bin .neq 34 36) (rg 0 7)] true)
 (.cond 37 (.reg [oM 38 5,
 oM 39 0,
 oM 40 7,
 oI 41 6 39 40,
 oL 42 6 41,
 o 43 (.lit 6 1 zL0 [(0, 42)]),
 oJ 44 6 96 38 43,
 oM 5 44] false)
 (.skip)))))
 (.reg [oM 12 7,
 oA 13 12,
 oM 7 13] false))
def Q23l : IR :=
 .seq (.reg [o 3 (.box 6 1),
 o 4 (.mov (.c (.ns 6)))] false)
 (.seq (.reg [o 5 (.mov (.c (.ns 6)))] false)
 (.seq (.reg [o 6 (.mov (.c zB))] false)
 (.seq (.seq (.reg [o 7 (.mov (.c zI))] false)
 (.block 0 (.loop Q13p Q1wa)))
 (.seq (.seq (.reg [oM 45 6,
 oU 46 45] false)
 (.cond 46 (.reg [oM 47 5,
 oL 48 6 3,
 o 49 (.lit 6 1 zL0 [(0, 48)]),
 oJ 50 6 96 47 49,
 oM 5 50] false)
 (.skip)))
 (.seq (.reg [oM 51 5,
 oM 4 51] false)
 (.ret))))))
def K1u : IFn := ⟨2, 52, [.tmp 4], false, Q23l⟩
def Q25e : IR :=
 .seq (.reg [o 4 (.box 5 1),
 o 6 (.zero zL1)] false)
 (.seq (.seq (.reg [oF 7 0 4,
 oK 8 1 7,
 oM 9 2,
 o 10 (.bin .eql 8 9)] false)
 (.cond 10 (.seq (.reg [oL 11 5 4,
 oS 5 6 11] false)
 (.ret))
 (.skip)))
 (.seq (.seq (.reg [oF 12 0 4,
 oK 13 1 12,
 o 14 (.bin .neq 13 (.c zI))] false)
 (.cond 14 (.reg [oM 15 0,
 o 16 (.nilck 15),
 oF 17 0 16,
 oK 18 1 17,
 oA 19 18,
 o 20 (.nilck 15),
 oF 21 0 20,
 oS 1 21 19] false)
 (.skip)))
 (.seq (.reg [o 22 (.build zL1 []),
 oS 5 6 22] false)
 (.ret))))
def K61 : IFn := ⟨3, 23, [.cell 6 5 true], false, Q25e⟩
def Qlf : List Nat := [100045, 3, 9, 18, 19, 20]
def Q1pd : IR :=
 .seq (.reg [o 21 (.bin .lss 20 19)] false)
 (.seq (.cond 21 (.skip)
 (.exit 0))
 (.seq (.block 1 (.seq (.reg [oI 22 5 18 20,
 oL 23 5 22,
 o 11 (.zero zL1),
 oS 5 11 23] false)
 (.reg [oM 24 9,
 oM 25 3,
 oL 26 5 11,
 o 27 (.call false 25 [26]),
 o 28 (.lit 3 1 [zS, zI, .ns 1] [(0, 27)]),
 oJ 29 3 48 24 28,
 oM 9 29] false)))
 (.reg [oA 30 20,
 oM 20 30] false)))
def Q25w : IR :=
 .seq (.reg [o 5 (.box 5 1),
 o 8 (.mov (.c (.ns 3)))] false)
 (.seq (.reg [o 9 (.mov (.c (.ns 3)))] false)
 (.seq (.seq (.reg [oM 12 0,
 oM 13 0,
 oL 14 5 5,
 oM 15 2,
 oC 16 76 ([13, 14, 15]),
 oC 17 174 ([12, 16, .c (iN 4)]),
 o 18 (.field 3 1 false 17),
 oN 19 18,
 o 20 (.mov (.c zI))] false)
 (.block 0 (.loop Qlf Q1pd)))
 (.seq (.reg [oM 31 9,
 oM 8 31] false)
 (.ret))))
def K6n : IFn := ⟨4, 32, [.tmp 8], false, Q25w⟩
def Q25o : IR :=
 .seq (.reg [o 2 (.box 5 0),
 o 3 (.zero [zS, zI, .ns 1])] false)
 (.seq (.reg [oK 5 1 1,
 oL 6 5 2,
 o 7 (.mkfn 182 [] [1]),
 oC 8 181 ([5, 6, sA70, 7]),
 oM 4 8] false)
 (.seq (.reg [oK 9 1 1,
 oL 10 5 2,
 oC 11 174 ([9, 10, .c (iN 5)])] false)
 (.seq (.reg [oK 12 1 1,
 oL 13 5 2,
 oD 14 89 ([12, 13, sA19]) [0, 1],
 oK 15 1 1,
 oL 16 5 2,
 oD 17 71 ([15, 16, sA33]) (rg 0 5),
 oM 18 4,
 ob 19 (.build [zS, zI, .ns 1] [(0, 1, 14), (1, 1, 17), (2, 1, 18)]) (rg 0 7),
 ⟨none, none, .store 3 3 19, (rg 0 8)⟩] true)
 (.ret))))
def K6b : IFn := ⟨2, 20, [.cell 3 3 true], false, Q25o⟩
def Qlg : List Nat := [100046, 3, 9, 18, 19, 20]
def Q1pe : IR :=
 .seq (.reg [o 21 (.bin .lss 20 19)] false)
 (.seq (.cond 21 (.skip)
 (.exit 0))
 (.seq (.block 1 (.seq (.reg [oI 22 5 18 20,
 oL 23 5 22,
 o 11 (.zero zL1),
 oS 5 11 23] false)
 (.reg [oM 24 9,
 oM 25 3,
 oL 26 5 11,
 o 27 (.call false 25 [26]),
 o 28 (.lit 1 1 [zS] [(0, 27)]),
 oJ 29 1 16 24 28,
 oM 9 29] false)))
 (.reg [oA 30 20,
 oM 20 30] false)))
def Q25x : IR :=
 .seq (.reg [o 5 (.box 5 1),
 o 8 (.mov (.c (.ns 1)))] false)
 (.seq (.reg [o 9 (.mov (.c (.ns 1)))] false)
 (.seq (.seq (.reg [oM 12 0,
 oM 13 0,
 oL 14 5 5,
 oM 15 2,
 oC 16 76 ([13, 14, 15]),
 oC 17 174 ([12, 16, .c (iN 4)]),
 o 18 (.field 3 1 false 17),
 oN 19 18,
 o 20 (.mov (.c zI))] false)
 (.block 0 (.loop Qlg Q1pe)))
 (.seq (.reg [oM 31 9,
 oM 8 31] false)
 (.ret))))
def K6o : IFn := ⟨4, 32, [.tmp 8], false, Q25x⟩
def Q25p : IR :=
 .seq (.reg [o 2 (.box 5 0),
 o 3 (.mov (.c (zS)))] false)
 (.seq (.reg [oK 4 1 1,
 oL 5 5 2,
 oC 6 174 ([4, 5, .c (iN 3)]),
 o 7 (.field 2 1 false 6),
 oM 3 7] false)
 (.ret))
def K6c : IFn := ⟨2, 8, [.tmp 3], false, Q25p⟩
def Ka_c : IR :=
 .seq (.reg [o 1 (.box 5 0),
 o 2 (.zero [.ns 2, zS, zI, zI, zI, .ns 11, .ns 3, .ns 3, .ns 5, .ns 4, .ns 5]),
 o 3 (.mov (.c zI))] false)
 (.seq (.reg [o 6 (.build [zB] []),
 o 7 (.box 1 6),
 oM 4 7] false)
 (.seq (.reg [oM 8 4,
 oL 9 5 1,
 oC 10 215 ([8, 9])] false)
 (.seq (.reg [oM 11 4,
 oL 12 5 1,
 oM 13 4,
 ob 14 (.mkfn 217 [13] []) [2],
 oD 15 216 ([11, 12, sA22, 14]) [0, 1, 2, 3],
 oM 16 4,
 oM 17 4,
 oL 18 5 1,
 oD 19 219 ([17, 18, sA54]) (rg 0 5 ++ [6, 7]),
 oD 20 218 ([16, 19]) (rg 0 9),
 ob 21 (.build [.ns 2, zS, zI, zI, zI, .ns 11, .ns 3, .ns 3, .ns 5, .ns 4, .ns 5] [(0, 1, 15), (1, 10, 20)]) (rg 0 10),
 o 5 (.zero [.ns 2, zS, zI, zI, zI, .ns 11, .ns 3, .ns 3, .ns 5, .ns 4, .ns 5]),
 ⟨none, none, .store 11 5 21, (rg 0 12)⟩] true)
 (.seq (.seq (.reg [oM 22 4,
 o 23 (.nilck 22),
 oF 24 0 23,
 oK 25 1 24] false)
 (.cond 25 (.seq (.reg [o 26 (.build [.ns 2, zS, zI, zI, zI, .ns 11, .ns 3, .ns 3, .ns 5, .ns 4, .ns 5] []),
 oS 11 2 26,
 o 3 (.mov (.c (iN 6)))] false)
 (.ret))
 (.skip)))
 (.seq (.reg [oL 27 11 5,
 oS 11 2 27,
 o 3 (.mov (.c zI))] false)
 (.ret))))))
def Ka : IFn := ⟨1, 28, [.cell 2 11 true, .tmp 3], false, Ka_c⟩
def Ql8 : List Nat := [100047, 1, 4, 12, 13, 14]
def Q1p6 : IR :=
 .seq (.reg [o 15 (.bin .lss 14 13)] false)
 (.seq (.cond 15 (.skip)
 (.exit 0))
 (.seq (.block 1 (.seq (.reg [oI 16 6 12 14,
 oL 17 6 16,
 o 7 (.zero zL0),
 oS 6 7 17] false)
 (.seq (.reg [oF 18 0 7,
 oK 19 1 18,
 oM 20 1,
 o 21 (.bin .eql 19 20)] false)
 (.cond 21 (.seq (.reg [oF 22 1 7,
 oL 23 5 22,
 oC 24 189 ([23]),
 oS 5 4 24,
 o 5 (.mov (.c (.bool true)))] false)
 (.ret))
 (.skip)))))
 (.reg [oA 25 14,
 oM 14 25] false)))
def Q24r : IR :=
 .seq (.reg [o 2 (.box 5 0),
 o 4 (.zero zL1),
 o 5 (.mov (.c zB))] false)
 (.seq (.seq (.reg [oF 8 0 2,
 oK 9 1 8,
 o 10 (.bin .eql 9 (.c (iN 5)))] false)
 (.cond 10 (.seq (.reg [oF 11 4 2,
 oK 12 1 11,
 oN 13 12,
 o 14 (.mov (.c zI))] false)
 (.block 0 (.loop Ql8 Q1p6)))
 (.skip)))
 (.seq (.reg [o 26 (.build zL1 []),
 oS 5 4 26,
 o 5 (.mov (.c zB))] false)
 (.ret)))
def K4x : IFn := ⟨2, 27, [.cell 4 5 true, .tmp 5], false, Q24r⟩
def Q24m : IR :=
 .reg [oM 4 0,
 oM 5 0,
 oN 6 5,
 oM 7 1,
 o 8 (.call true (.f 220) [4, 6, 7])] false
def K4s : IFn := ⟨2, 9, [], false, Q24m⟩
def Q24v : IR :=
 .seq (.reg [o 2 (.box 6 0),
 o 3 (.box 6 1),
 o 4 (.mov (.c zI))] false)
 (.seq (.reg [oF 5 0 2,
 oK 6 1 5,
 oF 7 0 3,
 oK 8 1 7,
 oC 9 188 ([6, 8]),
 oM 4 9] false)
 (.ret))
def K51 : IFn := ⟨2, 10, [.tmp 4], false, Q24v⟩
def Q24p : IR :=
 .seq (.reg [o 4 (.mov (.c zI))] false)
 (.seq (.reg [oM 5 0,
 oM 6 1,
 oC 7 221 ([5, 6]),
 oM 4 7] false)
 (.ret))
def K4v : IFn := ⟨2, 8, [.tmp 4], false, Q24p⟩
def Qlb : List Nat := [100049, 1, 2, 31, 32, 33]
def Q1p9 : IR :=
 .seq (.reg [o 34 (.bin .lss 33 32)] false)
 (.seq (.cond 34 (.skip)
 (.exit 2))
 (.seq (.block 3 (.seq (.reg [oM 35 33,
 oI 36 6 31 33,
 oL 37 6 36,
 o 6 (.zero zL0),
 oM 5 35,
 oS 6 6 37] false)
 (.reg [oF 38 4 1,
 oE 39 1 38 [0],
 oM 40 5,
 oF 41 1 6,
 ob 42 (.load 5 true 41) [3],
 oD 43 189 ([42]) [3, 4],
 ob 44 (.iaddr 6 39 40) (rg 0 6),
 ob 45 (.faddr 1 44) (rg 0 7),
 ⟨none, none, .store 5 45 43, (rg 0 8)⟩] true)))
 (.reg [oA 46 33,
 oM 33 46] false)))
def Qla : List Nat := [100048, 1, 2, 12, 13, 14]
def Q1p8 : IR :=
 .seq (.reg [o 15 (.bin .lss 14 13)] false)
 (.seq (.cond 15 (.skip)
 (.exit 0))
 (.seq (.block 1 (.seq (.reg [oM 16 14,
 oI 17 5 12 14,
 oL 18 5 17,
 o 4 (.zero zL1),
 oM 3 16,
 oS 5 4 18] false)
 (.reg [oF 19 3 1,
 oE 20 1 19 [0],
 oM 21 3,
 oL 22 5 4,
 oD 23 189 ([22]) [3],
 ob 24 (.iaddr 5 20 21) (rg 0 5),
 ⟨none, none, .store 5 24 23, (rg 0 6)⟩] true)))
 (.reg [oA 25 14,
 oM 14 25] false)))
def Q24x : IR :=
 .seq (.reg [o 1 (.box 5 0),
 o 2 (.zero zL1)] false)
 (.seq (.reg [oF 7 3 1,
 oK 8 1 7,
 oC 9 222 ([8]),
 oF 10 3 1,
 oS 1 10 9] false)
 (.seq (.seq (.reg [oF 11 3 1,
 oK 12 1 11,
 oN 13 12,
 o 14 (.mov (.c zI))] false)
 (.block 0 (.loop Qla Q1p8)))
 (.seq (.reg [oF 26 4 1,
 oK 27 1 26,
 oC 28 185 ([27]),
 oF 29 4 1,
 oS 1 29 28] false)
 (.seq (.seq (.reg [oF 30 4 1,
 oK 31 1 30,
 oN 32 31,
 o 33 (.mov (.c zI))] false)
 (.block 2 (.loop Qlb Q1p9)))
 (.seq (.reg [oL 47 5 1,
 oS 5 2 47] false)
 (.ret))))))
def K53 : IFn := ⟨1, 48, [.cell 2 5 true], false, Q24x⟩
def Q263 : IR :=
 .seq (.reg [o 2 (.zero zL1)] false)
 (.seq (.reg [oM 3 0,
 oC 4 223 ([3, .f 224]),
 oS 5 2 4] false)
 (.ret))
def K6v : IFn := ⟨1, 5, [.cell 2 5 true], false, Q263⟩
def K9_c : IR :=
 .seq (.reg [o 1 (.box 11 0),
 o 2 (.zero zL1)] false)
 (.seq (.reg [oF 3 0 1,
 oE 4 1 3 [0],
 oD 5 227 ([4, .f 228]) [0, 1],
 oD 6 226 ([sA22, 5]) [0, 1, 2],
 oF 7 1 1,
 ob 8 (.load 10 true 7) [4],
 oD 9 229 ([8]) (rg 0 6),
 oD 10 226 ([sA54, 9]) (rg 0 7),
 ob 11 (.lit 6 2 zL0 [(0, 6), (1, 10)]) (rg 0 8),
 oD 12 78 ([11]) (rg 0 9),
 ⟨none, none, .store 5 2 12, (rg 0 10)⟩] true)
 (.ret))
def K9 : IFn := ⟨1, 13, [.cell 2 5 true], false, K9_c⟩
def Q24q : IR :=
 .seq (.reg [o 2 (.zero zL1)] false)
 (.seq (.reg [o 4 (.build zL1 [(0, 1, .c (iN 1))]),
 o 3 (.zero zL1),
 oS 5 3 4] false)
 (.seq (.seq (.reg [oM 5 0] false)
 (.cond 5 (.reg [oF 6 1 3,
 ⟨none, none, .store 1 6 (.c (iN 1)), []⟩] false)
 (.skip)))
 (.seq (.reg [oL 7 5 3,
 oS 5 2 7] false)
 (.ret))))
def K4w : IFn := ⟨1, 8, [.cell 2 5 true], false, Q24q⟩
def Q24w : IR :=
 .seq (.reg [o 2 (.zero zL1)] false)
 (.seq (.reg [oM 3 0,
 o 4 (.build zL1 [(0, 1, .c (iN 3)), (2, 1, 3)]),
 oS 5 2 4] false)
 (.ret))
def K52 : IFn := ⟨1, 5, [.cell 2 5 true], false, Q24w⟩
def Qkj : List Nat := [100051, 2, 3, 5, 7]
def Q1oh : IR :=
 .seq (.seq (.reg [oM 91 7,
 oF 92 4 2,
 oK 93 1 92,
 oN 94 93,
 o 95 (.bin .lss 91 94),
 oM 96 95,
 gT 97 96 (.mov 7),
 gT 98 96 (.faddr 4 3),
 gT 99 96 (.load 1 false 98),
 gT 100 96 (.len false 99),
 gT 101 96 (.bin .lss 97 100),
 oP 102 96 101,
 oM 103 102,
 gT 104 103 (.mov 5),
 gT 105 103 (.bin .eql 104 (.c zI)),
 oP 106 103 105] false)
 (.cond 106 (.skip)
 (.exit 2)))
 (.seq (.block 3 (.seq (.reg [oF 109 4 2,
 oE 110 1 109 [0],
 oM 111 7,
 ob 112 (.iaddr 6 110 111) [0, 1, 2],
 ob 113 (.faddr 0 112) [0, 1, 2, 3],
 oE 114 1 113 (rg 0 5),
 oF 115 4 3,
 oE 116 1 115 [6],
 oM 117 7,
 ob 118 (.iaddr 6 116 117) [6, 7, 8],
 ob 119 (.faddr 0 118) [6, 7, 8, 9],
 oE 120 1 119 (rg 6 11),
 ob 121 (.bin .lss 114 120) (rg 0 12),
 oF 122 4 2,
 oE 123 1 122 [13],
 oM 124 7,
 ob 125 (.iaddr 6 123 124) [13, 14, 15],
 ob 126 (.faddr 0 125) [13, 14, 15, 16],
 oE 127 1 126 (rg 13 18),
 oF 128 4 3,
 oE 129 1 128 [19],
 oM 130 7,
 ob 131 (.iaddr 6 129 130) [19, 20, 21],
 ob 132 (.faddr 0 131) [19, 20, 21, 22],
 oE 133 1 132 (rg 19 24),
 ob 134 (.bin .gtr 127 133) (rg 13 25),
 oD 135 230 ([121, 134]) (rg 0 26),
 ob 5 (.mov 135) (rg 0 27)] true)
 (.seq (.reg [oM 136 5,
 o 137 (.bin .eql 136 (.c zI))] false)
 (.cond 137 (.reg [oF 138 4 2,
 oE 139 1 138 [0],
 oM 140 7,
 ob 141 (.iaddr 6 139 140) [0, 1, 2],
 ob 142 (.faddr 1 141) [0, 1, 2, 3],
 ob 143 (.load 5 true 142) (rg 0 5),
 oF 144 4 3,
 oE 145 1 144 [6],
 oM 146 7,
 ob 147 (.iaddr 6 145 146) [6, 7, 8],
 ob 148 (.faddr 1 147) [6, 7, 8, 9],
 ob 149 (.load 5 true 148) (rg 6 11),
 oD 150 194 ([143, 149]) (rg 0 12),
 ob 5 (.mov 150) (rg 0 13)] true)
 (.skip)))))
 (.reg [oM 107 7,
 oA 108 107,
 oM 7 108] false))
def Qki : List Nat := [100050, 2, 3, 5, 6]
def Q1og : IR :=
 .seq (.seq (.reg [oM 45 6,
 oF 46 3 2,
 oK 47 1 46,
 oN 48 47,
 o 49 (.bin .lss 45 48),
 oM 50 49,
 gT 51 50 (.mov 6),
 gT 52 50 (.faddr 3 3),
 gT 53 50 (.load 1 false 52),
 gT 54 50 (.len false 53),
 gT 55 50 (.bin .lss 51 54),
 oP 56 50 55,
 oM 57 56,
 gT 58 57 (.mov 5),
 gT 59 57 (.bin .eql 58 (.c zI)),
 oP 60 57 59] false)
 (.cond 60 (.skip)
 (.exit 0)))
 (.seq (.block 1 (.reg [oF 63 3 2,
 oE 64 1 63 [0],
 oM 65 6,
 ob 66 (.iaddr 5 64 65) [0, 1, 2],
 ob 67 (.load 5 true 66) [0, 1, 2, 3],
 oF 68 3 3,
 oE 69 1 68 [5],
 oM 70 6,
 ob 71 (.iaddr 5 69 70) [5, 6, 7],
 ob 72 (.load 5 true 71) [5, 6, 7, 8],
 oD 73 194 ([67, 72]) (rg 0 10),
 ob 5 (.mov 73) (rg 0 11)] true))
 (.reg [oM 61 6,
 oA 62 61,
 oM 6 62] false))
def Q23c : IR :=
 .seq (.reg [o 2 (.box 5 0),
 o 3 (.box 5 1),
 o 4 (.mov (.c zI))] false)
 (.seq (.reg [oF 8 0 2,
 oK 9 1 8,
 oF 10 0 3,
 oK 11 1 10,
 o 12 (.bin .lss 9 11),
 oF 13 0 2,
 oK 14 1 13,
 oF 15 0 3,
 oK 16 1 15,
 o 17 (.bin .gtr 14 16),
 oC 18 230 ([12, 17]),
 oM 5 18] false)
 (.seq (.seq (.reg [oM 19 5,
 o 20 (.bin .eql 19 (.c zI))] false)
 (.cond 20 (.reg [oF 21 1 2,
 oK 22 1 21,
 oF 23 1 3,
 oK 24 1 23,
 o 25 (.bin .lss 22 24),
 oF 26 1 2,
 oK 27 1 26,
 oF 28 1 3,
 oK 29 1 28,
 o 30 (.bin .gtr 27 29),
 oC 31 230 ([25, 30]),
 oM 5 31] false)
 (.skip)))
 (.seq (.seq (.reg [oM 32 5,
 o 33 (.bin .eql 32 (.c zI))] false)
 (.cond 33 (.reg [oF 34 2 2,
 oK 35 1 34,
 oF 36 2 3,
 oK 37 1 36,
 o 38 (.bin .lss 35 37),
 oF 39 2 2,
 oK 40 1 39,
 oF 41 2 3,
 oK 42 1 41,
 o 43 (.bin .gtr 40 42),
 oC 44 230 ([38, 43]),
 oM 5 44] false)
 (.skip)))
 (.seq (.seq (.reg [o 6 (.mov (.c zI))] false)
 (.block 0 (.loop Qki Q1og)))
 (.seq (.seq (.reg [oM 74 5,
 o 75 (.bin .eql 74 (.c zI))] false)
 (.cond 75 (.reg [oF 76 3 2,
 oK 77 1 76,
 oN 78 77,
 oF 79 3 3,
 oK 80 1 79,
 oN 81 80,
 o 82 (.bin .lss 78 81),
 oF 83 3 2,
 oK 84 1 83,
 oN 85 84,
 oF 86 3 3,
 oK 87 1 86,
 oN 88 87,
 o 89 (.bin .gtr 85 88),
 oC 90 230 ([82, 89]),
 oM 5 90] false)
 (.skip)))
 (.seq (.seq (.reg [o 7 (.mov (.c zI))] false)
 (.block 2 (.loop Qkj Q1oh)))
 (.seq (.seq (.reg [oM 151 5,
 o 152 (.bin .eql 151 (.c zI))] false)
 (.cond 152 (.reg [oF 153 4 2,
 oK 154 1 153,
 oN 155 154,
 oF 156 4 3,
 oK 157 1 156,
 oN 158 157,
 o 159 (.bin .lss 155 158),
 oF 160 4 2,
 oK 161 1 160,
 oN 162 161,
 oF 163 4 3,
 oK 164 1 163,
 oN 165 164,
 o 166 (.bin .gtr 162 165),
 oC 167 230 ([159, 166]),
 oM 5 167] false)
 (.skip)))
 (.seq (.reg [oM 168 5,
 oM 4 168] false)
 (.ret)))))))))
def K1l : IFn := ⟨2, 169, [.tmp 4], false, Q23c⟩
def Qkt : List Nat := [100052, 0, 2, 3, 4]
def Q1or : IR :=
 .seq (.seq (.reg [oM 5 4,
 oM 6 0,
 oN 7 6,
 o 8 (.bin .lss 5 7)] false)
 (.cond 8 (.skip)
 (.exit 0)))
 (.seq (.block 1 (.reg [oM 11 3,
 oM 12 0,
 oM 13 4,
 oI 14 1 12 13,
 oK 15 1 14,
 oC 16 164 ([15]),
 o 17 (.lit 5 1 zL1 [(0, 16)]),
 oJ 18 5 80 11 17,
 oM 3 18] false))
 (.reg [oM 9 4,
 oA 10 9,
 oM 4 10] false))
def Q23z : IR :=
 .seq (.reg [o 2 (.zero zL1)] false)
 (.seq (.reg [o 3 (.mov (.c (.ns 5)))] false)
 (.seq (.seq (.reg [o 4 (.mov (.c zI))] false)
 (.block 0 (.loop Qkt Q1or)))
 (.seq (.reg [oM 19 3,
 o 20 (.build zL1 [(0, 1, .c (iN 4)), (3, 1, 19)]),
 oS 5 2 20] false)
 (.ret))))
def K2d : IFn := ⟨1, 21, [.cell 2 5 true], false, Q23z⟩
def Qkq : List Nat := [100053, 0, 2, 3, 4]
def Q1oo : IR :=
 .seq (.seq (.reg [oM 5 4,
 oM 6 0,
 oN 7 6,
 o 8 (.bin .lss 5 7)] false)
 (.cond 8 (.skip)
 (.exit 0)))
 (.seq (.block 1 (.reg [oM 11 3,
 oM 12 0,
 oM 13 4,
 oI 14 2 12 13,
 oL 15 2 14,
 oC 16 168 ([15]),
 o 17 (.lit 5 1 zL1 [(0, 16)]),
 oJ 18 5 80 11 17,
 oM 3 18] false))
 (.reg [oM 9 4,
 oA 10 9,
 oM 4 10] false))
def Q23s : IR :=
 .seq (.reg [o 2 (.zero zL1)] false)
 (.seq (.reg [o 3 (.mov (.c (.ns 5)))] false)
 (.seq (.seq (.reg [o 4 (.mov (.c zI))] false)
 (.block 0 (.loop Qkq Q1oo)))
 (.seq (.reg [oM 19 3,
 o 20 (.build zL1 [(0, 1, .c (iN 4)), (3, 1, 19)]),
 oS 5 2 20] false)
 (.ret))))
def K21 : IFn := ⟨1, 21, [.cell 2 5 true], false, Q23s⟩
def Qlh : List Nat := [100054, 3, 9, 18, 19, 20]
def Q1pf : IR :=
 .seq (.reg [o 21 (.bin .lss 20 19)] false)
 (.seq (.cond 21 (.skip)
 (.exit 0))
 (.seq (.block 1 (.seq (.reg [oI 22 5 18 20,
 oL 23 5 22,
 o 11 (.zero zL1),
 oS 5 11 23] false)
 (.reg [oM 24 9,
 oM 25 3,
 oL 26 5 11,
 o 27 (.call false 25 [26]),
 o 28 (.lit 1 1 [zI] [(0, 27)]),
 oJ 29 1 8 24 28,
 oM 9 29] false)))
 (.reg [oA 30 20,
 oM 20 30] false)))
def Q25y : IR :=
 .seq (.reg [o 5 (.box 5 1),
 o 8 (.mov (.c (.ns 1)))] false)
 (.seq (.reg [o 9 (.mov (.c (.ns 1)))] false)
 (.seq (.seq (.reg [oM 12 0,
 oM 13 0,
 oL 14 5 5,
 oM 15 2,
 oC 16 76 ([13, 14, 15]),
 oC 17 174 ([12, 16, .c (iN 4)]),
 o 18 (.field 3 1 false 17),
 oN 19 18,
 o 20 (.mov (.c zI))] false)
 (.block 0 (.loop Qlh Q1pf)))
 (.seq (.reg [oM 31 9,
 oM 8 31] false)
 (.ret))))
def K6p : IFn := ⟨4, 32, [.tmp 8], false, Q25y⟩
def Q25h : IR :=
 .seq (.reg [o 2 (.box 5 0),
 o 3 (.mov (.c zI))] false)
 (.seq (.reg [oK 4 1 1,
 oL 5 5 2,
 oC 6 174 ([4, 5, .c (iN 2)]),
 o 7 (.field 1 1 false 6),
 oM 3 7] false)
 (.ret))
def K64 : IFn := ⟨2, 8, [.tmp 3], false, Q25h⟩
def Q23n : IR :=
 .seq (.reg [o 6 (.mov (.c (zS)))] false)
 (.seq (.reg [oM 7 0,
 o 8 (.bin .add 7 (.c (.str ⟨#[47]⟩))),
 oM 9 1,
 o 10 (.bin .add 8 9),
 o 11 (.bin .add 10 (.c (.str ⟨#[47]⟩))),
 oM 12 2,
 o 13 (.bin .add 11 12),
 oM 6 13] false)
 (.ret))
def K1w : IFn := ⟨3, 14, [.tmp 6], false, Q23n⟩
def Q13r : List Nat := [100058, 3, 9, 18, 19, 20]
def Q1wc : IR :=
 .seq (.reg [o 21 (.bin .lss 20 19)] false)
 (.seq (.cond 21 (.skip)
 (.exit 0))
 (.seq (.block 1 (.seq (.reg [oI 22 5 18 20,
 oL 23 5 22,
 o 11 (.zero zL1),
 oS 5 11 23] false)
 (.reg [oM 24 9,
 oM 25 3,
 oL 26 5 11,
 o 27 (.call false 25 [26]),
 o 28 (.lit 3 1 [zS, zI, zI] [(0, 27)]),
 oJ 29 3 32 24 28,
 oM 9 29] false)))
 (.reg [oA 30 20,
 oM 20 30] false)))
def Q25z : IR :=
 .seq (.reg [o 5 (.box 5 1),
 o 8 (.mov (.c (.ns 3)))] false)
 (.seq (.reg [o 9 (.mov (.c (.ns 3)))] false)
 (.seq (.seq (.reg [oM 12 0,
 oM 13 0,
 oL 14 5 5,
 oM 15 2,
 oC 16 76 ([13, 14, 15]),
 oC 17 174 ([12, 16, .c (iN 4)]),
 o 18 (.field 3 1 false 17),
 oN 19 18,
 o 20 (.mov (.c zI))] false)
 (.block 0 (.loop Q13r Q1wc)))
 (.seq (.reg [oM 31 9,
 oM 8 31] false)
 (.ret))))
def K6q : IFn := ⟨4, 32, [.tmp 8], false, Q25z⟩
def Q25l : IR :=
 .seq (.reg [o 2 (.box 5 0),
 o 3 (.zero [zS, zI, zI])] false)
 (.seq (.reg [oK 4 1 1,
 oL 5 5 2,
 oD 6 89 ([4, 5, sA31]) [0, 1],
 oK 7 1 1,
 oL 8 5 2,
 oD 9 71 ([7, 8, .c (.str ⟨#[112, 111, 114, 116]⟩)]) (rg 0 5),
 oK 10 1 1,
 oL 11 5 2,
 oD 12 71 ([10, 11, .c (.str ⟨#[116, 97, 114, 103, 101, 116]⟩)]) (rg 0 8),
 ob 13 (.build [zS, zI, zI] [(0, 1, 6), (1, 1, 9), (2, 1, 12)]) (rg 0 9),
 ⟨none, none, .store 3 3 13, (rg 0 10)⟩] true)
 (.ret))
def K68 : IFn := ⟨2, 14, [.cell 3 3 true], false, Q25l⟩
def Q249 : IR :=
 .seq (.reg [o 1 (.box 3 0),
 o 2 (.zero zL1)] false)
 (.seq (.reg [oF 3 0 1,
 oE 4 1 3 [0],
 oD 5 164 ([4]) [0, 1],
 ob 6 (.build zL0 [(0, 1, sA86), (1, 5, 5)]) [0, 1, 2],
 oF 7 1 1,
 oE 8 1 7 [4],
 oD 9 164 ([8]) [0, 1, 2, 4, 5],
 ob 10 (.build zL0 [(0, 1, sA23), (1, 5, 9)]) [0, 1, 2, 4, 5, 6],
 oF 11 2 1,
 oE 12 1 11 [8],
 oD 13 164 ([12]) [0, 1, 2, 4, 5, 6, 8, 9],
 ob 14 (.build zL0 [(0, 1, sA3), (1, 5, 13)]) [0, 1, 2, 4, 5, 6, 8, 9, 10],
 ob 15 (.lit 6 3 zL0 [(0, 6), (1, 10), (2, 14)]) (rg 0 12),
 oD 16 163 ([15]) (rg 0 13),
 ⟨none, none, .store 5 2 16, (rg 0 14)⟩] true)
 (.ret))
def K2r : IFn := ⟨1, 17, [.cell 2 5 true], false, Q249⟩
def Ql2 : List Nat := [100060, 0, 2, 3, 4]
def Q1p0 : IR :=
 .seq (.seq (.reg [oM 5 4,
 oM 6 0,
 oN 7 6,
 o 8 (.bin .lss 5 7)] false)
 (.cond 8 (.skip)
 (.exit 0)))
 (.seq (.block 1 (.reg [oM 11 3,
 oM 12 0,
 oM 13 4,
 oI 14 1 12 13,
 oK 15 1 14,
 oC 16 169 ([15]),
 o 17 (.lit 5 1 zL1 [(0, 16)]),
 oJ 18 5 80 11 17,
 oM 3 18] false))
 (.reg [oM 9 4,
 oA 10 9,
 oM 4 10] false))
def Q24d : IR :=
 .seq (.reg [o 2 (.zero zL1)] false)
 (.seq (.reg [o 3 (.mov (.c (.ns 5)))] false)
 (.seq (.seq (.reg [o 4 (.mov (.c zI))] false)
 (.block 0 (.loop Ql2 Q1p0)))
 (.seq (.reg [oM 19 3,
 o 20 (.build zL1 [(0, 1, .c (iN 4)), (3, 1, 19)]),
 oS 5 2 20] false)
 (.ret))))
def K2x : IFn := ⟨1, 21, [.cell 2 5 true], false, Q24d⟩
def Qku : List Nat := [100061, 0, 2, 3, 4]
def Q1os : IR :=
 .seq (.seq (.reg [oM 5 4,
 oM 6 0,
 oN 7 6,
 o 8 (.bin .lss 5 7)] false)
 (.cond 8 (.skip)
 (.exit 0)))
 (.seq (.block 1 (.reg [oM 11 3,
 oM 12 0,
 oM 13 4,
 ob 14 (.iaddr 2 12 13) [1, 2],
 ob 15 (.faddr 0 14) [1, 2, 3],
 oE 16 1 15 [1, 2, 3, 4],
 oD 17 169 ([16]) (rg 1 6),
 ob 18 (.build zL0 [(0, 1, sA19), (1, 5, 17)]) (rg 1 7),
 oM 19 0,
 oM 20 4,
 ob 21 (.iaddr 2 19 20) [8, 9],
 ob 22 (.faddr 1 21) [8, 9, 10],
 oE 23 1 22 [8, 9, 10, 11],
 oD 24 169 ([23]) (rg 1 7 ++ rg 8 13),
 ob 25 (.build zL0 [(0, 1, sA71), (1, 5, 24)]) (rg 1 7 ++ rg 8 14),
 ob 26 (.lit 6 2 zL0 [(0, 18), (1, 25)]) (rg 1 15),
 oD 27 163 ([26]) (rg 1 16),
 ob 28 (.lit 5 1 zL1 [(0, 27)]) (rg 1 17),
 ob 29 (.append 5 80 11 28) (rg 0 18),
 ob 3 (.mov 29) (rg 0 19)] true))
 (.reg [oM 9 4,
 oA 10 9,
 oM 4 10] false))
def Q242 : IR :=
 .seq (.reg [o 2 (.zero zL1)] false)
 (.seq (.reg [o 3 (.mov (.c (.ns 5)))] false)
 (.seq (.seq (.reg [o 4 (.mov (.c zI))] false)
 (.block 0 (.loop Qku Q1os)))
 (.seq (.reg [oM 30 3,
 o 31 (.build zL1 [(0, 1, .c (iN 4)), (3, 1, 30)]),
 oS 5 2 31] false)
 (.ret))))
def K2g : IFn := ⟨1, 32, [.cell 2 5 true], false, Q242⟩
def Q245 : IR :=
 .seq (.reg [o 1 (.box 10 0),
 o 2 (.zero zL1)] false)
 (.seq (.reg [oF 3 0 1,
 oE 4 1 3 [0],
 oD 5 169 ([4]) [0, 1],
 ob 6 (.build zL0 [(0, 1, sA30), (1, 5, 5)]) [0, 1, 2],
 oF 7 1 1,
 oE 8 1 7 [4],
 oD 9 164 ([8]) [0, 1, 2, 4, 5],
 ob 10 (.build zL0 [(0, 1, sA39), (1, 5, 9)]) [0, 1, 2, 4, 5, 6],
 oF 11 2 1,
 oE 12 1 11 [8],
 oD 13 164 ([12]) [0, 1, 2, 4, 5, 6, 8, 9],
 ob 14 (.build zL0 [(0, 1, sA46), (1, 5, 13)]) [0, 1, 2, 4, 5, 6, 8, 9, 10],
 oF 15 3 1,
 oE 16 1 15 [12],
 oD 17 164 ([16]) [0, 1, 2, 4, 5, 6, 8, 9, 10, 12, 13],
 ob 18 (.build zL0 [(0, 1, sA12), (1, 5, 17)]) [0, 1, 2, 4, 5, 6, 8, 9, 10, 12, 13, 14],
 oF 19 4 1,
 oE 20 1 19 [16],
 oD 21 233 ([20]) [0, 1, 2, 4, 5, 6, 8, 9, 10, 12, 13, 14, 16, 17],
 ob 22 (.build zL0 [(0, 1, sA85), (1, 5, 21)]) [0, 1, 2, 4, 5, 6, 8, 9, 10, 12, 13, 14, 16, 17, 18],
 oF 23 5 1,
 oE 24 1 23 [20],
 oD 25 165 ([24]) [0, 1, 2, 4, 5, 6, 8, 9, 10, 12, 13, 14, 16, 17, 18, 20, 21],
 ob 26 (.build zL0 [(0, 1, sA28), (1, 5, 25)]) [0, 1, 2, 4, 5, 6, 8, 9, 10, 12, 13, 14, 16, 17, 18, 20, 21, 22],
 oF 27 6 1,
 oE 28 1 27 [24],
 oD 29 234 ([28]) [0, 1, 2, 4, 5, 6, 8, 9, 10, 12, 13, 14, 16, 17, 18, 20, 21, 22, 24, 25],
 ob 30 (.build zL0 [(0, 1, sA29), (1, 5, 29)]) [0, 1, 2, 4, 5, 6, 8, 9, 10, 12, 13, 14, 16, 17, 18, 20, 21, 22, 24, 25, 26],
 oF 31 7 1,
 oE 32 1 31 [28],
 oD 33 235 ([32]) [0, 1, 2, 4, 5, 6, 8, 9, 10, 12, 13, 14, 16, 17, 18, 20, 21, 22, 24, 25, 26, 28, 29],
 ob 34 (.build zL0 [(0, 1, sA38), (1, 5, 33)]) [0, 1, 2, 4, 5, 6, 8, 9, 10, 12, 13, 14, 16, 17, 18, 20, 21, 22, 24, 25, 26, 28, 29, 30],
 oF 35 8 1,
 oE 36 1 35 [32],
 oD 37 236 ([36]) [0, 1, 2, 4, 5, 6, 8, 9, 10, 12, 13, 14, 16, 17, 18, 20, 21, 22, 24, 25, 26, 28, 29, 30, 32, 33],
 ob 38 (.build zL0 [(0, 1, sA55), (1, 5, 37)]) [0, 1, 2, 4, 5, 6, 8, 9, 10, 12, 13, 14, 16, 17, 18, 20, 21, 22, 24, 25, 26, 28, 29, 30, 32, 33, 34],
 oF 39 9 1,
 oE 40 1 39 [36],
 oD 41 237 ([40]) [0, 1, 2, 4, 5, 6, 8, 9, 10, 12, 13, 14, 16, 17, 18, 20, 21, 22, 24, 25, 26, 28, 29, 30, 32, 33, 34, 36, 37],
 ob 42 (.build zL0 [(0, 1, sA64), (1, 5, 41)]) [0, 1, 2, 4, 5, 6, 8, 9, 10, 12, 13, 14, 16, 17, 18, 20, 21, 22, 24, 25, 26, 28, 29, 30, 32, 33, 34, 36, 37, 38],
 ob 43 (.lit 6 10 zL0 [(0, 6), (1, 10), (2, 14), (3, 18), (4, 22), (5, 26), (6, 30), (7, 34), (8, 38), (9, 42)]) (rg 0 40),
 oD 44 163 ([43]) (rg 0 41),
 ⟨none, none, .store 5 2 44, (rg 0 42)⟩] true)
 (.ret))
def K2k : IFn := ⟨1, 45, [.cell 2 5 true], false, Q245⟩
def Ko_c : IR :=
 .seq (.reg [o 3 (.box 5 1),
 o 4 (.zero zL1)] false)
 (.seq (.reg [oM 5 0,
 oM 6 0,
 o 7 (.nilck 6),
 oF 8 0 7,
 oK 9 1 8,
 oM 10 9,
 gF 11 10 (.faddr 0 3),
 gF 12 10 (.load 1 false 11),
 gF 13 10 (.bin .neq 12 (.c (iN 5))),
 gF 14 10 (.mov 13),
 gT 15 14 (.faddr 0 3),
 gT 16 14 (.load 1 false 15),
 gT 17 14 (.bin .neq 16 (.c zI)),
 gF 18 10 (.pick 14 17 (.c zB)),
 oQ 19 10 18,
 o 20 (.nilck 5),
 oF 21 0 20,
 oS 1 21 19] false)
 (.seq (.reg [oL 22 5 3,
 oS 5 4 22] false)
 (.ret)))
def Ko : IFn := ⟨2, 23, [.cell 4 5 true], false, Ko_c⟩
def Qq8 : List Nat := [100062, 3, 9, 16, 17, 18]
def Q1we : IR :=
 .seq (.reg [o 19 (.bin .lss 18 17)] false)
 (.seq (.cond 19 (.skip)
 (.exit 0))
 (.seq (.block 1 (.seq (.reg [oI 20 5 16 18,
 oL 21 5 20,
 o 11 (.zero zL1),
 oS 5 11 21] false)
 (.reg [oM 22 9,
 oM 23 3,
 oL 24 5 11,
 o 25 (.call false 23 [24]),
 o 26 (.lit 2 1 [zS, zS] [(0, 25)]),
 oJ 27 2 32 22 26,
 oM 9 27] false)))
 (.reg [oA 28 18,
 oM 18 28] false)))
def Ks_c : IR :=
 .seq (.reg [o 5 (.box 5 1),
 o 8 (.mov (.c (.ns 2)))] false)
 (.seq (.reg [o 9 (.mov (.c (.ns 2)))] false)
 (.seq (.seq (.reg [oM 12 0,
 oL 13 5 5,
 oM 14 2,
 oC 15 238 ([12, 13, 14, .c (iN 4)]),
 o 16 (.field 3 1 false 15),
 oN 17 16,
 o 18 (.mov (.c zI))] false)
 (.block 0 (.loop Qq8 Q1we)))
 (.seq (.reg [oM 29 9,
 oM 8 29] false)
 (.ret))))
def Ks : IFn := ⟨4, 30, [.tmp 8], false, Ks_c⟩
def Ke_c : IR :=
 .seq (.reg [o 3 (.box 5 1),
 o 4 (.zero [zS, zS])] false)
 (.seq (.reg [oM 5 0,
 oL 6 5 3,
 oC 7 215 ([5, 6])] false)
 (.seq (.reg [oM 8 0,
 oL 9 5 3,
 oD 10 239 ([8, 9, sA19]) [0, 1],
 oM 11 0,
 oL 12 5 3,
 oD 13 239 ([11, 12, sA71]) (rg 0 5),
 ob 14 (.build [zS, zS] [(0, 1, 10), (1, 1, 13)]) (rg 0 6),
 ⟨none, none, .store 2 4 14, (rg 0 7)⟩] true)
 (.ret)))
def Ke : IFn := ⟨2, 15, [.cell 4 2 true], false, Ke_c⟩
def Kl_c : IR :=
 .seq (.reg [o 3 (.box 5 1),
 o 4 (.zero zL11)] false)
 (.seq (.reg [oM 5 0,
 oL 6 5 3,
 oC 7 215 ([5, 6])] false)
 (.seq (.reg [oM 8 0,
 oL 9 5 3,
 oD 10 239 ([8, 9, sA30]) [0, 1],
 oM 11 0,
 oL 12 5 3,
 oD 13 240 ([11, 12, sA39]) (rg 0 5),
 oM 14 0,
 oL 15 5 3,
 oD 16 240 ([14, 15, sA46]) (rg 0 8),
 oM 17 0,
 oL 18 5 3,
 oD 19 240 ([17, 18, sA12]) (rg 0 11),
 oM 20 0,
 oL 21 5 3,
 oM 22 0,
 ob 23 (.mkfn 242 [22] []) [14],
 oD 24 241 ([20, 21, sA85, 23]) (rg 0 16),
 oM 25 0,
 oL 26 5 3,
 oM 27 0,
 ob 28 (.mkfn 244 [27] []) [19],
 oD 29 243 ([25, 26, sA28, 28]) (rg 0 21),
 oM 30 0,
 oL 31 5 3,
 oM 32 0,
 ob 33 (.mkfn 246 [32] []) [24],
 oD 34 245 ([30, 31, sA29, 33]) (rg 0 26),
 oM 35 0,
 oL 36 5 3,
 oM 37 0,
 ob 38 (.mkfn 248 [37] []) [29],
 oD 39 247 ([35, 36, sA38, 38]) (rg 0 31),
 oM 40 0,
 oL 41 5 3,
 oM 42 0,
 ob 43 (.mkfn 250 [42] []) [34],
 oD 44 249 ([40, 41, sA55, 43]) (rg 0 36),
 oM 45 0,
 oL 46 5 3,
 oM 47 0,
 ob 48 (.mkfn 252 [47] []) [39],
 oD 49 251 ([45, 46, sA64, 48]) (rg 0 41),
 ob 50 (.build zL11 [(0, 1, 10), (1, 1, 13), (2, 1, 16), (3, 1, 19), (4, 1, 24), (5, 1, 29), (6, 1, 34), (7, 1, 39), (8, 1, 44), (9, 1, 49)]) (rg 0 42),
 ⟨none, none, .store 10 4 50, (rg 0 43)⟩] true)
 (.ret)))
def Kl : IFn := ⟨2, 51, [.cell 4 10 true], false, Kl_c⟩
def Kp_c : IR :=
 .seq (.reg [o 4 (.box 5 1),
 o 6 (.zero zL1)] false)
 (.seq (.reg [oM 7 0,
 oL 8 5 4,
 oM 9 2,
 oC 10 238 ([7, 8, 9, .c (iN 5)]),
 oS 5 6 10] false)
 (.ret))
def Kp : IFn := ⟨3, 11, [.cell 6 5 true], false, Kp_c⟩
def Q13q : List Nat := [100065, 0, 1, 2, 6, 7, 8]
def Q1wb : IR :=
 .seq (.seq (.reg [oM 33 8,
 oM 34 1,
 o 35 (.bin .leq 33 34)] false)
 (.cond 35 (.skip)
 (.exit 4)))
 (.block 5 (.seq (.reg [oM 36 0,
 oM 37 7,
 oM 38 7,
 oM 39 6,
 o 40 (.bin .add 38 39),
 oM 41 8,
 oM 42 2,
 oC 43 254 ([36, 37, 40, 41, 42])] false)
 (.seq (.reg [oM 44 8,
 oM 7 44] false)
 (.reg [oM 45 8,
 oM 46 6,
 o 47 (.bin .mul (.c (iN 2)) 46),
 o 48 (.bin .add 45 47),
 oM 8 48] false))))
def Ql7 : List Nat := [100064, 0, 1, 2, 6]
def Q1p5 : IR :=
 .seq (.seq (.reg [oM 28 6,
 oM 29 1,
 o 30 (.bin .lss 28 29)] false)
 (.cond 30 (.skip)
 (.exit 2)))
 (.block 3 (.seq (.reg [oM 31 6,
 o 32 (.bin .mul (.c (iN 2)) 31),
 o 7 (.mov (.c zI)),
 oM 8 32] false)
 (.seq (.block 4 (.loop Q13q Q1wb))
 (.seq (.seq (.reg [oM 49 7,
 oM 50 6,
 o 51 (.bin .add 49 50),
 oM 9 51] false)
 (.seq (.reg [oM 52 9,
 oM 53 1,
 o 54 (.bin .lss 52 53)] false)
 (.cond 54 (.reg [oM 55 0,
 oM 56 7,
 oM 57 9,
 oM 58 1,
 oM 59 2,
 oC 60 254 ([55, 56, 57, 58, 59])] false)
 (.skip))))
 (.reg [oM 61 6,
 o 62 (.bin .mul 61 (.c (iN 2))),
 oM 6 62] false)))))
def Ql6 : List Nat := [100063, 0, 1, 2, 6, 7, 8]
def Q1p4 : IR :=
 .seq (.seq (.reg [oM 11 8,
 oM 12 1,
 o 13 (.bin .leq 11 12)] false)
 (.cond 13 (.skip)
 (.exit 0)))
 (.block 1 (.seq (.reg [oM 14 0,
 oM 15 7,
 oM 16 8,
 oM 17 2,
 o 18 (.call true (.f 253) [14, 15, 16, 17])] false)
 (.seq (.reg [oM 19 8,
 oM 7 19] false)
 (.reg [oM 20 8,
 oM 21 6,
 o 22 (.bin .add 20 21),
 oM 8 22] false))))
def Q24o : IR :=
 .seq (.reg [o 6 (.mov (.c (iN 20)))] false)
 (.seq (.reg [oM 10 6,
 o 7 (.mov (.c zI)),
 oM 8 10] false)
 (.seq (.block 0 (.loop Ql6 Q1p4))
 (.seq (.reg [oM 23 0,
 oM 24 7,
 oM 25 1,
 oM 26 2,
 o 27 (.call true (.f 253) [23, 24, 25, 26])] false)
 (.block 2 (.loop Ql7 Q1p5)))))
def K4u : IFn := ⟨3, 63, [], false, Q24o⟩
def Qll : List Nat := [100066, 1, 4, 5, 8, 9, 10]
def Q1pj : IR :=
 .seq (.reg [o 11 (.bin .lss 10 9)] false)
 (.seq (.cond 11 (.skip)
 (.exit 0))
 (.seq (.block 1 (.seq (.reg [oI 12 3 8 10,
 oL 13 3 12,
 o 7 (.zero [zS, zI, .ns 1]),
 oS 3 7 13] false)
 (.reg [oM 14 5,
 oM 15 1,
 oL 16 3 7,
 o 17 (.call false 15 [16]),
 o 18 (.lit 5 1 zL1 [(0, 17)]),
 oJ 19 5 80 14 18,
 oM 5 19] false)))
 (.reg [oA 20 10,
 oM 10 20] false)))
def Q269 : IR :=
 .seq (.reg [o 4 (.zero zL1)] false)
 (.seq (.reg [o 5 (.mov (.c (.ns 5)))] false)
 (.seq (.seq (.reg [oM 8 0,
 oN 9 8,
 o 10 (.mov (.c zI))] false)
 (.block 0 (.loop Qll Q1pj)))
 (.seq (.reg [oM 21 5,
 o 22 (.build zL1 [(0, 1, .c (iN 4)), (3, 1, 21)]),
 oS 5 4 22] false)
 (.ret))))
def K72 : IFn := ⟨2, 23, [.cell 4 5 true], false, Q269⟩
def Q264 : IR :=
 .seq (.reg [o 1 (.box 3 0),
 o 2 (.zero zL1)] false)
 (.seq (.reg [oF 3 0 1,
 oE 4 1 3 [0],
 oD 5 95 ([sA19, 4]) [0, 1],
 oF 6 1 1,
 oE 7 1 6 [3],
 oD 8 79 ([sA33, 7]) (rg 0 5),
 oF 9 2 1,
 oE 10 1 9 [6],
 oD 11 225 ([10, .f 193]) (rg 0 8),
 oD 12 83 ([sA70, 11]) (rg 0 9),
 ob 13 (.lit 6 3 zL0 [(0, 5), (1, 8), (2, 12)]) (rg 0 10),
 oD 14 78 ([13]) (rg 0 11),
 ⟨none, none, .store 5 2 14, (rg 0 12)⟩] true)
 (.ret))
def K6w : IFn := ⟨1, 15, [.cell 2 5 true], false, Q264⟩
def Qlm : List Nat := [100067, 1, 4, 5, 8, 9, 10]
def Q1pk : IR :=
 .seq (.reg [o 11 (.bin .lss 10 9)] false)
 (.seq (.cond 11 (.skip)
 (.exit 0))
 (.seq (.block 1 (.seq (.reg [oI 12 1 8 10,
 oK 13 1 12,
 oM 7 13] false)
 (.reg [oM 14 5,
 oM 15 1,
 oM 16 7,
 o 17 (.call false 15 [16]),
 o 18 (.lit 5 1 zL1 [(0, 17)]),
 oJ 19 5 80 14 18,
 oM 5 19] false)))
 (.reg [oA 20 10,
 oM 10 20] false)))
def Q26a : IR :=
 .seq (.reg [o 4 (.zero zL1)] false)
 (.seq (.reg [o 5 (.mov (.c (.ns 5)))] false)
 (.seq (.seq (.reg [oM 8 0,
 oN 9 8,
 o 10 (.mov (.c zI))] false)
 (.block 0 (.loop Qlm Q1pk)))
 (.seq (.reg [oM 21 5,
 o 22 (.build zL1 [(0, 1, .c (iN 4)), (3, 1, 21)]),
 oS 5 4 22] false)
 (.ret))))
def K73 : IFn := ⟨2, 23, [.cell 4 5 true], false, Q26a⟩
def Q232 : IR :=
 .seq (.reg [o 3 (.box 5 1),
 o 4 (.zero zL0)] false)
 (.seq (.reg [oM 5 0,
 oL 6 5 3,
 o 7 (.build zL0 [(0, 1, 5), (1, 5, 6)]),
 oS 6 4 7] false)
 (.ret))
def K1b : IFn := ⟨2, 8, [.cell 4 6 true], false, Q232⟩
def Qk9 : List Nat := [100068, 1, 4, 5, 8, 9, 10]
def Q1o7 : IR :=
 .seq (.reg [o 11 (.bin .lss 10 9)] false)
 (.seq (.cond 11 (.skip)
 (.exit 0))
 (.seq (.block 1 (.seq (.reg [oI 12 2 8 10,
 oL 13 2 12,
 o 7 (.zero [zS, zS]),
 oS 2 7 13] false)
 (.reg [oM 14 5,
 oM 15 1,
 oL 16 2 7,
 o 17 (.call false 15 [16]),
 o 18 (.lit 5 1 zL1 [(0, 17)]),
 oJ 19 5 80 14 18,
 oM 5 19] false)))
 (.reg [oA 20 10,
 oM 10 20] false)))
def Q233 : IR :=
 .seq (.reg [o 4 (.zero zL1)] false)
 (.seq (.reg [o 5 (.mov (.c (.ns 5)))] false)
 (.seq (.seq (.reg [oM 8 0,
 oN 9 8,
 o 10 (.mov (.c zI))] false)
 (.block 0 (.loop Qk9 Q1o7)))
 (.seq (.reg [oM 21 5,
 oC 22 256 ([21]),
 oS 5 4 22] false)
 (.ret))))
def K1c : IFn := ⟨2, 23, [.cell 4 5 true], false, Q233⟩
def Q22t : IR :=
 .seq (.reg [o 1 (.box 2 0),
 o 2 (.zero zL1)] false)
 (.seq (.reg [oF 3 0 1,
 oE 4 1 3 [0],
 oD 5 193 ([4]) [0, 1],
 oD 6 226 ([sA19, 5]) [0, 1, 2],
 oF 7 1 1,
 oE 8 1 7 [4],
 oD 9 193 ([8]) (rg 0 6),
 oD 10 226 ([sA71, 9]) (rg 0 7),
 ob 11 (.lit 6 2 zL0 [(0, 6), (1, 10)]) (rg 0 8),
 oD 12 78 ([11]) (rg 0 9),
 ⟨none, none, .store 5 2 12, (rg 0 10)⟩] true)
 (.ret))
def K12 : IFn := ⟨1, 13, [.cell 2 5 true], false, Q22t⟩
def Q22z : IR :=
 .seq (.reg [o 1 (.box 10 0),
 o 2 (.zero zL1)] false)
 (.seq (.reg [oF 3 4 1,
 oE 4 1 3 [0],
 oD 5 257 ([4, .f 258]) [0, 1],
 oD 6 226 ([sA85, 5]) [0, 1, 2],
 oF 7 3 1,
 oE 8 1 7 [4],
 oD 9 109 ([8]) (rg 0 6),
 oD 10 226 ([sA12, 9]) (rg 0 7),
 oF 11 0 1,
 oE 12 1 11 [8],
 oD 13 193 ([12]) (rg 0 10),
 oD 14 226 ([sA30, 13]) (rg 0 11),
 oF 15 5 1,
 oE 16 1 15 [12],
 oD 17 259 ([16, .f 260]) (rg 0 14),
 oD 18 226 ([sA28, 17]) (rg 0 15),
 oF 19 6 1,
 oE 20 1 19 [16],
 oD 21 261 ([20, .f 262]) (rg 0 18),
 oD 22 226 ([sA29, 21]) (rg 0 19),
 oF 23 7 1,
 oE 24 1 23 [20],
 oD 25 263 ([24, .f 264]) (rg 0 22),
 oD 26 226 ([sA38, 25]) (rg 0 23),
 oF 27 1 1,
 oE 28 1 27 [24],
 oD 29 109 ([28]) (rg 0 26),
 oD 30 226 ([sA39, 29]) (rg 0 27),
 oF 31 2 1,
 oE 32 1 31 [28],
 oD 33 109 ([32]) (rg 0 30),
 oD 34 226 ([sA46, 33]) (rg 0 31),
 oF 35 8 1,
 oE 36 1 35 [32],
 oD 37 265 ([36, .f 266]) (rg 0 34),
 oD 38 226 ([sA55, 37]) (rg 0 35),
 oF 39 9 1,
 oE 40 1 39 [36],
 oD 41 267 ([40, .f 268]) (rg 0 38),
 oD 42 226 ([sA64, 41]) (rg 0 39),
 ob 43 (.lit 6 10 zL0 [(0, 6), (1, 10), (2, 14), (3, 18), (4, 22), (5, 26), (6, 30), (7, 34), (8, 38), (9, 42)]) (rg 0 40),
 oD 44 78 ([43]) (rg 0 41),
 ⟨none, none, .store 5 2 44, (rg 0 42)⟩] true)
 (.ret))
def K18 : IFn := ⟨1, 45, [.cell 2 5 true], false, Q22z⟩
def Q23k : IR :=
 .seq (.reg [o 4 (.mov (.c zI))] false)
 (.seq (.seq (.reg [oM 5 0] false)
 (.cond 5 (.seq (.reg [o 4 (.mov (.c (iN (-1))))] false)
 (.ret))
 (.skip)))
 (.seq (.seq (.reg [oM 6 1] false)
 (.cond 6 (.seq (.reg [o 4 (.mov (.c (iN 1)))] false)
 (.ret))
 (.skip)))
 (.seq (.reg [o 4 (.mov (.c zI))] false)
 (.ret))))
def K1t : IFn := ⟨2, 7, [.tmp 4], false, Q23k⟩
def Qks : List Nat := [100071, 0, 2, 3, 4]
def Q1oq : IR :=
 .seq (.seq (.reg [oM 6 4,
 oM 7 0,
 oN 8 7,
 o 9 (.bin .lss 6 8)] false)
 (.cond 9 (.skip)
 (.exit 0)))
 (.seq (.block 1 (.seq (.reg [oM 12 0,
 oM 13 4,
 oI 14 11 12 13,
 oL 15 11 14,
 o 5 (.zero zL9),
 oS 11 5 15] false)
 (.reg [oM 16 3,
 oF 17 0 5,
 oE 18 1 17 [1],
 oD 19 169 ([18]) [1, 2],
 ob 20 (.build zL0 [(0, 1, sA31), (1, 5, 19)]) [1, 2, 3],
 oF 21 1 5,
 oE 22 1 21 [5],
 oD 23 169 ([22]) [1, 2, 3, 5, 6],
 ob 24 (.build zL0 [(0, 1, sA17), (1, 5, 23)]) [1, 2, 3, 5, 6, 7],
 oF 25 2 5,
 ob 26 (.load 3 true 25) [9],
 oD 27 211 ([26]) [1, 2, 3, 5, 6, 7, 9, 10],
 ob 28 (.build zL0 [(0, 1, sA44), (1, 5, 27)]) [1, 2, 3, 5, 6, 7, 9, 10, 11],
 oF 29 5 5,
 ob 30 (.load 3 true 29) [13],
 oD 31 211 ([30]) [1, 2, 3, 5, 6, 7, 9, 10, 11, 13, 14],
 ob 32 (.build zL0 [(0, 1, sA20), (1, 5, 31)]) [1, 2, 3, 5, 6, 7, 9, 10, 11, 13, 14, 15],
 oF 33 8 5,
 oE 34 1 33 [17],
 oD 35 274 ([34]) [1, 2, 3, 5, 6, 7, 9, 10, 11, 13, 14, 15, 17, 18],
 ob 36 (.build zL0 [(0, 1, sA21), (1, 5, 35)]) [1, 2, 3, 5, 6, 7, 9, 10, 11, 13, 14, 15, 17, 18, 19],
 oF 37 9 5,
 oE 38 1 37 [21],
 oD 39 274 ([38]) [1, 2, 3, 5, 6, 7, 9, 10, 11, 13, 14, 15, 17, 18, 19, 21, 22],
 ob 40 (.build zL0 [(0, 1, sA50), (1, 5, 39)]) [1, 2, 3, 5, 6, 7, 9, 10, 11, 13, 14, 15, 17, 18, 19, 21, 22, 23],
 oF 41 10 5,
 oE 42 1 41 [25],
 oD 43 274 ([42]) [1, 2, 3, 5, 6, 7, 9, 10, 11, 13, 14, 15, 17, 18, 19, 21, 22, 23, 25, 26],
 ob 44 (.build zL0 [(0, 1, sA58), (1, 5, 43)]) [1, 2, 3, 5, 6, 7, 9, 10, 11, 13, 14, 15, 17, 18, 19, 21, 22, 23, 25, 26, 27],
 ob 45 (.lit 6 7 zL0 [(0, 20), (1, 24), (2, 28), (3, 32), (4, 36), (5, 40), (6, 44)]) (rg 1 29),
 oD 46 163 ([45]) (rg 1 30),
 ob 47 (.lit 5 1 zL1 [(0, 46)]) (rg 1 31),
 ob 48 (.append 5 80 16 47) (rg 0 32),
 ob 3 (.mov 48) (rg 0 33)] true)))
 (.reg [oM 10 4,
 oA 11 10,
 oM 4 11] false))
def Q23w : IR :=
 .seq (.reg [o 2 (.zero zL1)] false)
 (.seq (.reg [o 3 (.mov (.c (.ns 5)))] false)
 (.seq (.seq (.reg [o 4 (.mov (.c zI))] false)
 (.block 0 (.loop Qks Q1oq)))
 (.seq (.reg [oM 49 3,
 o 50 (.build zL1 [(0, 1, .c (iN 4)), (3, 1, 49)]),
 oS 5 2 50] false)
 (.ret))))
def K27 : IFn := ⟨1, 51, [.cell 2 5 true], false, Q23w⟩
def Qkx : List Nat := [100072, 0, 2, 3, 4]
def Q1ov : IR :=
 .seq (.seq (.reg [oM 5 4,
 oM 6 0,
 oN 7 6,
 o 8 (.bin .lss 5 7)] false)
 (.cond 8 (.skip)
 (.exit 0)))
 (.seq (.block 1 (.reg [oM 11 3,
 oM 12 0,
 oM 13 4,
 ob 14 (.iaddr 3 12 13) [1, 2],
 ob 15 (.faddr 0 14) [1, 2, 3],
 oE 16 1 15 [1, 2, 3, 4],
 oD 17 167 ([16]) (rg 1 6),
 ob 18 (.build zL0 [(0, 1, sA45), (1, 5, 17)]) (rg 1 7),
 oM 19 0,
 oM 20 4,
 ob 21 (.iaddr 3 19 20) [8, 9],
 ob 22 (.faddr 1 21) [8, 9, 10],
 oE 23 1 22 [8, 9, 10, 11],
 oD 24 165 ([23]) (rg 1 7 ++ rg 8 13),
 ob 25 (.build zL0 [(0, 1, sA52), (1, 5, 24)]) (rg 1 7 ++ rg 8 14),
 oM 26 0,
 oM 27 4,
 ob 28 (.iaddr 3 26 27) [15, 16],
 ob 29 (.faddr 2 28) [15, 16, 17],
 oE 30 1 29 [15, 16, 17, 18],
 oD 31 164 ([30]) (rg 1 7 ++ rg 8 14 ++ rg 15 20),
 ob 32 (.build zL0 [(0, 1, sA72), (1, 5, 31)]) (rg 1 7 ++ rg 8 14 ++ rg 15 21),
 ob 33 (.lit 6 3 zL0 [(0, 18), (1, 25), (2, 32)]) (rg 1 22),
 oD 34 163 ([33]) (rg 1 23),
 ob 35 (.lit 5 1 zL1 [(0, 34)]) (rg 1 24),
 ob 36 (.append 5 80 11 35) (rg 0 25),
 ob 3 (.mov 36) (rg 0 26)] true))
 (.reg [oM 9 4,
 oA 10 9,
 oM 4 10] false))
def Q244 : IR :=
 .seq (.reg [o 2 (.zero zL1)] false)
 (.seq (.reg [o 3 (.mov (.c (.ns 5)))] false)
 (.seq (.seq (.reg [o 4 (.mov (.c zI))] false)
 (.block 0 (.loop Qkx Q1ov)))
 (.seq (.reg [oM 37 3,
 o 38 (.build zL1 [(0, 1, .c (iN 4)), (3, 1, 37)]),
 oS 5 2 38] false)
 (.ret))))
def K2j : IFn := ⟨1, 39, [.cell 2 5 true], false, Q244⟩
def Qky : List Nat := [100073, 0, 2, 3, 4]
def Q1ow : IR :=
 .seq (.seq (.reg [oM 6 4,
 oM 7 0,
 oN 8 7,
 o 9 (.bin .lss 6 8)] false)
 (.cond 9 (.skip)
 (.exit 0)))
 (.seq (.block 1 (.seq (.reg [oM 12 0,
 oM 13 4,
 oI 14 5 12 13,
 oL 15 5 14,
 o 5 (.zero [zB, zB, .ns 3, zS, zI]),
 oS 5 5 15] false)
 (.reg [oM 16 3,
 oF 17 0 5,
 oE 18 1 17 [1],
 oD 19 167 ([18]) [1, 2],
 ob 20 (.build zL0 [(0, 1, sA45), (1, 5, 19)]) [1, 2, 3],
 oF 21 1 5,
 oE 22 1 21 [5],
 oD 23 167 ([22]) [1, 2, 3, 5, 6],
 ob 24 (.build zL0 [(0, 1, sA80), (1, 5, 23)]) [1, 2, 3, 5, 6, 7],
 oF 25 2 5,
 oE 26 1 25 [9],
 oD 27 165 ([26]) [1, 2, 3, 5, 6, 7, 9, 10],
 ob 28 (.build zL0 [(0, 1, sA52), (1, 5, 27)]) [1, 2, 3, 5, 6, 7, 9, 10, 11],
 oF 29 3 5,
 oE 30 1 29 [13],
 oD 31 169 ([30]) [1, 2, 3, 5, 6, 7, 9, 10, 11, 13, 14],
 ob 32 (.build zL0 [(0, 1, sA65), (1, 5, 31)]) [1, 2, 3, 5, 6, 7, 9, 10, 11, 13, 14, 15],
 oF 33 4 5,
 oE 34 1 33 [17],
 oD 35 164 ([34]) [1, 2, 3, 5, 6, 7, 9, 10, 11, 13, 14, 15, 17, 18],
 ob 36 (.build zL0 [(0, 1, sA72), (1, 5, 35)]) [1, 2, 3, 5, 6, 7, 9, 10, 11, 13, 14, 15, 17, 18, 19],
 ob 37 (.lit 6 5 zL0 [(0, 20), (1, 24), (2, 28), (3, 32), (4, 36)]) (rg 1 21),
 oD 38 163 ([37]) (rg 1 22),
 ob 39 (.lit 5 1 zL1 [(0, 38)]) (rg 1 23),
 ob 40 (.append 5 80 16 39) (rg 0 24),
 ob 3 (.mov 40) (rg 0 25)] true)))
 (.reg [oM 10 4,
 oA 11 10,
 oM 4 11] false))
def Q246 : IR :=
 .seq (.reg [o 2 (.zero zL1)] false)
 (.seq (.reg [o 3 (.mov (.c (.ns 5)))] false)
 (.seq (.seq (.reg [o 4 (.mov (.c zI))] false)
 (.block 0 (.loop Qky Q1ow)))
 (.seq (.reg [oM 41 3,
 o 42 (.build zL1 [(0, 1, .c (iN 4)), (3, 1, 41)]),
 oS 5 2 42] false)
 (.ret))))
def K2l : IFn := ⟨1, 43, [.cell 2 5 true], false, Q246⟩
def Ql1 : List Nat := [100074, 0, 2, 3, 4]
def Q1oz : IR :=
 .seq (.seq (.reg [oM 6 4,
 oM 7 0,
 oN 8 7,
 o 9 (.bin .lss 6 8)] false)
 (.cond 9 (.skip)
 (.exit 0)))
 (.seq (.block 1 (.seq (.reg [oM 12 0,
 oM 13 4,
 oI 14 4 12 13,
 oL 15 4 14,
 o 5 (.zero [zI, zS, .ns 3, zB]),
 oS 4 5 15] false)
 (.reg [oM 16 3,
 oF 17 0 5,
 oE 18 1 17 [1],
 oD 19 164 ([18]) [1, 2],
 ob 20 (.build zL0 [(0, 1, sA26), (1, 5, 19)]) [1, 2, 3],
 oF 21 1 5,
 oE 22 1 21 [5],
 oD 23 169 ([22]) [1, 2, 3, 5, 6],
 ob 24 (.build zL0 [(0, 1, sA65), (1, 5, 23)]) [1, 2, 3, 5, 6, 7],
 oF 25 2 5,
 oE 26 1 25 [9],
 oD 27 165 ([26]) [1, 2, 3, 5, 6, 7, 9, 10],
 ob 28 (.build zL0 [(0, 1, sA52), (1, 5, 27)]) [1, 2, 3, 5, 6, 7, 9, 10, 11],
 oF 29 3 5,
 oE 30 1 29 [13],
 oD 31 167 ([30]) [1, 2, 3, 5, 6, 7, 9, 10, 11, 13, 14],
 ob 32 (.build zL0 [(0, 1, sA45), (1, 5, 31)]) [1, 2, 3, 5, 6, 7, 9, 10, 11, 13, 14, 15],
 ob 33 (.lit 6 4 zL0 [(0, 20), (1, 24), (2, 28), (3, 32)]) (rg 1 17),
 oD 34 163 ([33]) (rg 1 18),
 ob 35 (.lit 5 1 zL1 [(0, 34)]) (rg 1 19),
 ob 36 (.append 5 80 16 35) (rg 0 20),
 ob 3 (.mov 36) (rg 0 21)] true)))
 (.reg [oM 10 4,
 oA 11 10,
 oM 4 11] false))
def Q24b : IR :=
 .seq (.reg [o 2 (.zero zL1)] false)
 (.seq (.reg [o 3 (.mov (.c (.ns 5)))] false)
 (.seq (.seq (.reg [o 4 (.mov (.c zI))] false)
 (.block 0 (.loop Ql1 Q1oz)))
 (.seq (.reg [oM 37 3,
 o 38 (.build zL1 [(0, 1, .c (iN 4)), (3, 1, 37)]),
 oS 5 2 38] false)
 (.ret))))
def K2u : IFn := ⟨1, 39, [.cell 2 5 true], false, Q24b⟩
def Ql3 : List Nat := [100075, 0, 2, 3, 4]
def Q1p1 : IR :=
 .seq (.seq (.reg [oM 6 4,
 oM 7 0,
 oN 8 7,
 o 9 (.bin .lss 6 8)] false)
 (.cond 9 (.skip)
 (.exit 0)))
 (.seq (.block 1 (.seq (.reg [oM 12 0,
 oM 13 4,
 oI 14 5 12 13,
 oL 15 5 14,
 o 5 (.zero [zS, zS, zB, zI, zI]),
 oS 5 5 15] false)
 (.reg [oM 16 3,
 oF 17 0 5,
 oE 18 1 17 [1],
 oD 19 169 ([18]) [1, 2],
 ob 20 (.build zL0 [(0, 1, sA19), (1, 5, 19)]) [1, 2, 3],
 oF 21 1 5,
 oE 22 1 21 [5],
 oD 23 169 ([22]) [1, 2, 3, 5, 6],
 ob 24 (.build zL0 [(0, 1, sA71), (1, 5, 23)]) [1, 2, 3, 5, 6, 7],
 oF 25 2 5,
 oE 26 1 25 [9],
 oD 27 167 ([26]) [1, 2, 3, 5, 6, 7, 9, 10],
 ob 28 (.build zL0 [(0, 1, sA7), (1, 5, 27)]) [1, 2, 3, 5, 6, 7, 9, 10, 11],
 oF 29 3 5,
 oE 30 1 29 [13],
 oD 31 164 ([30]) [1, 2, 3, 5, 6, 7, 9, 10, 11, 13, 14],
 ob 32 (.build zL0 [(0, 1, sA6), (1, 5, 31)]) [1, 2, 3, 5, 6, 7, 9, 10, 11, 13, 14, 15],
 oF 33 4 5,
 oE 34 1 33 [17],
 oD 35 164 ([34]) [1, 2, 3, 5, 6, 7, 9, 10, 11, 13, 14, 15, 17, 18],
 ob 36 (.build zL0 [(0, 1, sA53), (1, 5, 35)]) [1, 2, 3, 5, 6, 7, 9, 10, 11, 13, 14, 15, 17, 18, 19],
 ob 37 (.lit 6 5 zL0 [(0, 20), (1, 24), (2, 28), (3, 32), (4, 36)]) (rg 1 21),
 oD 38 163 ([37]) (rg 1 22),
 ob 39 (.lit 5 1 zL1 [(0, 38)]) (rg 1 23),
 ob 40 (.append 5 80 16 39) (rg 0 24),
 ob 3 (.mov 40) (rg 0 25)] true)))
 (.reg [oM 10 4,
 oA 11 10,
 oM 4 11] false))
def Q24f : IR :=
 .seq (.reg [o 2 (.zero zL1)] false)
 (.seq (.reg [o 3 (.mov (.c (.ns 5)))] false)
 (.seq (.seq (.reg [o 4 (.mov (.c zI))] false)
 (.block 0 (.loop Ql3 Q1p1)))
 (.seq (.reg [oM 41 3,
 o 42 (.build zL1 [(0, 1, .c (iN 4)), (3, 1, 41)]),
 oS 5 2 42] false)
 (.ret))))
def K2z : IFn := ⟨1, 43, [.cell 2 5 true], false, Q24f⟩
def Kd_c : IR :=
 .seq (.reg [o 5 (.box 5 1),
 o 8 (.zero zL1)] false)
 (.seq (.seq (.reg [oF 11 0 5,
 oK 12 1 11,
 o 13 (.bin .neq 12 (.c (iN 5)))] false)
 (.cond 13 (.seq (.reg [oM 14 0,
 oM 15 0,
 o 16 (.nilck 15),
 oF 17 0 16,
 oK 18 1 17,
 oM 19 18,
 gF 20 19 (.faddr 0 5),
 gF 21 19 (.load 1 false 20),
 gF 22 19 (.bin .neq 21 (.c zI)),
 oQ 23 19 22,
 o 24 (.nilck 14),
 oF 25 0 24,
 oS 1 25 23] false)
 (.seq (.reg [o 26 (.build zL1 []),
 oS 5 8 26] false)
 (.ret)))
 (.skip)))
 (.seq (.reg [oL 28 5 5,
 oM 29 2,
 oC 30 184 ([28, 29]),
 oM 27 30,
 oX 31 27 0,
 oX 32 27 1,
 o 9 (.zero zL1),
 oS 5 9 31,
 oM 10 32] false)
 (.seq (.seq (.reg [oF 33 0 9,
 oK 34 1 33,
 oM 35 3,
 o 36 (.bin .eql 34 35)] false)
 (.cond 36 (.seq (.reg [oL 37 5 9,
 oS 5 8 37] false)
 (.ret))
 (.skip)))
 (.seq (.reg [oM 38 0,
 oM 39 0,
 o 40 (.nilck 39),
 oF 41 0 40,
 oK 42 1 41,
 oM 43 42,
 gF 44 43 (.faddr 0 9),
 gF 45 43 (.load 1 false 44),
 gF 46 43 (.bin .neq 45 (.c zI)),
 oQ 47 43 46,
 o 48 (.nilck 38),
 oF 49 0 48,
 oS 1 49 47] false)
 (.seq (.reg [o 50 (.build zL1 []),
 oS 5 8 50] false)
 (.ret))))))
def Kd : IFn := ⟨4, 51, [.cell 8 5 true], false, Kd_c⟩
def Kn_c : IR :=
 .seq (.reg [o 4 (.box 5 1),
 o 6 (.mov (.c (zS)))] false)
 (.seq (.reg [oM 7 0,
 oL 8 5 4,
 oM 9 2,
 oC 10 238 ([7, 8, 9, .c (iN 3)]),
 o 11 (.field 2 1 false 10),
 oM 6 11] false)
 (.ret))
def Kn : IFn := ⟨3, 12, [.tmp 6], false, Kn_c⟩
def Kg_c : IR :=
 .seq (.reg [o 4 (.box 5 1),
 o 6 (.mov (.c zI))] false)
 (.seq (.reg [oM 7 0,
 oL 8 5 4,
 oM 9 2,
 oC 10 238 ([7, 8, 9, .c (iN 2)]),
 o 11 (.field 1 1 false 10),
 oM 6 11] false)
 (.ret))
def Kg : IFn := ⟨3, 12, [.tmp 6], false, Kg_c⟩
def Qq9 : List Nat := [100076, 3, 9, 16, 17, 18]
def Q1wf : IR :=
 .seq (.reg [o 19 (.bin .lss 18 17)] false)
 (.seq (.cond 19 (.skip)
 (.exit 0))
 (.seq (.block 1 (.seq (.reg [oI 20 5 16 18,
 oL 21 5 20,
 o 11 (.zero zL1),
 oS 5 11 21] false)
 (.reg [oM 22 9,
 oM 23 3,
 oL 24 5 11,
 o 25 (.call false 23 [24]),
 o 26 (.lit 11 1 zL9 [(0, 25)]),
 oJ 27 11 152 22 26,
 oM 9 27] false)))
 (.reg [oA 28 18,
 oM 18 28] false)))
def Kt_c : IR :=
 .seq (.reg [o 5 (.box 5 1),
 o 8 (.mov (.c (.ns 11)))] false)
 (.seq (.reg [o 9 (.mov (.c (.ns 11)))] false)
 (.seq (.seq (.reg [oM 12 0,
 oL 13 5 5,
 oM 14 2,
 oC 15 238 ([12, 13, 14, .c (iN 4)]),
 o 16 (.field 3 1 false 15),
 oN 17 16,
 o 18 (.mov (.c zI))] false)
 (.block 0 (.loop Qq9 Q1wf)))
 (.seq (.reg [oM 29 9,
 oM 8 29] false)
 (.ret))))
def Kt : IFn := ⟨4, 30, [.tmp 8], false, Kt_c⟩
def Kb_c : IR :=
 .seq (.reg [o 3 (.box 5 1),
 o 4 (.zero zL9)] false)
 (.seq (.reg [oM 5 0,
 oL 6 5 3,
 oC 7 215 ([5, 6])] false)
 (.seq (.reg [oM 8 0,
 oL 9 5 3,
 oD 10 239 ([8, 9, sA31]) [0, 1],
 oM 11 0,
 oL 12 5 3,
 oD 13 239 ([11, 12, sA17]) (rg 0 5),
 oM 14 0,
 oM 15 0,
 oL 16 5 3,
 oD 17 219 ([15, 16, sA44]) (rg 0 6 ++ [7, 8]),
 oD 18 275 ([14, 17]) (rg 0 10),
 oM 19 0,
 oM 20 0,
 oL 21 5 3,
 oD 22 219 ([20, 21, sA20]) (rg 0 11 ++ [12, 13]),
 oD 23 275 ([19, 22]) (rg 0 15),
 oM 24 0,
 oL 25 5 3,
 oM 26 0,
 ob 27 (.mkfn 277 [26] []) [18],
 oD 28 276 ([24, 25, sA21, 27]) (rg 0 20),
 oM 29 0,
 oL 30 5 3,
 oM 31 0,
 ob 32 (.mkfn 277 [31] []) [23],
 oD 33 276 ([29, 30, sA50, 32]) (rg 0 25),
 oM 34 0,
 oL 35 5 3,
 oM 36 0,
 ob 37 (.mkfn 277 [36] []) [28],
 oD 38 276 ([34, 35, sA58, 37]) (rg 0 30),
 ob 39 (.build zL9 [(0, 1, 10), (1, 1, 13), (2, 3, 18), (5, 3, 23), (8, 1, 28), (9, 1, 33), (10, 1, 38)]) (rg 0 31),
 ⟨none, none, .store 11 4 39, (rg 0 32)⟩] true)
 (.ret)))
def Kb : IFn := ⟨2, 40, [.cell 4 11 true], false, Kb_c⟩
def Qqa : List Nat := [100077, 3, 9, 16, 17, 18]
def Q1wg : IR :=
 .seq (.reg [o 19 (.bin .lss 18 17)] false)
 (.seq (.cond 19 (.skip)
 (.exit 0))
 (.seq (.block 1 (.seq (.reg [oI 20 5 16 18,
 oL 21 5 20,
 o 11 (.zero zL1),
 oS 5 11 21] false)
 (.reg [oM 22 9,
 oM 23 3,
 oL 24 5 11,
 o 25 (.call false 23 [24]),
 o 26 (.lit 3 1 [zS, zI, .ns 1] [(0, 25)]),
 oJ 27 3 48 22 26,
 oM 9 27] false)))
 (.reg [oA 28 18,
 oM 18 28] false)))
def Ku_c : IR :=
 .seq (.reg [o 5 (.box 5 1),
 o 8 (.mov (.c (.ns 3)))] false)
 (.seq (.reg [o 9 (.mov (.c (.ns 3)))] false)
 (.seq (.seq (.reg [oM 12 0,
 oL 13 5 5,
 oM 14 2,
 oC 15 238 ([12, 13, 14, .c (iN 4)]),
 o 16 (.field 3 1 false 15),
 oN 17 16,
 o 18 (.mov (.c zI))] false)
 (.block 0 (.loop Qqa Q1wg)))
 (.seq (.reg [oM 29 9,
 oM 8 29] false)
 (.ret))))
def Ku : IFn := ⟨4, 30, [.tmp 8], false, Ku_c⟩
def Kj_c : IR :=
 .seq (.reg [o 3 (.box 5 1),
 o 4 (.zero [zS, zI, .ns 1])] false)
 (.seq (.reg [oM 5 0,
 oL 6 5 3,
 oC 7 215 ([5, 6])] false)
 (.seq (.reg [oM 8 0,
 oL 9 5 3,
 oD 10 239 ([8, 9, sA19]) [0, 1],
 oM 11 0,
 oL 12 5 3,
 oD 13 240 ([11, 12, sA33]) (rg 0 5),
 oM 14 0,
 oL 15 5 3,
 oM 16 0,
 ob 17 (.mkfn 279 [16] []) [8],
 oD 18 278 ([14, 15, sA70, 17]) (rg 0 10),
 ob 19 (.build [zS, zI, .ns 1] [(0, 1, 10), (1, 1, 13), (2, 1, 18)]) (rg 0 11),
 ⟨none, none, .store 3 4 19, (rg 0 12)⟩] true)
 (.ret)))
def Kj : IFn := ⟨2, 20, [.cell 4 3 true], false, Kj_c⟩
def Qqb : List Nat := [100078, 3, 9, 16, 17, 18]
def Q1wh : IR :=
 .seq (.reg [o 19 (.bin .lss 18 17)] false)
 (.seq (.cond 19 (.skip)
 (.exit 0))
 (.seq (.block 1 (.seq (.reg [oI 20 5 16 18,
 oL 21 5 20,
 o 11 (.zero zL1),
 oS 5 11 21] false)
 (.reg [oM 22 9,
 oM 23 3,
 oL 24 5 11,
 o 25 (.call false 23 [24]),
 o 26 (.lit 3 1 [zB, .ns 3, zI] [(0, 25)]),
 oJ 27 3 40 22 26,
 oM 9 27] false)))
 (.reg [oA 28 18,
 oM 18 28] false)))
def Kv_c : IR :=
 .seq (.reg [o 5 (.box 5 1),
 o 8 (.mov (.c (.ns 3)))] false)
 (.seq (.reg [o 9 (.mov (.c (.ns 3)))] false)
 (.seq (.seq (.reg [oM 12 0,
 oL 13 5 5,
 oM 14 2,
 oC 15 238 ([12, 13, 14, .c (iN 4)]),
 o 16 (.field 3 1 false 15),
 oN 17 16,
 o 18 (.mov (.c zI))] false)
 (.block 0 (.loop Qqb Q1wh)))
 (.seq (.reg [oM 29 9,
 oM 8 29] false)
 (.ret))))
def Kv : IFn := ⟨4, 30, [.tmp 8], false, Kv_c⟩
def Kf_c : IR :=
 .seq (.reg [o 3 (.box 5 1),
 o 4 (.zero [zB, .ns 3, zI])] false)
 (.seq (.reg [oM 5 0,
 oL 6 5 3,
 oC 7 215 ([5, 6])] false)
 (.seq (.reg [oM 8 0,
 oL 9 5 3,
 oD 10 280 ([8, 9, sA45]) [0, 1],
 oM 11 0,
 oL 12 5 3,
 oM 13 0,
 ob 14 (.mkfn 244 [13] []) [5],
 oD 15 243 ([11, 12, sA52, 14]) (rg 0 7),
 oM 16 0,
 oL 17 5 3,
 oD 18 240 ([16, 17, sA72]) (rg 0 10),
 ob 19 (.build [zB, .ns 3, zI] [(0, 1, 10), (1, 1, 15), (2, 1, 18)]) (rg 0 11),
 ⟨none, none, .store 3 4 19, (rg 0 12)⟩] true)
 (.ret)))
def Kf : IFn := ⟨2, 20, [.cell 4 3 true], false, Kf_c⟩
def Qqc : List Nat := [100079, 3, 9, 16, 17, 18]
def Q1wi : IR :=
 .seq (.reg [o 19 (.bin .lss 18 17)] false)
 (.seq (.cond 19 (.skip)
 (.exit 0))
 (.seq (.block 1 (.seq (.reg [oI 20 5 16 18,
 oL 21 5 20,
 o 11 (.zero zL1),
 oS 5 11 21] false)
 (.reg [oM 22 9,
 oM 23 3,
 oL 24 5 11,
 o 25 (.call false 23 [24]),
 o 26 (.lit 5 1 [zB, zB, .ns 3, zS, zI] [(0, 25)]),
 oJ 27 5 56 22 26,
 oM 9 27] false)))
 (.reg [oA 28 18,
 oM 18 28] false)))
def Kw_c : IR :=
 .seq (.reg [o 5 (.box 5 1),
 o 8 (.mov (.c (.ns 5)))] false)
 (.seq (.reg [o 9 (.mov (.c (.ns 5)))] false)
 (.seq (.seq (.reg [oM 12 0,
 oL 13 5 5,
 oM 14 2,
 oC 15 238 ([12, 13, 14, .c (iN 4)]),
 o 16 (.field 3 1 false 15),
 oN 17 16,
 o 18 (.mov (.c zI))] false)
 (.block 0 (.loop Qqc Q1wi)))
 (.seq (.reg [oM 29 9,
 oM 8 29] false)
 (.ret))))
def Kw : IFn := ⟨4, 30, [.tmp 8], false, Kw_c⟩
def Kh_c : IR :=
 .seq (.reg [o 3 (.box 5 1),
 o 4 (.zero [zB, zB, .ns 3, zS, zI])] false)
 (.seq (.reg [oM 5 0,
 oL 6 5 3,
 oC 7 215 ([5, 6])] false)
 (.seq (.reg [oM 8 0,
 oL 9 5 3,
 oD 10 280 ([8, 9, sA45]) [0, 1],
 oM 11 0,
 oL 12 5 3,
 oD 13 280 ([11, 12, sA80]) (rg 0 5),
 oM 14 0,
 oL 15 5 3,
 oM 16 0,
 ob 17 (.mkfn 244 [16] []) [8],
 oD 18 243 ([14, 15, sA52, 17]) (rg 0 10),
 oM 19 0,
 oL 20 5 3,
 oD 21 239 ([19, 20, sA65]) (rg 0 13),
 oM 22 0,
 oL 23 5 3,
 oD 24 240 ([22, 23, sA72]) (rg 0 16),
 ob 25 (.build [zB, zB, .ns 3, zS, zI] [(0, 1, 10), (1, 1, 13), (2, 1, 18), (3, 1, 21), (4, 1, 24)]) (rg 0 17),
 ⟨none, none, .store 5 4 25, (rg 0 18)⟩] true)
 (.ret)))
def Kh : IFn := ⟨2, 26, [.cell 4 5 true], false, Kh_c⟩
def Qqd : List Nat := [100080, 3, 9, 16, 17, 18]
def Q1wj : IR :=
 .seq (.reg [o 19 (.bin .lss 18 17)] false)
 (.seq (.cond 19 (.skip)
 (.exit 0))
 (.seq (.block 1 (.seq (.reg [oI 20 5 16 18,
 oL 21 5 20,
 o 11 (.zero zL1),
 oS 5 11 21] false)
 (.reg [oM 22 9,
 oM 23 3,
 oL 24 5 11,
 o 25 (.call false 23 [24]),
 o 26 (.lit 4 1 [zI, zS, .ns 3, zB] [(0, 25)]),
 oJ 27 4 56 22 26,
 oM 9 27] false)))
 (.reg [oA 28 18,
 oM 18 28] false)))
def Kx_c : IR :=
 .seq (.reg [o 5 (.box 5 1),
 o 8 (.mov (.c (.ns 4)))] false)
 (.seq (.reg [o 9 (.mov (.c (.ns 4)))] false)
 (.seq (.seq (.reg [oM 12 0,
 oL 13 5 5,
 oM 14 2,
 oC 15 238 ([12, 13, 14, .c (iN 4)]),
 o 16 (.field 3 1 false 15),
 oN 17 16,
 o 18 (.mov (.c zI))] false)
 (.block 0 (.loop Qqd Q1wj)))
 (.seq (.reg [oM 29 9,
 oM 8 29] false)
 (.ret))))
def Kx : IFn := ⟨4, 30, [.tmp 8], false, Kx_c⟩
def Km_c : IR :=
 .seq (.reg [o 3 (.box 5 1),
 o 4 (.zero [zI, zS, .ns 3, zB])] false)
 (.seq (.reg [oM 5 0,
 oL 6 5 3,
 oC 7 215 ([5, 6])] false)
 (.seq (.reg [oM 8 0,
 oL 9 5 3,
 oD 10 240 ([8, 9, sA26]) [0, 1],
 oM 11 0,
 oL 12 5 3,
 oD 13 239 ([11, 12, sA65]) (rg 0 5),
 oM 14 0,
 oL 15 5 3,
 oM 16 0,
 ob 17 (.mkfn 244 [16] []) [8],
 oD 18 243 ([14, 15, sA52, 17]) (rg 0 10),
 oM 19 0,
 oL 20 5 3,
 oD 21 280 ([19, 20, sA45]) (rg 0 13),
 ob 22 (.build [zI, zS, .ns 3, zB] [(0, 1, 10), (1, 1, 13), (2, 1, 18), (3, 1, 21)]) (rg 0 14),
 ⟨none, none, .store 4 4 22, (rg 0 15)⟩] true)
 (.ret)))
def Km : IFn := ⟨2, 23, [.cell 4 4 true], false, Km_c⟩
def Qqe : List Nat := [100081, 3, 9, 16, 17, 18]
def Q1wk : IR :=
 .seq (.reg [o 19 (.bin .lss 18 17)] false)
 (.seq (.cond 19 (.skip)
 (.exit 0))
 (.seq (.block 1 (.seq (.reg [oI 20 5 16 18,
 oL 21 5 20,
 o 11 (.zero zL1),
 oS 5 11 21] false)
 (.reg [oM 22 9,
 oM 23 3,
 oL 24 5 11,
 o 25 (.call false 23 [24]),
 o 26 (.lit 5 1 [zS, zS, zB, zI, zI] [(0, 25)]),
 oJ 27 5 56 22 26,
 oM 9 27] false)))
 (.reg [oA 28 18,
 oM 18 28] false)))
def Ky_c : IR :=
 .seq (.reg [o 5 (.box 5 1),
 o 8 (.mov (.c (.ns 5)))] false)
 (.seq (.reg [o 9 (.mov (.c (.ns 5)))] false)
 (.seq (.seq (.reg [oM 12 0,
 oL 13 5 5,
 oM 14 2,
 oC 15 238 ([12, 13, 14, .c (iN 4)]),
 o 16 (.field 3 1 false 15),
 oN 17 16,
 o 18 (.mov (.c zI))] false)
 (.block 0 (.loop Qqe Q1wk)))
 (.seq (.reg [oM 29 9,
 oM 8 29] false)
 (.ret))))
def Ky : IFn := ⟨4, 30, [.tmp 8], false, Ky_c⟩
def Kr_c : IR :=
 .seq (.reg [o 3 (.box 5 1),
 o 4 (.zero [zS, zS, zB, zI, zI])] false)
 (.seq (.reg [oM 5 0,
 oL 6 5 3,
 oC 7 215 ([5, 6])] false)
 (.seq (.reg [oM 8 0,
 oL 9 5 3,
 oD 10 239 ([8, 9, sA19]) [0, 1],
 oM 11 0,
 oL 12 5 3,
 oD 13 239 ([11, 12, sA71]) (rg 0 5),
 oM 14 0,
 oL 15 5 3,
 oD 16 280 ([14, 15, sA7]) (rg 0 8),
 oM 17 0,
 oL 18 5 3,
 oD 19 240 ([17, 18, sA6]) (rg 0 11),
 oM 20 0,
 oL 21 5 3,
 oD 22 240 ([20, 21, sA53]) (rg 0 14),
 ob 23 (.build [zS, zS, zB, zI, zI] [(0, 1, 10), (1, 1, 13), (2, 1, 16), (3, 1, 19), (4, 1, 22)]) (rg 0 15),
 ⟨none, none, .store 5 4 23, (rg 0 16)⟩] true)
 (.ret)))
def Kr : IFn := ⟨2, 24, [.cell 4 5 true], false, Kr_c⟩
def Ql5 : List Nat := [100083, 0, 1, 2, 3, 8, 9]
def Q1p3 : IR :=
 .seq (.seq (.reg [oM 18 9,
 oM 19 1,
 ob 20 (.bin .gtr 18 19) [0, 1],
 ob 21 (.mov 20) [0, 1, 2],
 ⟨(some 22), (some (21, true)), .mov 3, [0, 1, 2, 3]⟩,
 ⟨(some 23), (some (21, true)), .mov 0, [0, 1, 2, 3]⟩,
 ⟨(some 24), (some (21, true)), .mov 9, [0, 1, 2, 3]⟩,
 ⟨(some 25), (some (21, true)), .iaddr 6 23 24, (rg 0 4 ++ [5, 6])⟩,
 ⟨(some 26), (some (21, true)), .load 6 true 25, (rg 0 4 ++ [5, 6, 7])⟩,
 ⟨(some 27), (some (21, true)), .mov 0, [0, 1, 2, 3]⟩,
 ⟨(some 28), (some (21, true)), .mov 9, [0, 1, 2, 3]⟩,
 ⟨(some 29), (some (21, true)), .bin .sub 28 (.c (iN 1)), (rg 0 4 ++ [10])⟩,
 ⟨(some 30), (some (21, true)), .iaddr 6 27 29, (rg 0 4 ++ [9, 10, 11])⟩,
 ⟨(some 31), (some (21, true)), .load 6 true 30, (rg 0 4 ++ rg 9 13)⟩,
 ⟨(some 32), (some (21, true)), .call false 22 [26, 31], (rg 0 14)⟩,
 ⟨(some 33), (some (21, true)), .bin .lss 32 (.c zI), (rg 0 15)⟩,
 ob 34 (.pick 21 33 (.c zB)) (rg 0 16)] true)
 (.cond 34 (.skip)
 (.exit 2)))
 (.seq (.block 3 (.reg [oM 37 0,
 oM 38 9,
 oM 39 0,
 oM 40 9,
 ob 41 (.bin .sub 40 (.c (iN 1))) [3],
 oM 42 0,
 oM 43 9,
 ob 44 (.bin .sub 43 (.c (iN 1))) [6],
 ob 45 (.iaddr 6 42 44) [5, 6, 7],
 ob 46 (.load 6 true 45) [5, 6, 7, 8],
 oM 47 0,
 oM 48 9,
 ob 49 (.iaddr 6 47 48) [10, 11],
 ob 50 (.load 6 true 49) [10, 11, 12],
 ob 51 (.iaddr 6 37 38) ([0, 1] ++ rg 5 14),
 ⟨none, none, .store 6 51 46, ([0, 1] ++ rg 5 15)⟩,
 ob 52 (.iaddr 6 39 41) (rg 0 16),
 ⟨none, none, .store 6 52 50, (rg 0 17)⟩] true))
 (.reg [oM 35 9,
 o 36 (.bin .sub 35 (.c (iN 1))),
 oM 9 36] false))
def Ql4 : List Nat := [100082, 0, 1, 2, 3, 8]
def Q1p2 : IR :=
 .seq (.seq (.reg [oM 12 8,
 oM 13 2,
 o 14 (.bin .lss 12 13)] false)
 (.cond 14 (.skip)
 (.exit 0)))
 (.seq (.block 1 (.seq (.reg [oM 17 8,
 oM 9 17] false)
 (.block 2 (.loop Ql5 Q1p3))))
 (.reg [oM 15 8,
 oA 16 15,
 oM 8 16] false))
def Q24n : IR :=
 .seq (.reg [oM 10 1,
 oA 11 10,
 oM 8 11] false)
 (.block 0 (.loop Ql4 Q1p2))
def K4t : IFn := ⟨4, 53, [], false, Q24n⟩
def Q24t : IR :=
 .seq (.reg [o 2 (.zero zL1)] false)
 (.seq (.reg [oM 3 0,
 o 4 (.build zL1 [(0, 1, .c (iN 4)), (3, 1, 3)]),
 oC 5 189 ([4]),
 oS 5 2 5] false)
 (.ret))
def K4z : IFn := ⟨1, 6, [.cell 2 5 true], false, Q24t⟩
def Qka : List Nat := [100084, 1, 4, 5, 8, 9, 10]
def Q1o8 : IR :=
 .seq (.reg [o 11 (.bin .lss 10 9)] false)
 (.seq (.cond 11 (.skip)
 (.exit 0))
 (.seq (.block 1 (.seq (.reg [oI 12 11 8 10,
 oL 13 11 12,
 o 7 (.zero zL9),
 oS 11 7 13] false)
 (.reg [oM 14 5,
 oM 15 1,
 oL 16 11 7,
 o 17 (.call false 15 [16]),
 o 18 (.lit 5 1 zL1 [(0, 17)]),
 oJ 19 5 80 14 18,
 oM 5 19] false)))
 (.reg [oA 20 10,
 oM 10 20] false)))
def Q234 : IR :=
 .seq (.reg [o 4 (.zero zL1)] false)
 (.seq (.reg [o 5 (.mov (.c (.ns 5)))] false)
 (.seq (.seq (.reg [oM 8 0,
 oN 9 8,
 o 10 (.mov (.c zI))] false)
 (.block 0 (.loop Qka Q1o8)))
 (.seq (.reg [oM 21 5,
 oC 22 256 ([21]),
 oS 5 4 22] false)
 (.ret))))
def K1d : IFn := ⟨2, 23, [.cell 4 5 true], false, Q234⟩
def Q22s : IR :=
 .seq (.reg [o 1 (.box 11 0),
 o 2 (.zero zL1)] false)
 (.seq (.reg [oF 3 1 1,
 oE 4 1 3 [0],
 oD 5 193 ([4]) [0, 1],
 oD 6 226 ([sA17, 5]) [0, 1, 2],
 oF 7 5 1,
 ob 8 (.load 3 true 7) [4],
 oD 9 282 ([8]) (rg 0 6),
 oD 10 226 ([sA20, 9]) (rg 0 7),
 oF 11 8 1,
 oE 12 1 11 [8],
 oD 13 283 ([12, .f 284]) (rg 0 10),
 oD 14 226 ([sA21, 13]) (rg 0 11),
 oF 15 0 1,
 oE 16 1 15 [12],
 oD 17 193 ([16]) (rg 0 14),
 oD 18 226 ([sA31, 17]) (rg 0 15),
 oF 19 9 1,
 oE 20 1 19 [16],
 oD 21 283 ([20, .f 284]) (rg 0 18),
 oD 22 226 ([sA50, 21]) (rg 0 19),
 oF 23 2 1,
 ob 24 (.load 3 true 23) [20],
 oD 25 282 ([24]) (rg 0 22),
 oD 26 226 ([sA44, 25]) (rg 0 23),
 oF 27 10 1,
 oE 28 1 27 [24],
 oD 29 283 ([28, .f 284]) (rg 0 26),
 oD 30 226 ([sA58, 29]) (rg 0 27),
 ob 31 (.lit 6 7 zL0 [(0, 6), (1, 10), (2, 14), (3, 18), (4, 22), (5, 26), (6, 30)]) (rg 0 28),
 oD 32 78 ([31]) (rg 0 29),
 ⟨none, none, .store 5 2 32, (rg 0 30)⟩] true)
 (.ret))
def K11 : IFn := ⟨1, 33, [.cell 2 5 true], false, Q22s⟩
def Qkb : List Nat := [100085, 1, 4, 5, 8, 9, 10]
def Q1o9 : IR :=
 .seq (.reg [o 11 (.bin .lss 10 9)] false)
 (.seq (.cond 11 (.skip)
 (.exit 0))
 (.seq (.block 1 (.seq (.reg [oI 12 3 8 10,
 oL 13 3 12,
 o 7 (.zero [zS, zI, .ns 1]),
 oS 3 7 13] false)
 (.reg [oM 14 5,
 oM 15 1,
 oL 16 3 7,
 o 17 (.call false 15 [16]),
 o 18 (.lit 5 1 zL1 [(0, 17)]),
 oJ 19 5 80 14 18,
 oM 5 19] false)))
 (.reg [oA 20 10,
 oM 10 20] false)))
def Q235 : IR :=
 .seq (.reg [o 4 (.zero zL1)] false)
 (.seq (.reg [o 5 (.mov (.c (.ns 5)))] false)
 (.seq (.seq (.reg [oM 8 0,
 oN 9 8,
 o 10 (.mov (.c zI))] false)
 (.block 0 (.loop Qkb Q1o9)))
 (.seq (.reg [oM 21 5,
 oC 22 256 ([21]),
 oS 5 4 22] false)
 (.ret))))
def K1e : IFn := ⟨2, 23, [.cell 4 5 true], false, Q235⟩
def Q22x : IR :=
 .seq (.reg [o 1 (.box 3 0),
 o 2 (.zero zL1)] false)
 (.seq (.reg [oF 3 0 1,
 oE 4 1 3 [0],
 oD 5 193 ([4]) [0, 1],
 oD 6 226 ([sA19, 5]) [0, 1, 2],
 oF 7 1 1,
 oE 8 1 7 [4],
 oD 9 109 ([8]) (rg 0 6),
 oD 10 226 ([sA33, 9]) (rg 0 7),
 oF 11 2 1,
 oE 12 1 11 [8],
 oD 13 285 ([12, .f 193]) (rg 0 10),
 oD 14 226 ([sA70, 13]) (rg 0 11),
 ob 15 (.lit 6 3 zL0 [(0, 6), (1, 10), (2, 14)]) (rg 0 12),
 oD 16 78 ([15]) (rg 0 13),
 ⟨none, none, .store 5 2 16, (rg 0 14)⟩] true)
 (.ret))
def K16 : IFn := ⟨1, 17, [.cell 2 5 true], false, Q22x⟩
def Qkc : List Nat := [100086, 1, 4, 5, 8, 9, 10]
def Q1oa : IR :=
 .seq (.reg [o 11 (.bin .lss 10 9)] false)
 (.seq (.cond 11 (.skip)
 (.exit 0))
 (.seq (.block 1 (.seq (.reg [oI 12 3 8 10,
 oL 13 3 12,
 o 7 (.zero [zB, .ns 3, zI]),
 oS 3 7 13] false)
 (.reg [oM 14 5,
 oM 15 1,
 oL 16 3 7,
 o 17 (.call false 15 [16]),
 o 18 (.lit 5 1 zL1 [(0, 17)]),
 oJ 19 5 80 14 18,
 oM 5 19] false)))
 (.reg [oA 20 10,
 oM 10 20] false)))
def Q236 : IR :=
 .seq (.reg [o 4 (.zero zL1)] false)
 (.seq (.reg [o 5 (.mov (.c (.ns 5)))] false)
 (.seq (.seq (.reg [oM 8 0,
 oN 9 8,
 o 10 (.mov (.c zI))] false)
 (.block 0 (.loop Qkc Q1oa)))
 (.seq (.reg [oM 21 5,
 oC 22 256 ([21]),
 oS 5 4 22] false)
 (.ret))))
def K1f : IFn := ⟨2, 23, [.cell 4 5 true], false, Q236⟩
def Q22u : IR :=
 .seq (.reg [o 1 (.box 3 0),
 o 2 (.zero zL1)] false)
 (.seq (.reg [oF 3 0 1,
 oE 4 1 3 [0],
 oD 5 192 ([4]) [0, 1],
 oD 6 226 ([sA45, 5]) [0, 1, 2],
 oF 7 1 1,
 oE 8 1 7 [4],
 oD 9 259 ([8, .f 260]) (rg 0 6),
 oD 10 226 ([sA52, 9]) (rg 0 7),
 oF 11 2 1,
 oE 12 1 11 [8],
 oD 13 109 ([12]) (rg 0 10),
 oD 14 226 ([sA72, 13]) (rg 0 11),
 ob 15 (.lit 6 3 zL0 [(0, 6), (1, 10), (2, 14)]) (rg 0 12),
 oD 16 78 ([15]) (rg 0 13),
 ⟨none, none, .store 5 2 16, (rg 0 14)⟩] true)
 (.ret))
def K13 : IFn := ⟨1, 17, [.cell 2 5 true], false, Q22u⟩
def Qkd : List Nat := [100087, 1, 4, 5, 8, 9, 10]
def Q1ob : IR :=
 .seq (.reg [o 11 (.bin .lss 10 9)] false)
 (.seq (.cond 11 (.skip)
 (.exit 0))
 (.seq (.block 1 (.seq (.reg [oI 12 5 8 10,
 oL 13 5 12,
 o 7 (.zero [zB, zB, .ns 3, zS, zI]),
 oS 5 7 13] false)
 (.reg [oM 14 5,
 oM 15 1,
 oL 16 5 7,
 o 17 (.call false 15 [16]),
 o 18 (.lit 5 1 zL1 [(0, 17)]),
 oJ 19 5 80 14 18,
 oM 5 19] false)))
 (.reg [oA 20 10,
 oM 10 20] false)))
def Q237 : IR :=
 .seq (.reg [o 4 (.zero zL1)] false)
 (.seq (.reg [o 5 (.mov (.c (.ns 5)))] false)
 (.seq (.seq (.reg [oM 8 0,
 oN 9 8,
 o 10 (.mov (.c zI))] false)
 (.block 0 (.loop Qkd Q1ob)))
 (.seq (.reg [oM 21 5,
 oC 22 256 ([21]),
 oS 5 4 22] false)
 (.ret))))
def K1g : IFn := ⟨2, 23, [.cell 4 5 true], false, Q237⟩
def Q22v : IR :=
 .seq (.reg [o 1 (.box 5 0),
 o 2 (.zero zL1)] false)
 (.seq (.reg [oF 3 1 1,
 oE 4 1 3 [0],
 oD 5 192 ([4]) [0, 1],
 oD 6 226 ([sA80, 5]) [0, 1, 2],
 oF 7 0 1,
 oE 8 1 7 [4],
 oD 9 192 ([8]) (rg 0 6),
 oD 10 226 ([sA45, 9]) (rg 0 7),
 oF 11 2 1,
 oE 12 1 11 [8],
 oD 13 259 ([12, .f 260]) (rg 0 10),
 oD 14 226 ([sA52, 13]) (rg 0 11),
 oF 15 3 1,
 oE 16 1 15 [12],
 oD 17 193 ([16]) (rg 0 14),
 oD 18 226 ([sA65, 17]) (rg 0 15),
 oF 19 4 1,
 oE 20 1 19 [16],
 oD 21 109 ([20]) (rg 0 18),
 oD 22 226 ([sA72, 21]) (rg 0 19),
 ob 23 (.lit 6 5 zL0 [(0, 6), (1, 10), (2, 14), (3, 18), (4, 22)]) (rg 0 20),
 oD 24 78 ([23]) (rg 0 21),
 ⟨none, none, .store 5 2 24, (rg 0 22)⟩] true)
 (.ret))
def K14 : IFn := ⟨1, 25, [.cell 2 5 true], false, Q22v⟩
def Qke : List Nat := [100088, 1, 4, 5, 8, 9, 10]
def Q1oc : IR :=
 .seq (.reg [o 11 (.bin .lss 10 9)] false)
 (.seq (.cond 11 (.skip)
 (.exit 0))
 (.seq (.block 1 (.seq (.reg [oI 12 4 8 10,
 oL 13 4 12,
 o 7 (.zero [zI, zS, .ns 3, zB]),
 oS 4 7 13] false)
 (.reg [oM 14 5,
 oM 15 1,
 oL 16 4 7,
 o 17 (.call false 15 [16]),
 o 18 (.lit 5 1 zL1 [(0, 17)]),
 oJ 19 5 80 14 18,
 oM 5 19] false)))
 (.reg [oA 20 10,
 oM 10 20] false)))
def Q238 : IR :=
 .seq (.reg [o 4 (.zero zL1)] false)
 (.seq (.reg [o 5 (.mov (.c (.ns 5)))] false)
 (.seq (.seq (.reg [oM 8 0,
 oN 9 8,
 o 10 (.mov (.c zI))] false)
 (.block 0 (.loop Qke Q1oc)))
 (.seq (.reg [oM 21 5,
 oC 22 256 ([21]),
 oS 5 4 22] false)
 (.ret))))
def K1h : IFn := ⟨2, 23, [.cell 4 5 true], false, Q238⟩
def Q230 : IR :=
 .seq (.reg [o 1 (.box 4 0),
 o 2 (.zero zL1)] false)
 (.seq (.reg [oF 3 0 1,
 oE 4 1 3 [0],
 oD 5 109 ([4]) [0, 1],
 oD 6 226 ([sA26, 5]) [0, 1, 2],
 oF 7 3 1,
 oE 8 1 7 [4],
 oD 9 192 ([8]) (rg 0 6),
 oD 10 226 ([sA45, 9]) (rg 0 7),
 oF 11 2 1,
 oE 12 1 11 [8],
 oD 13 259 ([12, .f 260]) (rg 0 10),
 oD 14 226 ([sA52, 13]) (rg 0 11),
 oF 15 1 1,
 oE 16 1 15 [12],
 oD 17 193 ([16]) (rg 0 14),
 oD 18 226 ([sA65, 17]) (rg 0 15),
 ob 19 (.lit 6 4 zL0 [(0, 6), (1, 10), (2, 14), (3, 18)]) (rg 0 16),
 oD 20 78 ([19]) (rg 0 17),
 ⟨none, none, .store 5 2 20, (rg 0 18)⟩] true)
 (.ret))
def K19 : IFn := ⟨1, 21, [.cell 2 5 true], false, Q230⟩
def Qkf : List Nat := [100089, 1, 4, 5, 8, 9, 10]
def Q1od : IR :=
 .seq (.reg [o 11 (.bin .lss 10 9)] false)
 (.seq (.cond 11 (.skip)
 (.exit 0))
 (.seq (.block 1 (.seq (.reg [oI 12 5 8 10,
 oL 13 5 12,
 o 7 (.zero [zS, zS, zB, zI, zI]),
 oS 5 7 13] false)
 (.reg [oM 14 5,
 oM 15 1,
 oL 16 5 7,
 o 17 (.call false 15 [16]),
 o 18 (.lit 5 1 zL1 [(0, 17)]),
 oJ 19 5 80 14 18,
 oM 5 19] false)))
 (.reg [oA 20 10,
 oM 10 20] false)))
def Q239 : IR :=
 .seq (.reg [o 4 (.zero zL1)] false)
 (.seq (.reg [o 5 (.mov (.c (.ns 5)))] false)
 (.seq (.seq (.reg [oM 8 0,
 oN 9 8,
 o 10 (.mov (.c zI))] false)
 (.block 0 (.loop Qkf Q1od)))
 (.seq (.reg [oM 21 5,
 oC 22 256 ([21]),
 oS 5 4 22] false)
 (.ret))))
def K1i : IFn := ⟨2, 23, [.cell 4 5 true], false, Q239⟩
def Q231 : IR :=
 .seq (.reg [o 1 (.box 5 0),
 o 2 (.zero zL1)] false)
 (.seq (.reg [oF 3 3 1,
 oE 4 1 3 [0],
 oD 5 109 ([4]) [0, 1],
 oD 6 226 ([sA6, 5]) [0, 1, 2],
 oF 7 2 1,
 oE 8 1 7 [4],
 oD 9 192 ([8]) (rg 0 6),
 oD 10 226 ([sA7, 9]) (rg 0 7),
 oF 11 0 1,
 oE 12 1 11 [8],
 oD 13 193 ([12]) (rg 0 10),
 oD 14 226 ([sA19, 13]) (rg 0 11),
 oF 15 4 1,
 oE 16 1 15 [12],
 oD 17 109 ([16]) (rg 0 14),
 oD 18 226 ([sA53, 17]) (rg 0 15),
 oF 19 1 1,
 oE 20 1 19 [16],
 oD 21 193 ([20]) (rg 0 18),
 oD 22 226 ([sA71, 21]) (rg 0 19),
 ob 23 (.lit 6 5 zL0 [(0, 6), (1, 10), (2, 14), (3, 18), (4, 22)]) (rg 0 20),
 oD 24 78 ([23]) (rg 0 21),
 ⟨none, none, .store 5 2 24, (rg 0 22)⟩] true)
 (.ret))
def K1a : IFn := ⟨1, 25, [.cell 2 5 true], false, Q231⟩
def Qkz : List Nat := [100095, 0, 2, 3, 4]
def Q1ox : IR :=
 .seq (.seq (.reg [oM 5 4,
 oM 6 0,
 oN 7 6,
 o 8 (.bin .lss 5 7)] false)
 (.cond 8 (.skip)
 (.exit 0)))
 (.seq (.block 1 (.reg [oM 11 3,
 oM 12 0,
 oM 13 4,
 ob 14 (.iaddr 4 12 13) [1, 2],
 ob 15 (.faddr 0 14) [1, 2, 3],
 oE 16 1 15 [1, 2, 3, 4],
 oD 17 164 ([16]) (rg 1 6),
 ob 18 (.build zL0 [(0, 1, sA0), (1, 5, 17)]) (rg 1 7),
 oM 19 0,
 oM 20 4,
 ob 21 (.iaddr 4 19 20) [8, 9],
 ob 22 (.faddr 1 21) [8, 9, 10],
 oE 23 1 22 [8, 9, 10, 11],
 oD 24 164 ([23]) (rg 1 7 ++ rg 8 13),
 ob 25 (.build zL0 [(0, 1, sA35), (1, 5, 24)]) (rg 1 7 ++ rg 8 14),
 oM 26 0,
 oM 27 4,
 ob 28 (.iaddr 4 26 27) [15, 16],
 ob 29 (.faddr 2 28) [15, 16, 17],
 oE 30 1 29 [15, 16, 17, 18],
 oD 31 164 ([30]) (rg 1 7 ++ rg 8 14 ++ rg 15 20),
 ob 32 (.build zL0 [(0, 1, sA62), (1, 5, 31)]) (rg 1 7 ++ rg 8 14 ++ rg 15 21),
 oM 33 0,
 oM 34 4,
 ob 35 (.iaddr 4 33 34) [22, 23],
 ob 36 (.faddr 3 35) [22, 23, 24],
 oE 37 1 36 [22, 23, 24, 25],
 oD 38 164 ([37]) (rg 1 7 ++ rg 8 14 ++ rg 15 21 ++ rg 22 27),
 ob 39 (.build zL0 [(0, 1, sA11), (1, 5, 38)]) (rg 1 7 ++ rg 8 14 ++ rg 15 21 ++ rg 22 28),
 ob 40 (.lit 6 4 zL0 [(0, 18), (1, 25), (2, 32), (3, 39)]) (rg 1 29),
 oD 41 163 ([40]) (rg 1 30),
 ob 42 (.lit 5 1 zL1 [(0, 41)]) (rg 1 31),
 ob 43 (.append 5 80 11 42) (rg 0 32),
 ob 3 (.mov 43) (rg 0 33)] true))
 (.reg [oM 9 4,
 oA 10 9,
 oM 4 10] false))
def Q247 : IR :=
 .seq (.reg [o 2 (.zero zL1)] false)
 (.seq (.reg [o 3 (.mov (.c (.ns 5)))] false)
 (.seq (.seq (.reg [o 4 (.mov (.c zI))] false)
 (.block 0 (.loop Qkz Q1ox)))
 (.seq (.reg [oM 44 3,
 o 45 (.build zL1 [(0, 1, .c (iN 4)), (3, 1, 44)]),
 oS 5 2 45] false)
 (.ret))))
def K2n : IFn := ⟨1, 46, [.cell 2 5 true], false, Q247⟩
def Kk_c : IR :=
 .seq (.reg [o 3 (.box 5 1),
 o 4 (.zero [zI, zI, zI])] false)
 (.seq (.reg [oM 5 0,
 oL 6 5 3,
 oD 7 240 ([5, 6, sA86]) [0, 1],
 oM 8 0,
 oL 9 5 3,
 oD 10 240 ([8, 9, sA23]) (rg 0 5),
 oM 11 0,
 oL 12 5 3,
 oD 13 240 ([11, 12, sA3]) (rg 0 8),
 ob 14 (.build [zI, zI, zI] [(0, 1, 7), (1, 1, 10), (2, 1, 13)]) (rg 0 9),
 ⟨none, none, .store 3 4 14, (rg 0 10)⟩] true)
 (.ret))
def Kk : IFn := ⟨2, 15, [.cell 4 3 true], false, Kk_c⟩
def Qqf : List Nat := [100096, 3, 9, 16, 17, 18]
def Q1wl : IR :=
 .seq (.reg [o 19 (.bin .lss 18 17)] false)
 (.seq (.cond 19 (.skip)
 (.exit 0))
 (.seq (.block 1 (.seq (.reg [oI 20 5 16 18,
 oL 21 5 20,
 o 11 (.zero zL1),
 oS 5 11 21] false)
 (.reg [oM 22 9,
 oM 23 3,
 oL 24 5 11,
 o 25 (.call false 23 [24]),
 o 26 (.lit 4 1 [zI, zI, zI, zI] [(0, 25)]),
 oJ 27 4 32 22 26,
 oM 9 27] false)))
 (.reg [oA 28 18,
 oM 18 28] false)))
def Kz_c : IR :=
 .seq (.reg [o 5 (.box 5 1),
 o 8 (.mov (.c (.ns 4)))] false)
 (.seq (.reg [o 9 (.mov (.c (.ns 4)))] false)
 (.seq (.seq (.reg [oM 12 0,
 oL 13 5 5,
 oM 14 2,
 oC 15 238 ([12, 13, 14, .c (iN 4)]),
 o 16 (.field 3 1 false 15),
 oN 17 16,
 o 18 (.mov (.c zI))] false)
 (.block 0 (.loop Qqf Q1wl)))
 (.seq (.reg [oM 29 9,
 oM 8 29] false)
 (.ret))))
def Kz : IFn := ⟨4, 30, [.tmp 8], false, Kz_c⟩
def Ki_c : IR :=
 .seq (.reg [o 3 (.box 5 1),
 o 4 (.zero [zI, zI, zI, zI])] false)
 (.seq (.reg [oM 5 0,
 oL 6 5 3,
 oC 7 215 ([5, 6])] false)
 (.seq (.reg [oM 8 0,
 oL 9 5 3,
 oD 10 240 ([8, 9, sA0]) [0, 1],
 oM 11 0,
 oL 12 5 3,
 oD 13 240 ([11, 12, sA35]) (rg 0 5),
 oM 14 0,
 oL 15 5 3,
 oD 16 240 ([14, 15, sA62]) (rg 0 8),
 oM 17 0,
 oL 18 5 3,
 oD 19 240 ([17, 18, sA11]) (rg 0 11),
 ob 20 (.build [zI, zI, zI, zI] [(0, 1, 10), (1, 1, 13), (2, 1, 16), (3, 1, 19)]) (rg 0 12),
 ⟨none, none, .store 4 4 20, (rg 0 13)⟩] true)
 (.ret)))
def Ki : IFn := ⟨2, 21, [.cell 4 4 true], false, Ki_c⟩
def Qk8 : List Nat := [100097, 3, 9, 16, 17, 18]
def Q1o6 : IR :=
 .seq (.reg [o 19 (.bin .lss 18 17)] false)
 (.seq (.cond 19 (.skip)
 (.exit 0))
 (.seq (.block 1 (.seq (.reg [oI 20 5 16 18,
 oL 21 5 20,
 o 11 (.zero zL1),
 oS 5 11 21] false)
 (.reg [oM 22 9,
 oM 23 3,
 oL 24 5 11,
 o 25 (.call false 23 [24]),
 o 26 (.lit 1 1 [zS] [(0, 25)]),
 oJ 27 1 16 22 26,
 oM 9 27] false)))
 (.reg [oA 28 18,
 oM 18 28] false)))
def Q22r : IR :=
 .seq (.reg [o 5 (.box 5 1),
 o 8 (.mov (.c (.ns 1)))] false)
 (.seq (.reg [o 9 (.mov (.c (.ns 1)))] false)
 (.seq (.seq (.reg [oM 12 0,
 oL 13 5 5,
 oM 14 2,
 oC 15 238 ([12, 13, 14, .c (iN 4)]),
 o 16 (.field 3 1 false 15),
 oN 17 16,
 o 18 (.mov (.c zI))] false)
 (.block 0 (.loop Qk8 Q1o6)))
 (.seq (.reg [oM 29 9,
 oM 8 29] false)
 (.ret))))
def K10 : IFn := ⟨4, 30, [.tmp 8], false, Q22r⟩
def Kq_c : IR :=
 .seq (.reg [o 3 (.box 5 1),
 o 4 (.mov (.c (zS)))] false)
 (.seq (.reg [oM 5 0,
 oM 6 0,
 o 7 (.nilck 6),
 oF 8 0 7,
 oK 9 1 8,
 oM 10 9,
 gF 11 10 (.faddr 0 3),
 gF 12 10 (.load 1 false 11),
 gF 13 10 (.bin .neq 12 (.c (iN 3))),
 gF 14 10 (.mov 13),
 gT 15 14 (.faddr 0 3),
 gT 16 14 (.load 1 false 15),
 gT 17 14 (.bin .neq 16 (.c zI)),
 gF 18 10 (.pick 14 17 (.c zB)),
 oQ 19 10 18,
 o 20 (.nilck 5),
 oF 21 0 20,
 oS 1 21 19] false)
 (.seq (.seq (.reg [oF 22 0 3,
 oK 23 1 22,
 o 24 (.bin .neq 23 (.c (iN 3)))] false)
 (.cond 24 (.seq (.reg [o 4 (.mov (.c (zS)))] false)
 (.ret))
 (.skip)))
 (.seq (.reg [oF 25 2 3,
 oK 26 1 25,
 oM 4 26] false)
 (.ret))))
def Kq : IFn := ⟨2, 27, [.tmp 4], false, Kq_c⟩
def Kc_c : IR :=
 .seq (.reg [o 4 (.box 5 1),
 o 6 (.mov (.c zB))] false)
 (.seq (.reg [oM 7 0,
 oL 8 5 4,
 oM 9 2,
 oC 10 238 ([7, 8, 9, .c (iN 1)]),
 o 11 (.field 1 1 false 10),
 o 12 (.bin .neq 11 (.c zI)),
 oM 6 12] false)
 (.ret))
def Kc : IFn := ⟨3, 13, [.tmp 6], false, Kc_c⟩
def Q22y : IR :=
 .seq (.reg [o 1 (.box 3 0),
 o 2 (.zero zL1)] false)
 (.seq (.reg [oF 3 0 1,
 oE 4 1 3 [0],
 oD 5 109 ([4]) [0, 1],
 oD 6 226 ([sA86, 5]) [0, 1, 2],
 oF 7 2 1,
 oE 8 1 7 [4],
 oD 9 109 ([8]) (rg 0 6),
 oD 10 226 ([sA3, 9]) (rg 0 7),
 oF 11 1 1,
 oE 12 1 11 [8],
 oD 13 109 ([12]) (rg 0 10),
 oD 14 226 ([sA23, 13]) (rg 0 11),
 ob 15 (.lit 6 3 zL0 [(0, 6), (1, 10), (2, 14)]) (rg 0 12),
 oD 16 78 ([15]) (rg 0 13),
 ⟨none, none, .store 5 2 16, (rg 0 14)⟩] true)
 (.ret))
def K17 : IFn := ⟨1, 17, [.cell 2 5 true], false, Q22y⟩
def Qkg : List Nat := [100098, 1, 4, 5, 8, 9, 10]
def Q1oe : IR :=
 .seq (.reg [o 11 (.bin .lss 10 9)] false)
 (.seq (.cond 11 (.skip)
 (.exit 0))
 (.seq (.block 1 (.seq (.reg [oI 12 4 8 10,
 oL 13 4 12,
 o 7 (.zero [zI, zI, zI, zI]),
 oS 4 7 13] false)
 (.reg [oM 14 5,
 oM 15 1,
 oL 16 4 7,
 o 17 (.call false 15 [16]),
 o 18 (.lit 5 1 zL1 [(0, 17)]),
 oJ 19 5 80 14 18,
 oM 5 19] false)))
 (.reg [oA 20 10,
 oM 10 20] false)))
def Q23a : IR :=
 .seq (.reg [o 4 (.zero zL1)] false)
 (.seq (.reg [o 5 (.mov (.c (.ns 5)))] false)
 (.seq (.seq (.reg [oM 8 0,
 oN 9 8,
 o 10 (.mov (.c zI))] false)
 (.block 0 (.loop Qkg Q1oe)))
 (.seq (.reg [oM 21 5,
 oC 22 256 ([21]),
 oS 5 4 22] false)
 (.ret))))
def K1j : IFn := ⟨2, 23, [.cell 4 5 true], false, Q23a⟩
def Q22w : IR :=
 .seq (.reg [o 1 (.box 4 0),
 o 2 (.zero zL1)] false)
 (.seq (.reg [oF 3 0 1,
 oE 4 1 3 [0],
 oD 5 109 ([4]) [0, 1],
 oD 6 226 ([sA0, 5]) [0, 1, 2],
 oF 7 3 1,
 oE 8 1 7 [4],
 oD 9 109 ([8]) (rg 0 6),
 oD 10 226 ([sA11, 9]) (rg 0 7),
 oF 11 1 1,
 oE 12 1 11 [8],
 oD 13 109 ([12]) (rg 0 10),
 oD 14 226 ([sA35, 13]) (rg 0 11),
 oF 15 2 1,
 oE 16 1 15 [12],
 oD 17 109 ([16]) (rg 0 14),
 oD 18 226 ([sA62, 17]) (rg 0 15),
 ob 19 (.lit 6 4 zL0 [(0, 6), (1, 10), (2, 14), (3, 18)]) (rg 0 16),
 oD 20 78 ([19]) (rg 0 17),
 ⟨none, none, .store 5 2 20, (rg 0 18)⟩] true)
 (.ret))
def K15 : IFn := ⟨1, 21, [.cell 2 5 true], false, Q22w⟩
def Qkh : List Nat := [100099, 1, 4, 5, 8, 9, 10]
def Q1of : IR :=
 .seq (.reg [o 11 (.bin .lss 10 9)] false)
 (.seq (.cond 11 (.skip)
 (.exit 0))
 (.seq (.block 1 (.seq (.reg [oI 12 1 8 10,
 oK 13 1 12,
 oM 7 13] false)
 (.reg [oM 14 5,
 oM 15 1,
 oM 16 7,
 o 17 (.call false 15 [16]),
 o 18 (.lit 5 1 zL1 [(0, 17)]),
 oJ 19 5 80 14 18,
 oM 5 19] false)))
 (.reg [oA 20 10,
 oM 10 20] false)))
def Q23b : IR :=
 .seq (.reg [o 4 (.zero zL1)] false)
 (.seq (.reg [o 5 (.mov (.c (.ns 5)))] false)
 (.seq (.seq (.reg [oM 8 0,
 oN 9 8,
 o 10 (.mov (.c zI))] false)
 (.block 0 (.loop Qkh Q1of)))
 (.seq (.reg [oM 21 5,
 oC 22 256 ([21]),
 oS 5 4 22] false)
 (.ret))))
def K1k : IFn := ⟨2, 23, [.cell 4 5 true], false, Q23b⟩
def table : List (Nat × Fun) :=
  [(4, .ir K0),
   (9, .ir K3o),
   (11, .ir K8),
   (12, .ir K6),
   (13, .ir K5o),
   (14, .ir K5b),
   (17, .ir K1v),
   (18, .ir K3t),
   (19, .ir K3q),
   (20, .ir K3l),
   (21, .ir K5w),
   (22, .ir K5e),
   (23, .ir K5r),
   (24, .ir K5c),
   (25, .ir K5j),
   (26, .ir K57),
   (27, .ir K1y),
   (35, .ir K5x),
   (43, .ir K5v),
   (58, .ir K49),
   (59, .ir K2a),
   (60, .ir K30),
   (63, .ir K1r),
   (64, .ir K5d),
   (65, .ir K1o),
   (66, .ir K1q),
   (67, .ir K1p),
   (68, .ir K77),
   (69, .ir K79),
   (70, .ir K5z),
   (71, .ir K66),
   (72, .ir K6a),
   (73, .ir K6e),
   (74, .ir K6g),
   (75, .ir K60),
   (76, .ir K62),
   (77, .ir K6f),
   (78, .ir K50),
   (79, .ir K75),
   (80, .ir K7l),
   (81, .ir K7n),
   (82, .ir K7o),
   (83, .ir K78),
   (84, .ir K6s),
   (85, .ir K76),
   (86, .ir K6x),
   (89, .ir K6d),
   (95, .ir K7m),
   (98, .ir K1n),
   (99, .ir K2q),
   (100, .ir K2e),
   (101, .ir K2f),
   (102, .ir K25),
   (103, .ir K26),
   (104, .ir K7a),
   (105, .ir K65),
   (106, .ir K63),
   (107, .ir K7b),
   (108, .ir K6z),
   (109, .ir K4y),
   (110, .ir K6t),
   (111, .ir K6i),
   (112, .ir K5k),
   (113, .ir K5l),
   (114, .ir K7c),
   (115, .ir K6j),
   (116, .ir K70),
   (117, .ir K71),
   (118, .ir K58),
   (119, .ir K1x),
   (120, .ir K1z),
   (134, .ir K7f),
   (135, .ir K67),
   (152, .ir K7i),
   (153, .ir K69),
   (163, .ir K2h),
   (164, .ir K2c),
   (165, .ir K2s),
   (166, .ir K2y),
   (167, .ir K24),
   (168, .ir K20),
   (169, .ir K2w),
   (170, .ir K1s),
   (171, .ir K6u),
   (172, .ir K1m),
   (173, .ir K1u),
   (174, .ir K61),
   (175, .ax (Qno 2 32)),
   (176, .ax (Qno 5 48)),
   (177, .ax (Qno 1 16)),
   (178, .ax (Qnn 2 40)),
   (179, .ir K6n),
   (180, .ir K6b),
   (181, .ir K6o),
   (182, .ir K6c),
   (183, .ir Ka),
   (184, .ir K4x),
   (185, .ax (Qnn 6 96)),
   (186, .ir K4s),
   (187, .ir K51),
   (188, .ir K4v),
   (189, .ir K53),
   (190, .ir K6v),
   (191, .ir K9),
   (192, .ir K4w),
   (193, .ir K52),
   (194, .ir K1l),
   (195, .ir K2d),
   (196, .ir K21),
   (197, .ir K6p),
   (198, .ir K64),
   (199, .ir K1w),
   (205, .ir K6q),
   (206, .ir K68),
   (211, .ir K2r),
   (212, .ir K2x),
   (213, .ir K2g),
   (214, .ir K2k),
   (215, .ir Ko),
   (216, .ir Ks),
   (217, .ir Ke),
   (218, .ir Kl),
   (219, .ir Kp),
   (220, .ir K4u),
   (221, .cmpstr),
   (222, .ax (Qnn 5 80)),
   (223, .ir K72),
   (224, .ir K6w),
   (225, .ir K73),
   (226, .ir K1b),
   (227, .ir K1c),
   (228, .ir K12),
   (229, .ir K18),
   (230, .ir K1t),
   (233, .ir K27),
   (234, .ir K2j),
   (235, .ir K2l),
   (236, .ir K2u),
   (237, .ir K2z),
   (238, .ir Kd),
   (239, .ir Kn),
   (240, .ir Kg),
   (241, .ir Kt),
   (242, .ir Kb),
   (243, .ir Ku),
   (244, .ir Kj),
   (245, .ir Kv),
   (246, .ir Kf),
   (247, .ir Kw),
   (248, .ir Kh),
   (249, .ir Kx),
   (250, .ir Km),
   (251, .ir Ky),
   (252, .ir Kr),
   (253, .ir K4t),
   (256, .ir K4z),
   (257, .ir K1d),
   (258, .ir K11),
   (259, .ir K1e),
   (260, .ir K16),
   (261, .ir K1f),
   (262, .ir K13),
   (263, .ir K1g),
   (264, .ir K14),
   (265, .ir K1h),
   (266, .ir K19),
   (267, .ir K1i),
   (268, .ir K1a),
   (274, .ir K2n),
   (275, .ir Kk),
   (276, .ir Kz),
   (277, .ir Ki),
   (278, .ir K10),
   (279, .ir Kq),
   (280, .ir Kc),
   (282, .ir K17),
   (283, .ir K1j),
   (284, .ir K15),
   (285, .ir K1k)]
end Go.Proofs.YtimjjohlpnkacaaGreat.Ir
end

section
/- The printed functions are the given ones. -/
namespace Go.Proofs.YtimjjohlpnkacaaGreat
open Go.Pv
theorem Q2ei : Qz Tryz.prog Tryz.f4 Ir.K0 = true := by kernel_rfl
theorem Q2ej : Qz Tryz.prog Tryz.f9 Ir.K3o = true := by kernel_rfl
theorem Q21e : Qz Tryz.prog Tryz.f11 Ir.K8 = true := by kernel_rfl
theorem Q21f : Qz Tryz.prog Tryz.f12 Ir.K6 = true := by kernel_rfl
theorem Q21g : Qz Tryz.prog Tryz.f13 Ir.K5o = true := by kernel_rfl
theorem Q21h : Qz Tryz.prog Tryz.f14 Ir.K5b = true := by kernel_rfl
theorem Q21i : Qz Tryz.prog Tryz.f17 Ir.K1v = true := by kernel_rfl
theorem Q21j : Qz Tryz.prog Tryz.f18 Ir.K3t = true := by kernel_rfl
theorem Q21k : Qz Tryz.prog Tryz.f19 Ir.K3q = true := by kernel_rfl
theorem Q21l : Qz Tryz.prog Tryz.f20 Ir.K3l = true := by kernel_rfl
theorem Q21m : Qz Tryz.prog Tryz.f21 Ir.K5w = true := by kernel_rfl
theorem Q21n : Qz Tryz.prog Tryz.f22 Ir.K5e = true := by kernel_rfl
theorem Q21o : Qz Tryz.prog Tryz.f23 Ir.K5r = true := by kernel_rfl
theorem Q21p : Qz Tryz.prog Tryz.f24 Ir.K5c = true := by kernel_rfl
theorem Q21q : Qz Tryz.prog Tryz.f25 Ir.K5j = true := by kernel_rfl
theorem Q21r : Qz Tryz.prog Tryz.f26 Ir.K57 = true := by kernel_rfl
theorem Q21s : Qz Tryz.prog Tryz.f27 Ir.K1y = true := by kernel_rfl
theorem Q21t : Qz Tryz.prog Tryz.f35 Ir.K5x = true := by kernel_rfl
theorem Q21u : Qz Tryz.prog Tryz.f43 Ir.K5v = true := by kernel_rfl
theorem Q21v : Qz Tryz.prog Tryz.f58 Ir.K49 = true := by kernel_rfl
theorem Q21w : Qz Tryz.prog Tryz.f59 Ir.K2a = true := by kernel_rfl
theorem Q21x : Qz Tryz.prog Tryz.f60 Ir.K30 = true := by kernel_rfl
theorem Q21y : Qz Tryz.prog Tryz.f63 Ir.K1r = true := by kernel_rfl
theorem Q21z : Qz Tryz.prog Tryz.f64 Ir.K5d = true := by kernel_rfl
theorem Q220 : Qz Tryz.prog Tryz.f65 Ir.K1o = true := by kernel_rfl
theorem Q221 : Qz Tryz.prog Tryz.f66 Ir.K1q = true := by kernel_rfl
theorem Q222 : Qz Tryz.prog Tryz.f67 Ir.K1p = true := by kernel_rfl
theorem Q223 : Qz Tryz.prog Tryz.f68 Ir.K77 = true := by kernel_rfl
theorem Q224 : Qz Tryz.prog Tryz.f69 Ir.K79 = true := by kernel_rfl
theorem Q225 : Qz Tryz.prog Tryz.f70 Ir.K5z = true := by kernel_rfl
theorem Q226 : Qz Tryz.prog Tryz.f71 Ir.K66 = true := by kernel_rfl
theorem Q227 : Qz Tryz.prog Tryz.f72 Ir.K6a = true := by kernel_rfl
theorem Q228 : Qz Tryz.prog Tryz.f73 Ir.K6e = true := by kernel_rfl
theorem Q229 : Qz Tryz.prog Tryz.f74 Ir.K6g = true := by kernel_rfl
theorem Q22a : Qz Tryz.prog Tryz.f75 Ir.K60 = true := by kernel_rfl
theorem Q22b : Qz Tryz.prog Tryz.f76 Ir.K62 = true := by kernel_rfl
theorem Q22c : Qz Tryz.prog Tryz.f77 Ir.K6f = true := by kernel_rfl
theorem Q22d : Qz Tryz.prog Tryz.f78 Ir.K50 = true := by kernel_rfl
theorem Q22e : Qz Tryz.prog Tryz.f79 Ir.K75 = true := by kernel_rfl
theorem Q22f : Qz Tryz.prog Tryz.f80 Ir.K7l = true := by kernel_rfl
theorem Q22g : Qz Tryz.prog Tryz.f81 Ir.K7n = true := by kernel_rfl
theorem Q22h : Qz Tryz.prog Tryz.f82 Ir.K7o = true := by kernel_rfl
theorem Q22i : Qz Tryz.prog Tryz.f83 Ir.K78 = true := by kernel_rfl
theorem Q22j : Qz Tryz.prog Tryz.f84 Ir.K6s = true := by kernel_rfl
theorem Q22k : Qz Tryz.prog Tryz.f85 Ir.K76 = true := by kernel_rfl
theorem Q22l : Qz Tryz.prog Tryz.f86 Ir.K6x = true := by kernel_rfl
theorem Q22m : Qz Tryz.prog Tryz.f89 Ir.K6d = true := by kernel_rfl
theorem Q22n : Qz Tryz.prog Tryz.f95 Ir.K7m = true := by kernel_rfl
theorem Q22o : Qz Tryz.prog Tryz.f98 Ir.K1n = true := by kernel_rfl
theorem Q22p : Qz Tryz.prog Tryz.f99 Ir.K2q = true := by kernel_rfl
theorem Q1sf : Qz Tryz.prog Tryz.f100 Ir.K2e = true := by kernel_rfl
theorem Q1sg : Qz Tryz.prog Tryz.f101 Ir.K2f = true := by kernel_rfl
theorem Q1sh : Qz Tryz.prog Tryz.f102 Ir.K25 = true := by kernel_rfl
theorem Q1si : Qz Tryz.prog Tryz.f103 Ir.K26 = true := by kernel_rfl
theorem Q1sj : Qz Tryz.prog Tryz.f104 Ir.K7a = true := by kernel_rfl
theorem Q1sk : Qz Tryz.prog Tryz.f105 Ir.K65 = true := by kernel_rfl
theorem Q1sl : Qz Tryz.prog Tryz.f106 Ir.K63 = true := by kernel_rfl
theorem Q1sm : Qz Tryz.prog Tryz.f107 Ir.K7b = true := by kernel_rfl
theorem Q1sn : Qz Tryz.prog Tryz.f108 Ir.K6z = true := by kernel_rfl
theorem Q1so : Qz Tryz.prog Tryz.f109 Ir.K4y = true := by kernel_rfl
theorem Q1sp : Qz Tryz.prog Tryz.f110 Ir.K6t = true := by kernel_rfl
theorem Q1sq : Qz Tryz.prog Tryz.f111 Ir.K6i = true := by kernel_rfl
theorem Q1sr : Qz Tryz.prog Tryz.f112 Ir.K5k = true := by kernel_rfl
theorem Q1ss : Qz Tryz.prog Tryz.f113 Ir.K5l = true := by kernel_rfl
theorem Q1st : Qz Tryz.prog Tryz.f114 Ir.K7c = true := by kernel_rfl
theorem Q1su : Qz Tryz.prog Tryz.f115 Ir.K6j = true := by kernel_rfl
theorem Q1sv : Qz Tryz.prog Tryz.f116 Ir.K70 = true := by kernel_rfl
theorem Q1sw : Qz Tryz.prog Tryz.f117 Ir.K71 = true := by kernel_rfl
theorem Q1sx : Qz Tryz.prog Tryz.f118 Ir.K58 = true := by kernel_rfl
theorem Q1sy : Qz Tryz.prog Tryz.f119 Ir.K1x = true := by kernel_rfl
theorem Q1sz : Qz Tryz.prog Tryz.f120 Ir.K1z = true := by kernel_rfl
theorem Q1t0 : Qz Tryz.prog Tryz.f134 Ir.K7f = true := by kernel_rfl
theorem Q1t1 : Qz Tryz.prog Tryz.f135 Ir.K67 = true := by kernel_rfl
theorem Q1t2 : Qz Tryz.prog Tryz.f152 Ir.K7i = true := by kernel_rfl
theorem Q1t3 : Qz Tryz.prog Tryz.f153 Ir.K69 = true := by kernel_rfl
theorem Q1t4 : Qz Tryz.prog Tryz.f163 Ir.K2h = true := by kernel_rfl
theorem Q1t5 : Qz Tryz.prog Tryz.f164 Ir.K2c = true := by kernel_rfl
theorem Q1t6 : Qz Tryz.prog Tryz.f165 Ir.K2s = true := by kernel_rfl
theorem Q1t7 : Qz Tryz.prog Tryz.f166 Ir.K2y = true := by kernel_rfl
theorem Q1t8 : Qz Tryz.prog Tryz.f167 Ir.K24 = true := by kernel_rfl
theorem Q1t9 : Qz Tryz.prog Tryz.f168 Ir.K20 = true := by kernel_rfl
theorem Q1ta : Qz Tryz.prog Tryz.f169 Ir.K2w = true := by kernel_rfl
theorem Q1tb : Qz Tryz.prog Tryz.f170 Ir.K1s = true := by kernel_rfl
theorem Q1tc : Qz Tryz.prog Tryz.f171 Ir.K6u = true := by kernel_rfl
theorem Q1td : Qz Tryz.prog Tryz.f172 Ir.K1m = true := by kernel_rfl
theorem Q1te : Qz Tryz.prog Tryz.f173 Ir.K1u = true := by kernel_rfl
theorem Q1tf : Qz Tryz.prog Tryz.f174 Ir.K61 = true := by kernel_rfl
theorem Q1tg : Qz Tryz.prog Tryz.f179 Ir.K6n = true := by kernel_rfl
theorem Q1th : Qz Tryz.prog Tryz.f180 Ir.K6b = true := by kernel_rfl
theorem Q1ti : Qz Tryz.prog Tryz.f181 Ir.K6o = true := by kernel_rfl
theorem Q1tj : Qz Tryz.prog Tryz.f182 Ir.K6c = true := by kernel_rfl
theorem Q1tk : Qz Tryz.prog Tryz.f183 Ir.Ka = true := by kernel_rfl
theorem Q1tl : Qz Tryz.prog Tryz.f184 Ir.K4x = true := by kernel_rfl
theorem Q1tm : Qz Tryz.prog Tryz.f186 Ir.K4s = true := by kernel_rfl
theorem Q1tn : Qz Tryz.prog Tryz.f187 Ir.K51 = true := by kernel_rfl
theorem Q1to : Qz Tryz.prog Tryz.f188 Ir.K4v = true := by kernel_rfl
theorem Q1tp : Qz Tryz.prog Tryz.f189 Ir.K53 = true := by kernel_rfl
theorem Q1tq : Qz Tryz.prog Tryz.f190 Ir.K6v = true := by kernel_rfl
theorem Q1tr : Qz Tryz.prog Tryz.f191 Ir.K9 = true := by kernel_rfl
theorem Q1ts : Qz Tryz.prog Tryz.f192 Ir.K4w = true := by kernel_rfl
theorem Q1tt : Qz Tryz.prog Tryz.f193 Ir.K52 = true := by kernel_rfl
theorem Q1tu : Qz Tryz.prog Tryz.f194 Ir.K1l = true := by kernel_rfl
theorem Q1tv : Qz Tryz.prog Tryz.f195 Ir.K2d = true := by kernel_rfl
theorem Q1tw : Qz Tryz.prog Tryz.f196 Ir.K21 = true := by kernel_rfl
theorem Q1tx : Qz Tryz.prog Tryz.f197 Ir.K6p = true := by kernel_rfl
theorem Q1ty : Qz Tryz.prog Tryz.f198 Ir.K64 = true := by kernel_rfl
theorem Q1tz : Qz Tryz.prog Tryz.f199 Ir.K1w = true := by kernel_rfl
theorem Q1u0 : Qz Tryz.prog Tryz.f205 Ir.K6q = true := by kernel_rfl
theorem Q1u1 : Qz Tryz.prog Tryz.f206 Ir.K68 = true := by kernel_rfl
theorem Q1u2 : Qz Tryz.prog Tryz.f211 Ir.K2r = true := by kernel_rfl
theorem Q1u3 : Qz Tryz.prog Tryz.f212 Ir.K2x = true := by kernel_rfl
theorem Q1u4 : Qz Tryz.prog Tryz.f213 Ir.K2g = true := by kernel_rfl
theorem Q1u5 : Qz Tryz.prog Tryz.f214 Ir.K2k = true := by kernel_rfl
theorem Q1u6 : Qz Tryz.prog Tryz.f215 Ir.Ko = true := by kernel_rfl
theorem Q1u7 : Qz Tryz.prog Tryz.f216 Ir.Ks = true := by kernel_rfl
theorem Q1u8 : Qz Tryz.prog Tryz.f217 Ir.Ke = true := by kernel_rfl
theorem Q1u9 : Qz Tryz.prog Tryz.f218 Ir.Kl = true := by kernel_rfl
theorem Q1ua : Qz Tryz.prog Tryz.f219 Ir.Kp = true := by kernel_rfl
theorem Q1ub : Qz Tryz.prog Tryz.f220 Ir.K4u = true := by kernel_rfl
theorem Q1uc : Qz Tryz.prog Tryz.f223 Ir.K72 = true := by kernel_rfl
theorem Q1ud : Qz Tryz.prog Tryz.f224 Ir.K6w = true := by kernel_rfl
theorem Q1ue : Qz Tryz.prog Tryz.f225 Ir.K73 = true := by kernel_rfl
theorem Q1uf : Qz Tryz.prog Tryz.f226 Ir.K1b = true := by kernel_rfl
theorem Q1ug : Qz Tryz.prog Tryz.f227 Ir.K1c = true := by kernel_rfl
theorem Q1uh : Qz Tryz.prog Tryz.f228 Ir.K12 = true := by kernel_rfl
theorem Q1ui : Qz Tryz.prog Tryz.f229 Ir.K18 = true := by kernel_rfl
theorem Q1uj : Qz Tryz.prog Tryz.f230 Ir.K1t = true := by kernel_rfl
theorem Q1uk : Qz Tryz.prog Tryz.f233 Ir.K27 = true := by kernel_rfl
theorem Q1ul : Qz Tryz.prog Tryz.f234 Ir.K2j = true := by kernel_rfl
theorem Q1um : Qz Tryz.prog Tryz.f235 Ir.K2l = true := by kernel_rfl
theorem Q1un : Qz Tryz.prog Tryz.f236 Ir.K2u = true := by kernel_rfl
theorem Q1uo : Qz Tryz.prog Tryz.f237 Ir.K2z = true := by kernel_rfl
theorem Q1up : Qz Tryz.prog Tryz.f238 Ir.Kd = true := by kernel_rfl
theorem Q1uq : Qz Tryz.prog Tryz.f239 Ir.Kn = true := by kernel_rfl
theorem Q1ur : Qz Tryz.prog Tryz.f240 Ir.Kg = true := by kernel_rfl
theorem Q1us : Qz Tryz.prog Tryz.f241 Ir.Kt = true := by kernel_rfl
theorem Q1ut : Qz Tryz.prog Tryz.f242 Ir.Kb = true := by kernel_rfl
theorem Q1uu : Qz Tryz.prog Tryz.f243 Ir.Ku = true := by kernel_rfl
theorem Q1uv : Qz Tryz.prog Tryz.f244 Ir.Kj = true := by kernel_rfl
theorem Q1uw : Qz Tryz.prog Tryz.f245 Ir.Kv = true := by kernel_rfl
theorem Q1ux : Qz Tryz.prog Tryz.f246 Ir.Kf = true := by kernel_rfl
theorem Q1uy : Qz Tryz.prog Tryz.f247 Ir.Kw = true := by kernel_rfl
theorem Q1uz : Qz Tryz.prog Tryz.f248 Ir.Kh = true := by kernel_rfl
theorem Q1v0 : Qz Tryz.prog Tryz.f249 Ir.Kx = true := by kernel_rfl
theorem Q1v1 : Qz Tryz.prog Tryz.f250 Ir.Km = true := by kernel_rfl
theorem Q1v2 : Qz Tryz.prog Tryz.f251 Ir.Ky = true := by kernel_rfl
theorem Q1v3 : Qz Tryz.prog Tryz.f252 Ir.Kr = true := by kernel_rfl
theorem Q1v4 : Qz Tryz.prog Tryz.f253 Ir.K4t = true := by kernel_rfl
theorem Q1v5 : Qz Tryz.prog Tryz.f256 Ir.K4z = true := by kernel_rfl
theorem Q1v6 : Qz Tryz.prog Tryz.f257 Ir.K1d = true := by kernel_rfl
theorem Q1v7 : Qz Tryz.prog Tryz.f258 Ir.K11 = true := by kernel_rfl
theorem Q1v8 : Qz Tryz.prog Tryz.f259 Ir.K1e = true := by kernel_rfl
theorem Q1v9 : Qz Tryz.prog Tryz.f260 Ir.K16 = true := by kernel_rfl
theorem Q1va : Qz Tryz.prog Tryz.f261 Ir.K1f = true := by kernel_rfl
theorem Q1vb : Qz Tryz.prog Tryz.f262 Ir.K13 = true := by kernel_rfl
theorem Q1vc : Qz Tryz.prog Tryz.f263 Ir.K1g = true := by kernel_rfl
theorem Q1vd : Qz Tryz.prog Tryz.f264 Ir.K14 = true := by kernel_rfl
theorem Q1ve : Qz Tryz.prog Tryz.f265 Ir.K1h = true := by kernel_rfl
theorem Q1vf : Qz Tryz.prog Tryz.f266 Ir.K19 = true := by kernel_rfl
theorem Q1vg : Qz Tryz.prog Tryz.f267 Ir.K1i = true := by kernel_rfl
theorem Q1vh : Qz Tryz.prog Tryz.f268 Ir.K1a = true := by kernel_rfl
theorem Q1vi : Qz Tryz.prog Tryz.f274 Ir.K2n = true := by kernel_rfl
theorem Q1vj : Qz Tryz.prog Tryz.f275 Ir.Kk = true := by kernel_rfl
theorem Q1vk : Qz Tryz.prog Tryz.f276 Ir.Kz = true := by kernel_rfl
theorem Q1vl : Qz Tryz.prog Tryz.f277 Ir.Ki = true := by kernel_rfl
theorem Q1vm : Qz Tryz.prog Tryz.f278 Ir.K10 = true := by kernel_rfl
theorem Q1vn : Qz Tryz.prog Tryz.f279 Ir.Kq = true := by kernel_rfl
theorem Q1vo : Qz Tryz.prog Tryz.f280 Ir.Kc = true := by kernel_rfl
theorem Q1vp : Qz Tryz.prog Tryz.f282 Ir.K17 = true := by kernel_rfl
theorem Q1vq : Qz Tryz.prog Tryz.f283 Ir.K1j = true := by kernel_rfl
theorem Q1vr : Qz Tryz.prog Tryz.f284 Ir.K15 = true := by kernel_rfl
theorem Q1vs : Qz Tryz.prog Tryz.f285 Ir.K1k = true := by kernel_rfl
theorem Q1vt : Q7a Tryz.prog Tryz.f175 2 32 [.str ⟨#[]⟩, .str ⟨#[]⟩] = true := by kernel_rfl
theorem Q1vu : Q7a Tryz.prog Tryz.f176 5 48 [.str ⟨#[]⟩, .str ⟨#[]⟩, .int .i64 0, .bool false, .bool false] = true := by kernel_rfl
theorem Q1vv : Q7a Tryz.prog Tryz.f177 1 16 [.str ⟨#[]⟩] = true := by kernel_rfl
theorem Q1vw : Q7a Tryz.prog Tryz.f178 2 40 [.str ⟨#[]⟩, .ns 1] = true := by kernel_rfl
theorem Q1vx : Q7a Tryz.prog Tryz.f185 6 96 [.str ⟨#[]⟩, .int .i64 0, .int .i64 0, .str ⟨#[]⟩, .ns 5, .ns 6] = true := by kernel_rfl
theorem Q1vy : Q7a Tryz.prog Tryz.f222 5 80 [.int .i64 0, .int .i64 0, .str ⟨#[]⟩, .ns 5, .ns 6] = true := by kernel_rfl
theorem mixed : Tryz.prog.follows .mixedOrders = true := by kernel_rfl
theorem own : ownKnob Tryz.prog.godebug = none := by kernel_rfl
theorem laidOut : laidOutB Tryz.prog = true := by kernel_rfl
theorem tie (cmp : Q1ky Tryz.prog 221) : Tie Tryz.prog (tabG Ir.table) :=
  Qf Tryz.func4 Q2ei <| Qf Tryz.func9 Q2ej <| Qf Tryz.func11 Q21e <| Qf Tryz.func12 Q21f <| Qf Tryz.func13 Q21g <| Qf Tryz.func14 Q21h <| Qf Tryz.func17 Q21i <| Qf Tryz.func18 Q21j <| Qf Tryz.func19 Q21k <| Qf Tryz.func20 Q21l <| Qf Tryz.func21 Q21m <| Qf Tryz.func22 Q21n <| Qf Tryz.func23 Q21o <| Qf Tryz.func24 Q21p <| Qf Tryz.func25 Q21q <| Qf Tryz.func26 Q21r <| Qf Tryz.func27 Q21s <| Qf Tryz.func35 Q21t <| Qf Tryz.func43 Q21u <| Qf Tryz.func58 Q21v <| Qf Tryz.func59 Q21w <| Qf Tryz.func60 Q21x <| Qf Tryz.func63 Q21y <| Qf Tryz.func64 Q21z <| Qf Tryz.func65 Q220 <| Qf Tryz.func66 Q221 <| Qf Tryz.func67 Q222 <| Qf Tryz.func68 Q223 <| Qf Tryz.func69 Q224 <| Qf Tryz.func70 Q225 <| Qf Tryz.func71 Q226 <| Qf Tryz.func72 Q227 <| Qf Tryz.func73 Q228 <| Qf Tryz.func74 Q229 <| Qf Tryz.func75 Q22a <| Qf Tryz.func76 Q22b <| Qf Tryz.func77 Q22c <| Qf Tryz.func78 Q22d <| Qf Tryz.func79 Q22e <| Qf Tryz.func80 Q22f <| Qf Tryz.func81 Q22g <| Qf Tryz.func82 Q22h <| Qf Tryz.func83 Q22i <| Qf Tryz.func84 Q22j <| Qf Tryz.func85 Q22k <| Qf Tryz.func86 Q22l <| Qf Tryz.func89 Q22m <| Qf Tryz.func95 Q22n <| Qf Tryz.func98 Q22o <| Qf Tryz.func99 Q22p <| Qf Tryz.func100 Q1sf <| Qf Tryz.func101 Q1sg <| Qf Tryz.func102 Q1sh <| Qf Tryz.func103 Q1si <| Qf Tryz.func104 Q1sj <| Qf Tryz.func105 Q1sk <| Qf Tryz.func106 Q1sl <| Qf Tryz.func107 Q1sm <| Qf Tryz.func108 Q1sn <| Qf Tryz.func109 Q1so <| Qf Tryz.func110 Q1sp <| Qf Tryz.func111 Q1sq <| Qf Tryz.func112 Q1sr <| Qf Tryz.func113 Q1ss <| Qf Tryz.func114 Q1st <| Qf Tryz.func115 Q1su <| Qf Tryz.func116 Q1sv <| Qf Tryz.func117 Q1sw <| Qf Tryz.func118 Q1sx <| Qf Tryz.func119 Q1sy <| Qf Tryz.func120 Q1sz <| Qf Tryz.func134 Q1t0 <| Qf Tryz.func135 Q1t1 <| Qf Tryz.func152 Q1t2 <| Qf Tryz.func153 Q1t3 <| Qf Tryz.func163 Q1t4 <| Qf Tryz.func164 Q1t5 <| Qf Tryz.func165 Q1t6 <| Qf Tryz.func166 Q1t7 <| Qf Tryz.func167 Q1t8 <| Qf Tryz.func168 Q1t9 <| Qf Tryz.func169 Q1ta <| Qf Tryz.func170 Q1tb <| Qf Tryz.func171 Q1tc <| Qf Tryz.func172 Q1td <| Qf Tryz.func173 Q1te <| Qf Tryz.func174 Q1tf <| (fun h => Qbc h (Qnp mixed Tryz.func175 Q1vt)) <| (fun h => Qbc h (Qnp mixed Tryz.func176 Q1vu)) <| (fun h => Qbc h (Qnp mixed Tryz.func177 Q1vv)) <| (fun h => Qbc h (Qx9 mixed Tryz.func178 Q1vw)) <| Qf Tryz.func179 Q1tg <| Qf Tryz.func180 Q1th <| Qf Tryz.func181 Q1ti <| Qf Tryz.func182 Q1tj <| Qf Tryz.func183 Q1tk <| Qf Tryz.func184 Q1tl <| (fun h => Qbc h (Qx9 mixed Tryz.func185 Q1vx)) <| Qf Tryz.func186 Q1tm <| Qf Tryz.func187 Q1tn <| Qf Tryz.func188 Q1to <| Qf Tryz.func189 Q1tp <| Qf Tryz.func190 Q1tq <| Qf Tryz.func191 Q1tr <| Qf Tryz.func192 Q1ts <| Qf Tryz.func193 Q1tt <| Qf Tryz.func194 Q1tu <| Qf Tryz.func195 Q1tv <| Qf Tryz.func196 Q1tw <| Qf Tryz.func197 Q1tx <| Qf Tryz.func198 Q1ty <| Qf Tryz.func199 Q1tz <| Qf Tryz.func205 Q1u0 <| Qf Tryz.func206 Q1u1 <| Qf Tryz.func211 Q1u2 <| Qf Tryz.func212 Q1u3 <| Qf Tryz.func213 Q1u4 <| Qf Tryz.func214 Q1u5 <| Qf Tryz.func215 Q1u6 <| Qf Tryz.func216 Q1u7 <| Qf Tryz.func217 Q1u8 <| Qf Tryz.func218 Q1u9 <| Qf Tryz.func219 Q1ua <| Qf Tryz.func220 Q1ub <| (fun h => Qbc h cmp) <| (fun h => Qbc h (Qx9 mixed Tryz.func222 Q1vy)) <| Qf Tryz.func223 Q1uc <| Qf Tryz.func224 Q1ud <| Qf Tryz.func225 Q1ue <| Qf Tryz.func226 Q1uf <| Qf Tryz.func227 Q1ug <| Qf Tryz.func228 Q1uh <| Qf Tryz.func229 Q1ui <| Qf Tryz.func230 Q1uj <| Qf Tryz.func233 Q1uk <| Qf Tryz.func234 Q1ul <| Qf Tryz.func235 Q1um <| Qf Tryz.func236 Q1un <| Qf Tryz.func237 Q1uo <| Qf Tryz.func238 Q1up <| Qf Tryz.func239 Q1uq <| Qf Tryz.func240 Q1ur <| Qf Tryz.func241 Q1us <| Qf Tryz.func242 Q1ut <| Qf Tryz.func243 Q1uu <| Qf Tryz.func244 Q1uv <| Qf Tryz.func245 Q1uw <| Qf Tryz.func246 Q1ux <| Qf Tryz.func247 Q1uy <| Qf Tryz.func248 Q1uz <| Qf Tryz.func249 Q1v0 <| Qf Tryz.func250 Q1v1 <| Qf Tryz.func251 Q1v2 <| Qf Tryz.func252 Q1v3 <| Qf Tryz.func253 Q1v4 <| Qf Tryz.func256 Q1v5 <| Qf Tryz.func257 Q1v6 <| Qf Tryz.func258 Q1v7 <| Qf Tryz.func259 Q1v8 <| Qf Tryz.func260 Q1v9 <| Qf Tryz.func261 Q1va <| Qf Tryz.func262 Q1vb <| Qf Tryz.func263 Q1vc <| Qf Tryz.func264 Q1vd <| Qf Tryz.func265 Q1ve <| Qf Tryz.func266 Q1vf <| Qf Tryz.func267 Q1vg <| Qf Tryz.func268 Q1vh <| Qf Tryz.func274 Q1vi <| Qf Tryz.func275 Q1vj <| Qf Tryz.func276 Q1vk <| Qf Tryz.func277 Q1vl <| Qf Tryz.func278 Q1vm <| Qf Tryz.func279 Q1vn <| Qf Tryz.func280 Q1vo <| Qf Tryz.func282 Q1vp <| Qf Tryz.func283 Q1vq <| Qf Tryz.func284 Q1vr <| Qf Tryz.func285 Q1vs <| Q1vz
end Go.Proofs.YtimjjohlpnkacaaGreat
end

section
/-
  Runs along a trace, over views: operations, regions, code, calls, loops' rounds.
-/
namespace Go.Pv
def Seen (o : Option Ob) (rows : List (List PV)) : Prop := ∃ ob, o = some ob ∧ ViewOK ob.sz ob.cells rows
theorem Q3o {ob : Ob} {rows : List (List PV)} (h : ViewOK ob.sz ob.cells rows) : Seen (some ob) rows := ⟨ob, rfl, h⟩
def putV (vw : Views) (cut : List Nat) (new : Views) : Views := new ++ vw.filter fun x => !(has cut x.1)
theorem Q149 {vw : Views} {cut : List Nat} {id : Nat} {rows : List (List PV)} (h : look (vw.filter fun x => !(has cut x.1)) id = some rows) : look vw id = some rows ∧ has cut id = false := by
 induction vw with
 | nil => cases h
 | cons x r ih =>
  obtain ⟨k, rs⟩ := x
  simp only [List.filter_cons] at h
  cases hc : has cut k with
  | true =>
   rw [hc] at h
   simp only [Bool.not_true, Bool.false_eq_true, if_false] at h
   obtain ⟨h1, h2⟩ := ih h
   refine ⟨?_, h2⟩
   simp only [look]
   cases c : Nat.beq k id with
   | true =>
    have := Nat.eq_of_beq_eq_true c
    subst this
    rw [hc] at h2
    cases h2
   | false => exact h1
  | false =>
   rw [hc] at h
   simp only [Bool.not_false, if_true, look] at h ⊢
   cases c : Nat.beq k id with
   | true =>
    rw [c] at h
    have := Nat.eq_of_beq_eq_true c
    subst this
    exact ⟨h, hc⟩
   | false =>
    rw [c] at h
    exact ih h
theorem Q11b {l : List Nat} {id : Nat} (h : has l id = false) : id ∉ l := by
  induction l with
  | nil => exact List.not_mem_nil
  | cons k r ih =>
    simp only [has] at h
    cases c : Nat.beq k id with
    | true => rw [c] at h; cases h
    | false =>
      rw [c] at h
      simp only [cond_false] at h
      intro hm
      rcases List.mem_cons.1 hm with rfl | hm
      · simp at c
      · exact ih h hm
theorem Qog {vw new : Views} {cut : List Nat} {id : Nat} {rows : List (List PV)} (h : look (putV vw cut new) id = some rows) : look new id = some rows ∨ (look vw id = some rows ∧ id ∉ cut) := by
 unfold putV at h
 rw [Qxo] at h
 cases hn : look new id with
 | some r => rw [hn] at h; exact .inl h
 | none =>
  rw [hn] at h
  obtain ⟨h1, h2⟩ := Q149 h
  exact .inr ⟨h1, Q11b h2⟩
theorem Q14a {α : Type} {l : List (Nat × α)} {id : Nat} {x : α} (h : look l id = some x) : (id, x) ∈ l := by
 induction l with
 | nil => cases h
 | cons y r ih =>
  obtain ⟨k, z⟩ := y
  simp only [look] at h
  cases c : Nat.beq k id with
  | true =>
   rw [c] at h
   have := Nat.eq_of_beq_eq_true c
   subst this
   simp only [cond_true, Option.some.injEq] at h
   subst h
   exact List.mem_cons_self
  | false =>
   rw [c] at h
   exact List.mem_cons_of_mem _ (ih h)
def Turned (H : Nat → Option Ob) (vw : Views) (e : EV) : Prop := VOK (upH H e.eff.hw) (putV vw e.cut e.new)
theorem Q19g {ws : List (Nat × Option Ob)} {H : Nat → Option Ob} {id : Nat} {o : Option Ob} (hn : (ws.map (·.1)).Nodup) (h : (id, o) ∈ ws) : upH H ws id = o := by
  induction ws generalizing H with
  | nil => cases h
  | cons x r ih =>
    obtain ⟨k, z⟩ := x
    simp only [List.map_cons, List.nodup_cons] at hn
    rw [upH]
    rcases List.mem_cons.1 h with e | h
    · injection e with e1 e2
      subst e1 e2
      rw [Q8b (fun y hy e => hn.1 (by rw [← e]; exact List.mem_map_of_mem hy))]
      simp
    · exact ih hn.2 h
theorem Q12x : ∀ {l : List Nat}, nodupB l = true → l.Nodup
 | [], _ => List.nodup_nil
 | k :: r, h => by
  simp only [nodupB, Bool.and_eq_true, Bool.not_eq_true'] at h
  exact List.nodup_cons.2 ⟨Q11b h.1, Q12x h.2⟩
theorem Q13d {H : Nat → Option Ob} : ∀ (l : List Nat) (cl : List (Nat × Option Ob)), shut H l = some cl → ∀ id o, (id, o) ∈ cl → ∃ ob ob', H id = some ob ∧ o = some ob' ∧ ob'.sz = ob.sz ∧ ob'.cells = ob.cells
  | [], cl, h, id, o, hm => by
    simp only [shut, Option.some.injEq] at h
    subst h
    cases hm
  | k :: r, cl, h, id, o, hm => by
    simp only [shut] at h
    obtain ⟨ob, hob, h⟩ := Qi h
    obtain ⟨m, hm', h⟩ := Qi h
    simp only [Option.some.injEq] at h
    subst h
    rcases List.mem_cons.1 hm with e | hm
    · injection e with e1 e2
      subst e1 e2
      exact ⟨ob, _, hob, rfl, rfl, rfl⟩
    · exact Q13d r m hm' id o hm
def Q1i1 (H : Nat → Option Ob) (vw : Views) (fr : Nat) (byRef : Bool) (f : Nat) (args : List PV) (az : List Ans) : Option EV :=
  (Q1pm H vw fr byRef f args az).bind fun e => bif nodupB (e.eff.hw.map (·.1)) then some e else none
theorem Q11c {G : Nat → Option Fun} {H : Nat → Option Ob} {vw : Views} (hv : VOK H vw) {fr : Nat} {byRef : Bool} {f : Nat} {args : List PV} {az : List Ans} {e : EV} (h : Q1i1 H vw fr byRef f args az = some e) (hm : Met e.owed) (hq : Told G e.asked) : Qg6 (lim G) H fr byRef f args = some e.eff ∧ Turned H vw e := by
  unfold Q1i1 at h
  obtain ⟨e', h0, h'⟩ := Qi h
  clear h
  cases hnd : nodupB (e'.eff.hw.map (·.1)) with
  | false => rw [hnd] at h'; cases h'
  | true =>
  rw [hnd] at h'
  simp only [cond_true, Option.some.injEq] at h'
  subst h'
  have hnd := Q12x hnd
  unfold Q1pm at h0
  unfold Qg6
  obtain ⟨y, hy, h⟩ := Qi h0
  clear h0
  obtain ⟨z, hz, h⟩ := Qi h
  simp only at h
  cases hd : disj (y.1.2.2 ++ z.1.2.2) z.1.2.1 with
  | false => rw [hd] at h; cases h
  | true =>
    rw [hd] at h
    simp only [cond_true] at h
    cases az with
    | nil => cases h
    | cons a az' =>
      obtain ⟨r, avw⟩ := a
      cases r with
      | st _ _ => cases h
      | ret v hh =>
        simp only at h
        cases hb : (Nat.ble z.1.2.1.length hh.length && Nat.ble (hh.length - z.1.2.1.length) 64) with
        | false => rw [hb] at h; cases h
        | true =>
          rw [hb] at h
          simp only [cond_true] at h
          obtain ⟨v', hv', h⟩ := Qi h
          obtain ⟨ws, hws, h⟩ := Qi h
          have key : ∀ (hy' : Met y.2) (hz' : Met z.2) (hw' : Met ws.2.1) (ht : Q0 G (.call f y.1.1 z.1.1) (.ret v hh)) (E : Eff),
              (bif flat 8 v && hh.all (fun ob => ob.cells.all (flat 8)) then some ⟨v', ws.1, z.1.2.1 ++ (y.1.2.2 ++ z.1.2.2)⟩ else (shut H (y.1.2.2 ++ z.1.2.2)).bind fun cl => some ⟨v', ws.1 ++ cl, z.1.2.1 ++ (y.1.2.2 ++ z.1.2.2)⟩) = some E →
              ((Q5y (pass H byRef 8) args []).bind fun y => (Q3s H false false 16 0 y.2.1).bind fun z =>
                let ids := z.2.1
                let lent := y.2.2 ++ z.2.2
                bif disj lent ids then
                  (lim G (.call f y.1 z.1)).bind fun r =>
                    match r with
                    | .ret v h =>
                      bif Nat.ble ids.length h.length && Nat.ble (h.length - ids.length) 64 then
                        (back (ren ids fr) 8 v).bind fun v' => (Qa3 (ren ids fr) 0 h).bind fun ws =>
                          bif flat 8 v && h.all (fun ob => ob.cells.all (flat 8)) then some ⟨v', ws, ids ++ lent⟩
                          else (shut H lent).bind fun cl => some ⟨v', ws ++ cl, ids ++ lent⟩
                      else none
                    | _ => none
                else none) = some E := by
            intro hy' hz' hw' ht E hE
            rw [Q4d (Q85 hv 8) _ _ y hy hy', Option.bind_some, Q5m hv 16 _ _ z hz hz', Option.bind_some]
            simp only
            rw [hd]
            simp only [cond_true]
            rw [Q1pp ht, Option.bind_some]
            simp only
            rw [hb]
            simp only [cond_true]
            rw [hv', Option.bind_some, Q8u hh 0 ws hws hw', Option.bind_some]
            exact hE
          have turn : ∀ (cl : List (Nat × Option Ob)) (hcl : ∀ id o, (id, o) ∈ cl → ∃ ob ob', H id = some ob ∧ o = some ob' ∧ ob'.sz = ob.sz ∧ ob'.cells = ob.cells) (hn : ((ws.1 ++ cl).map (·.1)).Nodup) (hw' : Met ws.2.1) , VOK (upH H (ws.1 ++ cl)) (putV vw (ws.1.map (·.1)) ws.2.2) := by
            intro cl hcl hn hw' id rows hl
            rcases Qog hl with hl | ⟨hl, hc⟩
            · obtain ⟨ob, hob, hok⟩ := Q8v hh 0 ws hws hw' id rows (Q14a hl)
              exact ⟨ob, Q19g hn (List.mem_append_left _ hob), hok⟩
            · obtain ⟨ob, hob, hok⟩ := hv id rows hl
              by_cases hx : ∃ o, (id, o) ∈ cl
              · obtain ⟨o, ho⟩ := hx
                obtain ⟨ob1, ob', h1, rfl, h2, h3⟩ := hcl id o ho
                rw [hob] at h1
                injection h1 with h1
                subst h1
                refine ⟨ob', Q19g hn (List.mem_append_right _ ho), ?_⟩
                rw [h2, h3]
                exact hok
              · refine ⟨ob, ?_, hok⟩
                rw [Q8b (fun y hy e => ?_)]
                · exact hob
                · rcases List.mem_append.1 hy with hy | hy
                  · exact hc (by rw [← e]; exact List.mem_map_of_mem hy)
                  · exact hx ⟨y.2, by rw [← e]; exact hy⟩
          cases hlent : y.1.2.2 ++ z.1.2.2 with
          | nil =>
            rw [hlent] at h
            simp only [Option.some.injEq] at h
            subst h
            simp only at hm hq hnd
            refine ⟨key hm.left hm.right.left hm.right.right (hq _ List.mem_cons_self) _ ?_, ?_⟩
            · rw [hlent]
              cases (flat 8 v && hh.all (fun ob => ob.cells.all (flat 8))) <;> simp [shut]
            · have := turn [] (fun _ _ h => by cases h) (by simpa using hnd) hm.right.right
              rw [List.append_nil] at this
              exact this
          | cons l0 lr =>
            rw [hlent] at h
            simp only at h
            cases hf : (flat 8 v && hh.all (fun ob => ob.cells.all (flat 8))) with
            | true =>
              rw [hf] at h
              simp only [cond_true, Option.some.injEq] at h
              subst h
              simp only at hm hq hnd
              refine ⟨key hm.left hm.right.left hm.right.right (hq _ List.mem_cons_self) _ ?_, ?_⟩
              · rw [hlent, hf]
                rfl
              · have := turn [] (fun _ _ h => by cases h) (by simpa using hnd) hm.right.right
                rw [List.append_nil] at this
                exact this
            | false =>
              rw [hf] at h
              simp only [cond_false] at h
              obtain ⟨cl, hcl, h⟩ := Qi h
              simp only [Option.some.injEq] at h
              subst h
              simp only at hm hq hnd
              refine ⟨key hm.left hm.right.left hm.right.right (hq _ List.mem_cons_self) _ ?_, ?_⟩
              · rw [hlent, hf]
                simp only [cond_false]
                rw [hcl, Option.bind_some]
              · exact turn cl (Q13d _ _ hcl) hnd hm.right.right
def mute : Orc := fun _ => none
theorem Q17u {X : Orc} {e : Nat → PV} {H : Nat → Option Ob} {fr : Nat} {o : IOp} {x : Eff} (h : iop mute e H fr o = some x) : iop X e H fr o = some x := by
 cases o with
 | call b f xs =>
  simp only [iop] at h
  obtain ⟨t, _, h⟩ := Qi h
  obtain ⟨_, h, _⟩ := Qi h
  unfold Qg6 at h
  obtain ⟨y, _, h⟩ := Qi h
  obtain ⟨z, _, h⟩ := Qi h
  simp only at h
  cases hd : disj (y.2.2 ++ z.2.2) z.2.1 with
  | false => rw [hd] at h; cases h
  | true =>
   rw [hd] at h
   simp only [cond_true] at h
   obtain ⟨_, h, _⟩ := Qi h
   cases h
 | _ => exact h
theorem Q1ak {X : Orc} {e : Nat → PV} {H : Nat → Option Ob} {fr : Nat} {o : IOper} {x : Eff} (h : Q8y mute e H fr o = some x) : Q8y X e H fr o = some x := by
 unfold Q8y at h ⊢
 obtain ⟨w, hw, h⟩ := Qi h
 rw [hw, Option.bind_some]
 cases w with
 | true => exact Q17u h
 | false => exact h
def iopV (e : Nat → PV) (H : Nat → Option Ob) (vw : Views) (fr : Nat) (az : List Ans) : IOp → Option EV
  | .call byRef f args => (target (f.ev e) (evs e args)).bind fun t => (Q1i1 H vw fr byRef t.1 t.2 az).bind fun y => some { y with eff := trim H y.eff }
  | o => (iop mute e H fr o).bind fun x => some ⟨x, x.hw.map (·.1), [], az, [], []⟩
def Q17w (e : Nat → PV) (H : Nat → Option Ob) (vw : Views) (fr : Nat) (az : List Ans) (o : IOper) : Option EV :=
 (o.wanted e).bind fun w => bif w then iopV e H vw fr az o.op else some ⟨⟨.tup [], [], []⟩, [], [], az, [], []⟩
theorem Qfy {H : Nat → Option Ob} {vw : Views} (hv : VOK H vw) {x : Eff} {az : List Ans} : Turned H vw ⟨x, x.hw.map (·.1), [], az, [], []⟩ := by
  intro id rows hl
  rcases Qog hl with hl | ⟨hl, hc⟩
  · cases hl
  · obtain ⟨ob, hob, hok⟩ := hv id rows hl
    refine ⟨ob, ?_, hok⟩
    rw [Q8b (fun y hy e => hc (by rw [← e]; exact List.mem_map_of_mem hy))]
    exact hob
theorem Qft {G : Nat → Option Fun} {e : Nat → PV} {H : Nat → Option Ob} {vw : Views} (hv : VOK H vw) {fr : Nat} {az : List Ans} {o : IOper} {y : EV} (h : Q17w e H vw fr az o = some y) (hm : Met y.owed) (hq : Told G y.asked) : Q8y (lim G) e H fr o = some y.eff ∧ Turned H vw y := by
  unfold Q17w at h
  obtain ⟨w, hw, h⟩ := Qi h
  unfold Q8y
  rw [hw, Option.bind_some]
  cases w with
  | false =>
    simp only [cond_false, Option.some.injEq] at h
    subst h
    exact ⟨rfl, Qfy hv (x := ⟨.tup [], [], []⟩)⟩
  | true =>
    simp only [cond_true] at h ⊢
    have gen : ((iop mute e H fr o.op).bind fun x => some (⟨x, x.hw.map (·.1), [], az, [], []⟩ : EV)) = some y → iop (lim G) e H fr o.op = some y.eff ∧ Turned H vw y := by
      intro h
      obtain ⟨x, hx, h⟩ := Qi h
      simp only [Option.some.injEq] at h
      subst h
      exact ⟨Q17u hx, Qfy hv⟩
    cases ho : o.op with
    | call b f xs =>
      rw [ho] at h
      simp only [iopV] at h
      obtain ⟨t, ht, h⟩ := Qi h
      simp only [iop]
      obtain ⟨y', h9, hy⟩ := Qi h
      clear h
      simp only [Option.some.injEq] at hy
      subst hy
      have hs := Q11c hv h9 hm hq
      rw [ht, Option.bind_some, hs.1, Option.bind_some]
      refine ⟨rfl, fun id rows hl => ?_⟩
      rw [Q15c]
      exact hs.2 id rows hl
    | _ =>
      rw [ho] at h gen
      exact gen h
abbrev Q8g := List (Nat × (Eff × Views))
structure TV where
  env : List PV
  heap : List (Nat × Ob)
  vw : Views
  effs : List Eff
  hs : Q8g
  az : List Ans
  owed : List Prop
  asked : Qc9
def nobody : Nat → Option Ob := fun _ => none
def Q11f (nx : Nat) : Nat → List IOper → Q8g → List Ans → List PV → List (Nat × Ob) → Views → Option TV
  | _, [], hs, az, env, h, vw => some ⟨env, h, vw, [], hs, az, [], []⟩
  | i, o :: r, hs, az, env, h, vw =>
    match hs with
    | [] => (Q17w (envF env) (look h) vw (nx + 64 * i) az o).bind fun x => (Q11f nx (i + 1) r [] x.az (put env o.dst x.eff.v) (hput h x.eff.hw) (putV vw x.cut x.new)).bind fun y => some ⟨y.env, y.heap, y.vw, x.eff :: y.effs, y.hs, y.az, x.owed ++ y.owed, x.asked ++ y.asked⟩
    | (k + 1, z) :: hs' => (Q17w (envF env) (look h) vw (nx + 64 * i) az o).bind fun x => (Q11f nx (i + 1) r ((k, z) :: hs') x.az (put env o.dst x.eff.v) (hput h x.eff.hw) (putV vw x.cut x.new)).bind fun y => some ⟨y.env, y.heap, y.vw, x.eff :: y.effs, y.hs, y.az, x.owed ++ y.owed, x.asked ++ y.asked⟩
    | (0, x) :: hs' => (Q11f nx (i + 1) r hs' az (put env o.dst x.1.v) (hput h x.1.hw) (putV vw (x.1.hw.map (·.1)) x.2)).bind fun y => some ⟨y.env, y.heap, y.vw, x.1 :: y.effs, y.hs, y.az, (Q8y mute (envF env) (look h) (nx + 64 * i) o = some x.1) :: ((x.2.map fun p => Seen (upH nobody x.1.hw p.1) p.2) ++ y.owed), y.asked⟩
theorem VOK.turned {h : List (Nat × Ob)} {vw : Views} {y : EV} (ht : Turned (look h) vw y) : VOK (look (hput h y.eff.hw)) (putV vw y.cut y.new) := by
 rw [Q84]
 exact ht
theorem Q1d8 {ws : List (Nat × Option Ob)} {H : Nat → Option Ob} {id : Nat} {ob : Ob} (h : upH nobody ws id = some ob) : upH H ws id = some ob := by
  by_cases c : ∃ x ∈ ws, x.1 = id
  · rw [Qou (H' := nobody) c]
    exact h
  · rw [Q8b (fun y hy e => c ⟨y, hy, e⟩)] at h
    cases h
theorem Qnz {G : Nat → Option Fun} {nx : Nat} : ∀ (ops : List IOper) (i : Nat) (hs : Q8g) (az : List Ans) (env : List PV) (h : List (Nat × Ob)) (vw : Views) (t : TV), Q11f nx i ops hs az env h vw = some t → VOK (look h) vw → Met t.owed → Told G t.asked → Q6w (lim G) nx i ops env h = some (t.env, t.heap, t.effs) ∧ VOK (look t.heap) t.vw
  | [], i, hs, az, env, h, vw, t, ht, hv, _, _ => by
    simp only [Q11f, Option.some.injEq] at ht
    subst ht
    exact ⟨rfl, hv⟩
  | o :: r, i, hs, az, env, h, vw, t, ht, hv, hm, hq => by
    have go : ∀ (x : EV) (hs' : Q8g) (vw' : Views), Q8y (lim G) (envF env) (look h) (nx + 64 * i) o = some x.eff → VOK (look (hput h x.eff.hw)) vw' → ∀ (y : TV), Q11f nx (i + 1) r hs' x.az (put env o.dst x.eff.v) (hput h x.eff.hw) vw' = some y → Met y.owed → Told G y.asked → y.env = t.env → y.heap = t.heap → y.vw = t.vw → x.eff :: y.effs = t.effs → Q6w (lim G) nx i (o :: r) env h = some (t.env, t.heap, t.effs) ∧ VOK (look t.heap) t.vw := by
      intro x hs' vw' hx hvx y hy hmy hqy e1 e2 e3 e4
      obtain ⟨r1, r2⟩ := Qnz r (i + 1) hs' _ _ _ _ y hy hvx hmy hqy
      simp only [Q6w]
      rw [hx, Option.bind_some, r1, Option.bind_some, ← e1, ← e2, ← e3, ← e4]
      exact ⟨rfl, r2⟩
    unfold Q11f at ht
    split at ht
    · obtain ⟨x, hx, ht⟩ := Qi ht
      obtain ⟨y, hy, ht⟩ := Qi ht
      simp only [Option.some.injEq] at ht
      subst ht
      obtain ⟨s1, s2⟩ := Qft hv hx hm.left hq.left
      exact go x _ _ s1 (VOK.turned s2) y hy hm.right hq.right rfl rfl rfl rfl
    · obtain ⟨x, hx, ht⟩ := Qi ht
      obtain ⟨y, hy, ht⟩ := Qi ht
      simp only [Option.some.injEq] at ht
      subst ht
      obtain ⟨s1, s2⟩ := Qft hv hx hm.left hq.left
      exact go x _ _ s1 (VOK.turned s2) y hy hm.right hq.right rfl rfl rfl rfl
    · rename_i x hs'
      obtain ⟨y, hy, ht⟩ := Qi ht
      simp only [Option.some.injEq] at ht
      subst ht
      have hx : Q8y (lim G) (envF env) (look h) (nx + 64 * i) o = some x.1 := Q1ak hm.head
      have hseen : Met (x.2.map fun p => Seen (upH nobody x.1.hw p.1) p.2) := hm.tail.left
      have hvx : VOK (look (hput h x.1.hw)) (putV vw (x.1.hw.map (·.1)) x.2) := by
        rw [Q84]
        intro id rows hl
        rcases Qog hl with hl | ⟨hl, hc⟩
        · obtain ⟨ob, hob, hok⟩ := hseen _ (List.mem_map_of_mem (f := fun p : Nat × List (List PV) => Seen (upH nobody x.1.hw p.1) p.2) (Q14a hl))
          exact ⟨ob, Q1d8 hob, hok⟩
        · obtain ⟨ob, hob, hok⟩ := hv id rows hl
          refine ⟨ob, ?_, hok⟩
          rw [Q8b (fun y hy e => hc (by rw [← e]; exact List.mem_map_of_mem hy))]
          exact hob
      exact go ⟨x.1, x.1.hw.map (·.1), x.2, az, [], []⟩ hs' _ hx hvx y hy hm.tail.right hq rfl rfl rfl rfl
structure CV where
  ex : Ex
  st : St
  vw : Views
  hs : Q8g
  az : List Ans
  owed : List Prop
  asked : Qc9
def Q7d (m : Nat) : IR → Q8g → List Ans → Views → St → Option CV
 | .skip, hs, az, vw, s => some ⟨.normal, s, vw, hs, az, [], []⟩
 | .reg ops draw, hs, az, vw, s => (Q11f s.nx 0 ops hs az s.env s.heap vw).bind fun y => bif !draw || calm (ops.zip y.effs) 0 (ops.zip y.effs) then some ⟨.normal, ⟨y.env, y.heap, s.nx + 64 * ops.length⟩, y.vw, y.hs, y.az, y.owed, y.asked⟩ else none
 | .seq a b, hs, az, vw, s => (Q7d m a hs az vw s).bind fun x => (match x.ex with | .normal => (Q7d m b x.hs x.az x.vw x.st).bind fun y => some ⟨y.ex, y.st, y.vw, y.hs, y.az, x.owed ++ y.owed, x.asked ++ y.asked⟩ | _ => some x)
 | .cond c a b, hs, az, vw, s => (match c.ev (envF s.env) with | .bool t => (bif t then Q7d m a hs az vw s else Q7d m b hs az vw s) | _ => none)
 | .block id b, hs, az, vw, s => (Q7d m b hs az vw s).bind fun x => (match x.ex with | .exit j => (bif Nat.beq j id then some ⟨.normal, x.st, x.vw, x.hs, x.az, x.owed, x.asked⟩ else some x) | _ => some x)
 | .loop live b, hs, az, vw, s => (gcV vw m live s).bind fun y => (match az with
  | [] => none
  | a :: az' => (match a.r with | .st e s' => some ⟨e, s', a.vw, hs, az', y.2 ++ (a.vw.map fun p => Seen (look s'.heap p.1) p.2), [(.loop m live b y.1.1 y.1.2, a.r)]⟩ | _ => none))
 | .exit id, hs, az, vw, s => some ⟨.exit id, s, vw, hs, az, [], []⟩
 | .ret, hs, az, vw, s => some ⟨.ret, s, vw, hs, az, [], []⟩
theorem Q36 {G : Nat → Option Fun} {m : Nat} : ∀ (c : IR) (hs : Q8g) (az : List Ans) (vw : Views) (s : St) (t : CV), Q7d m c hs az vw s = some t → VOK (look s.heap) vw → Met t.owed → Told G t.asked → Q5e (lim G) m c s = some (t.ex, t.st) ∧ VOK (look t.st.heap) t.vw
  | .skip, hs, az, vw, s, t, ht, hv, _, _ => by
    simp only [Q7d, Option.some.injEq] at ht
    subst ht
    exact ⟨rfl, hv⟩
  | .reg ops draw, hs, az, vw, s, t, ht, hv, hm, hq => by
    simp only [Q7d] at ht
    obtain ⟨y, hy, ht⟩ := Qi ht
    cases hc : (!draw || calm (ops.zip y.effs) 0 (ops.zip y.effs)) with
    | false => rw [hc] at ht; cases ht
    | true =>
      rw [hc] at ht
      simp only [cond_true, Option.some.injEq] at ht
      subst ht
      obtain ⟨r1, r2⟩ := Qnz ops 0 hs az s.env s.heap vw y hy hv hm hq
      have h1 : ireg (lim G) ops draw s = some ⟨y.env, y.heap, s.nx + 64 * ops.length⟩ := by
        unfold ireg
        rw [r1, Option.bind_some]
        simp only
        rw [hc]
        rfl
      simp only [Q5e]
      rw [h1]
      exact ⟨rfl, r2⟩
  | .seq a b, hs, az, vw, s, t, ht, hv, hm, hq => by
    simp only [Q7d] at ht
    obtain ⟨x, hx, ht⟩ := Qi ht
    obtain ⟨ex, st, vw1, hs1, as1, ow1, ak1⟩ := x
    simp only [Q5e]
    cases ex with
    | normal =>
      simp only at ht
      obtain ⟨y, hy, ht⟩ := Qi ht
      simp only [Option.some.injEq] at ht
      subst ht
      obtain ⟨r1, r2⟩ := Q36 a hs az vw s _ hx hv hm.left hq.left
      rw [r1, Option.bind_some]
      exact Q36 b _ _ _ _ y hy r2 hm.right hq.right
    | exit j =>
      simp only [Option.some.injEq] at ht
      subst ht
      obtain ⟨r1, r2⟩ := Q36 a hs az vw s _ hx hv hm hq
      rw [r1, Option.bind_some]
      exact ⟨rfl, r2⟩
    | ret =>
      simp only [Option.some.injEq] at ht
      subst ht
      obtain ⟨r1, r2⟩ := Q36 a hs az vw s _ hx hv hm hq
      rw [r1, Option.bind_some]
      exact ⟨rfl, r2⟩
  | .cond c a b, hs, az, vw, s, t, ht, hv, hm, hq => by
    simp only [Q7d] at ht
    simp only [Q5e]
    split at ht
    · rename_i q hq'
      rw [hq']
      simp only
      cases q with
      | true => exact Q36 a hs az vw s t ht hv hm hq
      | false => exact Q36 b hs az vw s t ht hv hm hq
    · cases ht
  | .block id b, hs, az, vw, s, t, ht, hv, hm, hq => by
    simp only [Q7d] at ht
    obtain ⟨x, hx, ht⟩ := Qi ht
    obtain ⟨ex, st, vw1, hs1, as1, ow1, ak1⟩ := x
    simp only [Q5e]
    cases ex with
    | normal =>
      simp only [Option.some.injEq] at ht
      subst ht
      obtain ⟨r1, r2⟩ := Q36 b hs az vw s _ hx hv hm hq
      rw [r1, Option.bind_some]
      exact ⟨rfl, r2⟩
    | ret =>
      simp only [Option.some.injEq] at ht
      subst ht
      obtain ⟨r1, r2⟩ := Q36 b hs az vw s _ hx hv hm hq
      rw [r1, Option.bind_some]
      exact ⟨rfl, r2⟩
    | exit j =>
      simp only at ht
      cases hj : Nat.beq j id with
      | true =>
        rw [hj] at ht
        simp only [cond_true, Option.some.injEq] at ht
        subst ht
        obtain ⟨r1, r2⟩ := Q36 b hs az vw s _ hx hv hm hq
        rw [r1, Option.bind_some]
        simp only
        rw [hj]
        exact ⟨rfl, r2⟩
      | false =>
        rw [hj] at ht
        simp only [cond_false, Option.some.injEq] at ht
        subst ht
        obtain ⟨r1, r2⟩ := Q36 b hs az vw s _ hx hv hm hq
        rw [r1, Option.bind_some]
        simp only
        rw [hj]
        exact ⟨rfl, r2⟩
  | .loop live b, hs, az, vw, s, t, ht, hv, hm, hq => by
    simp only [Q7d] at ht
    obtain ⟨y, hy, ht⟩ := Qi ht
    simp only [Q5e]
    cases az with
    | nil => cases ht
    | cons a az' =>
      obtain ⟨r, avw⟩ := a
      cases r with
      | ret _ _ => cases ht
      | st e s' =>
        simp only [Option.some.injEq] at ht
        subst ht
        rw [Q119 hv hy hm.left, Option.bind_some, Q1pp (hq _ List.mem_cons_self), Option.bind_some]
        refine ⟨rfl, fun id rows hl => ?_⟩
        exact hm.right _ (List.mem_map_of_mem (f := fun p : Nat × List (List PV) => Seen (look s'.heap p.1) p.2) (Q14a hl))
  | .exit id, hs, az, vw, s, t, ht, hv, _, _ => by
    simp only [Q7d, Option.some.injEq] at ht
    subst ht
    exact ⟨rfl, hv⟩
  | .ret, hs, az, vw, s, t, ht, hv, _, _ => by
    simp only [Q7d, Option.some.injEq] at ht
    subst ht
    exact ⟨rfl, hv⟩
def finV (fn : IFn) (m : Nat) (vw : Views) (s : St) : Option (Rs × List Prop) :=
 (mapO (rv s) fn.res).bind fun vs =>
  let a := bif fn.keep then Q5h s.nx vs else (vs, s.nx, [])
  let H := look (s.heap ++ a.2.2)
  (Qaj (Qcs H vw fn.keep 8) a.1 (upTo m)).bind fun y =>
   (Qad H vw false true 32 0 y.1.2.1).bind fun z =>
    bif disj (y.1.2.2 ++ z.1.2.2) z.1.2.1 then some (.ret (match y.1.1 with | [v] => v | l => .tup l) (regr m z.1.1), y.2 ++ z.2) else none
theorem Qug {fn : IFn} {m : Nat} {vw : Views} {s : St} (hv : VOK (look s.heap) vw) {y : Rs × List Prop} (h : finV fn m vw s = some y) (hm : Met y.2) : fin fn m s = some y.1 := by
 unfold finV at h
 unfold fin
 obtain ⟨vs, hvs, h⟩ := Qi h
 rw [hvs, Option.bind_some]
 simp only at h ⊢
 have hv' : VOK (look (s.heap ++ (bif fn.keep then Q5h s.nx vs else (vs, s.nx, [])).2.2)) vw := by
  intro id rows hl
  obtain ⟨ob, hob, hok⟩ := hv id rows hl
  refine ⟨ob, ?_, hok⟩
  rw [Qxo, hob]
 obtain ⟨x, hx, h⟩ := Qi h
 obtain ⟨z, hz, h⟩ := Qi h
 cases hd : disj (x.1.2.2 ++ z.1.2.2) z.1.2.1 with
 | false => rw [hd] at h; cases h
 | true =>
  rw [hd] at h
  simp only [cond_true, Option.some.injEq] at h
  subst h
  rw [Q4d (Q85 hv' 8) _ _ x hx hm.left, Option.bind_some, Q5m hv' 32 _ _ z hz hm.right, Option.bind_some, hd]
  rfl
def Q1rf (fn : IFn) (args : List PV) (h : List Ob) (vw : Views) (hs : Q8g) (az : List Ans) : Option (Rs × List Prop × Qc9) :=
 bif Nat.beq args.length fn.np then
  (Q7d h.length fn.body hs az vw ⟨args ++ nuns (fn.nt - fn.np), number 0 h, h.length⟩).bind fun x =>
   (match x.ex with
    | .exit _ => none
    | _ => (finV fn h.length x.vw x.st).bind fun r => some (r.1, x.owed ++ r.2, x.asked))
 else none
theorem Q1se {G : Nat → Option Fun} {f : Nat} {fn : IFn} (hG : G f = some (.ir fn)) {args : List PV} {h : List Ob} {vw : Views} (hv : VOK (look (number 0 h)) vw) {hs : Q8g} {az : List Ans} {r : Rs} {ow : List Prop} {ak : Qc9} (hp : Met ow) (hq : Told G ak) (ht : Q1rf fn args h vw hs az = some (r, ow, ak)) : Q0 G (.call f args h) r := by
 refine Q1kk Qju ?_
 unfold Q1rf at ht
 simp only [phi, hG]
 cases hl : Nat.beq args.length fn.np with
 | false => rw [hl] at ht; cases ht
 | true =>
  rw [hl] at ht
  simp only [cond_true] at ht ⊢
  obtain ⟨x, hx, ht⟩ := Qi ht
  obtain ⟨ex, st, vw1, hs1, as1, ow1, ak1⟩ := x
  cases ex with
  | exit j => cases ht
  | normal =>
   simp only at ht
   obtain ⟨r', hr, ht⟩ := Qi ht
   simp only [Option.some.injEq, Prod.mk.injEq] at ht
   obtain ⟨rfl, rfl, rfl⟩ := ht
   obtain ⟨r1, r2⟩ := Q36 _ hs az vw _ _ hx hv hp.left hq
   rw [r1, Option.bind_some]
   exact Qug r2 hr hp.right
  | ret =>
   simp only at ht
   obtain ⟨r', hr, ht⟩ := Qi ht
   simp only [Option.some.injEq, Prod.mk.injEq] at ht
   obtain ⟨rfl, rfl, rfl⟩ := ht
   obtain ⟨r1, r2⟩ := Q36 _ hs az vw _ _ hx hv hp.left hq
   rw [r1, Option.bind_some]
   exact Qug r2 hr hp.right
theorem VOK.nil {H : Nat → Option Ob} : VOK H [] := fun _ _ h => by cases h
def Q1rp (m : Nat) (live : List Nat) (b : IR) (env : List PV) (h : List Ob) (vw : Views) (hs : Q8g) (az : List Ans) : Option ((List PV × List Ob) × List Prop × Qc9) :=
 (Q7d m b hs az vw ⟨env, number 0 h, h.length⟩).bind fun x => (match x.ex with | .normal => (gcV x.vw m live x.st).bind fun y => some (y.1, x.owed ++ y.2, x.asked) | _ => none)
theorem Q15a {G : Nat → Option Fun} {m : Nat} {live : List Nat} {b : IR} {env : List PV} {h : List Ob} {vw : Views} (hv : VOK (look (number 0 h)) vw) {hs : Q8g} {az : List Ans} {y : List PV × List Ob} {ow : List Prop} {ak : Qc9} {r : Rs} (hp : Met ow) (hq : Told G ak) (ht : Q1rp m live b env h vw hs az = some (y, ow, ak)) (hr : Q0 G (.loop m live b y.1 y.2) r) : Q0 G (.loop m live b env h) r := by
 unfold Q1rp at ht
 obtain ⟨x, hx, ht⟩ := Qi ht
 obtain ⟨ex, st, vw1, hs1, as1, ow1, ak1⟩ := x
 cases ex with
 | normal =>
  simp only at ht
  obtain ⟨y', hg, ht⟩ := Qi ht
  simp only [Option.some.injEq, Prod.mk.injEq] at ht
  obtain ⟨rfl, rfl, rfl⟩ := ht
  obtain ⟨r1, r2⟩ := Q36 _ hs az vw _ _ hx hv hp.left hq
  exact Q1d5 Qju r1 (Q119 r2 hg hp.right) hr
 | exit j => cases ht
 | ret => cases ht
def Q1i9 (m : Nat) (b : IR) (env : List PV) (h : List Ob) (vw : Views) (hs : Q8g) (az : List Ans) : Option ((Ex × St) × List Prop × Qc9) :=
 (Q7d m b hs az vw ⟨env, number 0 h, h.length⟩).bind fun x => (match x.ex with | .normal => none | e => some ((e, x.st), x.owed, x.asked))
theorem Q1d6 {G : Nat → Option Fun} {m : Nat} {live : List Nat} {b : IR} {env : List PV} {h : List Ob} {vw : Views} (hv : VOK (look (number 0 h)) vw) {hs : Q8g} {az : List Ans} {x : Ex × St} {ow : List Prop} {ak : Qc9} (hp : Met ow) (hq : Told G ak) (ht : Q1i9 m b env h vw hs az = some (x, ow, ak)) : Q0 G (.loop m live b env h) (.st x.1 x.2) := by
 unfold Q1i9 at ht
 obtain ⟨y, hy, ht⟩ := Qi ht
 obtain ⟨ex, st, vw1, hs1, as1, ow1, ak1⟩ := y
 cases ex with
 | normal => cases ht
 | exit j =>
  simp only [Option.some.injEq, Prod.mk.injEq] at ht
  obtain ⟨rfl, rfl, rfl⟩ := ht
  exact Qot Qju (by intro h; cases h) (Q36 _ hs az vw _ _ hy hv hp hq).1
 | ret =>
  simp only [Option.some.injEq, Prod.mk.injEq] at ht
  obtain ⟨rfl, rfl, rfl⟩ := ht
  exact Qot Qju (by intro h; cases h) (Q36 _ hs az vw _ _ hy hv hp hq).1
end Go.Pv
end

section
/-
  Small words and hints' lemmas for walks that a program prints.
-/
namespace Go.Pv
def bE (b : Bool) : Eff := ⟨.bool b, [], []⟩
def vE (v : PV) : Eff := ⟨v, [], []⟩
def w64 (n : Int) : Int := IntKind.i64.wrap n
def mx (x y : Int) : Int := if y > x then y else x
def sEq (a b : ByteArray) : Bool := a.toList == b.toList
def sLt (a b : ByteArray) : Bool := Op.bytesLess a.toList b.toList
theorem dec (c v : Bool) (h : c = v) : some (bE c) = some (bE v) := by rw [h]
theorem toldOf {G : Nat → Option Fun} {e : En} {r r' : Rs} (h : Q0 G e r) (hr : r = r') : Q0 G e r' := hr ▸ h
theorem Qg {α : Type} {f : α → List PV} {l : List α} {i : Nat} {x : α} (h : l[i]? = some x) : (l.map f)[i]? = some (f x) := by
 rw [List.getElem?_map, h]
 rfl
def ixE (sz : Nat) (l : List (List PV)) (i : Int) : Option Eff := (opP (fun _ => .un) (.iaddr sz (.c (.sl l)) (.c (.int .i64 i)))).bind fun v => some ⟨v, [], []⟩
theorem Q2q (sz : Nat) (l : List (List PV)) (i : Nat) (r : List PV) (h : l[i]? = some r) (hs : r.length = sz) : ixE sz l (i : Int) = some (vE (.rf r)) := by
 unfold ixE
 simp only [opP, Opd.ev, asNat]
 have h0 : decide (0 ≤ (i : Int)) = true := by simp
 rw [h0]
 simp only [cond_true, Option.bind_some, Int.toNat_natCast]
 rw [h]
 subst hs
 simp [vE]
theorem Q1po (sz : Nat) (l : List (List PV)) (i : Int) (r : List PV) (h0 : 0 ≤ i) (h : l[i.toNat]? = some r) (hs : r.length = sz) : ixE sz l i = some (vE (.rf r)) := by
 have := Q2q sz l i.toNat r h hs
 rw [show ((i.toNat : Nat) : Int) = i by omega] at this
 exact this
def lenE (l : List (List PV)) : Option Eff := some ⟨.int .i64 (l.length : Int), [], []⟩
theorem Qw (l : List (List PV)) (n : Nat) (h : l.length = n) : lenE l = some (vE (.int .i64 (n : Int))) := by
 unfold lenE
 rw [h]
 rfl
theorem Q13h {n : Int} (h : -9223372036854775808 ≤ n ∧ n ≤ 9223372036854775807) : w64 n = n := by
 unfold w64 IntKind.wrap
 simp [IntKind.signed, IntKind.bits]
 omega
def addE (a b : Int) : Option Eff := some ⟨.int .i64 (IntKind.i64.wrap (a + b)), [], []⟩
theorem Q26 (i : Nat) (h : i < 9223372036854775807) : addE (i : Int) 1 = some (vE (.int .i64 ((i + 1 : Nat) : Int))) := by
 unfold addE
 have : IntKind.i64.wrap ((i : Int) + 1) = ((i + 1 : Nat) : Int) := by
  have := Q13h (n := (i : Int) + 1) (by omega)
  unfold w64 at this
  rw [this]
  rfl
 rw [this]
 rfl
theorem Q1pl {ob : Ob} {k : Nat} (h : ob.cells.length = k) : apC ob k = some ob.cells := by
 unfold apC
 rw [h, Nat.beq_refl]
 rfl
def apE (id lid fr sz bytes ro lro : Nat) (lgr : Bool) (rows : List (List PV)) (r : List PV) (n : Nat) : Option Eff :=
 Q5a (look [(id, ⟨sz, ro, true, rows.flatten⟩), (lid, ⟨sz, lro, lgr, r⟩)]) fr sz bytes (.ms id sz 0 n) (.ms lid sz 0 1)
theorem Q26p (id lid fr sz bytes ro lro : Nat) (lgr : Bool) (rows rows' : List (List PV)) (r : List PV) (n n' : Nat) (hne : Nat.beq id lid = false) (hn : n = rows.length) (hn' : n' = rows'.length) (hr' : rows' = rows ++ [r])
  (hs : ∀ r ∈ rows, r.length = sz) (hr : r.length = sz) (hb : (n + 1) * bytes ≤ 140737488355328) :
  apE id lid fr sz bytes ro lro lgr rows r n = some ⟨.ms fr sz 0 n', [(id, none), (fr, some ⟨sz, ro, true, rows'.flatten⟩)], [id, lid]⟩ := by
 subst hn hn' hr'
 unfold apE Q5a
 have h1 : look [(id, (⟨sz, ro, true, rows.flatten⟩ : Ob)), (lid, ⟨sz, lro, lgr, r⟩)] lid = some ⟨sz, lro, lgr, r⟩ := by simp [look, hne]
 have h2 : look [(id, (⟨sz, ro, true, rows.flatten⟩ : Ob)), (lid, ⟨sz, lro, lgr, r⟩)] id = some ⟨sz, ro, true, rows.flatten⟩ := by simp [look]
 have hsrc : source (look [(id, (⟨sz, ro, true, rows.flatten⟩ : Ob)), (lid, ⟨sz, lro, lgr, r⟩)]) sz (.ms lid sz 0 1) = some (1, r, [lid]) := by
  simp only [source, h1, Option.bind_some]
  subst hr
  have : Nat.ble r.length r.length = true := Nat.ble_eq_true_of_le (Nat.le_refl _)
  simp [this]
 rw [hsrc, Option.bind_some]
 simp only [h2, Option.bind_some]
 have hc : (true && Nat.beq sz sz && Nat.beq sz sz && Nat.beq 0 0 && Nat.ble ((rows.length + 1) * bytes) 140737488355328) = true := by
  simp only [Nat.beq_refl, Bool.and_true, Bool.true_and]
  exact Nat.ble_eq_true_of_le hb
 rw [hc, Q1pl (ob := ⟨sz, ro, true, rows.flatten⟩) (Q6u sz rows hs)]
 simp
end Go.Pv
namespace Go.Pv
theorem VOK.cons {H : Nat → Option Ob} {vw : Views} {id : Nat} {rows : List (List PV)} (h : Seen (H id) rows) (hv : VOK H vw) : VOK H ((id, rows) :: vw) := by
 intro k rs hl
 simp only [look] at hl
 cases c : Nat.beq id k with
 | true =>
  have := Nat.eq_of_beq_eq_true c
  subst this
  rw [c] at hl
  simp only [cond_true, Option.some.injEq] at hl
  subst hl
  exact h
 | false =>
  rw [c] at hl
  exact hv k rs hl
theorem Q19 {α : Type} {l : List α} {i : Nat} {x : α} {r : List α} (h : l.drop i = x :: r) : l[i]? = some x ∧ i < l.length ∧ l.drop (i + 1) = r := by
 have h1 : l[i]? = some x := by
  have := congrArg (fun q => q[0]?) h
  simpa [List.getElem?_drop] using this
 have h2 : i < l.length := (List.getElem?_eq_some_iff.1 h1).1
 refine ⟨h1, h2, ?_⟩
 rw [← List.tail_drop, h]
 rfl
theorem Q1c {α : Type} {l : List α} {i : Nat} (h : l.drop i = []) : l.length ≤ i := by
 simpa using h
theorem Q2l {α : Type} {l : List α} {i : Nat} {x : α} (h : l[i]? = some x) : x ∈ l := List.mem_of_getElem? h
theorem Q16v (a b : ByteArray) (h : a.size + b.size ≤ 9223372036854775807) : ((sbin .add a b).bind fun v => some (⟨v, [], []⟩ : Eff)) = some (vE (.str (a ++ b))) := by
 simp only [sbin, Nat.ble_eq_true_of_le h, cond_true, Option.bind_some]
 rfl
def Q3m (l : List Int) : List (List PV) := l.map fun n => [.int .i64 n]
def Q18 (l : List ByteArray) : List (List PV) := l.map fun n => [.str n]
theorem Q6v (l : List Int) : (Q3m l).length = l.length := by simp [Q3m]
theorem Q2s (l : List ByteArray) : (Q18 l).length = l.length := by simp [Q18]
theorem Qui {l : List Int} {i : Nat} {x : Int} (h : l[i]? = some x) : (Q3m l)[i]? = some [.int .i64 x] := Qg (f := fun n => [.int .i64 n]) h
theorem Q9k {l : List ByteArray} {i : Nat} {x : ByteArray} (h : l[i]? = some x) : (Q18 l)[i]? = some [.str x] := Qg (f := fun n => [.str n]) h
theorem Q147 (l : List Int) (x : Int) : Q3m (l ++ [x]) = Q3m l ++ [[.int .i64 x]] := by simp [Q3m]
theorem Qor (l : List ByteArray) (x : ByteArray) : Q18 (l ++ [x]) = Q18 l ++ [[.str x]] := by simp [Q18]
theorem Q5g {α : Type} {f : α → List PV} {n : Nat} (h : ∀ x, (f x).length = n) (l : List α) : ∀ r ∈ l.map f, r.length = n := fun r hr => by
 obtain ⟨x, _, rfl⟩ := List.mem_map.1 hr
 exact h x
theorem Q4j {α : Type} {f : α → List PV} (h : ∀ x, (f x).all plain = true) (l : List α) : ∀ r ∈ l.map f, ∀ p ∈ r, plain p = true := fun r hr p hp => by
 obtain ⟨x, _, rfl⟩ := List.mem_map.1 hr
 exact List.all_eq_true.1 (h x) p hp
theorem Qny (l : List Int) : ∀ r ∈ Q3m l, r.length = 1 := Q5g (f := fun n => [.int .i64 n]) (fun _ => rfl) l
theorem Qcu (l : List ByteArray) : ∀ r ∈ Q18 l, r.length = 1 := Q5g (f := fun n => [.str n]) (fun _ => rfl) l
theorem Qck (l : List Int) (sz : Nat) (h : sz = 1) : ViewOK sz (Q3m l).flatten (Q3m l) := by subst h; exact ⟨rfl, Qny l, Q4j (f := fun n => [.int .i64 n]) (fun _ => rfl) l⟩
theorem Q4y (l : List ByteArray) (sz : Nat) (h : sz = 1) : ViewOK sz (Q18 l).flatten (Q18 l) := by subst h; exact ⟨rfl, Qcu l, Q4j (f := fun n => [.str n]) (fun _ => rfl) l⟩
end Go.Pv
namespace Go.Pv
def zoF (l : List (Nat × List PV)) (j : Nat) : List PV := (look l j).getD []
end Go.Pv
namespace Go.Pv
def optI : Option Int → Option Opd
 | none => none
 | some n => some (.c (.int .i64 n))
theorem Q136 {l : List (List PV)} {sz : Nat} (hs : ∀ r ∈ l, r.length = sz) : Q86 l sz = true := by
 unfold Q86
 rw [List.all_eq_true]
 intro r hr
 rw [hs r hr]
 exact Nat.beq_refl sz
end Go.Pv
namespace Go.Pv
def ixmE (id sz off len : Nat) (i : Int) : Option Eff := (opP (fun _ => .un) (.iaddr sz (.c (.ms id sz off len)) (.c (.int .i64 i)))).bind fun v => some ⟨v, [], []⟩
theorem Q203 (id sz off len : Nat) (i : Int) (k at_ : Nat) (h : i = (k : Int)) (hk : k < len) (ha : at_ = (off + k) * sz) : ixmE id sz off len i = some (vE (.bx id at_)) := by
 subst h ha
 unfold ixmE
 simp only [opP, Opd.ev, asNat]
 have h0 : decide (0 ≤ (k : Int)) = true := by simp
 rw [h0]
 simp only [cond_true, Option.bind_some, Int.toNat_natCast]
 have h1 : (Nat.beq sz sz && Nat.blt k len) = true := by
  rw [Nat.beq_refl, Bool.true_and]
  exact Nat.ble_eq_true_of_le hk
 rw [h1]
 rfl
end Go.Pv
namespace Go.Pv
theorem Q5k (id sz len : Nat) (i : Int) (k : Nat) (hk : k = i.toNat) (h0 : 0 ≤ i) (h1 : i < (len : Int)) : ixmE id sz 0 len i = some (vE (.bx id (k * sz))) :=
 Q203 id sz 0 len i k (k * sz) (by omega) (by omega) (by rw [Nat.zero_add])
theorem Qb8 (sz : Nat) : ∀ (rows : List (List PV)) (k : Nat), (∀ r ∈ rows, r.length = sz) → rows.flatten.drop (k * sz) = (rows.drop k).flatten
 | [], k, _ => by simp
 | r :: rs, 0, _ => by simp
 | r :: rs, k + 1, h => by
  have h0 := h r List.mem_cons_self
  rw [List.flatten_cons, List.drop_succ_cons, ← Qb8 sz rs k (fun q hq => h q (List.mem_cons_of_mem _ hq)), Nat.add_mul, Nat.one_mul, Nat.add_comm, ← List.drop_drop, List.drop_left' h0]
theorem Q1ag {sz : Nat} {rows : List (List PV)} {k : Nat} {r : List PV} {off n : Nat} (hr : rows[k]? = some r) (hs : ∀ r ∈ rows, r.length = sz) (hn : off + n ≤ sz) : (rows.flatten.drop (k * sz + off)).take n = (r.drop off).take n ∧ k * sz + off + n ≤ rows.flatten.length := by
  have hk : k < rows.length := (List.getElem?_eq_some_iff.1 hr).1
  have hd : rows.drop k = r :: rows.drop (k + 1) := by
    rw [List.drop_eq_getElem_cons hk]
    congr 1
    exact (List.getElem?_eq_some_iff.1 hr).2
  have hl := hs r (List.mem_of_getElem? hr)
  refine ⟨?_, ?_⟩
  · rw [← List.drop_drop, Qb8 sz rows k hs, hd, List.flatten_cons]
    rw [List.drop_append_of_le_length (by omega), List.take_append_of_le_length (by rw [List.length_drop]; omega)]
  · rw [Q6u sz rows hs]
    have : (k + 1) * sz ≤ rows.length * sz := Nat.mul_le_mul_right _ hk
    rw [Nat.add_mul] at this
    omega
def ldE (id sz ro : Nat) (gr : Bool) (cells : List PV) (n : Nat) (ag : Bool) (at_ : Nat) : Option Eff := Qob (look [(id, ⟨sz, ro, gr, cells⟩)]) n ag (.bx id at_)
theorem Qc4 (id sz ro : Nat) (gr : Bool) (cells : List PV) (rows : List (List PV)) (n : Nat) (ag : Bool) (k off at_ : Nat) (r : List PV) (v : PV) (hc : cells = rows.flatten) (ha : at_ = k * sz + off) (hr : rows[k]? = some r) (hs : ∀ r ∈ rows, r.length = sz) (hn : off + n ≤ sz) (hv : shape ag ((r.drop off).take n) = some v) :
  ldE id sz ro gr cells n ag at_ = some ⟨v, [], [id]⟩ := by
 subst hc ha
 obtain ⟨h1, h2⟩ := Q1ag hr hs hn
 unfold ldE Qob reads
 simp only [look, Nat.beq_refl, cond_true, Option.bind_some]
 rw [Nat.ble_eq_true_of_le h2]
 simp only [cond_true, Option.bind_some]
 rw [h1, hv, Option.bind_some]
theorem Q5x {α : Type} (l : List α) (k : Nat) (d : α) (h : k < l.length) : l[k]? = some (l.getD k d) := by
 rw [List.getD_eq_getElem?_getD, List.getElem?_eq_getElem h]
 rfl
end Go.Pv
namespace Go.Pv
theorem decR (c v : Bool) (hr : List Nat) (h : c = v) : some (⟨.bool c, [], hr⟩ : Eff) = some ⟨.bool v, [], hr⟩ := by rw [h]
end Go.Pv
namespace Go.Pv
end Go.Pv
end

section
/- More of single operations: sums that don't run over; shifts of indexes; stores into a slice of one's own that is known by its rows. -/
namespace Go.Pv
def wE (n : Int) : Option Eff := some ⟨.int .i64 (IntKind.i64.wrap n), [], []⟩
theorem w_ok (n : Int) (h : -9223372036854775808 ≤ n ∧ n ≤ 9223372036854775807) : wE n = some (vE (.int .i64 n)) := by
 unfold wE
 have := Q13h h
 unfold w64 at this
 rw [this]
 rfl
def sCmp (a b : ByteArray) : Int := cmpL a.toList b.toList
theorem Qnu {sz : Nat} : ∀ (rows : List (List PV)) (k : Nat) (r vals : List PV) (off n : Nat), rows[k]? = some r → (∀ q ∈ rows, q.length = sz) → off + n ≤ sz → vals.length = n →
  rows.flatten.take (k * sz + off) ++ (vals ++ rows.flatten.drop (k * sz + off + n)) = (rows.set k (r.take off ++ (vals ++ r.drop (off + n)))).flatten ∧ k * sz + off + n ≤ rows.flatten.length
 | [], _, _, _, _, _, h, _, _, _ => by simp at h
 | q :: rs, 0, r, vals, off, n, h, hs, hn, hv => by
  have hq := hs q List.mem_cons_self
  simp only [List.getElem?_cons_zero, Option.some.injEq] at h
  subst h
  simp only [Nat.zero_mul, Nat.zero_add, List.flatten_cons, List.set_cons_zero, List.length_append]
  refine ⟨?_, by omega⟩
  rw [List.take_append_of_le_length (by omega), List.drop_append_of_le_length (by omega)]
  simp only [List.append_assoc]
 | q :: rs, k + 1, r, vals, off, n, h, hs, hn, hv => by
  have hq := hs q List.mem_cons_self
  simp only [List.getElem?_cons_succ] at h
  obtain ⟨h1, h2⟩ := Qnu rs k r vals off n h (fun q hq => hs q (List.mem_cons_of_mem _ hq)) hn hv
  have e1 : (k + 1) * sz + off = q.length + (k * sz + off) := by rw [hq, Nat.add_mul]; omega
  have e2 : (k + 1) * sz + off + n = q.length + (k * sz + off + n) := by rw [hq, Nat.add_mul]; omega
  simp only [List.flatten_cons, List.set_cons_succ, List.length_append]
  refine ⟨?_, by omega⟩
  rw [e2, e1, List.take_length_add_append, List.drop_length_add_append, ← h1]
  simp only [List.append_assoc]
def stE (id sz ro : Nat) (gr : Bool) (cells : List PV) (n : Nat) (at_ : Nat) (x : PV) : Option Eff := Qcp (look [(id, ⟨sz, ro, gr, cells⟩)]) n (.bx id at_) x
theorem Q1kf (id sz : Nat) (gr : Bool) (cells : List PV) (rows rows' : List (List PV)) (n k off at_ : Nat) (r : List PV) (x : PV) (hc : cells = rows.flatten) (ha : at_ = k * sz + off) (hr : rows[k]? = some r) (hs : ∀ r ∈ rows, r.length = sz) (hn : off + n ≤ sz) (hx : x.cs.length = n) (hf : x.fits = true) (hrows : rows' = rows.set k (r.take off ++ (x.cs ++ r.drop (off + n)))) :
  stE id sz 0 gr cells n at_ x = some ⟨.un, [(id, some ⟨sz, 0, gr, rows'.flatten⟩)], [id]⟩ := by
 subst hc ha hrows
 obtain ⟨h1, h2⟩ := Qnu rows k r x.cs off n hr hs hn hx
 unfold stE Qcp
 simp only [look, Nat.beq_refl, cond_true, Option.bind_some]
 rw [hx, hf, Nat.beq_refl, Nat.ble_eq_true_of_le h2, Nat.ble_eq_true_of_le (Nat.zero_le _), h1]
 rfl
theorem Qyc {α : Type} (f : α → List PV) (l : List α) (k : Nat) (x : α) : (l.set k x).map f = (l.map f).set k (f x) := List.map_set
theorem Q6n {α : Type} {l : List α} {n : Nat} (h : l.length = n) (k : Nat) (x : α) : (l.set k x).length = n := by rw [List.length_set, h]
end Go.Pv
end

section
/- A walk's hints and answers, each with its proof. -/
namespace Go.Pv
structure It where
  hint : Option (Nat × (Eff × Views))
  p : Prop
  pf : p
def hsOf : List It → Q8g
 | [] => []
 | x :: r => (match x.hint with | some h => h :: hsOf r | none => hsOf r)
def owOf : List It → List Prop
 | [] => []
 | x :: r => x.p :: owOf r
theorem Q1n8 : ∀ l : List It, Met (owOf l)
 | [] => Met.nil
 | x :: r => Met.cons x.pf (Q1n8 r)
structure An (G : Nat → Option Fun) where
  e : En
  r : Rs
  vw : Views
  pf : Q0 G e r
def asOf {G : Nat → Option Fun} : List (An G) → List Ans
 | [] => []
 | x :: r => ⟨x.r, x.vw⟩ :: asOf r
def akOf {G : Nat → Option Fun} : List (An G) → Qc9
 | [] => []
 | x :: r => (x.e, x.r) :: akOf r
theorem Q19e {G : Nat → Option Fun} : ∀ l : List (An G), Told G (akOf l)
 | [] => Told.nil
 | x :: r => Told.cons x.pf (Q19e r)
def hB {c v : Bool} (n : Nat) (h : c = v) : It := ⟨some (n, (bE v, [])), some (bE c) = some (bE v), dec c v h⟩
def hP {x : Option Eff} {y : Eff} (n : Nat) (h : x = some y) : It := ⟨some (n, (y, [])), x = some y, h⟩
def hV {x : Option Eff} {y : Eff} (n : Nat) (vw : Views) (h : x = some y) : It := ⟨some (n, (y, vw)), x = some y, h⟩
def hQ {p : Prop} (h : p) : It := ⟨none, p, h⟩
def aN {G : Nat → Option Fun} {e : En} {r : Rs} (h : Q0 G e r) : An G := ⟨e, r, [], h⟩
def aV {G : Nat → Option Fun} {e : En} {r : Rs} (vw : Views) (h : Q0 G e r) : An G := ⟨e, r, vw, h⟩
def aB {G : Nat → Option Fun} {e : En} {c v : Bool} (h : Q0 G e (.ret (.bool c) [])) (hc : c = v) : An G := ⟨e, .ret (.bool v) [], [], hc ▸ h⟩
theorem vk1 {sz ro : Nat} {gr : Bool} {cells : List PV} {rows : List (List PV)} (h : ViewOK sz cells rows) : VOK (look (number 0 [⟨sz, ro, gr, cells⟩])) [(0, rows)] := VOK.cons (show Seen _ _ from Q3o (ob := ⟨sz, ro, gr, cells⟩) h) VOK.nil
theorem Q5 {G : Nat → Option Fun} {f : Nat} {fn : IFn} (hG : G f = some (.ir fn)) {args : List PV} {h : List Ob} {vw : Views} (hv : VOK (look (number 0 h)) vw) {r : Rs} (l : List It) (q : List (An G)) (ht : Q1rf fn args h vw (hsOf l) (asOf q) = some (r, owOf l, akOf q)) : Q0 G (.call f args h) r := Q1se hG hv (Q1n8 l) (Q19e q) ht
theorem Qd {G : Nat → Option Fun} {m : Nat} {live : List Nat} {b : IR} {env : List PV} {h : List Ob} {vw : Views} (hv : VOK (look (number 0 h)) vw) {x : Ex × St} (l : List It) (q : List (An G)) (ht : Q1i9 m b env h vw (hsOf l) (asOf q) = some (x, owOf l, akOf q)) : Q0 G (.loop m live b env h) (.st x.1 x.2) := Q1d6 hv (Q1n8 l) (Q19e q) ht
end Go.Pv
namespace Go.Pv
def hS {sz : Nat} {cells : List PV} {rows : List (List PV)} (ro : Nat) (gr : Bool) (h : ViewOK sz cells rows) : It := hQ (Q3o (ob := ⟨sz, ro, gr, cells⟩) h)
end Go.Pv
namespace Go.Pv
def hA (n id lid fr sz bytes ro lro : Nat) (lgr : Bool) {α : Type} {R : List α → List (List PV)} {C : α → List PV} (hl : ∀ l, (R l).length = l.length) (hs : ∀ l x, R (l ++ [x]) = R l ++ [C x]) (v : List α) (e : α) (hz : ∀ r ∈ R v, r.length = sz) (hne : Nat.beq id lid = false) (hr : (C e).length = sz) (hb : (v.length + 1) * bytes ≤ 140737488355328) : It :=
 hV n [(fr, R (v ++ [e]))] (Q26p id lid fr sz bytes ro lro lgr (R v) (R (v ++ [e])) (C e) v.length (v ++ [e]).length hne (hl v).symm (hl _).symm (hs v e) hz hr hb)
theorem Qc {G : Nat → Option Fun} {m : Nat} {live : List Nat} {b : IR} {env : List PV} {h : List Ob} {vw : Views} (hv : VOK (look (number 0 h)) vw) {y1 : List PV} {y2 : List Ob} {r : Rs} (l : List It) (q : List (An G)) (hr : Q0 G (.loop m live b y1 y2) r) (ht : Q1rp m live b env h vw (hsOf l) (asOf q) = some ((y1, y2), owOf l, akOf q)) : Q0 G (.loop m live b env h) r := Q15a (y := (y1, y2)) hv (Q1n8 l) (Q19e q) ht hr
end Go.Pv
end

section
/-
  What a law is handed, as plain Lean dF.
-/
namespace Go.Pv
def okI (k : IntKind) (n : Int) : Prop := (Lit.int k n).wf = true
def Q3g (n : Int) : Prop := -9223372036854775808 ≤ n ∧ n ≤ 9223372036854775807
def okU8 (n : Int) : Prop := 0 ≤ n ∧ n ≤ 255
theorem okI.i64 {n : Int} (h : okI .i64 n) : Q3g n := by
 unfold okI at h
 simp [Lit.wf, IntKind.min, IntKind.max, IntKind.signed, IntKind.bits] at h
 exact h
theorem okI.u8 {n : Int} (h : okI .u8 n) : okU8 n := by
 unfold okI at h
 simp [Lit.wf, IntKind.min, IntKind.max, IntKind.signed, IntKind.bits] at h
 unfold okU8
 omega
def okS (s : ByteArray) : Prop := s.size ≤ 140737488351232
def okL {α : Type} (bytes : Nat) (ok : α → Prop) (l : List α) : Prop := l.length * bytes ≤ 140737488351232 ∧ ∀ x ∈ l, ok x
section
variable {Γ : Nat → Option Ty}
theorem OfL.Qv {f : Ty} {fs : List Ty} {c : List PV} (h : OfL Γ (f :: fs) c) : ∃ a b, c = a ++ b ∧ Of Γ f a ∧ OfL Γ fs b := by
 cases h with
 | cons _ _ a b h1 h2 => exact ⟨a, b, rfl, h1, h2⟩
theorem OfL.empty {c : List PV} (h : OfL Γ [] c) : c = [] := by cases h; rfl
theorem Of.str1 {c : List PV} (h : Of Γ .str c) : ∃ s, c = [.str s] ∧ okS s := by
 cases h with
 | str s h => exact ⟨s, rfl, h⟩
theorem Of.Q26q {c : List PV} (h : Of Γ .bool c) : ∃ b, c = [.bool b] := by
 cases h with
 | bool b => exact ⟨b, rfl⟩
theorem Of.bool2 {c : List PV} (h : Of Γ .bool c) : ∃ b, c = [.bool b] ∧ True := by
 obtain ⟨b, hb⟩ := h.Q26q
 exact ⟨b, hb, trivial⟩
theorem Of.int1 {k : IntKind} {c : List PV} (h : Of Γ (.int k) c) : ∃ n, c = [.int k n] ∧ okI k n := by
 cases h with
 | int _ n h => exact ⟨n, rfl, h⟩
theorem Of.i64 {c : List PV} (h : Of Γ (.int .i64) c) : ∃ n, c = [.int .i64 n] ∧ Q3g n := by
 obtain ⟨n, h1, h2⟩ := h.int1
 exact ⟨n, h1, h2.i64⟩
theorem Of.u8 {c : List PV} (h : Of Γ (.int .u8) c) : ∃ n, c = [.int .u8 n] ∧ okU8 n := by
 obtain ⟨n, h1, h2⟩ := h.int1
 exact ⟨n, h1, h2.u8⟩
theorem Of.st1 {fs : List Ty} {c : List PV} (h : Of Γ (.st fs) c) : OfL Γ fs c := by
 cases h with
 | st _ _ h => exact h
theorem Qnm {α : Type} {f : α → List PV} {ok : α → Prop} : ∀ (l : List (List PV)), (∀ r ∈ l, ∃ x, r = f x ∧ ok x) → ∃ xs : List α, l = xs.map f ∧ ∀ x ∈ xs, ok x
  | [], _ => ⟨[], rfl, fun _ h => absurd h List.not_mem_nil⟩
  | r :: rs, h => by
    obtain ⟨x, hx, hok⟩ := h r List.mem_cons_self
    obtain ⟨xs, hxs, hoks⟩ := Qnm rs (fun q hq => h q (List.mem_cons_of_mem _ hq))
    refine ⟨x :: xs, by rw [hx, hxs]; rfl, fun y hy => ?_⟩
    rcases List.mem_cons.1 hy with rfl | hy
    · exact hok
    · exact hoks y hy
theorem Of.sl1 {bytes : Nat} {e : Ty} {c : List PV} {α : Type} {f : α → List PV} {ok : α → Prop} (h : Of Γ (.sl bytes e) c) (he : ∀ r, Of Γ e r → ∃ x, r = f x ∧ ok x) : ∃ xs : List α, c = [.sl (xs.map f)] ∧ okL bytes ok xs := by
 cases h with
 | sl _ _ l h hl =>
  obtain ⟨xs, rfl, hok⟩ := Qnm l (fun r hr => he r (hl r hr))
  exact ⟨xs, rfl, by simpa using h, hok⟩
theorem Arg.one {ty : Ty} {p : PV} (h : Arg Γ ty p) (hs : ty.isSt Γ = false) : Of Γ ty [p] := by
 obtain ⟨c, hc, hp⟩ := h
 rw [hs] at hp
 have hp : c = [p] := hp
 subst hp
 exact hc
theorem Arg.agg {ty : Ty} {p : PV} (h : Arg Γ ty p) (hs : ty.isSt Γ = true) : ∃ c, p = .agg c ∧ Of Γ ty c := by
 obtain ⟨c, hc, hp⟩ := h
 rw [hs] at hp
 exact ⟨c, hp, hc⟩
end
end Go.Pv
end

section
/-
  Strings: equality and order.
-/
namespace Go.Pv
theorem Q15b (b : ByteArray) : ∀ (n i : Nat) (acc : List UInt8), b.size - i = n → ByteArray.toList.loop b i acc = acc.reverse ++ b.data.toList.drop i := by
 intro n
 induction n with
 | zero =>
  intro i acc h
  unfold ByteArray.toList.loop
  have h1 : ¬ i < b.size := by omega
  rw [if_neg h1]
  have : b.data.toList.drop i = [] := by
   rw [List.drop_eq_nil_iff]
   have : b.data.toList.length = b.size := Array.length_toList
   omega
  rw [this, List.append_nil]
 | succ n ih =>
  intro i acc h
  unfold ByteArray.toList.loop
  have h1 : i < b.size := by omega
  rw [if_pos h1, ih (i + 1) _ (by omega)]
  have hl : i < b.data.toList.length := by rw [show b.data.toList.length = b.size from Array.length_toList]; exact h1
  rw [List.drop_eq_getElem_cons hl, List.reverse_cons, List.append_assoc]
  congr 1
  simp only [List.singleton_append, List.cons.injEq, and_true]
  have : b.data.size = b.size := rfl
  simp [ByteArray.get!, h1, this]
theorem toList_data (b : ByteArray) : b.toList = b.data.toList := by
 unfold ByteArray.toList
 rw [Q15b b _ 0 [] rfl]
 simp
theorem toList_inj {a b : ByteArray} (h : a.toList = b.toList) : a = b := by
 rw [toList_data, toList_data] at h
 cases a
 cases b
 simp at h
 rw [h]
theorem Q4u {a b : ByteArray} : sEq a b = true ↔ a = b := by
 unfold sEq
 rw [beq_iff_eq]
 exact ⟨toList_inj, fun h => by rw [h]⟩
mutual
inductive Val where
 | mk (kind n : Int) (s : ByteArray) (list : List Val) (fields : List Fld)
inductive Fld where
 | mk (name : ByteArray) (v : Val)
end
def Val.kind : Val → Int
 | .mk k _ _ _ _ => k
def Val.n : Val → Int
 | .mk _ n _ _ _ => n
def Val.s : Val → ByteArray
 | .mk _ _ s _ _ => s
def Val.list : Val → List Val
 | .mk _ _ _ l _ => l
def Val.fields : Val → List Fld
 | .mk _ _ _ _ f => f
def Fld.name : Fld → ByteArray
 | .mk n _ => n
def Fld.v : Fld → Val
 | .mk _ v => v
mutual
def Val.cs : Val → List PV
 | .mk k n s l f => [.int .i64 k, .int .i64 n, .str s, .sl (Val.css l), .sl (Fld.css f)]
def Val.css : List Val → List (List PV)
 | [] => []
 | v :: r => v.cs :: Val.css r
def Fld.css : List Fld → List (List PV)
 | [] => []
 | f :: r => f.cs :: Fld.css r
def Fld.cs : Fld → List PV
 | .mk n v => .str n :: v.cs
end
def Val.rows (l : List Val) : List (List PV) := Val.css l
def Fld.rows (l : List Fld) : List (List PV) := Fld.css l
def Val.cells (v : Val) : List PV := [.int .i64 v.kind, .int .i64 v.n, .str v.s, .sl (Val.rows v.list), .sl (Fld.rows v.fields)]
def Fld.cells (f : Fld) : List PV := [.str f.name, .int .i64 f.v.kind, .int .i64 f.v.n, .str f.v.s, .sl (Val.rows f.v.list), .sl (Fld.rows f.v.fields)]
theorem Val.Q1rg (v : Val) : v.cs = v.cells := by cases v; rfl
theorem Fld.Q1rg (f : Fld) : f.cs = f.cells := by
 cases f with
 | mk n v => cases v; rfl
theorem Val.Q11 : Val.rows [] = [] := rfl
theorem Fld.Q11 : Fld.rows [] = [] := rfl
theorem Val.Qm (v : Val) (l : List Val) : Val.rows (v :: l) = v.cells :: Val.rows l := by
 rw [← Val.Q1rg]
 rfl
theorem Fld.Qm (v : Fld) (l : List Fld) : Fld.rows (v :: l) = v.cells :: Fld.rows l := by
 rw [← Fld.Q1rg]
 rfl
theorem Val.Q4h : ∀ l : List Val, Val.rows l = l.map Val.cells
 | [] => rfl
 | v :: r => by rw [Val.Qm, Val.Q4h r]; rfl
theorem Fld.Q4h : ∀ l : List Fld, Fld.rows l = l.map Fld.cells
 | [] => rfl
 | v :: r => by rw [Fld.Qm, Fld.Q4h r]; rfl
theorem Val.Q8 (l : List Val) : (Val.rows l).length = l.length := by simp [Val.Q4h]
theorem Fld.Q8 (l : List Fld) : (Fld.rows l).length = l.length := by simp [Fld.Q4h]
theorem Val.Qg {l : List Val} {i : Nat} {x : Val} (h : l[i]? = some x) : (Val.rows l)[i]? = some (Val.cells x) := by rw [Val.Q4h]; exact Go.Pv.Qg h
theorem Fld.Qg {l : List Fld} {i : Nat} {x : Fld} (h : l[i]? = some x) : (Fld.rows l)[i]? = some (Fld.cells x) := by rw [Fld.Q4h]; exact Go.Pv.Qg h
theorem Val.Q1g (l : List Val) (x : Val) : Val.rows (l ++ [x]) = Val.rows l ++ [Val.cells x] := by simp [Val.Q4h]
theorem Fld.Q1g (l : List Fld) (x : Fld) : Fld.rows (l ++ [x]) = Fld.rows l ++ [Fld.cells x] := by simp [Fld.Q4h]
theorem Val.Qjs (l : List Val) (n : Nat) : Val.rows (l.take n) = (Val.rows l).take n := by simp [Val.Q4h, List.map_take]
theorem Fld.Qjs (l : List Fld) (n : Nat) : Fld.rows (l.take n) = (Fld.rows l).take n := by simp [Fld.Q4h, List.map_take]
theorem Val.Qyb (l : List Val) (n : Nat) : Val.rows (l.drop n) = (Val.rows l).drop n := by simp [Val.Q4h, List.map_drop]
theorem Fld.Qyb (l : List Fld) (n : Nat) : Fld.rows (l.drop n) = (Fld.rows l).drop n := by simp [Fld.Q4h, List.map_drop]
theorem Val.Q14r (l m : List Val) : Val.rows (l ++ m) = Val.rows l ++ Val.rows m := by simp [Val.Q4h]
theorem Fld.Q14r (l m : List Fld) : Fld.rows (l ++ m) = Fld.rows l ++ Fld.rows m := by simp [Fld.Q4h]
theorem Val.Qh (l : List Val) : ∀ r ∈ Val.rows l, r.length = 5 := by rw [Val.Q4h]; exact Q5g (f := Val.cells) (fun _ => rfl) l
theorem Fld.Qh (l : List Fld) : ∀ r ∈ Fld.rows l, r.length = 6 := by rw [Fld.Q4h]; exact Q5g (f := Fld.cells) (fun _ => rfl) l
theorem Val.Q7 (l : List Val) (sz : Nat) (h : sz = 5) : ViewOK sz (Val.rows l).flatten (Val.rows l) := by subst h; exact ⟨rfl, Val.Qh l, by rw [Val.Q4h]; exact Q4j (f := Val.cells) (fun _ => rfl) l⟩
theorem Fld.Q7 (l : List Fld) (sz : Nat) (h : sz = 6) : ViewOK sz (Fld.rows l).flatten (Fld.rows l) := by subst h; exact ⟨rfl, Fld.Qh l, by rw [Fld.Q4h]; exact Q4j (f := Fld.cells) (fun _ => rfl) l⟩
theorem Val.Q14c (v : Val) : SizeOf.sizeOf v.list < SizeOf.sizeOf v := by
 cases v with
 | mk k n s l f => simp only [Val.list, Val.mk.sizeOf_spec]; omega
theorem Val.Qo8 (v : Val) : SizeOf.sizeOf v.fields < SizeOf.sizeOf v := by
 cases v with
 | mk k n s l f => simp only [Val.fields, Val.mk.sizeOf_spec]; omega
theorem Fld.lt_v (f : Fld) : SizeOf.sizeOf f.v < SizeOf.sizeOf f := by
 cases f with
 | mk n v => simp only [Fld.v, Fld.mk.sizeOf_spec]; omega
theorem szL {v x : Val} {i : Nat} (h : v.list[i]? = some x) : SizeOf.sizeOf x < SizeOf.sizeOf v :=
 Nat.lt_trans (List.sizeOf_lt_of_mem (Q2l h)) v.Q14c
theorem szF {v : Val} {x : Fld} {i : Nat} (h : v.fields[i]? = some x) : SizeOf.sizeOf x.v < SizeOf.sizeOf v :=
 Nat.lt_trans x.lt_v (Nat.lt_trans (List.sizeOf_lt_of_mem (Q2l h)) v.Qo8)
inductive Val.Sm (B : Nat) : Val → Prop
  | mk (v : Val) (hl : v.list.length ≤ B) (hf : v.fields.length ≤ B) (sl : ∀ x ∈ v.list, Val.Sm B x) (sf : ∀ x ∈ v.fields, Val.Sm B x.v) : Val.Sm B v
theorem Val.Sm.all {B : Nat} {v : Val} (h : Val.Sm B v) : v.list.length ≤ B ∧ v.fields.length ≤ B ∧ (∀ x ∈ v.list, Val.Sm B x) ∧ (∀ x ∈ v.fields, Val.Sm B x.v) := by
 cases h with
 | mk _ h1 h2 h3 h4 => exact ⟨h1, h2, h3, h4⟩
theorem Val.Sm.mono {B C : Nat} (hb : B ≤ C) {v : Val} (h : Val.Sm B v) : Val.Sm C v := by
 induction h with
 | mk v h1 h2 _ _ i1 i2 => exact .mk v (by omega) (by omega) i1 i2
theorem Val.Sm.leaf {B : Nat} (k n : Int) (s : ByteArray) : Val.Sm B (.mk k n s [] []) := .mk _ (Nat.zero_le _) (Nat.zero_le _) (fun _ h => by cases h) (fun _ h => by cases h)
theorem Val.Sm.getD {B : Nat} {l : List Val} (h : ∀ x ∈ l, Val.Sm B x) (i : Nat) (k n : Int) (s : ByteArray) : Val.Sm B (l.getD i (.mk k n s [] [])) := by
  by_cases c : i < l.length
  · have := Q5x l i (.mk k n s [] []) c
    exact h _ (Q2l this)
  · rw [List.getD_eq_getElem?_getD, List.getElem?_eq_none (by omega)]
    exact .leaf k n s
inductive Qdo : Val → Prop
  | mk (v : Val) (h1 : Q3g v.kind) (h2 : Q3g v.n) (h3 : okS v.s) (hl : v.list.length * 80 ≤ 140737488351232) (hf : v.fields.length * 96 ≤ 140737488351232) (sl : ∀ x ∈ v.list, Qdo x) (sn : ∀ x ∈ v.fields, okS x.name) (sf : ∀ x ∈ v.fields, Qdo x.v) : Qdo v
theorem Qdo.all {v : Val} (h : Qdo v) : Q3g v.kind ∧ Q3g v.n ∧ okS v.s ∧ v.list.length * 80 ≤ 140737488351232 ∧ v.fields.length * 96 ≤ 140737488351232 ∧ (∀ x ∈ v.list, Qdo x) ∧ (∀ x ∈ v.fields, okS x.name ∧ Qdo x.v) := by
 cases h with
 | mk _ a b c d e f n g => exact ⟨a, b, c, d, e, f, fun x hx => ⟨n x hx, g x hx⟩⟩
theorem Qdo.sm {v : Val} (h : Qdo v) : Val.Sm 4611686018427387904 v := by
 induction h with
 | mk v _ _ _ hl hf _ _ _ i1 i2 => exact .mk v (by omega) (by omega) i1 i2
def Q16u (t : Nat) : Ty := .st [.int .i64, .int .i64, .str, .sl 80 (.nm t), .sl 96 (.st [.str, .nm t])]
theorem Q14b {α : Type} [SizeOf α] (x : α) (r : List α) : SizeOf.sizeOf x < SizeOf.sizeOf (x :: r) := by
 simp only [List.cons.sizeOf_spec]
 omega
theorem Q1if {α : Type} [SizeOf α] (x : α) (r : List α) : SizeOf.sizeOf r < SizeOf.sizeOf (x :: r) := by
 simp only [List.cons.sizeOf_spec]
 omega
theorem Q18k (x : Fld) (r : List Fld) : SizeOf.sizeOf x.v < SizeOf.sizeOf (x :: r) := Nat.lt_trans x.lt_v (Q14b x r)
def gam (t : Nat) : Nat → Option Ty := fun k => bif Nat.beq k t then some (Q16u t) else none
theorem gam_tab {P : Program} {t : Nat} (h : Qcj P (gam t) (Q16u t) t = true) : TabOK P (gam t) := by
 intro k ty hk
 unfold gam at hk
 cases c : Nat.beq k t with
 | false => rw [c] at hk; cases hk
 | true =>
  rw [c] at hk
  simp only [cond_true, Option.some.injEq] at hk
  subst hk
  rw [Nat.eq_of_beq_eq_true c]
  exact ⟨rfl, h⟩
end Go.Pv
namespace Go.Pv
theorem Q4o {G : Nat → Option Fun} {e e' : En} {r : Rs} (h : Q0 G e r) (he : e = e') : Q0 G e' r := he ▸ h
end Go.Pv
end

section
/- Strings byte by byte; rows that are cloned. -/
namespace Go.Pv
theorem Qur : ∀ p, plain p = true → bare p = true := fun p h => by cases p <;> first | rfl | (cases h)
theorem Qaf {G : Nat → Option Fun} {f sz bytes : Nat} (hG : G f = some (.ax (Qnn sz bytes))) {rows : List (List PV)} {n : Nat} (hn : rows.length = n) (hv : ViewOK sz rows.flatten rows) (hb : n * bytes ≤ 140737488355328) :
  Q0 G (.call f [.sl rows] []) (.ret (.ms 0 sz 0 n) [⟨sz, 0, true, rows.flatten⟩]) := by
 refine ⟨1, ?_⟩
 subst hn
 simp only [runs, phi, hG, Qnn]
 have h1 : Q86 rows sz = true := Q136 hv.size
 have h2 : rows.flatten.all bare = true := List.all_eq_true.2 fun p hp => Qur p (hv.all p hp)
 rw [h1, h2, Nat.ble_eq_true_of_le hb]
 rfl
theorem Q8n {G : Nat → Option Fun} {f sz bytes : Nat} (hG : G f = some (.ax (Qno sz bytes))) {rows : List (List PV)} {n : Nat} (hn : rows.length = n) (hv : ViewOK sz rows.flatten rows) (hb : n * bytes ≤ 140737488355328) :
  Q0 G (.call f [.sl rows] []) (.ret (.sl rows) []) := by
 refine ⟨1, ?_⟩
 subst hn
 simp only [runs, phi, hG, Qno]
 have h1 : Q86 rows sz = true := Q136 hv.size
 have h2 : rows.flatten.all bare = true := List.all_eq_true.2 fun p hp => Qur p (hv.all p hp)
 rw [h1, h2, Nat.ble_eq_true_of_le hb]
 rfl
end Go.Pv
namespace Go.Pv
theorem szM {v x : Val} (h : x ∈ v.list) : SizeOf.sizeOf x < SizeOf.sizeOf v := Nat.lt_trans (List.sizeOf_lt_of_mem h) v.Q14c
theorem szN {v : Val} {x : Fld} (h : x ∈ v.fields) : SizeOf.sizeOf x.v < SizeOf.sizeOf v := Nat.lt_trans x.lt_v (Nat.lt_trans (List.sizeOf_lt_of_mem h) v.Qo8)
end Go.Pv
end

section
/- Arrays of bools, asked at an index of a loop. -/
namespace Go.Pv
def zr (z : Nat → PV) (i : Nat) : Nat → List PV
 | 0 => []
 | k + 1 => z i :: zr z (i + 1) k
end Go.Pv
end

