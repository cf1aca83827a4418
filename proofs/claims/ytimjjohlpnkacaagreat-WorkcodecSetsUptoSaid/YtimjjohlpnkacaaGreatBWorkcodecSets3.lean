/- Texts of the claim, merged by a program; what the statement does not reach is left out. -/
import Derived.Test.YtimjjohlpnkacaaGreatBWorkcodecSets2
import Derived.Test.YtimjjohlpnkacaaGreatProg
import Derived.KernelRfl
import Derived.OpenShut
import Derived.ChangeArms
import Derived.ChangeSlices
import Derived.ChangeOld
import Derived.Carry
import GoSem.ClaimJoined

section
/- The seat's functions as the evaluator takes them; printed by a program, checked against the given ones in YtimjjohlpnkacaaGreatTie. -/
namespace Go.Proofs.YtimjjohlpnkacaaGreat.Ir
open Go.Pv
def o (d : Nat) (op : IOp) : IOper := ⟨some d, none, op, []⟩
def ob (d : Nat) (op : IOp) (b : List Nat) : IOper := ⟨some d, none, op, b⟩
def oM (d t : Nat) : IOper := o d (.mov (.t t))
def oX (d t k : Nat) : IOper := o d (.extract (.t t) k)
def oL (d n t : Nat) : IOper := o d (.load n true (.t t))
def oK (d n t : Nat) : IOper := o d (.load n false (.t t))
def oF (d n t : Nat) : IOper := o d (.faddr n (.t t))
def oS (n a b : Nat) : IOper := ⟨none, none, .store n (.t a) (.t b), []⟩
def oC (d f : Nat) (l : List Opd) : IOper := o d (.call false (.f f) l)
def oI (d n a b : Nat) : IOper := o d (.iaddr n (.t a) (.t b))
def oN (d t : Nat) : IOper := o d (.len false (.t t))
def oU (d t : Nat) : IOper := o d (.un .not (.t t))
def gT (d s : Nat) (x : IOp) : IOper := ⟨some d, some (s, true), x, []⟩
def gF (d s : Nat) (x : IOp) : IOper := ⟨some d, some (s, false), x, []⟩
def oD (d f : Nat) (l : List Opd) (b : List Nat) : IOper := ob d (.call false (.f f) l) b
def oE (d n t : Nat) (b : List Nat) : IOper := ob d (.load n false (.t t)) b
def oP (d a b : Nat) : IOper := o d (.pick (.t a) (.t b) (.c (.bool false)))
def oQ (d a b : Nat) : IOper := o d (.pick (.t a) (.c (.bool true)) (.t b))
def oA (d t : Nat) : IOper := o d (.bin .add (.t t) (.c (.int .i64 1)))
def oJ (d n k a b : Nat) : IOper := o d (.append n k (.t a) (.t b))
def zS : PV := .str ⟨#[]⟩
def zI : PV := .int .i64 0
def zB : PV := .bool false
def sA0 : Opd := .c (.str ⟨#[100, 101, 108, 97, 121]⟩)
def sA1 : Opd := .c (.str ⟨#[100, 105, 115, 107]⟩)
def sA2 : Opd := .c (.str ⟨#[101, 102, 102, 101, 99, 116]⟩)
def sA3 : Opd := .c (.str ⟨#[101, 120, 105, 115, 116, 115]⟩)
def sA4 : Opd := .c (.str ⟨#[102, 97, 105, 108, 101, 100]⟩)
def sA5 : Opd := .c (.str ⟨#[102, 97, 105, 108, 117, 114, 101]⟩)
def sA6 : Opd := .c (.str ⟨#[103, 114, 97, 99, 101]⟩)
def sA7 : Opd := .c (.str ⟨#[104, 97, 114, 100]⟩)
def sA8 : Opd := .c (.str ⟨#[104, 97, 115]⟩)
def sA9 : Opd := .c (.str ⟨#[105, 109, 97, 103, 101]⟩)
def sA10 : Opd := .c (.str ⟨#[107, 101, 121]⟩)
def sA11 : Opd := .c (.str ⟨#[108, 105, 109, 105, 116]⟩)
def sA12 : Opd := .c (.str ⟨#[108, 105, 118, 101]⟩)
def sA13 : Opd := .c (.str ⟨#[108, 97, 98, 101, 108, 115]⟩)
def sA14 : Opd := .c (.str ⟨#[109, 101, 109, 111, 114, 121]⟩)
def sA15 : Opd := .c (.str ⟨#[109, 105, 110, 82, 101, 97, 100, 121]⟩)
def sA16 : Opd := .c (.str ⟨#[109, 97, 120, 83, 107, 101, 119]⟩)
def sA17 : Opd := .c (.str ⟨#[110, 111, 100, 101, 83, 101, 108, 101, 99, 116, 111, 114]⟩)
def sA18 : Opd := .c (.str ⟨#[110, 111, 100, 101, 84, 101, 114, 109, 115]⟩)
def sA19 : Opd := .c (.str ⟨#[110, 111, 100, 101]⟩)
def sA20 : Opd := .c (.str ⟨#[110, 97, 109, 101]⟩)
def sA21 : Opd := .c (.str ⟨#[110]⟩)
def sA22 : Opd := .c (.str ⟨#[111, 112]⟩)
def sA23 : Opd := .c (.str ⟨#[111, 98, 115, 101, 114, 118, 101, 100]⟩)
def sA24 : Opd := .c (.str ⟨#[112, 101, 114, 105, 111, 100]⟩)
def sA25 : Opd := .c (.str ⟨#[112, 101, 114, 99, 101, 110, 116]⟩)
def sA26 : Opd := .c (.str ⟨#[112, 111, 100, 115]⟩)
def sA27 : Opd := .c (.str ⟨#[112, 111, 100, 84, 101, 114, 109, 115]⟩)
def sA28 : Opd := .c (.str ⟨#[112, 114, 105, 111, 114, 105, 116, 121]⟩)
def sA29 : Opd := .c (.str ⟨#[112, 114, 111, 103, 114, 101, 115, 115]⟩)
def sA30 : Opd := .c (.str ⟨#[112, 97, 114, 116, 105, 116, 105, 111, 110]⟩)
def sA31 : Opd := .c (.str ⟨#[112, 97, 114, 97, 108, 108, 101, 108]⟩)
def sA32 : Opd := .c (.str ⟨#[114, 101, 112, 108, 105, 99, 97, 115]⟩)
def sA33 : Opd := .c (.str ⟨#[114, 101, 113, 117, 101, 115, 116]⟩)
def sA34 : Opd := .c (.str ⟨#[114, 101, 113, 117, 105, 114, 101, 100]⟩)
def sA35 : Opd := .c (.str ⟨#[114, 101, 115, 116, 97, 114, 116]⟩)
def sA36 : Opd := .c (.str ⟨#[114, 101, 118, 105, 115, 105, 111, 110]⟩)
def sA37 : Opd := .c (.str ⟨#[114, 101, 97, 100, 121]⟩)
def sA38 : Opd := .c (.str ⟨#[115, 101, 108, 101, 99, 116, 111, 114]⟩)
def sA39 : Opd := .c (.str ⟨#[115, 101, 99, 111, 110, 100, 115]⟩)
def sA40 : Opd := .c (.str ⟨#[115, 112, 101, 99]⟩)
def sA41 : Opd := .c (.str ⟨#[115, 112, 114, 101, 97, 100]⟩)
def sA42 : Opd := .c (.str ⟨#[115, 116, 105, 99, 107, 121]⟩)
def sA43 : Opd := .c (.str ⟨#[115, 116, 97, 114, 116, 117, 112]⟩)
def sA44 : Opd := .c (.str ⟨#[115, 117, 99, 99, 101, 115, 115]⟩)
def sA45 : Opd := .c (.str ⟨#[116, 101, 109, 112, 108, 97, 116, 101]⟩)
def sA46 : Opd := .c (.str ⟨#[116, 111, 108, 101, 114, 97, 116, 105, 111, 110, 115]⟩)
def sA47 : Opd := .c (.str ⟨#[116, 111, 112, 111, 108, 111, 103, 121]⟩)
def sA48 : Opd := .c (.str ⟨#[117, 110, 97, 118, 97, 105, 108, 97, 98, 108, 101]⟩)
def sA49 : Opd := .c (.str ⟨#[117, 112, 100, 97, 116, 101, 100]⟩)
def sA50 : Opd := .c (.str ⟨#[117, 115, 101, 100]⟩)
def sA51 : Opd := .c (.str ⟨#[118, 97, 108, 117, 101, 115]⟩)
def sA52 : Opd := .c (.str ⟨#[118, 97, 108, 117, 101]⟩)
def sA53 : Opd := .c (.str ⟨#[119, 101, 105, 103, 104, 116]⟩)
def sA54 : Opd := .c (.str ⟨#[68, 97, 101, 109, 111, 110, 83, 101, 116]⟩)
def sA55 : Opd := .c (.str ⟨#[81, 117, 111, 116, 97]⟩)
def sA56 : Opd := .c (.str ⟨#[82, 101, 112, 108, 105, 99, 97, 83, 101, 116]⟩)
def sA57 : Opd := .c (.str ⟨#[83, 101, 114, 118, 105, 99, 101]⟩)
def sA58 : Opd := .c (.str ⟨#[83, 116, 97, 116, 101, 102, 117, 108, 83, 101, 116]⟩)
def sA59 : Opd := .c (.str ⟨#[97, 110, 116, 105]⟩)
def sA60 : Opd := .c (.str ⟨#[97, 118, 97, 105, 108, 97, 98, 108, 101]⟩)
def sA61 : Opd := .c (.str ⟨#[99, 111, 110, 116, 97, 105, 110, 101, 114, 115]⟩)
def sA62 : Opd := .c (.str ⟨#[99, 112, 117]⟩)
def zL0 : List PV := [zS, zI, zI, zS, .ns 5, .ns 6]
def zL1 : List PV := [zI, zI, zS, .ns 5, .ns 6]
def zL2 : List PV := [zS, zS, zS, zI, zI, zI, zI, zB, zI, .ns 2, .ns 5, .ns 1, .ns 2, zI, zI, zS, .ns 5, .ns 6, zI, zI, zS, .ns 5, .ns 6]
def zL3 : List PV := [zS, zS, zS, zI, zI, zI, zI, zB, zI, .ns 2, .ns 5, .ns 1, .ns 2, zI, zI, zI, zB, .ns 3, .ns 2, zS, zI, zI, zI, .ns 11, .ns 3, .ns 3, .ns 5, .ns 4, .ns 5, zI, zI, zI, zI, zI, zI, zB]
def zL4 : List PV := [zS, zS, zS, zI, zI, zI, zI, zB, zI, .ns 2, .ns 5, .ns 1, .ns 2, zI, zI, zI, .ns 3, .ns 2, zS, zI, zI, zI, .ns 11, .ns 3, .ns 3, .ns 5, .ns 4, .ns 5, zI, zI, zI, zI, zI, zI, zB]
def zL5 : List PV := [zS, zS, zS, zI, zI, zI, zI, zB, zI, .ns 2, .ns 5, .ns 1, .ns 2, zI, zB, zI, .ns 3, .ns 2, zS, zI, zI, zI, .ns 11, .ns 3, .ns 3, .ns 5, .ns 4, .ns 5, zI, zI, zI, zI, zI, zI, zB]
def zL6 : List PV := [zS, zS, zS, zI, zI, zI, zI, zB, zI, .ns 2, .ns 5, .ns 1, .ns 2, zI, zI, zI, zI, zI, zI, zI, zI]
def zL7 : List PV := [zS, zS, zS, zI, zI, zI, zI, zB, zI, .ns 2, .ns 5, .ns 1, .ns 2, .ns 3, .ns 3, zB, zI]
def zL8 : List PV := [zS, zS, zI, zI, zI, zI, zI, zI, .ns 4, .ns 4, .ns 4]
def zL9 : List PV := [zS, zS, zS, zI, zI, zI, zI, zB, zI, .ns 2, .ns 5, .ns 1, .ns 2]
def zL10 : List PV := [zS, zI, zI, zI, .ns 11, .ns 3, .ns 3, .ns 5, .ns 4, .ns 5]
def zL11 : List PV := [zI, zI, zI, zI, zI, zI, zB]
def rg1 (a : Nat) : Nat → List Nat
  | 0 => []
  | n + 1 => a :: rg1 (a + 1) n
def rg (a b : Nat) : List Nat := rg1 a (b - a)
def K5_c : IR :=
 .seq (.reg [o 3 (.box 35 (.t 0)),
 o 4 (.box 36 (.t 1)),
 o 5 (.box 35 (.t 2)),
 o 6 (.mov (.c zB))] false)
 (.seq (.reg [oL 16 35 3,
 oD 17 18 ([.t 16]) [0],
 oL 18 36 4,
 oD 19 33 ([.t 18]) [0, 1, 2],
 oL 20 35 5,
 oD 21 34 ([.t 20]) (rg 0 5),
 o 7 (.zero zL2),
 o 8 (.zero zL2),
 o 9 (.zero zL2),
 ⟨none, none, .store 23 (.t 7) (.t 17), (rg 0 9)⟩,
 ⟨none, none, .store 23 (.t 8) (.t 19), (rg 0 10)⟩,
 ⟨none, none, .store 23 (.t 9) (.t 21), (rg 0 11)⟩] true)
 (.seq (.seq (.reg [oL 22 23 7,
 oC 23 11 ([.t 22]),
 oU 24 23,
 oM 25 24,
 gF 26 25 (.load 23 true (.t 8)),
 gF 27 25 (.call false (.f 11) [.t 26]),
 gF 28 25 (.un .not (.t 27)),
 oQ 29 25 28,
 oM 30 29,
 gF 31 30 (.load 23 true (.t 9)),
 gF 32 30 (.call false (.f 11) [.t 31]),
 gF 33 30 (.un .not (.t 32)),
 oQ 34 30 33] false)
 (.cond (.t 34) (.seq (.reg [oC 35 12 ([]),
 oM 6 35] false)
 (.ret))
 (.skip)))
 (.seq (.seq (.reg [oL 36 35 3,
 oD 37 22 ([.t 36]) [0],
 oL 38 23 7,
 oD 39 17 ([.t 37, .t 38]) [0, 1, 2],
 ob 40 (.un .not (.t 39)) [0, 1, 2, 3],
 ob 41 (.mov (.t 40)) (rg 0 5),
 ⟨(some 42), (some (41, false)), .load 36 true (.t 4), (rg 0 6)⟩,
 ⟨(some 43), (some (41, false)), .call false (.f 56) [.t 42], (rg 0 7)⟩,
 ⟨(some 44), (some (41, false)), .load 23 true (.t 8), (rg 0 6)⟩,
 ⟨(some 45), (some (41, false)), .call false (.f 17) [.t 43, .t 44], (rg 0 9)⟩,
 ⟨(some 46), (some (41, false)), .un .not (.t 45), (rg 0 10)⟩,
 ob 47 (.pick (.t 41) (.c (.bool true)) (.t 46)) (rg 0 11),
 ob 48 (.mov (.t 47)) (rg 0 12),
 ⟨(some 49), (some (48, false)), .load 35 true (.t 5), (rg 0 13)⟩,
 ⟨(some 50), (some (48, false)), .call false (.f 57) [.t 49], (rg 0 14)⟩,
 ⟨(some 51), (some (48, false)), .load 23 true (.t 9), (rg 0 13)⟩,
 ⟨(some 52), (some (48, false)), .call false (.f 17) [.t 50, .t 51], (rg 0 16)⟩,
 ⟨(some 53), (some (48, false)), .un .not (.t 52), (rg 0 17)⟩,
 ob 54 (.pick (.t 48) (.c (.bool true)) (.t 53)) (rg 0 18)] true)
 (.cond (.t 54) (.seq (.reg [o 6 (.mov (.c zB))] false)
 (.ret))
 (.skip)))
 (.seq (.reg [oL 56 23 7,
 oC 57 21 ([.t 56]),
 oM 55 57,
 oX 58 55 0,
 oX 59 55 1,
 o 10 (.zero zL4),
 oS 35 10 58,
 oM 11 59] false)
 (.seq (.reg [oL 61 23 8,
 oC 62 29 ([.t 61]),
 oM 60 62,
 oX 63 60 0,
 oX 64 60 1,
 o 12 (.zero zL3),
 oS 36 12 63,
 oM 13 64] false)
 (.seq (.reg [oL 66 23 9,
 oC 67 31 ([.t 66]),
 oM 65 67,
 oX 68 65 0,
 oX 69 65 1,
 o 14 (.zero zL5),
 oS 35 14 68,
 oM 15 69] false)
 (.seq (.seq (.reg [oF 70 0 10,
 oF 71 0 70,
 oK 72 1 71,
 o 73 (.bin .neq (.t 72) (sA56)),
 oM 74 73,
 gF 75 74 (.faddr 0 (.t 12)),
 gF 76 74 (.faddr 0 (.t 75)),
 gF 77 74 (.load 1 false (.t 76)),
 gF 78 74 (.bin .neq (.t 77) (sA58)),
 oQ 79 74 78,
 oM 80 79,
 gF 81 80 (.faddr 0 (.t 14)),
 gF 82 80 (.faddr 0 (.t 81)),
 gF 83 80 (.load 1 false (.t 82)),
 gF 84 80 (.bin .neq (.t 83) (sA54)),
 oQ 85 80 84] false)
 (.cond (.t 85) (.seq (.reg [o 6 (.mov (.c zB))] false)
 (.ret))
 (.skip)))
 (.seq (.reg [oM 86 11,
 ob 87 (.bin .eql (.t 86) (.c zI)) [0],
 ob 88 (.mov (.t 87)) [0, 1],
 ⟨(some 89), (some (88, true)), .mov (.t 13), [0, 1, 2]⟩,
 ⟨(some 90), (some (88, true)), .bin .eql (.t 89) (.c zI), [0, 1, 2, 3]⟩,
 ob 91 (.pick (.t 88) (.t 90) (.c zB)) (rg 0 5),
 ob 92 (.mov (.t 91)) (rg 0 6),
 ⟨(some 93), (some (92, true)), .mov (.t 15), (rg 0 7)⟩,
 ⟨(some 94), (some (92, true)), .bin .eql (.t 93) (.c zI), (rg 0 8)⟩,
 ob 95 (.pick (.t 92) (.t 94) (.c zB)) (rg 0 9),
 ob 96 (.mov (.t 95)) (rg 0 10),
 ⟨(some 97), (some (96, true)), .load 35 true (.t 10), (rg 0 11)⟩,
 ⟨(some 98), (some (96, true)), .call false (.f 18) [.t 97], (rg 0 12)⟩,
 ⟨(some 99), (some (96, true)), .load 23 true (.t 7), (rg 0 11)⟩,
 ⟨(some 100), (some (96, true)), .call false (.f 17) [.t 98, .t 99], (rg 0 14)⟩,
 ob 101 (.pick (.t 96) (.t 100) (.c zB)) (rg 0 15),
 ob 102 (.mov (.t 101)) (rg 0 16),
 ⟨(some 103), (some (102, true)), .load 36 true (.t 12), (rg 0 17)⟩,
 ⟨(some 104), (some (102, true)), .call false (.f 33) [.t 103], (rg 0 18)⟩,
 ⟨(some 105), (some (102, true)), .load 23 true (.t 8), (rg 0 17)⟩,
 ⟨(some 106), (some (102, true)), .call false (.f 17) [.t 104, .t 105], (rg 0 20)⟩,
 ob 107 (.pick (.t 102) (.t 106) (.c zB)) (rg 0 21),
 ob 108 (.mov (.t 107)) (rg 0 22),
 ⟨(some 109), (some (108, true)), .load 35 true (.t 14), (rg 0 23)⟩,
 ⟨(some 110), (some (108, true)), .call false (.f 34) [.t 109], (rg 0 24)⟩,
 ⟨(some 111), (some (108, true)), .load 23 true (.t 9), (rg 0 23)⟩,
 ⟨(some 112), (some (108, true)), .call false (.f 17) [.t 110, .t 111], (rg 0 26)⟩,
 ob 113 (.pick (.t 108) (.t 112) (.c zB)) (rg 0 27),
 ob 114 (.mov (.t 113)) (rg 0 28),
 ⟨(some 115), (some (114, true)), .call false (.f 12) [], (rg 0 29)⟩,
 ob 116 (.pick (.t 114) (.t 115) (.c zB)) (rg 0 30),
 ob 6 (.mov (.t 116)) (rg 0 31)] true)
 (.ret)))))))))
def K5 : IFn := ⟨3, 117, [.tmp 6], false, K5_c⟩
def Qn9 : List Nat := [100001, 1, 3, 4]
def Q1n1 : IR :=
 .seq (.seq (.reg [oM 29 4,
 oF 30 12 3,
 oK 31 1 30,
 oN 32 31,
 o 33 (.bin .lss (.t 29) (.t 32))] false)
 (.cond (.t 33) (.skip)
 (.exit 0)))
 (.seq (.block 1 (.seq (.reg [oF 36 12 3,
 oK 37 1 36,
 oM 38 4,
 oI 39 2 37 38,
 oF 40 1 39,
 oK 41 1 40,
 oN 42 41,
 o 43 (.bin .gtr (.t 42) (.c (.int .i64 60)))] false)
 (.cond (.t 43) (.seq (.reg [o 2 (.mov (.c zB))] false)
 (.ret))
 (.skip))))
 (.reg [oM 34 4,
 oA 35 34,
 oM 4 35] false))
def K8_c : IR :=
 .seq (.reg [o 1 (.box 23 (.t 0)),
 o 2 (.mov (.c zB))] false)
 (.seq (.reg [oF 5 0 1,
 oL 6 13 5,
 o 3 (.zero zL9),
 oS 13 3 6] false)
 (.seq (.seq (.reg [oF 7 9 3,
 oK 8 1 7,
 oN 9 8,
 o 10 (.bin .gtr (.t 9) (.c (.int .i64 40))),
 oM 11 10,
 gF 12 11 (.faddr 10 (.t 3)),
 gF 13 11 (.load 1 false (.t 12)),
 gF 14 11 (.len false (.t 13)),
 gF 15 11 (.bin .gtr (.t 14) (.c (.int .i64 40))),
 oQ 16 11 15,
 oM 17 16,
 gF 18 17 (.faddr 11 (.t 3)),
 gF 19 17 (.load 1 false (.t 18)),
 gF 20 17 (.len false (.t 19)),
 gF 21 17 (.bin .gtr (.t 20) (.c (.int .i64 40))),
 oQ 22 17 21,
 oM 23 22,
 gF 24 23 (.faddr 12 (.t 3)),
 gF 25 23 (.load 1 false (.t 24)),
 gF 26 23 (.len false (.t 25)),
 gF 27 23 (.bin .gtr (.t 26) (.c (.int .i64 40))),
 oQ 28 23 27] false)
 (.cond (.t 28) (.seq (.reg [o 2 (.mov (.c zB))] false)
 (.ret))
 (.skip)))
 (.seq (.seq (.reg [o 4 (.mov (.c zI))] false)
 (.block 0 (.loop Qn9 Q1n1)))
 (.seq (.reg [oF 44 13 1,
 oL 45 5 44,
 oC 46 63 ([.t 45, .c (.int .i64 900)]),
 oM 47 46,
 gT 48 47 (.faddr 18 (.t 1)),
 gT 49 47 (.load 5 true (.t 48)),
 gT 50 47 (.call false (.f 63) [.t 49, .c (.int .i64 300)]),
 oP 51 47 50,
 oM 2 51] false)
 (.ret)))))
def K8 : IFn := ⟨1, 52, [.tmp 2], false, K8_c⟩
def K6_c : IR :=
 .seq (.reg [o 0 (.mov (.c zB))] false)
 (.seq (.reg [o 15 (.build [zI, zI, zI] [(0, 1, .c (.int .i64 1000))]),
 o 16 (.build zL6 [(13, 3, .t 15), (19, 1, .c (.int .i64 2))]),
 oC 17 64 ([.t 16]),
 o 1 (.zero zL2),
 oS 23 1 17] false)
 (.seq (.reg [oF 19 13 1,
 oL 20 5 19,
 oC 21 65 ([.t 20, sA7]),
 oM 18 21,
 oX 22 18 0,
 oX 23 18 1,
 o 2 (.zero zL1),
 oS 5 2 22,
 oM 3 23] false)
 (.seq (.reg [oL 25 5 2,
 oC 26 65 ([.t 25, sA62]),
 oM 24 26,
 oX 27 24 0,
 oX 28 24 1,
 o 4 (.zero zL1),
 oS 5 4 27,
 oM 5 28] false)
 (.seq (.reg [oL 30 23 1,
 oC 31 43 ([.t 30]),
 oM 29 31,
 oX 32 29 0,
 oX 33 29 1,
 o 6 (.zero zL6),
 oS 21 6 32,
 oM 7 33] false)
 (.seq (.reg [oC 34 67 ([.c (.int .i64 1)]),
 o 35 (.build zL0 [(0, 1, sA42), (1, 5, .t 34)]),
 o 36 (.lit 6 1 zL0 [(0, .t 35)]),
 oC 37 66 ([.t 36]),
 o 8 (.zero zL1),
 oS 5 8 37] false)
 (.seq (.reg [o 39 (.build zL9 [(0, 1, sA57)]),
 oL 40 5 8,
 o 41 (.build zL2 [(0, 13, .t 39), (13, 5, .t 40)]),
 oC 42 35 ([.t 41]),
 oM 38 42,
 oX 43 38 0,
 oX 44 38 1,
 o 9 (.zero zL7),
 oS 17 9 43,
 oM 10 44] false)
 (.seq (.reg [o 46 (.build zL9 [(0, 1, sA57)]),
 o 47 (.build zL2 [(0, 13, .t 46)]),
 oC 48 35 ([.t 47]),
 oM 45 48,
 oX 49 45 0,
 oX 50 45 1,
 o 11 (.zero zL7),
 oS 17 11 49,
 oM 12 50] false)
 (.seq (.reg [o 52 (.build zL2 []),
 oC 53 43 ([.t 52]),
 oM 51 53,
 oX 54 51 0,
 oX 55 51 1,
 o 13 (.zero zL6),
 oS 21 13 54,
 oM 14 55] false)
 (.seq (.reg [oF 56 0 1,
 oF 57 0 56,
 oK 58 1 57,
 o 59 (.bin .eql (.t 58) (sA55)),
 oM 60 59,
 gT 61 60 (.faddr 13 (.t 1)),
 gT 62 60 (.faddr 4 (.t 61)),
 gT 63 60 (.load 1 false (.t 62)),
 gT 64 60 (.len false (.t 63)),
 gT 65 60 (.bin .eql (.t 64) (.c (.int .i64 2))),
 oP 66 60 65,
 oM 67 66,
 gT 68 67 (.mov (.t 3)),
 oP 69 67 68,
 oM 70 69,
 gT 71 70 (.mov (.t 5)),
 oP 72 70 71,
 oM 73 72,
 gT 74 73 (.faddr 1 (.t 4)),
 gT 75 73 (.load 1 false (.t 74)),
 gT 76 73 (.bin .eql (.t 75) (.c (.int .i64 1000))),
 oP 77 73 76,
 oM 78 77,
 gT 79 78 (.mov (.t 7)),
 gT 80 78 (.bin .eql (.t 79) (.c zI)),
 oP 81 78 80,
 oM 82 81,
 gT 83 82 (.faddr 13 (.t 6)),
 gT 84 82 (.faddr 0 (.t 83)),
 gT 85 82 (.load 1 false (.t 84)),
 gT 86 82 (.bin .eql (.t 85) (.c (.int .i64 1000))),
 oP 87 82 86,
 oM 88 87,
 gT 89 88 (.faddr 19 (.t 6)),
 gT 90 88 (.load 1 false (.t 89)),
 gT 91 88 (.bin .eql (.t 90) (.c (.int .i64 2))),
 oP 92 88 91,
 oM 93 92,
 gT 94 93 (.mov (.t 10)),
 gT 95 93 (.bin .eql (.t 94) (.c (.int .i64 6))),
 oP 96 93 95,
 oM 97 96,
 gT 98 97 (.mov (.t 12)),
 gT 99 97 (.bin .eql (.t 98) (.c zI)),
 oP 100 97 99,
 oM 101 100,
 gT 102 101 (.faddr 15 (.t 11)),
 gT 103 101 (.load 1 false (.t 102)),
 gT 104 101 (.un .not (.t 103)),
 oP 105 101 104,
 oM 106 105,
 gT 107 106 (.mov (.t 14)),
 gT 108 106 (.bin .eql (.t 107) (.c (.int .i64 6))),
 oP 109 106 108,
 oM 0 109] false)
 (.ret))))))))))
def K6 : IFn := ⟨0, 110, [.tmp 0], false, K6_c⟩
def Q1to : IR :=
 .seq (.reg [o 2 (.box 23 (.t 0)),
 o 3 (.box 23 (.t 1)),
 o 4 (.mov (.c zB))] false)
 (.seq (.reg [oF 5 0 2,
 oL 6 13 5,
 oF 7 0 3,
 oL 8 13 7,
 oC 9 27 ([.t 6, .t 8]),
 oM 10 9,
 gT 11 10 (.faddr 13 (.t 2)),
 gT 12 10 (.load 5 true (.t 11)),
 gT 13 10 (.faddr 13 (.t 3)),
 gT 14 10 (.load 5 true (.t 13)),
 gT 15 10 (.call false (.f 98) [.t 12, .t 14]),
 oP 16 10 15,
 oM 17 16,
 gT 18 17 (.faddr 18 (.t 2)),
 gT 19 17 (.load 5 true (.t 18)),
 gT 20 17 (.faddr 18 (.t 3)),
 gT 21 17 (.load 5 true (.t 20)),
 gT 22 17 (.call false (.f 98) [.t 19, .t 21]),
 oP 23 17 22,
 oM 4 23] false)
 (.ret))
def K1v : IFn := ⟨2, 24, [.tmp 4], false, Q1to⟩
def Q1uf : IR :=
 .seq (.reg [o 1 (.box 35 (.t 0)),
 o 2 (.zero zL2)] false)
 (.seq (.reg [oF 3 0 1,
 ob 4 (.load 13 true (.t 3)) [0],
 oL 5 35 1,
 oD 6 99 ([.t 5]) [2],
 oF 7 28 1,
 ob 8 (.load 7 true (.t 7)) [4],
 oD 9 60 ([.t 8]) [2, 3, 4, 5],
 oD 10 58 ([sA56, .t 4, .t 6, .t 9]) (rg 0 7),
 ⟨none, none, .store 23 (.t 2) (.t 10), (rg 0 8)⟩] true)
 (.ret))
def K3t : IFn := ⟨1, 11, [.cell 2 23 true], false, Q1uf⟩
def Q1v0 : IR :=
 .seq (.reg [o 1 (.box 23 (.t 0)),
 o 2 (.zero zL4),
 o 3 (.mov (.c zI))] false)
 (.seq (.reg [oL 6 23 1,
 oD 7 68 ([.t 6, sA56]) [0],
 oF 8 13 1,
 ob 9 (.load 5 true (.t 8)) [2],
 o 5 (.zero zL1),
 ob 4 (.mov (.t 7)) [0, 1, 4],
 ⟨none, none, .store 5 (.t 5) (.t 9), (rg 0 6)⟩] true)
 (.seq (.reg [oM 10 4,
 oF 11 0 1,
 ob 12 (.load 13 true (.t 11)) [1],
 oD 13 70 ([.t 12]) [1, 2],
 oM 14 4,
 oL 15 5 5,
 oD 16 71 ([.t 14, .t 15, sA32]) (rg 1 6),
 oM 17 4,
 oL 18 5 5,
 oD 19 71 ([.t 17, .t 18, sA15]) (rg 1 9),
 oM 20 4,
 oL 21 5 5,
 oD 22 71 ([.t 20, .t 21, sA36]) (rg 1 12),
 oM 23 4,
 oL 24 5 5,
 oD 25 72 ([.t 23, .t 24]) (rg 1 15),
 oM 26 4,
 oL 27 5 5,
 oD 28 73 ([.t 26, .t 27]) (rg 1 18),
 oM 29 4,
 oF 30 18 1,
 ob 31 (.load 5 true (.t 30)) [20],
 oD 32 77 ([.t 29, .t 31]) (rg 1 22),
 ob 33 (.build zL4 [(0, 13, .t 13), (13, 1, .t 16), (14, 1, .t 19), (15, 1, .t 22), (16, 1, .t 25), (17, 11, .t 28), (28, 7, .t 32)]) (rg 1 23),
 oD 34 104 ([.t 10, .t 33]) (rg 0 24),
 ob 35 (.extract (.t 34) 0) (rg 0 25),
 ob 36 (.extract (.t 34) 1) (rg 0 25),
 ⟨none, none, .store 35 (.t 2) (.t 35), (rg 0 27)⟩,
 ob 3 (.mov (.t 36)) (rg 0 28)] true)
 (.ret)))
def K5w : IFn := ⟨1, 37, [.cell 2 35 true, .tmp 3], false, Q1v0⟩
def Q1uw : IR :=
 .seq (.reg [o 1 (.box 35 (.t 0)),
 o 2 (.zero zL2)] false)
 (.seq (.reg [oF 4 13 1,
 oE 5 1 4 [0],
 oD 6 79 ([sA32, .t 5]) [0, 1],
 oF 7 14 1,
 oE 8 1 7 [3],
 oD 9 79 ([sA15, .t 8]) (rg 0 5),
 oF 10 15 1,
 oE 11 1 10 [6],
 oD 12 79 ([sA36, .t 11]) (rg 0 8),
 oF 13 16 1,
 oE 14 1 13 [9],
 oD 15 80 ([.t 14]) (rg 0 11),
 oF 16 17 1,
 ob 17 (.load 11 true (.t 16)) [12],
 oD 18 81 ([.t 17]) (rg 0 14),
 ob 19 (.lit 6 5 zL0 [(0, .t 6), (1, .t 9), (2, .t 12), (3, .t 15), (4, .t 18)]) (rg 0 15),
 oD 20 78 ([.t 19]) (rg 0 16),
 o 3 (.zero zL1),
 ⟨none, none, .store 5 (.t 3) (.t 20), (rg 0 18)⟩] true)
 (.seq (.reg [oF 21 0 1,
 ob 22 (.load 13 true (.t 21)) [0],
 oL 23 5 3,
 oF 24 28 1,
 ob 25 (.load 7 true (.t 24)) [3],
 oD 26 86 ([.t 25]) [3, 4],
 oD 27 85 ([sA56, .t 22, .t 23, .t 26]) (rg 0 6),
 ⟨none, none, .store 23 (.t 2) (.t 27), (rg 0 7)⟩] true)
 (.ret)))
def K5e : IFn := ⟨1, 28, [.cell 2 23 true], false, Q1uw⟩
def Qj7 : List Nat := [100004, 2, 3, 7]
def Q1g6 : IR :=
 .seq (.seq (.reg [oM 138 7,
 oF 139 12 2,
 oK 140 1 139,
 oN 141 140,
 o 142 (.bin .lss (.t 138) (.t 141))] false)
 (.cond (.t 142) (.skip)
 (.exit 4)))
 (.seq (.block 5 (.seq (.reg [oF 145 12 2,
 oE 146 1 145 [0],
 oM 147 7,
 ob 148 (.iaddr 2 (.t 146) (.t 147)) [0, 1, 2],
 ob 149 (.faddr 0 (.t 148)) [0, 1, 2, 3],
 oE 150 1 149 (rg 0 5),
 oF 151 12 3,
 oE 152 1 151 [6],
 oM 153 7,
 ob 154 (.iaddr 2 (.t 152) (.t 153)) [6, 7, 8],
 ob 155 (.faddr 0 (.t 154)) [6, 7, 8, 9],
 oE 156 1 155 (rg 6 11),
 ob 157 (.bin .neq (.t 150) (.t 156)) (rg 0 12),
 ob 158 (.mov (.t 157)) (rg 0 13),
 ⟨(some 159), (some (158, false)), .faddr 12 (.t 2), (rg 0 14)⟩,
 ⟨(some 160), (some (158, false)), .load 1 false (.t 159), (rg 0 15)⟩,
 ⟨(some 161), (some (158, false)), .mov (.t 7), (rg 0 14)⟩,
 ⟨(some 162), (some (158, false)), .iaddr 2 (.t 160) (.t 161), (rg 0 17)⟩,
 ⟨(some 163), (some (158, false)), .faddr 1 (.t 162), (rg 0 18)⟩,
 ⟨(some 164), (some (158, false)), .load 1 false (.t 163), (rg 0 19)⟩,
 ⟨(some 165), (some (158, false)), .faddr 12 (.t 3), (rg 0 14)⟩,
 ⟨(some 166), (some (158, false)), .load 1 false (.t 165), (rg 0 14 ++ [20])⟩,
 ⟨(some 167), (some (158, false)), .mov (.t 7), (rg 0 14)⟩,
 ⟨(some 168), (some (158, false)), .iaddr 2 (.t 166) (.t 167), (rg 0 14 ++ [20, 21, 22])⟩,
 ⟨(some 169), (some (158, false)), .faddr 1 (.t 168), (rg 0 14 ++ rg 20 24)⟩,
 ⟨(some 170), (some (158, false)), .load 1 false (.t 169), (rg 0 14 ++ rg 20 25)⟩,
 ⟨(some 171), (some (158, false)), .call false (.f 120) [.t 164, .t 170], (rg 0 26)⟩,
 ⟨(some 172), (some (158, false)), .un .not (.t 171), (rg 0 27)⟩,
 ob 173 (.pick (.t 158) (.c (.bool true)) (.t 172)) (rg 0 28)] true)
 (.cond (.t 173) (.seq (.reg [o 4 (.mov (.c zB))] false)
 (.ret))
 (.skip))))
 (.reg [oM 143 7,
 oA 144 143,
 oM 7 144] false))
def Qj6 : List Nat := [100003, 2, 3, 6]
def Q1g5 : IR :=
 .seq (.seq (.reg [oM 120 6,
 oF 121 10 2,
 oK 122 1 121,
 oN 123 122,
 o 124 (.bin .lss (.t 120) (.t 123))] false)
 (.cond (.t 124) (.skip)
 (.exit 2)))
 (.seq (.block 3 (.seq (.reg [oF 127 10 2,
 oE 128 1 127 [0],
 oM 129 6,
 ob 130 (.iaddr 5 (.t 128) (.t 129)) [0, 1, 2],
 ob 131 (.load 5 true (.t 130)) [0, 1, 2, 3],
 oF 132 10 3,
 oE 133 1 132 [5],
 oM 134 6,
 ob 135 (.iaddr 5 (.t 133) (.t 134)) [5, 6, 7],
 ob 136 (.load 5 true (.t 135)) [5, 6, 7, 8],
 ob 137 (.eqs (.st [(0, 1, .str), (1, 1, .str), (2, 1, .int), (3, 1, .bool), (4, 1, .bool)]) true (.t 131) (.t 136)) (rg 0 10)] true)
 (.cond (.t 137) (.seq (.reg [o 4 (.mov (.c zB))] false)
 (.ret))
 (.skip))))
 (.reg [oM 125 6,
 oA 126 125,
 oM 6 126] false))
def Qj5 : List Nat := [100002, 2, 3, 5]
def Q1g4 : IR :=
 .seq (.seq (.reg [oM 102 5,
 oF 103 9 2,
 oK 104 1 103,
 oN 105 104,
 o 106 (.bin .lss (.t 102) (.t 105))] false)
 (.cond (.t 106) (.skip)
 (.exit 0)))
 (.seq (.block 1 (.seq (.reg [oF 109 9 2,
 oE 110 1 109 [0],
 oM 111 5,
 ob 112 (.iaddr 2 (.t 110) (.t 111)) [0, 1, 2],
 ob 113 (.load 2 true (.t 112)) [0, 1, 2, 3],
 oF 114 9 3,
 oE 115 1 114 [5],
 oM 116 5,
 ob 117 (.iaddr 2 (.t 115) (.t 116)) [5, 6, 7],
 ob 118 (.load 2 true (.t 117)) [5, 6, 7, 8],
 ob 119 (.eqs (.st [(0, 1, .str), (1, 1, .str)]) true (.t 113) (.t 118)) (rg 0 10)] true)
 (.cond (.t 119) (.seq (.reg [o 4 (.mov (.c zB))] false)
 (.ret))
 (.skip))))
 (.reg [oM 107 5,
 oA 108 107,
 oM 5 108] false))
def Q1tr : IR :=
 .seq (.reg [o 2 (.box 13 (.t 0)),
 o 3 (.box 13 (.t 1)),
 o 4 (.mov (.c zB))] false)
 (.seq (.seq (.reg [oL 8 13 2,
 oD 9 119 ([.t 8]) [0],
 oL 10 13 3,
 oD 11 119 ([.t 10]) [0, 1, 2],
 ob 12 (.bin .neq (.t 9) (.t 11)) [0, 1, 2, 3],
 ob 13 (.mov (.t 12)) (rg 0 5),
 ⟨(some 14), (some (13, false)), .faddr 0 (.t 2), (rg 0 6)⟩,
 ⟨(some 15), (some (13, false)), .load 1 false (.t 14), (rg 0 7)⟩,
 ⟨(some 16), (some (13, false)), .faddr 0 (.t 3), (rg 0 6)⟩,
 ⟨(some 17), (some (13, false)), .load 1 false (.t 16), (rg 0 6 ++ [8])⟩,
 ⟨(some 18), (some (13, false)), .bin .neq (.t 15) (.t 17), (rg 0 10)⟩,
 ob 19 (.pick (.t 13) (.c (.bool true)) (.t 18)) (rg 0 11),
 ob 20 (.mov (.t 19)) (rg 0 12),
 ⟨(some 21), (some (20, false)), .faddr 1 (.t 2), (rg 0 13)⟩,
 ⟨(some 22), (some (20, false)), .load 1 false (.t 21), (rg 0 14)⟩,
 ⟨(some 23), (some (20, false)), .faddr 1 (.t 3), (rg 0 13)⟩,
 ⟨(some 24), (some (20, false)), .load 1 false (.t 23), (rg 0 13 ++ [15])⟩,
 ⟨(some 25), (some (20, false)), .bin .neq (.t 22) (.t 24), (rg 0 17)⟩,
 ob 26 (.pick (.t 20) (.c (.bool true)) (.t 25)) (rg 0 18),
 ob 27 (.mov (.t 26)) (rg 0 19),
 ⟨(some 28), (some (27, false)), .faddr 3 (.t 2), (rg 0 20)⟩,
 ⟨(some 29), (some (27, false)), .load 1 false (.t 28), (rg 0 21)⟩,
 ⟨(some 30), (some (27, false)), .faddr 3 (.t 3), (rg 0 20)⟩,
 ⟨(some 31), (some (27, false)), .load 1 false (.t 30), (rg 0 20 ++ [22])⟩,
 ⟨(some 32), (some (27, false)), .bin .neq (.t 29) (.t 31), (rg 0 24)⟩,
 ob 33 (.pick (.t 27) (.c (.bool true)) (.t 32)) (rg 0 25),
 ob 34 (.mov (.t 33)) (rg 0 26),
 ⟨(some 35), (some (34, false)), .faddr 4 (.t 2), (rg 0 27)⟩,
 ⟨(some 36), (some (34, false)), .load 1 false (.t 35), (rg 0 28)⟩,
 ⟨(some 37), (some (34, false)), .faddr 4 (.t 3), (rg 0 27)⟩,
 ⟨(some 38), (some (34, false)), .load 1 false (.t 37), (rg 0 27 ++ [29])⟩,
 ⟨(some 39), (some (34, false)), .bin .neq (.t 36) (.t 38), (rg 0 31)⟩,
 ob 40 (.pick (.t 34) (.c (.bool true)) (.t 39)) (rg 0 32),
 ob 41 (.mov (.t 40)) (rg 0 33),
 ⟨(some 42), (some (41, false)), .faddr 5 (.t 2), (rg 0 34)⟩,
 ⟨(some 43), (some (41, false)), .load 1 false (.t 42), (rg 0 35)⟩,
 ⟨(some 44), (some (41, false)), .faddr 5 (.t 3), (rg 0 34)⟩,
 ⟨(some 45), (some (41, false)), .load 1 false (.t 44), (rg 0 34 ++ [36])⟩,
 ⟨(some 46), (some (41, false)), .bin .neq (.t 43) (.t 45), (rg 0 38)⟩,
 ob 47 (.pick (.t 41) (.c (.bool true)) (.t 46)) (rg 0 39),
 ob 48 (.mov (.t 47)) (rg 0 40),
 ⟨(some 49), (some (48, false)), .faddr 6 (.t 2), (rg 0 41)⟩,
 ⟨(some 50), (some (48, false)), .load 1 false (.t 49), (rg 0 42)⟩,
 ⟨(some 51), (some (48, false)), .faddr 6 (.t 3), (rg 0 41)⟩,
 ⟨(some 52), (some (48, false)), .load 1 false (.t 51), (rg 0 41 ++ [43])⟩,
 ⟨(some 53), (some (48, false)), .bin .neq (.t 50) (.t 52), (rg 0 45)⟩,
 ob 54 (.pick (.t 48) (.c (.bool true)) (.t 53)) (rg 0 46),
 ob 55 (.mov (.t 54)) (rg 0 47),
 ⟨(some 56), (some (55, false)), .faddr 7 (.t 2), (rg 0 48)⟩,
 ⟨(some 57), (some (55, false)), .load 1 false (.t 56), (rg 0 49)⟩,
 ⟨(some 58), (some (55, false)), .faddr 7 (.t 3), (rg 0 48)⟩,
 ⟨(some 59), (some (55, false)), .load 1 false (.t 58), (rg 0 48 ++ [50])⟩,
 ⟨(some 60), (some (55, false)), .eqb true (.t 57) (.t 59), (rg 0 52)⟩,
 ob 61 (.pick (.t 55) (.c (.bool true)) (.t 60)) (rg 0 53),
 ob 62 (.mov (.t 61)) (rg 0 54),
 ⟨(some 63), (some (62, false)), .faddr 8 (.t 2), (rg 0 55)⟩,
 ⟨(some 64), (some (62, false)), .load 1 false (.t 63), (rg 0 56)⟩,
 ⟨(some 65), (some (62, false)), .faddr 8 (.t 3), (rg 0 55)⟩,
 ⟨(some 66), (some (62, false)), .load 1 false (.t 65), (rg 0 55 ++ [57])⟩,
 ⟨(some 67), (some (62, false)), .bin .neq (.t 64) (.t 66), (rg 0 59)⟩,
 ob 68 (.pick (.t 62) (.c (.bool true)) (.t 67)) (rg 0 60)] true)
 (.cond (.t 68) (.seq (.reg [o 4 (.mov (.c zB))] false)
 (.ret))
 (.skip)))
 (.seq (.seq (.reg [oF 69 9 2,
 oK 70 1 69,
 oN 71 70,
 oF 72 9 3,
 oK 73 1 72,
 oN 74 73,
 o 75 (.bin .neq (.t 71) (.t 74)),
 oM 76 75,
 gF 77 76 (.faddr 10 (.t 2)),
 gF 78 76 (.load 1 false (.t 77)),
 gF 79 76 (.len false (.t 78)),
 gF 80 76 (.faddr 10 (.t 3)),
 gF 81 76 (.load 1 false (.t 80)),
 gF 82 76 (.len false (.t 81)),
 gF 83 76 (.bin .neq (.t 79) (.t 82)),
 oQ 84 76 83,
 oM 85 84,
 gF 86 85 (.faddr 12 (.t 2)),
 gF 87 85 (.load 1 false (.t 86)),
 gF 88 85 (.len false (.t 87)),
 gF 89 85 (.faddr 12 (.t 3)),
 gF 90 85 (.load 1 false (.t 89)),
 gF 91 85 (.len false (.t 90)),
 gF 92 85 (.bin .neq (.t 88) (.t 91)),
 oQ 93 85 92,
 oM 94 93,
 gF 95 94 (.faddr 11 (.t 2)),
 gF 96 94 (.load 1 false (.t 95)),
 gF 97 94 (.faddr 11 (.t 3)),
 gF 98 94 (.load 1 false (.t 97)),
 gF 99 94 (.call false (.f 120) [.t 96, .t 98]),
 gF 100 94 (.un .not (.t 99)),
 oQ 101 94 100] false)
 (.cond (.t 101) (.seq (.reg [o 4 (.mov (.c zB))] false)
 (.ret))
 (.skip)))
 (.seq (.seq (.reg [o 5 (.mov (.c zI))] false)
 (.block 0 (.loop Qj5 Q1g4)))
 (.seq (.seq (.reg [o 6 (.mov (.c zI))] false)
 (.block 2 (.loop Qj6 Q1g5)))
 (.seq (.seq (.reg [o 7 (.mov (.c zI))] false)
 (.block 4 (.loop Qj7 Q1g6)))
 (.seq (.reg [o 4 (.mov (.c (.bool true)))] false)
 (.ret)))))))
def K1y : IFn := ⟨2, 174, [.tmp 4], false, Q1tr⟩
def Q1v2 : IR :=
 .seq (.reg [o 1 (.box 23 (.t 0)),
 o 2 (.zero zL3),
 o 3 (.mov (.c zI))] false)
 (.seq (.reg [oL 6 23 1,
 oD 7 68 ([.t 6, sA58]) [0],
 oF 8 13 1,
 ob 9 (.load 5 true (.t 8)) [2],
 o 5 (.zero zL1),
 ob 4 (.mov (.t 7)) [0, 1, 4],
 ⟨none, none, .store 5 (.t 5) (.t 9), (rg 0 6)⟩] true)
 (.seq (.reg [oM 10 4,
 oF 11 0 1,
 ob 12 (.load 13 true (.t 11)) [1],
 oD 13 70 ([.t 12]) [1, 2],
 oM 14 4,
 oL 15 5 5,
 oD 16 71 ([.t 14, .t 15, sA32]) (rg 1 6),
 oM 17 4,
 oL 18 5 5,
 oD 19 71 ([.t 17, .t 18, sA30]) (rg 1 9),
 oM 20 4,
 oL 21 5 5,
 oD 22 71 ([.t 20, .t 21, sA15]) (rg 1 12),
 oM 23 4,
 oL 24 5 5,
 oD 25 74 ([.t 23, .t 24, sA31]) (rg 1 15),
 oM 26 4,
 oL 27 5 5,
 oD 28 72 ([.t 26, .t 27]) (rg 1 18),
 oM 29 4,
 oL 30 5 5,
 oD 31 73 ([.t 29, .t 30]) (rg 1 21),
 oM 32 4,
 oF 33 18 1,
 ob 34 (.load 5 true (.t 33)) [23],
 oD 35 77 ([.t 32, .t 34]) (rg 1 25),
 ob 36 (.build zL3 [(0, 13, .t 13), (13, 1, .t 16), (14, 1, .t 19), (15, 1, .t 22), (16, 1, .t 25), (17, 1, .t 28), (18, 11, .t 31), (29, 7, .t 35)]) (rg 1 26),
 oD 37 127 ([.t 10, .t 36]) (rg 0 27),
 ob 38 (.extract (.t 37) 0) (rg 0 28),
 ob 39 (.extract (.t 37) 1) (rg 0 28),
 ⟨none, none, .store 36 (.t 2) (.t 38), (rg 0 30)⟩,
 ob 3 (.mov (.t 39)) (rg 0 31)] true)
 (.ret)))
def K5y : IFn := ⟨1, 40, [.cell 2 36 true, .tmp 3], false, Q1v2⟩
def Q1uy : IR :=
 .seq (.reg [o 1 (.box 23 (.t 0)),
 o 2 (.zero zL5),
 o 3 (.mov (.c zI))] false)
 (.seq (.reg [oL 6 23 1,
 oD 7 68 ([.t 6, sA54]) [0],
 oF 8 13 1,
 ob 9 (.load 5 true (.t 8)) [2],
 o 5 (.zero zL1),
 ob 4 (.mov (.t 7)) [0, 1, 4],
 ⟨none, none, .store 5 (.t 5) (.t 9), (rg 0 6)⟩] true)
 (.seq (.reg [oM 10 4,
 oF 11 0 1,
 ob 12 (.load 13 true (.t 11)) [1],
 oD 13 70 ([.t 12]) [1, 2],
 oM 14 4,
 oL 15 5 5,
 oD 16 71 ([.t 14, .t 15, sA15]) (rg 1 6),
 oM 17 4,
 oM 18 4,
 oL 19 5 5,
 oD 20 76 ([.t 18, .t 19, sA48]) (rg 1 7 ++ [8, 9]),
 oD 21 75 ([.t 17, .t 20]) (rg 1 11),
 oM 22 4,
 oL 23 5 5,
 oD 24 72 ([.t 22, .t 23]) (rg 1 14),
 oM 25 4,
 oL 26 5 5,
 oD 27 73 ([.t 25, .t 26]) (rg 1 17),
 oM 28 4,
 oF 29 18 1,
 ob 30 (.load 5 true (.t 29)) [19],
 oD 31 77 ([.t 28, .t 30]) (rg 1 21),
 ob 32 (.build zL5 [(0, 13, .t 13), (13, 1, .t 16), (14, 2, .t 21), (16, 1, .t 24), (17, 11, .t 27), (28, 7, .t 31)]) (rg 1 22),
 oD 33 129 ([.t 10, .t 32]) (rg 0 23),
 ob 34 (.extract (.t 33) 0) (rg 0 24),
 ob 35 (.extract (.t 33) 1) (rg 0 24),
 ⟨none, none, .store 35 (.t 2) (.t 34), (rg 0 26)⟩,
 ob 3 (.mov (.t 35)) (rg 0 27)] true)
 (.ret)))
def K5n : IFn := ⟨1, 36, [.cell 2 35 true, .tmp 3], false, Q1uy⟩
def Q1ug : IR :=
 .seq (.reg [o 1 (.box 36 (.t 0)),
 o 2 (.zero zL2)] false)
 (.seq (.reg [oF 3 0 1,
 ob 4 (.load 13 true (.t 3)) [0],
 oL 5 36 1,
 oD 6 132 ([.t 5]) [2],
 oF 7 29 1,
 ob 8 (.load 7 true (.t 7)) [4],
 oD 9 60 ([.t 8]) [2, 3, 4, 5],
 oD 10 58 ([sA58, .t 4, .t 6, .t 9]) (rg 0 7),
 ⟨none, none, .store 23 (.t 2) (.t 10), (rg 0 8)⟩] true)
 (.ret))
def K3v : IFn := ⟨1, 11, [.cell 2 23 true], false, Q1ug⟩
def Q1ue : IR :=
 .seq (.reg [o 1 (.box 35 (.t 0)),
 o 2 (.zero zL2)] false)
 (.seq (.reg [oF 3 0 1,
 ob 4 (.load 13 true (.t 3)) [0],
 oL 5 35 1,
 oD 6 133 ([.t 5]) [2],
 oF 7 28 1,
 ob 8 (.load 7 true (.t 7)) [4],
 oD 9 60 ([.t 8]) [2, 3, 4, 5],
 oD 10 58 ([sA54, .t 4, .t 6, .t 9]) (rg 0 7),
 ⟨none, none, .store 23 (.t 2) (.t 10), (rg 0 8)⟩] true)
 (.ret))
def K3n : IFn := ⟨1, 11, [.cell 2 23 true], false, Q1ue⟩
def Q1v1 : IR :=
 .seq (.reg [o 1 (.box 23 (.t 0)),
 o 2 (.zero zL7),
 o 3 (.mov (.c zI))] false)
 (.seq (.reg [oL 6 23 1,
 oD 7 68 ([.t 6, sA57]) [0],
 oF 8 13 1,
 ob 9 (.load 5 true (.t 8)) [2],
 o 5 (.zero zL1),
 ob 4 (.mov (.t 7)) [0, 1, 4],
 ⟨none, none, .store 5 (.t 5) (.t 9), (rg 0 6)⟩] true)
 (.seq (.reg [oM 10 4,
 oF 11 0 1,
 ob 12 (.load 13 true (.t 11)) [1],
 oD 13 70 ([.t 12]) [1, 2],
 oM 14 4,
 oL 15 5 5,
 oD 16 72 ([.t 14, .t 15]) (rg 1 6),
 oM 17 4,
 oL 18 5 5,
 oD 19 135 ([.t 17, .t 18]) (rg 1 9),
 oM 20 4,
 oL 21 5 5,
 oD 22 74 ([.t 20, .t 21, sA42]) (rg 1 12),
 oM 23 4,
 oF 24 18 1,
 ob 25 (.load 5 true (.t 24)) [14],
 oD 26 71 ([.t 23, .t 25, .c (.str ⟨#[97, 100, 100, 114, 101, 115, 115]⟩)]) (rg 1 16),
 ob 27 (.build zL7 [(0, 13, .t 13), (13, 1, .t 16), (14, 1, .t 19), (15, 1, .t 22), (16, 1, .t 26)]) (rg 1 17),
 oD 28 134 ([.t 10, .t 27]) (rg 0 18),
 ob 29 (.extract (.t 28) 0) (rg 0 19),
 ob 30 (.extract (.t 28) 1) (rg 0 19),
 ⟨none, none, .store 17 (.t 2) (.t 29), (rg 0 21)⟩,
 ob 3 (.mov (.t 30)) (rg 0 22)] true)
 (.ret)))
def K5x : IFn := ⟨1, 31, [.cell 2 17 true, .tmp 3], false, Q1v1⟩
def Q1uz : IR :=
 .seq (.reg [o 1 (.box 23 (.t 0)),
 o 2 (.zero zL6),
 o 3 (.mov (.c zI))] false)
 (.seq (.reg [oL 6 23 1,
 oD 7 68 ([.t 6, sA55]) [0],
 oF 8 13 1,
 ob 9 (.load 5 true (.t 8)) [2],
 o 5 (.zero zL1),
 ob 4 (.mov (.t 7)) [0, 1, 4],
 ⟨none, none, .store 5 (.t 5) (.t 9), (rg 0 6)⟩] true)
 (.seq (.reg [oM 10 4,
 oF 11 0 1,
 ob 12 (.load 13 true (.t 11)) [1],
 oD 13 70 ([.t 12]) [1, 2],
 oM 14 4,
 oM 15 4,
 oL 16 5 5,
 oD 17 76 ([.t 15, .t 16, sA7]) [1, 2, 3, 5, 6],
 oD 18 153 ([.t 14, .t 17]) (rg 1 8),
 oM 19 4,
 oL 20 5 5,
 oD 21 71 ([.t 19, .t 20, sA26]) (rg 1 11),
 oM 22 4,
 oM 23 4,
 oF 24 18 1,
 ob 25 (.load 5 true (.t 24)) [14],
 oD 26 76 ([.t 23, .t 25, sA50]) (rg 1 12 ++ [13, 14, 15]),
 oD 27 153 ([.t 22, .t 26]) (rg 1 17),
 oM 28 4,
 oF 29 18 1,
 ob 30 (.load 5 true (.t 29)) [19],
 oD 31 71 ([.t 28, .t 30, sA8]) (rg 1 21),
 ob 32 (.build zL6 [(0, 13, .t 13), (13, 3, .t 18), (19, 1, .t 21), (16, 3, .t 27), (20, 1, .t 31)]) (rg 1 22),
 oD 33 152 ([.t 10, .t 32]) (rg 0 23),
 ob 34 (.extract (.t 33) 0) (rg 0 24),
 ob 35 (.extract (.t 33) 1) (rg 0 24),
 ⟨none, none, .store 21 (.t 2) (.t 34), (rg 0 26)⟩,
 ob 3 (.mov (.t 35)) (rg 0 27)] true)
 (.ret)))
def K5v : IFn := ⟨1, 36, [.cell 2 21 true, .tmp 3], false, Q1uz⟩
def Q1ux : IR :=
 .seq (.reg [o 1 (.box 36 (.t 0)),
 o 2 (.zero zL2)] false)
 (.seq (.reg [oF 4 13 1,
 oE 5 1 4 [0],
 oD 6 79 ([sA32, .t 5]) [0, 1],
 oF 7 14 1,
 oE 8 1 7 [3],
 oD 9 79 ([sA30, .t 8]) (rg 0 5),
 oF 10 15 1,
 oE 11 1 10 [6],
 oD 12 79 ([sA15, .t 11]) (rg 0 8),
 oF 13 16 1,
 oE 14 1 13 [9],
 oD 15 82 ([sA31, .t 14]) (rg 0 11),
 oF 16 17 1,
 oE 17 1 16 [12],
 oD 18 80 ([.t 17]) (rg 0 14),
 oF 19 18 1,
 ob 20 (.load 11 true (.t 19)) [15],
 oD 21 81 ([.t 20]) (rg 0 17),
 ob 22 (.lit 6 6 zL0 [(0, .t 6), (1, .t 9), (2, .t 12), (3, .t 15), (4, .t 18), (5, .t 21)]) (rg 0 18),
 oD 23 78 ([.t 22]) (rg 0 19),
 o 3 (.zero zL1),
 ⟨none, none, .store 5 (.t 3) (.t 23), (rg 0 21)⟩] true)
 (.seq (.reg [oF 24 0 1,
 ob 25 (.load 13 true (.t 24)) [0],
 oL 26 5 3,
 oF 27 29 1,
 ob 28 (.load 7 true (.t 27)) [3],
 oD 29 86 ([.t 28]) [3, 4],
 oD 30 85 ([sA58, .t 25, .t 26, .t 29]) (rg 0 6),
 ⟨none, none, .store 23 (.t 2) (.t 30), (rg 0 7)⟩] true)
 (.ret)))
def K5f : IFn := ⟨1, 31, [.cell 2 23 true], false, Q1ux⟩
def Q1uu : IR :=
 .seq (.reg [o 1 (.box 35 (.t 0)),
 o 2 (.zero zL2)] false)
 (.seq (.reg [oF 4 13 1,
 oE 5 1 4 [0],
 oD 6 79 ([sA15, .t 5]) [0, 1],
 oF 7 14 1,
 ob 8 (.load 2 true (.t 7)) [3],
 oD 9 84 ([.t 8]) (rg 0 5),
 oD 10 83 ([sA48, .t 9]) (rg 0 6),
 oF 11 16 1,
 oE 12 1 11 [7],
 oD 13 80 ([.t 12]) (rg 0 9),
 oF 14 17 1,
 ob 15 (.load 11 true (.t 14)) [10],
 oD 16 81 ([.t 15]) (rg 0 12),
 ob 17 (.lit 6 4 zL0 [(0, .t 6), (1, .t 10), (2, .t 13), (3, .t 16)]) (rg 0 13),
 oD 18 78 ([.t 17]) (rg 0 14),
 o 3 (.zero zL1),
 ⟨none, none, .store 5 (.t 3) (.t 18), (rg 0 16)⟩] true)
 (.seq (.reg [oF 19 0 1,
 ob 20 (.load 13 true (.t 19)) [0],
 oL 21 5 3,
 oF 22 28 1,
 ob 23 (.load 7 true (.t 22)) [3],
 oD 24 86 ([.t 23]) [3, 4],
 oD 25 85 ([sA54, .t 20, .t 21, .t 24]) (rg 0 6),
 ⟨none, none, .store 23 (.t 2) (.t 25), (rg 0 7)⟩] true)
 (.ret)))
def K5a : IFn := ⟨1, 26, [.cell 2 23 true], false, Q1uu⟩
def Q1uh : IR :=
 .seq (.reg [o 5 (.box 13 (.t 1)),
 o 6 (.box 5 (.t 2)),
 o 7 (.box 5 (.t 3)),
 o 8 (.zero zL2)] false)
 (.seq (.reg [oM 9 0,
 oF 10 0 5,
 oS 1 10 9] false)
 (.seq (.reg [oL 11 13 5,
 oL 12 5 6,
 oL 13 5 7,
 o 14 (.build zL2 [(0, 13, .t 11), (13, 5, .t 12), (18, 5, .t 13)]),
 oS 23 8 14] false)
 (.ret)))
def K49 : IFn := ⟨4, 15, [.cell 8 23 true], false, Q1uh⟩
def Q1ud : IR :=
 .seq (.reg [o 1 (.box 7 (.t 0)),
 o 2 (.zero zL1)] false)
 (.seq (.reg [oF 3 0 1,
 oE 4 1 3 [0],
 oD 5 164 ([.t 4]) [0, 1],
 ob 6 (.build zL0 [(0, 1, sA23), (1, 5, .t 5)]) [0, 1, 2],
 oF 7 1 1,
 oE 8 1 7 [4],
 oD 9 164 ([.t 8]) [0, 1, 2, 4, 5],
 ob 10 (.build zL0 [(0, 1, sA32), (1, 5, .t 9)]) [0, 1, 2, 4, 5, 6],
 oF 11 2 1,
 oE 12 1 11 [8],
 oD 13 164 ([.t 12]) [0, 1, 2, 4, 5, 6, 8, 9],
 ob 14 (.build zL0 [(0, 1, sA49), (1, 5, .t 13)]) [0, 1, 2, 4, 5, 6, 8, 9, 10],
 oF 15 3 1,
 oE 16 1 15 [12],
 oD 17 164 ([.t 16]) [0, 1, 2, 4, 5, 6, 8, 9, 10, 12, 13],
 ob 18 (.build zL0 [(0, 1, sA37), (1, 5, .t 17)]) [0, 1, 2, 4, 5, 6, 8, 9, 10, 12, 13, 14],
 oF 19 4 1,
 oE 20 1 19 [16],
 oD 21 164 ([.t 20]) [0, 1, 2, 4, 5, 6, 8, 9, 10, 12, 13, 14, 16, 17],
 ob 22 (.build zL0 [(0, 1, sA60), (1, 5, .t 21)]) [0, 1, 2, 4, 5, 6, 8, 9, 10, 12, 13, 14, 16, 17, 18],
 oF 23 5 1,
 oE 24 1 23 [20],
 oD 25 164 ([.t 24]) [0, 1, 2, 4, 5, 6, 8, 9, 10, 12, 13, 14, 16, 17, 18, 20, 21],
 ob 26 (.build zL0 [(0, 1, sA29), (1, 5, .t 25)]) [0, 1, 2, 4, 5, 6, 8, 9, 10, 12, 13, 14, 16, 17, 18, 20, 21, 22],
 oF 27 6 1,
 oE 28 1 27 [24],
 oD 29 167 ([.t 28]) [0, 1, 2, 4, 5, 6, 8, 9, 10, 12, 13, 14, 16, 17, 18, 20, 21, 22, 24, 25],
 ob 30 (.build zL0 [(0, 1, sA4), (1, 5, .t 29)]) [0, 1, 2, 4, 5, 6, 8, 9, 10, 12, 13, 14, 16, 17, 18, 20, 21, 22, 24, 25, 26],
 ob 31 (.lit 6 7 zL0 [(0, .t 6), (1, .t 10), (2, .t 14), (3, .t 18), (4, .t 22), (5, .t 26), (6, .t 30)]) (rg 0 28),
 oD 32 163 ([.t 31]) (rg 0 29),
 ⟨none, none, .store 5 (.t 2) (.t 32), (rg 0 30)⟩] true)
 (.ret))
def K30 : IFn := ⟨1, 33, [.cell 2 5 true], false, Q1ud⟩
def Q1tk : IR :=
 .seq (.reg [o 2 (.box 5 (.t 0)),
 o 4 (.mov (.c zB))] false)
 (.seq (.reg [oL 5 5 2,
 oM 6 1,
 oM 7 1,
 oC 8 170 ([.t 5, .t 6, .t 7]),
 o 9 (.bin .geq (.t 8) (.c zI)),
 oM 4 9] false)
 (.ret))
def K1r : IFn := ⟨2, 10, [.tmp 4], false, Q1tk⟩
def Q1uv : IR :=
 .seq (.reg [o 1 (.box 21 (.t 0)),
 o 2 (.zero zL2)] false)
 (.seq (.reg [oF 3 0 1,
 ob 4 (.load 13 true (.t 3)) [0],
 oF 5 13 1,
 ob 6 (.load 3 true (.t 5)) [2],
 oD 7 171 ([.t 6]) [2, 3],
 oD 8 83 ([sA7, .t 7]) [2, 3, 4],
 oF 9 19 1,
 oE 10 1 9 [6],
 oD 11 79 ([sA26, .t 10]) (rg 2 8),
 ob 12 (.lit 6 2 zL0 [(0, .t 8), (1, .t 11)]) (rg 2 9),
 oD 13 78 ([.t 12]) (rg 2 10),
 oF 14 16 1,
 ob 15 (.load 3 true (.t 14)) [11],
 oD 16 171 ([.t 15]) (rg 2 13),
 oD 17 83 ([sA50, .t 16]) (rg 2 14),
 oF 18 20 1,
 oE 19 1 18 [15],
 oD 20 79 ([sA8, .t 19]) (rg 2 17),
 ob 21 (.lit 6 2 zL0 [(0, .t 17), (1, .t 20)]) (rg 2 18),
 oD 22 78 ([.t 21]) (rg 2 19),
 oD 23 85 ([sA55, .t 4, .t 13, .t 22]) (rg 0 20),
 ⟨none, none, .store 23 (.t 2) (.t 23), (rg 0 21)⟩] true)
 (.ret))
def K5d : IFn := ⟨1, 24, [.cell 2 23 true], false, Q1uv⟩
def Qzw : List Nat := [100012, 1, 2, 4, 6]
def Q1mw : IR :=
 .seq (.seq (.reg [oM 10 6,
 oF 11 4 2,
 oK 12 1 11,
 oN 13 12,
 o 14 (.bin .lss (.t 10) (.t 13))] false)
 (.cond (.t 14) (.skip)
 (.exit 0)))
 (.seq (.block 1 (.seq (.reg [oF 17 4 2,
 oK 18 1 17,
 oM 19 6,
 oI 20 6 18 19,
 oF 21 0 20,
 oK 22 1 21,
 oM 23 1,
 o 24 (.bin .eql (.t 22) (.t 23))] false)
 (.cond (.t 24) (.seq (.reg [oF 25 4 2,
 oK 26 1 25,
 oM 27 6,
 oI 28 6 26 27,
 oF 29 1 28,
 oL 30 5 29,
 oC 31 172 ([.t 30]),
 oS 5 4 31,
 o 5 (.mov (.c (.bool true)))] false)
 (.ret))
 (.skip))))
 (.reg [oM 15 6,
 oA 16 15,
 oM 6 16] false))
def Q1th : IR :=
 .seq (.reg [o 2 (.box 5 (.t 0)),
 o 4 (.zero zL1),
 o 5 (.mov (.c zB))] false)
 (.seq (.seq (.reg [oF 7 0 2,
 oK 8 1 7,
 o 9 (.bin .eql (.t 8) (.c (.int .i64 5)))] false)
 (.cond (.t 9) (.seq (.reg [o 6 (.mov (.c zI))] false)
 (.block 0 (.loop Qzw Q1mw)))
 (.skip)))
 (.seq (.reg [o 32 (.build zL1 []),
 oS 5 4 32,
 o 5 (.mov (.c zB))] false)
 (.ret)))
def K1o : IFn := ⟨2, 33, [.cell 4 5 true, .tmp 5], false, Q1th⟩
def Qzx : List Nat := [100013, 0, 2, 3, 4, 200001]
def Q1mx : IR :=
 .seq (.seq (.reg [oM 6 4,
 oM 7 0,
 oN 8 7,
 o 9 (.bin .lss (.t 6) (.t 8))] false)
 (.cond (.t 9) (.skip)
 (.exit 0)))
 (.seq (.block 1 (.reg [oF 12 4 3,
 oE 13 1 12 [0],
 oM 14 0,
 oM 15 4,
 ob 16 (.iaddr 6 (.t 14) (.t 15)) [2, 3],
 ob 17 (.faddr 0 (.t 16)) [2, 3, 4],
 oE 18 1 17 [2, 3, 4, 5],
 oM 19 0,
 oM 20 4,
 ob 21 (.iaddr 6 (.t 19) (.t 20)) [7, 8],
 ob 22 (.faddr 1 (.t 21)) [7, 8, 9],
 ob 23 (.load 5 true (.t 22)) [7, 8, 9, 10],
 oD 24 172 ([.t 23]) (rg 7 12),
 ob 25 (.build zL0 [(0, 1, .t 18), (1, 5, .t 24)]) (rg 2 13),
 oD 26 173 ([.t 13, .t 25]) (rg 0 14),
 ob 27 (.faddr 4 (.t 3)) (rg 0 15),
 ⟨none, none, .store 1 (.t 27) (.t 26), (rg 0 16)⟩] true))
 (.reg [oM 10 4,
 oA 11 10,
 oM 4 11] false))
def Q1tj : IR :=
 .seq (.reg [o 2 (.zero zL1)] false)
 (.seq (.reg [o 5 (.build zL1 [(0, 1, .c (.int .i64 5))]),
 o 3 (.zero zL1),
 oS 5 3 5] false)
 (.seq (.seq (.reg [o 4 (.mov (.c zI))] false)
 (.block 0 (.loop Qzx Q1mx)))
 (.seq (.reg [oL 28 5 3,
 oS 5 2 28] false)
 (.ret))))
def K1q : IFn := ⟨1, 29, [.cell 2 5 true], false, Q1tj⟩
def Q1ti : IR :=
 .seq (.reg [o 2 (.zero zL1)] false)
 (.seq (.reg [oM 3 0,
 o 4 (.build zL1 [(0, 1, .c (.int .i64 2)), (1, 1, .t 3)]),
 oS 5 2 4] false)
 (.ret))
def K1p : IFn := ⟨1, 5, [.cell 2 5 true], false, Q1ti⟩
def Q1vu : IR :=
 .seq (.reg [o 2 (.box 23 (.t 0)),
 o 4 (.mov (.c (.np)))] false)
 (.seq (.reg [o 6 (.build [zI] []),
 o 7 (.box 1 (.t 6)),
 oM 5 7] false)
 (.seq (.seq (.reg [oF 8 0 2,
 oF 9 0 8,
 oK 10 1 9,
 oM 11 1,
 o 12 (.bin .neq (.t 10) (.t 11))] false)
 (.cond (.t 12) (.reg [oM 13 5,
 o 14 (.nilck (.t 13)),
 oF 15 0 14,
 oK 16 1 15,
 oA 17 16,
 o 18 (.nilck (.t 13)),
 oF 19 0 18,
 oS 1 19 17] false)
 (.skip)))
 (.seq (.reg [oM 20 5,
 oF 21 13 2,
 oL 22 5 21,
 oC 23 174 ([.t 20, .t 22, .c (.int .i64 5)])] false)
 (.seq (.reg [oM 24 5,
 oF 25 18 2,
 oL 26 5 25,
 oC 27 174 ([.t 24, .t 26, .c (.int .i64 5)])] false)
 (.seq (.reg [oM 28 5,
 oM 4 28] false)
 (.ret))))))
def K77 : IFn := ⟨2, 29, [.tmp 4], false, Q1vu⟩
def Qjs : List Nat := [100014, 1, 2, 22, 23, 24]
def Q1gr : IR :=
 .seq (.reg [o 25 (.bin .lss (.t 24) (.t 23))] false)
 (.seq (.cond (.t 25) (.skip)
 (.exit 0))
 (.seq (.block 1 (.seq (.reg [oM 26 24,
 oI 27 2 22 24,
 oL 28 2 27,
 o 4 (.zero [zS, .ns 1]),
 oM 3 26,
 oS 2 4 28] false)
 (.reg [oF 29 12 1,
 oE 30 1 29 [0],
 oM 31 3,
 oF 32 1 4,
 oE 33 1 32 [3],
 oD 34 177 ([.t 33]) [3, 4],
 ob 35 (.iaddr 2 (.t 30) (.t 31)) (rg 0 6),
 ob 36 (.faddr 1 (.t 35)) (rg 0 7),
 ⟨none, none, .store 1 (.t 36) (.t 34), (rg 0 8)⟩] true)))
 (.reg [oA 37 24,
 oM 24 37] false)))
def Q1v3 : IR :=
 .seq (.reg [o 1 (.box 13 (.t 0)),
 o 2 (.zero zL9)] false)
 (.seq (.reg [oF 5 9 1,
 oE 6 1 5 [0],
 oD 7 175 ([.t 6]) [0, 1],
 oF 8 10 1,
 oE 9 1 8 [3],
 oD 10 176 ([.t 9]) (rg 0 5),
 oF 11 11 1,
 oE 12 1 11 [6],
 oD 13 177 ([.t 12]) (rg 0 8),
 oF 14 12 1,
 oE 15 1 14 [9],
 oD 16 178 ([.t 15]) (rg 0 11),
 ob 17 (.faddr 9 (.t 1)) (rg 0 5 ++ [6, 7, 9, 10]),
 ⟨none, none, .store 1 (.t 17) (.t 7), (rg 0 13)⟩,
 ob 18 (.faddr 10 (.t 1)) (rg 0 14),
 ⟨none, none, .store 1 (.t 18) (.t 10), (rg 0 15)⟩,
 ob 19 (.faddr 11 (.t 1)) (rg 0 16),
 ⟨none, none, .store 1 (.t 19) (.t 13), (rg 0 17)⟩,
 ob 20 (.faddr 12 (.t 1)) (rg 0 18),
 ⟨none, none, .store 1 (.t 20) (.t 16), (rg 0 19)⟩] true)
 (.seq (.seq (.reg [oF 21 12 1,
 oK 22 1 21,
 oN 23 22,
 o 24 (.mov (.c zI))] false)
 (.block 0 (.loop Qjs Q1gr)))
 (.seq (.reg [oL 38 13 1,
 oS 13 2 38] false)
 (.ret))))
def K5z : IFn := ⟨1, 39, [.cell 2 13 true], false, Q1v3⟩
def Q1v7 : IR :=
 .seq (.reg [o 4 (.box 5 (.t 1)),
 o 6 (.mov (.c zI))] false)
 (.seq (.reg [oM 7 0,
 oM 8 0,
 oL 9 5 4,
 oM 10 2,
 oC 11 76 ([.t 8, .t 9, .t 10]),
 oC 12 174 ([.t 7, .t 11, .c (.int .i64 2)]),
 o 13 (.field 1 1 false (.t 12)),
 oM 6 13] false)
 (.ret))
def K66 : IFn := ⟨3, 14, [.tmp 6], false, Q1v7⟩
def Q1vb : IR :=
 .seq (.reg [o 2 (.box 1 (.t 0)),
 o 3 (.box 5 (.t 1)),
 o 4 (.mov (.c (.ns 3)))] false)
 (.seq (.reg [oK 5 1 2,
 oL 6 5 3,
 o 7 (.mkfn 180 [] [.t 2]),
 oC 8 179 ([.t 5, .t 6, sA38, .t 7]),
 oM 4 8] false)
 (.ret))
def K6a : IFn := ⟨2, 9, [.tmp 4], false, Q1vb⟩
def Q1vf : IR :=
 .seq (.reg [o 3 (.box 5 (.t 1)),
 o 4 (.zero [.ns 2, zS, zI, zI, zI, .ns 11, .ns 3, .ns 3, .ns 5, .ns 4, .ns 5])] false)
 (.seq (.reg [oM 8 0,
 oL 9 5 3,
 oC 10 76 ([.t 8, .t 9, sA45]),
 o 5 (.zero zL1),
 oS 5 5 10] false)
 (.seq (.seq (.reg [oF 11 0 5,
 oK 12 1 11,
 o 13 (.bin .eql (.t 12) (.c zI))] false)
 (.cond (.t 13) (.seq (.reg [o 14 (.build [.ns 2, zS, zI, zI, zI, .ns 11, .ns 3, .ns 3, .ns 5, .ns 4, .ns 5] []),
 oS 11 4 14] false)
 (.ret))
 (.skip)))
 (.seq (.reg [oL 16 5 5,
 oC 17 183 ([.t 16]),
 oM 15 17,
 oX 18 15 0,
 oX 19 15 1,
 o 6 (.zero [.ns 2, zS, zI, zI, zI, .ns 11, .ns 3, .ns 3, .ns 5, .ns 4, .ns 5]),
 oS 11 6 18,
 oM 7 19] false)
 (.seq (.seq (.reg [oM 20 7,
 o 21 (.bin .neq (.t 20) (.c zI))] false)
 (.cond (.t 21) (.reg [oM 22 0,
 o 23 (.nilck (.t 22)),
 oF 24 0 23,
 oK 25 1 24,
 oA 26 25,
 o 27 (.nilck (.t 22)),
 oF 28 0 27,
 oS 1 28 26] false)
 (.skip)))
 (.seq (.reg [oL 29 11 6,
 oS 11 4 29] false)
 (.ret))))))
def K6e : IFn := ⟨2, 30, [.cell 4 11 true], false, Q1vf⟩
def Q1vh : IR :=
 .seq (.reg [o 4 (.box 5 (.t 1)),
 o 6 (.mov (.c zB))] false)
 (.seq (.reg [oM 7 0,
 oM 8 0,
 oL 9 5 4,
 oM 10 2,
 oC 11 76 ([.t 8, .t 9, .t 10]),
 oC 12 174 ([.t 7, .t 11, .c (.int .i64 1)]),
 o 13 (.field 1 1 false (.t 12)),
 o 14 (.bin .neq (.t 13) (.c zI)),
 oM 6 14] false)
 (.ret))
def K6g : IFn := ⟨3, 15, [.tmp 6], false, Q1vh⟩
def Q1v4 : IR :=
 .seq (.reg [o 3 (.box 5 (.t 1)),
 o 4 (.zero [zB, zI])] false)
 (.seq (.reg [oM 5 0,
 oL 6 5 3,
 oD 7 74 ([.t 5, .t 6, sA25]) [0, 1],
 oM 8 0,
 oL 9 5 3,
 oD 10 71 ([.t 8, .t 9, sA21]) (rg 0 5),
 ob 11 (.build [zB, zI] [(0, 1, .t 7), (1, 1, .t 10)]) (rg 0 6),
 ⟨none, none, .store 2 (.t 4) (.t 11), (rg 0 7)⟩] true)
 (.ret))
def K60 : IFn := ⟨2, 12, [.cell 4 2 true], false, Q1v4⟩
def Q1v6 : IR :=
 .seq (.reg [o 4 (.box 5 (.t 1)),
 o 6 (.zero zL1)] false)
 (.seq (.reg [oM 10 0,
 oL 11 5 4,
 oC 12 174 ([.t 10, .t 11, .c (.int .i64 5)]),
 oM 13 2,
 oC 14 184 ([.t 12, .t 13]),
 oM 9 14,
 oX 15 9 0,
 oX 16 9 1,
 o 7 (.zero zL1),
 oS 5 7 15,
 oM 8 16] false)
 (.seq (.reg [oL 17 5 7,
 oS 5 6 17] false)
 (.ret)))
def K62 : IFn := ⟨3, 18, [.cell 6 5 true], false, Q1v6⟩
def Q1vg : IR :=
 .seq (.reg [o 3 (.box 5 (.t 1)),
 o 4 (.zero zL11)] false)
 (.seq (.reg [oM 5 0,
 oL 6 5 3,
 oD 7 71 ([.t 5, .t 6, sA23]) [0, 1],
 oM 8 0,
 oL 9 5 3,
 oD 10 71 ([.t 8, .t 9, sA32]) (rg 0 5),
 oM 11 0,
 oL 12 5 3,
 oD 13 71 ([.t 11, .t 12, sA49]) (rg 0 8),
 oM 14 0,
 oL 15 5 3,
 oD 16 71 ([.t 14, .t 15, sA37]) (rg 0 11),
 oM 17 0,
 oL 18 5 3,
 oD 19 71 ([.t 17, .t 18, sA60]) (rg 0 14),
 oM 20 0,
 oL 21 5 3,
 oD 22 71 ([.t 20, .t 21, sA29]) (rg 0 17),
 oM 23 0,
 oL 24 5 3,
 oD 25 74 ([.t 23, .t 24, sA4]) (rg 0 20),
 ob 26 (.build zL11 [(0, 1, .t 7), (1, 1, .t 10), (2, 1, .t 13), (3, 1, .t 16), (4, 1, .t 19), (5, 1, .t 22), (6, 1, .t 25)]) (rg 0 21),
 ⟨none, none, .store 7 (.t 4) (.t 26), (rg 0 22)⟩] true)
 (.ret))
def K6f : IFn := ⟨2, 27, [.cell 4 7 true], false, Q1vg⟩
def Qjp : List Nat := [100015, 2, 3, 4, 12, 13, 14]
def Q1go : IR :=
 .seq (.reg [o 15 (.bin .lss (.t 14) (.t 13))] false)
 (.seq (.cond (.t 15) (.skip)
 (.exit 0))
 (.seq (.block 1 (.seq (.reg [oM 16 14,
 oI 17 6 12 14,
 oL 18 6 17,
 o 6 (.zero zL0),
 oM 5 16,
 oS 6 6 18] false)
 (.seq (.reg [oM 19 5,
 ob 20 (.bin .add (.t 19) (.c (.int .i64 1))) [0],
 oM 21 3,
 ob 22 (.len false (.t 21)) [2],
 ob 23 (.bin .eql (.t 20) (.t 22)) [0, 1, 2, 3],
 ob 24 (.mov (.t 23)) (rg 0 5),
 ⟨(some 25), (some (24, false)), .mov (.t 3), (rg 0 6)⟩,
 ⟨(some 26), (some (24, false)), .mov (.t 5), (rg 0 6)⟩,
 ⟨(some 27), (some (24, false)), .bin .add (.t 26) (.c (.int .i64 1)), (rg 0 6 ++ [7])⟩,
 ⟨(some 28), (some (24, false)), .iaddr 6 (.t 25) (.t 27), (rg 0 9)⟩,
 ⟨(some 29), (some (24, false)), .faddr 0 (.t 28), (rg 0 10)⟩,
 ⟨(some 30), (some (24, false)), .load 1 false (.t 29), (rg 0 11)⟩,
 ⟨(some 31), (some (24, false)), .faddr 0 (.t 6), (rg 0 6)⟩,
 ⟨(some 32), (some (24, false)), .load 1 false (.t 31), (rg 0 6 ++ [12])⟩,
 ⟨(some 33), (some (24, false)), .bin .neq (.t 30) (.t 32), (rg 0 14)⟩,
 ob 34 (.pick (.t 24) (.c (.bool true)) (.t 33)) (rg 0 15)] true)
 (.cond (.t 34) (.reg [oF 35 4 4,
 oK 36 1 35,
 oL 37 6 6,
 o 38 (.lit 6 1 zL0 [(0, .t 37)]),
 oJ 39 6 96 36 38,
 oF 40 4 4,
 oS 1 40 39] false)
 (.skip)))))
 (.reg [oA 41 14,
 oM 14 41] false)))
def Q1uq : IR :=
 .seq (.reg [o 2 (.zero zL1)] false)
 (.seq (.reg [oM 7 0,
 oC 8 185 ([.t 7]),
 oM 3 8] false)
 (.seq (.reg [oM 9 3,
 o 10 (.call true (.f 186) [.t 9, .f 187])] false)
 (.seq (.reg [o 11 (.build zL1 [(0, 1, .c (.int .i64 5))]),
 o 4 (.zero zL1),
 oS 5 4 11] false)
 (.seq (.seq (.reg [oM 12 3,
 oN 13 12,
 o 14 (.mov (.c zI))] false)
 (.block 0 (.loop Qjp Q1go)))
 (.seq (.reg [oL 42 5 4,
 oC 43 189 ([.t 42]),
 oS 5 2 43] false)
 (.ret))))))
def K50 : IFn := ⟨1, 44, [.cell 2 5 true], false, Q1uq⟩
def Q1vs : IR :=
 .seq (.reg [o 4 (.zero zL0)] false)
 (.seq (.reg [oM 5 0,
 oM 6 1,
 oC 7 109 ([.t 6]),
 oC 8 83 ([.t 5, .t 7]),
 oS 6 4 8] false)
 (.ret))
def K75 : IFn := ⟨2, 9, [.cell 4 6 true], false, Q1vs⟩
def Q1w1 : IR :=
 .seq (.reg [o 2 (.zero zL0)] false)
 (.seq (.reg [oM 3 0,
 oC 4 190 ([.t 3]),
 oC 5 83 ([sA38, .t 4]),
 oS 6 2 5] false)
 (.ret))
def K7l : IFn := ⟨1, 6, [.cell 2 6 true], false, Q1w1⟩
def Q1w3 : IR :=
 .seq (.reg [o 1 (.box 11 (.t 0)),
 o 2 (.zero zL0)] false)
 (.seq (.reg [oL 3 11 1,
 oC 4 191 ([.t 3]),
 oC 5 83 ([sA45, .t 4]),
 oS 6 2 5] false)
 (.ret))
def K7n : IFn := ⟨1, 6, [.cell 2 6 true], false, Q1w3⟩
def Q1w4 : IR :=
 .seq (.reg [o 4 (.zero zL0)] false)
 (.seq (.reg [oM 5 0,
 oM 6 1,
 oC 7 192 ([.t 6]),
 oC 8 83 ([.t 5, .t 7]),
 oS 6 4 8] false)
 (.ret))
def K7o : IFn := ⟨2, 9, [.cell 4 6 true], false, Q1w4⟩
def Q1vv : IR :=
 .seq (.reg [o 3 (.box 5 (.t 1)),
 o 4 (.zero zL0)] false)
 (.seq (.reg [oM 5 0,
 oL 6 5 3,
 o 7 (.build zL0 [(0, 1, .t 5), (1, 5, .t 6)]),
 oS 6 4 7] false)
 (.ret))
def K78 : IFn := ⟨2, 8, [.cell 4 6 true], false, Q1vv⟩
def Q1vl : IR :=
 .seq (.reg [o 1 (.box 2 (.t 0)),
 o 2 (.zero zL1)] false)
 (.seq (.reg [oF 3 0 1,
 oE 4 1 3 [0],
 oD 5 82 ([sA25, .t 4]) [0, 1],
 oF 6 1 1,
 oE 7 1 6 [3],
 oD 8 79 ([sA21, .t 7]) (rg 0 5),
 ob 9 (.lit 6 2 zL0 [(0, .t 5), (1, .t 8)]) (rg 0 6),
 oD 10 78 ([.t 9]) (rg 0 7),
 ⟨none, none, .store 5 (.t 2) (.t 10), (rg 0 8)⟩] true)
 (.ret))
def K6s : IFn := ⟨1, 11, [.cell 2 5 true], false, Q1vl⟩
def Q1vt : IR :=
 .seq (.reg [o 5 (.box 13 (.t 1)),
 o 6 (.box 5 (.t 2)),
 o 7 (.box 5 (.t 3)),
 o 8 (.zero zL2)] false)
 (.seq (.reg [oL 9 13 5,
 oC 10 70 ([.t 9]),
 oS 13 5 10] false)
 (.seq (.reg [oM 11 0,
 oF 12 0 5,
 oS 1 12 11] false)
 (.seq (.reg [oL 13 13 5,
 oL 14 5 6,
 oL 15 5 7,
 o 16 (.build zL2 [(0, 13, .t 13), (13, 5, .t 14), (18, 5, .t 15)]),
 oS 23 8 16] false)
 (.ret))))
def K76 : IFn := ⟨4, 17, [.cell 8 23 true], false, Q1vt⟩
def Q1vp : IR :=
 .seq (.reg [o 1 (.box 7 (.t 0)),
 o 2 (.zero zL1)] false)
 (.seq (.reg [oF 3 0 1,
 oE 4 1 3 [0],
 oD 5 79 ([sA23, .t 4]) [0, 1],
 oF 6 1 1,
 oE 7 1 6 [3],
 oD 8 79 ([sA32, .t 7]) (rg 0 5),
 oF 9 2 1,
 oE 10 1 9 [6],
 oD 11 79 ([sA49, .t 10]) (rg 0 8),
 oF 12 3 1,
 oE 13 1 12 [9],
 oD 14 79 ([sA37, .t 13]) (rg 0 11),
 oF 15 4 1,
 oE 16 1 15 [12],
 oD 17 79 ([sA60, .t 16]) (rg 0 14),
 oF 18 5 1,
 oE 19 1 18 [15],
 oD 20 79 ([sA29, .t 19]) (rg 0 17),
 oF 21 6 1,
 oE 22 1 21 [18],
 oD 23 82 ([sA4, .t 22]) (rg 0 20),
 ob 24 (.lit 6 7 zL0 [(0, .t 5), (1, .t 8), (2, .t 11), (3, .t 14), (4, .t 17), (5, .t 20), (6, .t 23)]) (rg 0 21),
 oD 25 78 ([.t 24]) (rg 0 22),
 ⟨none, none, .store 5 (.t 2) (.t 25), (rg 0 23)⟩] true)
 (.ret))
def K6x : IFn := ⟨1, 26, [.cell 2 5 true], false, Q1vp⟩
def Q1ve : IR :=
 .seq (.reg [o 4 (.box 5 (.t 1)),
 o 6 (.mov (.c (zS)))] false)
 (.seq (.reg [oM 7 0,
 oM 8 0,
 oL 9 5 4,
 oM 10 2,
 oC 11 76 ([.t 8, .t 9, .t 10]),
 oC 12 174 ([.t 7, .t 11, .c (.int .i64 3)]),
 o 13 (.field 2 1 false (.t 12)),
 oM 6 13] false)
 (.ret))
def K6d : IFn := ⟨3, 14, [.tmp 6], false, Q1ve⟩
def Q1w2 : IR :=
 .seq (.reg [o 4 (.zero zL0)] false)
 (.seq (.reg [oM 5 0,
 oM 6 1,
 oC 7 193 ([.t 6]),
 oC 8 83 ([.t 5, .t 7]),
 oS 6 4 8] false)
 (.ret))
def K7m : IFn := ⟨2, 9, [.cell 4 6 true], false, Q1w2⟩
def Q1tg : IR :=
 .seq (.reg [o 2 (.box 5 (.t 0)),
 o 3 (.box 5 (.t 1)),
 o 4 (.mov (.c zB))] false)
 (.seq (.reg [oL 5 5 2,
 oL 6 5 3,
 oC 7 194 ([.t 5, .t 6]),
 o 8 (.bin .eql (.t 7) (.c zI)),
 oM 4 8] false)
 (.ret))
def K1n : IFn := ⟨2, 9, [.tmp 4], false, Q1tg⟩
def Q1u4 : IR :=
 .seq (.reg [o 1 (.box 35 (.t 0)),
 o 2 (.zero zL1)] false)
 (.seq (.reg [oF 3 13 1,
 oE 4 1 3 [0],
 oD 5 164 ([.t 4]) [0, 1],
 ob 6 (.build zL0 [(0, 1, sA32), (1, 5, .t 5)]) [0, 1, 2],
 oF 7 14 1,
 oE 8 1 7 [4],
 oD 9 164 ([.t 8]) [0, 1, 2, 4, 5],
 ob 10 (.build zL0 [(0, 1, sA15), (1, 5, .t 9)]) [0, 1, 2, 4, 5, 6],
 oF 11 15 1,
 oE 12 1 11 [8],
 oD 13 164 ([.t 12]) [0, 1, 2, 4, 5, 6, 8, 9],
 ob 14 (.build zL0 [(0, 1, sA36), (1, 5, .t 13)]) [0, 1, 2, 4, 5, 6, 8, 9, 10],
 oF 15 16 1,
 oE 16 1 15 [12],
 oD 17 165 ([.t 16]) [0, 1, 2, 4, 5, 6, 8, 9, 10, 12, 13],
 ob 18 (.build zL0 [(0, 1, sA38), (1, 5, .t 17)]) [0, 1, 2, 4, 5, 6, 8, 9, 10, 12, 13, 14],
 oF 19 17 1,
 ob 20 (.load 11 true (.t 19)) [16],
 oD 21 166 ([.t 20]) [0, 1, 2, 4, 5, 6, 8, 9, 10, 12, 13, 14, 16, 17],
 ob 22 (.build zL0 [(0, 1, sA45), (1, 5, .t 21)]) [0, 1, 2, 4, 5, 6, 8, 9, 10, 12, 13, 14, 16, 17, 18],
 ob 23 (.lit 6 5 zL0 [(0, .t 6), (1, .t 10), (2, .t 14), (3, .t 18), (4, .t 22)]) (rg 0 20),
 oD 24 163 ([.t 23]) (rg 0 21),
 ⟨none, none, .store 5 (.t 2) (.t 24), (rg 0 22)⟩] true)
 (.ret))
def K2q : IFn := ⟨1, 25, [.cell 2 5 true], false, Q1u4⟩
def Q1vw : IR :=
 .seq (.reg [o 3 (.box 35 (.t 1)),
 o 4 (.zero zL4),
 o 5 (.mov (.c zI))] false)
 (.seq (.seq (.reg [oM 7 0,
 o 8 (.nilck (.t 7)),
 oF 9 0 8,
 oK 10 1 9,
 o 11 (.bin .gtr (.t 10) (.c zI))] false)
 (.cond (.t 11) (.seq (.reg [o 6 (.zero zL4)] false)
 (.seq (.reg [oL 12 35 6,
 oS 35 4 12,
 o 5 (.mov (.c (.int .i64 6)))] false)
 (.ret)))
 (.skip)))
 (.seq (.reg [oL 13 35 3,
 oS 35 4 13,
 o 5 (.mov (.c zI))] false)
 (.ret)))
def K7a : IFn := ⟨2, 14, [.cell 4 35 true, .tmp 5], false, Q1vw⟩
def Q1uo : IR :=
 .seq (.reg [o 2 (.zero zL1)] false)
 (.seq (.reg [oM 3 0,
 o 4 (.build zL1 [(0, 1, .c (.int .i64 2)), (1, 1, .t 3)]),
 oS 5 2 4] false)
 (.ret))
def K4y : IFn := ⟨1, 5, [.cell 2 5 true], false, Q1uo⟩
def Q1tq : IR :=
 .seq (.reg [o 1 (.box 13 (.t 0)),
 o 2 (.mov (.c (zS)))] false)
 (.seq (.reg [oF 3 0 1,
 oK 4 1 3,
 oF 5 1 1,
 oK 6 1 5,
 oF 7 2 1,
 oK 8 1 7,
 oC 9 199 ([.t 4, .t 6, .t 8]),
 oM 2 9] false)
 (.ret))
def K1x : IFn := ⟨1, 10, [.tmp 2], false, Q1tq⟩
def Qj8 : List Nat := [100026, 0, 1, 5]
def Q1g7 : IR :=
 .seq (.seq (.reg [oM 11 5,
 oM 12 0,
 oN 13 12,
 o 14 (.bin .lss (.t 11) (.t 13))] false)
 (.cond (.t 14) (.skip)
 (.exit 0)))
 (.seq (.block 1 (.seq (.reg [oM 17 0,
 oM 18 5,
 ob 19 (.iaddr 1 (.t 17) (.t 18)) [0, 1],
 oE 20 1 19 [0, 1, 2],
 oM 21 1,
 oM 22 5,
 ob 23 (.iaddr 1 (.t 21) (.t 22)) [4, 5],
 oE 24 1 23 [4, 5, 6],
 ob 25 (.bin .neq (.t 20) (.t 24)) (rg 0 8)] true)
 (.cond (.t 25) (.seq (.reg [o 4 (.mov (.c zB))] false)
 (.ret))
 (.skip))))
 (.reg [oM 15 5,
 oA 16 15,
 oM 5 16] false))
def Q1ts : IR :=
 .seq (.reg [o 4 (.mov (.c zB))] false)
 (.seq (.seq (.reg [oM 6 0,
 oN 7 6,
 oM 8 1,
 oN 9 8,
 o 10 (.bin .neq (.t 7) (.t 9))] false)
 (.cond (.t 10) (.seq (.reg [o 4 (.mov (.c zB))] false)
 (.ret))
 (.skip)))
 (.seq (.seq (.reg [o 5 (.mov (.c zI))] false)
 (.block 0 (.loop Qj8 Q1g7)))
 (.seq (.reg [o 4 (.mov (.c (.bool true)))] false)
 (.ret))))
def K1z : IFn := ⟨2, 26, [.tmp 4], false, Q1ts⟩
def Q1vx : IR :=
 .seq (.reg [o 3 (.box 36 (.t 1)),
 o 4 (.zero zL3),
 o 5 (.mov (.c zI))] false)
 (.seq (.seq (.reg [oM 7 0,
 o 8 (.nilck (.t 7)),
 oF 9 0 8,
 oK 10 1 9,
 o 11 (.bin .gtr (.t 10) (.c zI))] false)
 (.cond (.t 11) (.seq (.reg [o 6 (.zero zL3)] false)
 (.seq (.reg [oL 12 36 6,
 oS 36 4 12,
 o 5 (.mov (.c (.int .i64 6)))] false)
 (.ret)))
 (.skip)))
 (.seq (.reg [oL 13 36 3,
 oS 36 4 13,
 o 5 (.mov (.c zI))] false)
 (.ret)))
def K7d : IFn := ⟨2, 14, [.cell 4 36 true, .tmp 5], false, Q1vx⟩
def Q1vy : IR :=
 .seq (.reg [o 3 (.box 35 (.t 1)),
 o 4 (.zero zL5),
 o 5 (.mov (.c zI))] false)
 (.seq (.seq (.reg [oM 7 0,
 o 8 (.nilck (.t 7)),
 oF 9 0 8,
 oK 10 1 9,
 o 11 (.bin .gtr (.t 10) (.c zI))] false)
 (.cond (.t 11) (.seq (.reg [o 6 (.zero zL5)] false)
 (.seq (.reg [oL 12 35 6,
 oS 35 4 12,
 o 5 (.mov (.c (.int .i64 6)))] false)
 (.ret)))
 (.skip)))
 (.seq (.reg [oL 13 35 3,
 oS 35 4 13,
 o 5 (.mov (.c zI))] false)
 (.ret)))
def K7e : IFn := ⟨2, 14, [.cell 4 35 true, .tmp 5], false, Q1vy⟩
def Q1u8 : IR :=
 .seq (.reg [o 1 (.box 36 (.t 0)),
 o 2 (.zero zL1)] false)
 (.seq (.reg [oF 3 13 1,
 oE 4 1 3 [0],
 oD 5 164 ([.t 4]) [0, 1],
 ob 6 (.build zL0 [(0, 1, sA32), (1, 5, .t 5)]) [0, 1, 2],
 oF 7 14 1,
 oE 8 1 7 [4],
 oD 9 164 ([.t 8]) [0, 1, 2, 4, 5],
 ob 10 (.build zL0 [(0, 1, sA30), (1, 5, .t 9)]) [0, 1, 2, 4, 5, 6],
 oF 11 15 1,
 oE 12 1 11 [8],
 oD 13 164 ([.t 12]) [0, 1, 2, 4, 5, 6, 8, 9],
 ob 14 (.build zL0 [(0, 1, sA15), (1, 5, .t 13)]) [0, 1, 2, 4, 5, 6, 8, 9, 10],
 oF 15 16 1,
 oE 16 1 15 [12],
 oD 17 167 ([.t 16]) [0, 1, 2, 4, 5, 6, 8, 9, 10, 12, 13],
 ob 18 (.build zL0 [(0, 1, sA31), (1, 5, .t 17)]) [0, 1, 2, 4, 5, 6, 8, 9, 10, 12, 13, 14],
 oF 19 17 1,
 oE 20 1 19 [16],
 oD 21 165 ([.t 20]) [0, 1, 2, 4, 5, 6, 8, 9, 10, 12, 13, 14, 16, 17],
 ob 22 (.build zL0 [(0, 1, sA38), (1, 5, .t 21)]) [0, 1, 2, 4, 5, 6, 8, 9, 10, 12, 13, 14, 16, 17, 18],
 oF 23 18 1,
 ob 24 (.load 11 true (.t 23)) [20],
 oD 25 166 ([.t 24]) [0, 1, 2, 4, 5, 6, 8, 9, 10, 12, 13, 14, 16, 17, 18, 20, 21],
 ob 26 (.build zL0 [(0, 1, sA45), (1, 5, .t 25)]) [0, 1, 2, 4, 5, 6, 8, 9, 10, 12, 13, 14, 16, 17, 18, 20, 21, 22],
 ob 27 (.lit 6 6 zL0 [(0, .t 6), (1, .t 10), (2, .t 14), (3, .t 18), (4, .t 22), (5, .t 26)]) (rg 0 24),
 oD 28 163 ([.t 27]) (rg 0 25),
 ⟨none, none, .store 5 (.t 2) (.t 28), (rg 0 26)⟩] true)
 (.ret))
def K2v : IFn := ⟨1, 29, [.cell 2 5 true], false, Q1u8⟩
def Q1tw : IR :=
 .seq (.reg [o 1 (.box 35 (.t 0)),
 o 2 (.zero zL1)] false)
 (.seq (.reg [oF 3 13 1,
 oE 4 1 3 [0],
 oD 5 164 ([.t 4]) [0, 1],
 ob 6 (.build zL0 [(0, 1, sA15), (1, 5, .t 5)]) [0, 1, 2],
 oF 7 14 1,
 ob 8 (.load 2 true (.t 7)) [4],
 oD 9 168 ([.t 8]) [0, 1, 2, 4, 5],
 ob 10 (.build zL0 [(0, 1, sA48), (1, 5, .t 9)]) [0, 1, 2, 4, 5, 6],
 oF 11 16 1,
 oE 12 1 11 [8],
 oD 13 165 ([.t 12]) [0, 1, 2, 4, 5, 6, 8, 9],
 ob 14 (.build zL0 [(0, 1, sA38), (1, 5, .t 13)]) [0, 1, 2, 4, 5, 6, 8, 9, 10],
 oF 15 17 1,
 ob 16 (.load 11 true (.t 15)) [12],
 oD 17 166 ([.t 16]) [0, 1, 2, 4, 5, 6, 8, 9, 10, 12, 13],
 ob 18 (.build zL0 [(0, 1, sA45), (1, 5, .t 17)]) [0, 1, 2, 4, 5, 6, 8, 9, 10, 12, 13, 14],
 ob 19 (.lit 6 4 zL0 [(0, .t 6), (1, .t 10), (2, .t 14), (3, .t 18)]) (rg 0 16),
 oD 20 163 ([.t 19]) (rg 0 17),
 ⟨none, none, .store 5 (.t 2) (.t 20), (rg 0 18)⟩] true)
 (.ret))
def K29 : IFn := ⟨1, 21, [.cell 2 5 true], false, Q1tw⟩
def Q1vz : IR :=
 .seq (.reg [o 3 (.box 17 (.t 1)),
 o 4 (.zero zL7),
 o 5 (.mov (.c zI))] false)
 (.seq (.seq (.reg [oM 7 0,
 o 8 (.nilck (.t 7)),
 oF 9 0 8,
 oK 10 1 9,
 o 11 (.bin .gtr (.t 10) (.c zI))] false)
 (.cond (.t 11) (.seq (.reg [o 6 (.zero zL7)] false)
 (.seq (.reg [oL 12 17 6,
 oS 17 4 12,
 o 5 (.mov (.c (.int .i64 6)))] false)
 (.ret)))
 (.skip)))
 (.seq (.reg [oL 13 17 3,
 oS 17 4 13,
 o 5 (.mov (.c zI))] false)
 (.ret)))
def K7f : IFn := ⟨2, 14, [.cell 4 17 true, .tmp 5], false, Q1vz⟩
def Q1v8 : IR :=
 .seq (.reg [o 2 (.box 1 (.t 0)),
 o 3 (.box 5 (.t 1)),
 o 4 (.mov (.c (.ns 3)))] false)
 (.seq (.reg [oK 5 1 2,
 oL 6 5 3,
 o 7 (.mkfn 206 [] [.t 2]),
 oC 8 205 ([.t 5, .t 6, .c (.str ⟨#[112, 111, 114, 116, 115]⟩), .t 7]),
 oM 4 8] false)
 (.ret))
def K67 : IFn := ⟨2, 9, [.tmp 4], false, Q1v8⟩
def Q1w0 : IR :=
 .seq (.reg [o 3 (.box 21 (.t 1)),
 o 4 (.zero zL6),
 o 5 (.mov (.c zI))] false)
 (.seq (.seq (.reg [oM 7 0,
 o 8 (.nilck (.t 7)),
 oF 9 0 8,
 oK 10 1 9,
 o 11 (.bin .gtr (.t 10) (.c zI))] false)
 (.cond (.t 11) (.seq (.reg [o 6 (.zero zL6)] false)
 (.seq (.reg [oL 12 21 6,
 oS 21 4 12,
 o 5 (.mov (.c (.int .i64 6)))] false)
 (.ret)))
 (.skip)))
 (.seq (.reg [oL 13 21 3,
 oS 21 4 13,
 o 5 (.mov (.c zI))] false)
 (.ret)))
def K7i : IFn := ⟨2, 14, [.cell 4 21 true, .tmp 5], false, Q1w0⟩
def Q1va : IR :=
 .seq (.reg [o 3 (.box 5 (.t 1)),
 o 4 (.zero [zI, zI, zI])] false)
 (.seq (.reg [oM 5 0,
 oL 6 5 3,
 oD 7 71 ([.t 5, .t 6, sA62]) [0, 1],
 oM 8 0,
 oL 9 5 3,
 oD 10 71 ([.t 8, .t 9, sA14]) (rg 0 5),
 oM 11 0,
 oL 12 5 3,
 oD 13 71 ([.t 11, .t 12, sA1]) (rg 0 8),
 ob 14 (.build [zI, zI, zI] [(0, 1, .t 7), (1, 1, .t 10), (2, 1, .t 13)]) (rg 0 9),
 ⟨none, none, .store 3 (.t 4) (.t 14), (rg 0 10)⟩] true)
 (.ret))
def K69 : IFn := ⟨2, 15, [.cell 4 3 true], false, Q1va⟩
def Qjc : List Nat := [100038, 0, 2, 3, 4, 5]
def Q1gb : IR :=
 .seq (.seq (.reg [oM 13 5,
 oM 14 3,
 ob 15 (.len false (.t 14)) [1],
 ob 16 (.bin .lss (.t 13) (.t 15)) [0, 1, 2],
 ob 17 (.mov (.t 16)) [0, 1, 2, 3],
 ⟨(some 18), (some (17, true)), .mov (.t 3), (rg 0 5)⟩,
 ⟨(some 19), (some (17, true)), .mov (.t 5), (rg 0 5)⟩,
 ⟨(some 20), (some (17, true)), .iaddr 6 (.t 18) (.t 19), (rg 0 7)⟩,
 ⟨(some 21), (some (17, true)), .faddr 0 (.t 20), (rg 0 8)⟩,
 ⟨(some 22), (some (17, true)), .load 1 false (.t 21), (rg 0 9)⟩,
 ⟨(some 23), (some (17, true)), .mov (.t 0), (rg 0 5)⟩,
 ⟨(some 24), (some (17, true)), .mov (.t 4), (rg 0 5)⟩,
 ⟨(some 25), (some (17, true)), .iaddr 6 (.t 23) (.t 24), (rg 0 5 ++ [10, 11])⟩,
 ⟨(some 26), (some (17, true)), .faddr 0 (.t 25), (rg 0 5 ++ [10, 11, 12])⟩,
 ⟨(some 27), (some (17, true)), .load 1 false (.t 26), (rg 0 5 ++ rg 10 14)⟩,
 ⟨(some 28), (some (17, true)), .bin .lss (.t 22) (.t 27), (rg 0 15)⟩,
 ob 29 (.pick (.t 17) (.t 28) (.c zB)) (rg 0 16)] true)
 (.cond (.t 29) (.skip)
 (.exit 2)))
 (.block 3 (.reg [oM 30 5,
 oA 31 30,
 oM 5 31] false))
def Qjb : List Nat := [100037, 0, 2, 3, 4]
def Q1ga : IR :=
 .seq (.seq (.reg [oM 7 4,
 oM 8 0,
 oN 9 8,
 o 10 (.bin .lss (.t 7) (.t 9))] false)
 (.cond (.t 10) (.skip)
 (.exit 0)))
 (.seq (.block 1 (.seq (.reg [o 5 (.mov (.c zI))] false)
 (.seq (.block 2 (.loop Qjc Q1gb))
 (.seq (.reg [o 6 (.mov (.c (.ns 6)))] false)
 (.seq (.reg [oM 32 6,
 oM 33 3,
 oM 34 5,
 o 35 (.slice 6 (.t 33) none (some (.t 34)) none),
 oJ 36 6 96 32 35,
 oM 6 36] false)
 (.seq (.reg [oM 37 6,
 oM 38 0,
 oM 39 4,
 oI 40 6 38 39,
 oL 41 6 40,
 o 42 (.lit 6 1 zL0 [(0, .t 41)]),
 oJ 43 6 96 37 42,
 oM 6 43] false)
 (.seq (.reg [oM 44 6,
 oM 45 3,
 oM 46 5,
 o 47 (.slice 6 (.t 45) (some (.t 46)) none none),
 oJ 48 6 96 44 47,
 oM 6 48] false)
 (.reg [oM 49 6,
 oM 3 49] false))))))))
 (.reg [oM 11 4,
 oA 12 11,
 oM 4 12] false))
def Q1tz : IR :=
 .seq (.reg [o 2 (.zero zL1)] false)
 (.seq (.reg [o 3 (.mov (.c (.ns 6)))] false)
 (.seq (.seq (.reg [o 4 (.mov (.c zI))] false)
 (.block 0 (.loop Qjb Q1ga)))
 (.seq (.reg [oM 50 3,
 o 51 (.build zL1 [(0, 1, .c (.int .i64 5)), (4, 1, .t 50)]),
 oS 5 2 51] false)
 (.ret))))
def K2h : IFn := ⟨1, 52, [.cell 2 5 true], false, Q1tz⟩
def Q1tx : IR :=
 .seq (.reg [o 2 (.zero zL1)] false)
 (.seq (.reg [oM 3 0,
 o 4 (.build zL1 [(0, 1, .c (.int .i64 2)), (1, 1, .t 3)]),
 oS 5 2 4] false)
 (.ret))
def K2c : IFn := ⟨1, 5, [.cell 2 5 true], false, Q1tx⟩
def Qjg : List Nat := [100039, 0, 2, 3, 4]
def Q1gf : IR :=
 .seq (.seq (.reg [oM 5 4,
 oM 6 0,
 oN 7 6,
 o 8 (.bin .lss (.t 5) (.t 7))] false)
 (.cond (.t 8) (.skip)
 (.exit 0)))
 (.seq (.block 1 (.reg [oM 11 3,
 oM 12 0,
 oM 13 4,
 ob 14 (.iaddr 3 (.t 12) (.t 13)) [1, 2],
 ob 15 (.faddr 0 (.t 14)) [1, 2, 3],
 oE 16 1 15 [1, 2, 3, 4],
 oD 17 169 ([.t 16]) (rg 1 6),
 ob 18 (.build zL0 [(0, 1, sA10), (1, 5, .t 17)]) (rg 1 7),
 oM 19 0,
 oM 20 4,
 ob 21 (.iaddr 3 (.t 19) (.t 20)) [8, 9],
 ob 22 (.faddr 1 (.t 21)) [8, 9, 10],
 oE 23 1 22 [8, 9, 10, 11],
 oD 24 164 ([.t 23]) (rg 1 7 ++ rg 8 13),
 ob 25 (.build zL0 [(0, 1, sA22), (1, 5, .t 24)]) (rg 1 7 ++ rg 8 14),
 oM 26 0,
 oM 27 4,
 ob 28 (.iaddr 3 (.t 26) (.t 27)) [15, 16],
 ob 29 (.faddr 2 (.t 28)) [15, 16, 17],
 oE 30 1 29 [15, 16, 17, 18],
 oD 31 212 ([.t 30]) (rg 1 7 ++ rg 8 14 ++ rg 15 20),
 ob 32 (.build zL0 [(0, 1, sA51), (1, 5, .t 31)]) (rg 1 7 ++ rg 8 14 ++ rg 15 21),
 ob 33 (.lit 6 3 zL0 [(0, .t 18), (1, .t 25), (2, .t 32)]) (rg 1 22),
 oD 34 163 ([.t 33]) (rg 1 23),
 ob 35 (.lit 5 1 zL1 [(0, .t 34)]) (rg 1 24),
 ob 36 (.append 5 80 (.t 11) (.t 35)) (rg 0 25),
 ob 3 (.mov (.t 36)) (rg 0 26)] true))
 (.reg [oM 9 4,
 oA 10 9,
 oM 4 10] false))
def Q1u6 : IR :=
 .seq (.reg [o 2 (.zero zL1)] false)
 (.seq (.reg [o 3 (.mov (.c (.ns 5)))] false)
 (.seq (.seq (.reg [o 4 (.mov (.c zI))] false)
 (.block 0 (.loop Qjg Q1gf)))
 (.seq (.reg [oM 37 3,
 o 38 (.build zL1 [(0, 1, .c (.int .i64 4)), (3, 1, .t 37)]),
 oS 5 2 38] false)
 (.ret))))
def K2s : IFn := ⟨1, 39, [.cell 2 5 true], false, Q1u6⟩
def Q1ub : IR :=
 .seq (.reg [o 1 (.box 11 (.t 0)),
 o 2 (.zero zL1)] false)
 (.seq (.reg [oF 3 0 1,
 oE 4 1 3 [0],
 oD 5 213 ([.t 4]) [0, 1],
 ob 6 (.build zL0 [(0, 1, sA13), (1, 5, .t 5)]) [0, 1, 2],
 oF 7 1 1,
 ob 8 (.load 10 true (.t 7)) [4],
 oD 9 214 ([.t 8]) [0, 1, 2, 4, 5],
 ob 10 (.build zL0 [(0, 1, sA40), (1, 5, .t 9)]) [0, 1, 2, 4, 5, 6],
 ob 11 (.lit 6 2 zL0 [(0, .t 6), (1, .t 10)]) (rg 0 8),
 oD 12 163 ([.t 11]) (rg 0 9),
 ⟨none, none, .store 5 (.t 2) (.t 12), (rg 0 10)⟩] true)
 (.ret))
def K2y : IFn := ⟨1, 13, [.cell 2 5 true], false, Q1ub⟩
def Q1tu : IR :=
 .seq (.reg [o 2 (.zero zL1)] false)
 (.seq (.seq (.reg [oM 3 0] false)
 (.cond (.t 3) (.seq (.reg [o 4 (.build zL1 [(0, 1, .c (.int .i64 1)), (1, 1, .c (.int .i64 1))]),
 oS 5 2 4] false)
 (.ret))
 (.skip)))
 (.seq (.reg [o 5 (.build zL1 [(0, 1, .c (.int .i64 1))]),
 oS 5 2 5] false)
 (.ret)))
def K24 : IFn := ⟨1, 6, [.cell 2 5 true], false, Q1tu⟩
def Q1tt : IR :=
 .seq (.reg [o 1 (.box 2 (.t 0)),
 o 2 (.zero zL1)] false)
 (.seq (.reg [oF 3 0 1,
 oE 4 1 3 [0],
 oD 5 167 ([.t 4]) [0, 1],
 ob 6 (.build zL0 [(0, 1, sA25), (1, 5, .t 5)]) [0, 1, 2],
 oF 7 1 1,
 oE 8 1 7 [4],
 oD 9 164 ([.t 8]) [0, 1, 2, 4, 5],
 ob 10 (.build zL0 [(0, 1, sA21), (1, 5, .t 9)]) [0, 1, 2, 4, 5, 6],
 ob 11 (.lit 6 2 zL0 [(0, .t 6), (1, .t 10)]) (rg 0 8),
 oD 12 163 ([.t 11]) (rg 0 9),
 ⟨none, none, .store 5 (.t 2) (.t 12), (rg 0 10)⟩] true)
 (.ret))
def K20 : IFn := ⟨1, 13, [.cell 2 5 true], false, Q1tt⟩
def Q1u9 : IR :=
 .seq (.reg [o 2 (.zero zL1)] false)
 (.seq (.reg [oM 3 0,
 o 4 (.build zL1 [(0, 1, .c (.int .i64 3)), (2, 1, .t 3)]),
 oS 5 2 4] false)
 (.ret))
def K2w : IFn := ⟨1, 5, [.cell 2 5 true], false, Q1u9⟩
def Qj4 : List Nat := [100041, 1, 2, 3, 8]
def Q1g3 : IR :=
 .seq (.seq (.reg [oM 43 8,
 oF 44 4 3,
 oK 45 1 44,
 oN 46 45,
 o 47 (.bin .lss (.t 43) (.t 46)),
 oM 48 47,
 gT 49 48 (.mov (.t 1)),
 gT 50 48 (.bin .geq (.t 49) (.c zI)),
 oP 51 48 50] false)
 (.cond (.t 51) (.skip)
 (.exit 2)))
 (.seq (.block 3 (.seq (.seq (.reg [oF 54 4 3,
 oK 55 1 54,
 oM 56 8,
 oI 57 6 55 56,
 oF 58 0 57,
 oK 59 1 58,
 o 60 (.len true (.t 59)),
 o 61 (.bin .gtr (.t 60) (.c (.int .i64 1000)))] false)
 (.cond (.t 61) (.seq (.reg [o 6 (.mov (.c (.int .i64 (-1))))] false)
 (.ret))
 (.skip)))
 (.reg [oF 62 4 3,
 oK 63 1 62,
 oM 64 8,
 oI 65 6 63 64,
 oF 66 1 65,
 oL 67 5 66,
 oM 68 1,
 oM 69 2,
 o 70 (.bin .sub (.t 69) (.c (.int .i64 1))),
 oC 71 170 ([.t 67, .t 68, .t 70]),
 oM 1 71] false)))
 (.reg [oM 52 8,
 oA 53 52,
 oM 8 53] false))
def Qj3 : List Nat := [100040, 1, 2, 3, 7]
def Q1g2 : IR :=
 .seq (.seq (.reg [oM 23 7,
 oF 24 3 3,
 oK 25 1 24,
 oN 26 25,
 o 27 (.bin .lss (.t 23) (.t 26)),
 oM 28 27,
 gT 29 28 (.mov (.t 1)),
 gT 30 28 (.bin .geq (.t 29) (.c zI)),
 oP 31 28 30] false)
 (.cond (.t 31) (.skip)
 (.exit 0)))
 (.seq (.block 1 (.reg [oF 34 3 3,
 oK 35 1 34,
 oM 36 7,
 oI 37 5 35 36,
 oL 38 5 37,
 oM 39 1,
 oM 40 2,
 o 41 (.bin .sub (.t 40) (.c (.int .i64 1))),
 oC 42 170 ([.t 38, .t 39, .t 41]),
 oM 1 42] false))
 (.reg [oM 32 7,
 oA 33 32,
 oM 7 33] false))
def Q1tl : IR :=
 .seq (.reg [o 3 (.box 5 (.t 0)),
 o 6 (.mov (.c zI))] false)
 (.seq (.seq (.reg [oM 9 1,
 o 10 (.bin .leq (.t 9) (.c zI)),
 oM 11 10,
 gF 12 11 (.mov (.t 2)),
 gF 13 11 (.bin .leq (.t 12) (.c zI)),
 oQ 14 11 13,
 oM 15 14,
 gF 16 15 (.faddr 2 (.t 3)),
 gF 17 15 (.load 1 false (.t 16)),
 gF 18 15 (.len true (.t 17)),
 gF 19 15 (.bin .gtr (.t 18) (.c (.int .i64 1000))),
 oQ 20 15 19] false)
 (.cond (.t 20) (.seq (.reg [o 6 (.mov (.c (.int .i64 (-1))))] false)
 (.ret))
 (.skip)))
 (.seq (.reg [oM 21 1,
 o 22 (.bin .sub (.t 21) (.c (.int .i64 1))),
 oM 1 22] false)
 (.seq (.seq (.reg [o 7 (.mov (.c zI))] false)
 (.block 0 (.loop Qj3 Q1g2)))
 (.seq (.seq (.reg [o 8 (.mov (.c zI))] false)
 (.block 2 (.loop Qj4 Q1g3)))
 (.seq (.reg [oM 72 1,
 oM 6 72] false)
 (.ret))))))
def K1s : IFn := ⟨3, 73, [.tmp 6], false, Q1tl⟩
def Q1vm : IR :=
 .seq (.reg [o 1 (.box 3 (.t 0)),
 o 2 (.zero zL1)] false)
 (.seq (.reg [oF 3 0 1,
 oE 4 1 3 [0],
 oD 5 79 ([sA62, .t 4]) [0, 1],
 oF 6 1 1,
 oE 7 1 6 [3],
 oD 8 79 ([sA14, .t 7]) (rg 0 5),
 oF 9 2 1,
 oE 10 1 9 [6],
 oD 11 79 ([sA1, .t 10]) (rg 0 8),
 ob 12 (.lit 6 3 zL0 [(0, .t 5), (1, .t 8), (2, .t 11)]) (rg 0 9),
 oD 13 78 ([.t 12]) (rg 0 10),
 ⟨none, none, .store 5 (.t 2) (.t 13), (rg 0 11)⟩] true)
 (.ret))
def K6u : IFn := ⟨1, 14, [.cell 2 5 true], false, Q1vm⟩
def Qzv : List Nat := [100043, 1, 2, 3, 5]
def Q1mv : IR :=
 .seq (.seq (.reg [oM 31 5,
 oF 32 4 1,
 oK 33 1 32,
 oN 34 33,
 o 35 (.bin .lss (.t 31) (.t 34))] false)
 (.cond (.t 35) (.skip)
 (.exit 2)))
 (.seq (.block 3 (.reg [oF 38 4 3,
 oE 39 1 38 [0],
 oF 40 4 1,
 oE 41 1 40 [2],
 oM 42 5,
 ob 43 (.iaddr 6 (.t 41) (.t 42)) [2, 3, 4],
 ob 44 (.faddr 0 (.t 43)) [2, 3, 4, 5],
 oE 45 1 44 (rg 2 7),
 oF 46 4 1,
 oE 47 1 46 [8],
 oM 48 5,
 ob 49 (.iaddr 6 (.t 47) (.t 48)) [8, 9, 10],
 ob 50 (.faddr 1 (.t 49)) [8, 9, 10, 11],
 ob 51 (.load 5 true (.t 50)) (rg 8 13),
 oD 52 172 ([.t 51]) (rg 8 14),
 ob 53 (.build zL0 [(0, 1, .t 45), (1, 5, .t 52)]) (rg 2 15),
 ob 54 (.lit 6 1 zL0 [(0, .t 53)]) (rg 2 16),
 ob 55 (.append 6 96 (.t 39) (.t 54)) (rg 0 17),
 ob 56 (.faddr 4 (.t 3)) (rg 0 18),
 ⟨none, none, .store 1 (.t 56) (.t 55), (rg 0 19)⟩] true))
 (.reg [oM 36 5,
 oA 37 36,
 oM 5 37] false))
def Qzu : List Nat := [100042, 1, 2, 3, 4]
def Q1mu : IR :=
 .seq (.seq (.reg [oM 13 4,
 oF 14 3 1,
 oK 15 1 14,
 oN 16 15,
 o 17 (.bin .lss (.t 13) (.t 16))] false)
 (.cond (.t 17) (.skip)
 (.exit 0)))
 (.seq (.block 1 (.reg [oF 20 3 3,
 oE 21 1 20 [0],
 oF 22 3 1,
 oE 23 1 22 [2],
 oM 24 4,
 ob 25 (.iaddr 5 (.t 23) (.t 24)) [2, 3, 4],
 ob 26 (.load 5 true (.t 25)) [2, 3, 4, 5],
 oD 27 172 ([.t 26]) (rg 2 7),
 ob 28 (.lit 5 1 zL1 [(0, .t 27)]) (rg 2 8),
 ob 29 (.append 5 80 (.t 21) (.t 28)) (rg 0 9),
 ob 30 (.faddr 3 (.t 3)) (rg 0 10),
 ⟨none, none, .store 1 (.t 30) (.t 29), (rg 0 11)⟩] true))
 (.reg [oM 18 4,
 oA 19 18,
 oM 4 19] false))
def Q1tf : IR :=
 .seq (.reg [o 1 (.box 5 (.t 0)),
 o 2 (.zero zL1)] false)
 (.seq (.reg [oF 6 0 1,
 oK 7 1 6,
 oF 8 1 1,
 oK 9 1 8,
 oF 10 2 1,
 oK 11 1 10,
 o 12 (.build zL1 [(0, 1, .t 7), (1, 1, .t 9), (2, 1, .t 11)]),
 o 3 (.zero zL1),
 oS 5 3 12] false)
 (.seq (.seq (.reg [o 4 (.mov (.c zI))] false)
 (.block 0 (.loop Qzu Q1mu)))
 (.seq (.seq (.reg [o 5 (.mov (.c zI))] false)
 (.block 2 (.loop Qzv Q1mv)))
 (.seq (.reg [oL 57 5 3,
 oS 5 2 57] false)
 (.ret)))))
def K1m : IFn := ⟨1, 58, [.cell 2 5 true], false, Q1tf⟩
def Qzy : List Nat := [100044, 0, 3, 5, 6, 7]
def Q1my : IR :=
 .seq (.seq (.reg [oM 8 7,
 oM 9 0,
 oN 10 9,
 o 11 (.bin .lss (.t 8) (.t 10))] false)
 (.cond (.t 11) (.skip)
 (.exit 0)))
 (.seq (.block 1 (.seq (.seq (.reg [oM 14 6,
 ob 15 (.un .not (.t 14)) [0],
 ob 16 (.mov (.t 15)) [0, 1],
 ⟨(some 17), (some (16, true)), .faddr 0 (.t 3), [0, 1, 2]⟩,
 ⟨(some 18), (some (16, true)), .load 1 false (.t 17), [0, 1, 2, 3]⟩,
 ⟨(some 19), (some (16, true)), .mov (.t 0), [0, 1, 2]⟩,
 ⟨(some 20), (some (16, true)), .mov (.t 7), [0, 1, 2]⟩,
 ⟨(some 21), (some (16, true)), .iaddr 6 (.t 19) (.t 20), [0, 1, 2, 5, 6]⟩,
 ⟨(some 22), (some (16, true)), .faddr 0 (.t 21), [0, 1, 2, 5, 6, 7]⟩,
 ⟨(some 23), (some (16, true)), .load 1 false (.t 22), ([0, 1, 2] ++ rg 5 9)⟩,
 ⟨(some 24), (some (16, true)), .bin .leq (.t 18) (.t 23), (rg 0 10)⟩,
 ob 25 (.pick (.t 16) (.t 24) (.c zB)) (rg 0 11)] true)
 (.cond (.t 25) (.seq (.reg [oM 26 5,
 oL 27 6 3,
 o 28 (.lit 6 1 zL0 [(0, .t 27)]),
 oJ 29 6 96 26 28,
 oM 5 29] false)
 (.reg [o 6 (.mov (.c (.bool true)))] false))
 (.skip)))
 (.seq (.reg [oM 30 0,
 oM 31 7,
 ob 32 (.iaddr 6 (.t 30) (.t 31)) [0, 1],
 ob 33 (.faddr 0 (.t 32)) [0, 1, 2],
 oE 34 1 33 [0, 1, 2, 3],
 oF 35 0 3,
 oE 36 1 35 [5],
 ob 37 (.bin .neq (.t 34) (.t 36)) (rg 0 7)] true)
 (.cond (.t 37) (.reg [oM 38 5,
 oM 39 0,
 oM 40 7,
 oI 41 6 39 40,
 oL 42 6 41,
 o 43 (.lit 6 1 zL0 [(0, .t 42)]),
 oJ 44 6 96 38 43,
 oM 5 44] false)
 (.skip)))))
 (.reg [oM 12 7,
 oA 13 12,
 oM 7 13] false))
def Q1tn : IR :=
 .seq (.reg [o 3 (.box 6 (.t 1)),
 o 4 (.mov (.c (.ns 6)))] false)
 (.seq (.reg [o 5 (.mov (.c (.ns 6)))] false)
 (.seq (.reg [o 6 (.mov (.c zB))] false)
 (.seq (.seq (.reg [o 7 (.mov (.c zI))] false)
 (.block 0 (.loop Qzy Q1my)))
 (.seq (.seq (.reg [oM 45 6,
 oU 46 45] false)
 (.cond (.t 46) (.reg [oM 47 5,
 oL 48 6 3,
 o 49 (.lit 6 1 zL0 [(0, .t 48)]),
 oJ 50 6 96 47 49,
 oM 5 50] false)
 (.skip)))
 (.seq (.reg [oM 51 5,
 oM 4 51] false)
 (.ret))))))
def K1u : IFn := ⟨2, 52, [.tmp 4], false, Q1tn⟩
def Q1v5 : IR :=
 .seq (.reg [o 4 (.box 5 (.t 1)),
 o 6 (.zero zL1)] false)
 (.seq (.seq (.reg [oF 7 0 4,
 oK 8 1 7,
 oM 9 2,
 o 10 (.bin .eql (.t 8) (.t 9))] false)
 (.cond (.t 10) (.seq (.reg [oL 11 5 4,
 oS 5 6 11] false)
 (.ret))
 (.skip)))
 (.seq (.seq (.reg [oF 12 0 4,
 oK 13 1 12,
 o 14 (.bin .neq (.t 13) (.c zI))] false)
 (.cond (.t 14) (.reg [oM 15 0,
 o 16 (.nilck (.t 15)),
 oF 17 0 16,
 oK 18 1 17,
 oA 19 18,
 o 20 (.nilck (.t 15)),
 oF 21 0 20,
 oS 1 21 19] false)
 (.skip)))
 (.seq (.reg [o 22 (.build zL1 []),
 oS 5 6 22] false)
 (.ret))))
def K61 : IFn := ⟨3, 23, [.cell 6 5 true], false, Q1v5⟩
def Qjt : List Nat := [100045, 3, 9, 18, 19, 20]
def Q1gs : IR :=
 .seq (.reg [o 21 (.bin .lss (.t 20) (.t 19))] false)
 (.seq (.cond (.t 21) (.skip)
 (.exit 0))
 (.seq (.block 1 (.seq (.reg [oI 22 5 18 20,
 oL 23 5 22,
 o 11 (.zero zL1),
 oS 5 11 23] false)
 (.reg [oM 24 9,
 oM 25 3,
 oL 26 5 11,
 o 27 (.call false (.t 25) [.t 26]),
 o 28 (.lit 3 1 [zS, zI, .ns 1] [(0, .t 27)]),
 oJ 29 3 48 24 28,
 oM 9 29] false)))
 (.reg [oA 30 20,
 oM 20 30] false)))
def Q1vi : IR :=
 .seq (.reg [o 5 (.box 5 (.t 1)),
 o 8 (.mov (.c (.ns 3)))] false)
 (.seq (.reg [o 9 (.mov (.c (.ns 3)))] false)
 (.seq (.seq (.reg [oM 12 0,
 oM 13 0,
 oL 14 5 5,
 oM 15 2,
 oC 16 76 ([.t 13, .t 14, .t 15]),
 oC 17 174 ([.t 12, .t 16, .c (.int .i64 4)]),
 o 18 (.field 3 1 false (.t 17)),
 oN 19 18,
 o 20 (.mov (.c zI))] false)
 (.block 0 (.loop Qjt Q1gs)))
 (.seq (.reg [oM 31 9,
 oM 8 31] false)
 (.ret))))
def K6n : IFn := ⟨4, 32, [.tmp 8], false, Q1vi⟩
def Q1vc : IR :=
 .seq (.reg [o 2 (.box 5 (.t 0)),
 o 3 (.zero [zS, zI, .ns 1])] false)
 (.seq (.reg [oK 5 1 1,
 oL 6 5 2,
 o 7 (.mkfn 182 [] [.t 1]),
 oC 8 181 ([.t 5, .t 6, sA51, .t 7]),
 oM 4 8] false)
 (.seq (.reg [oK 9 1 1,
 oL 10 5 2,
 oC 11 174 ([.t 9, .t 10, .c (.int .i64 5)])] false)
 (.seq (.reg [oK 12 1 1,
 oL 13 5 2,
 oD 14 89 ([.t 12, .t 13, sA10]) [0, 1],
 oK 15 1 1,
 oL 16 5 2,
 oD 17 71 ([.t 15, .t 16, sA22]) (rg 0 5),
 oM 18 4,
 ob 19 (.build [zS, zI, .ns 1] [(0, 1, .t 14), (1, 1, .t 17), (2, 1, .t 18)]) (rg 0 7),
 ⟨none, none, .store 3 (.t 3) (.t 19), (rg 0 8)⟩] true)
 (.ret))))
def K6b : IFn := ⟨2, 20, [.cell 3 3 true], false, Q1vc⟩
def Qju : List Nat := [100046, 3, 9, 18, 19, 20]
def Q1gt : IR :=
 .seq (.reg [o 21 (.bin .lss (.t 20) (.t 19))] false)
 (.seq (.cond (.t 21) (.skip)
 (.exit 0))
 (.seq (.block 1 (.seq (.reg [oI 22 5 18 20,
 oL 23 5 22,
 o 11 (.zero zL1),
 oS 5 11 23] false)
 (.reg [oM 24 9,
 oM 25 3,
 oL 26 5 11,
 o 27 (.call false (.t 25) [.t 26]),
 o 28 (.lit 1 1 [zS] [(0, .t 27)]),
 oJ 29 1 16 24 28,
 oM 9 29] false)))
 (.reg [oA 30 20,
 oM 20 30] false)))
def Q1vj : IR :=
 .seq (.reg [o 5 (.box 5 (.t 1)),
 o 8 (.mov (.c (.ns 1)))] false)
 (.seq (.reg [o 9 (.mov (.c (.ns 1)))] false)
 (.seq (.seq (.reg [oM 12 0,
 oM 13 0,
 oL 14 5 5,
 oM 15 2,
 oC 16 76 ([.t 13, .t 14, .t 15]),
 oC 17 174 ([.t 12, .t 16, .c (.int .i64 4)]),
 o 18 (.field 3 1 false (.t 17)),
 oN 19 18,
 o 20 (.mov (.c zI))] false)
 (.block 0 (.loop Qju Q1gt)))
 (.seq (.reg [oM 31 9,
 oM 8 31] false)
 (.ret))))
def K6o : IFn := ⟨4, 32, [.tmp 8], false, Q1vj⟩
def Q1vd : IR :=
 .seq (.reg [o 2 (.box 5 (.t 0)),
 o 3 (.mov (.c (zS)))] false)
 (.seq (.reg [oK 4 1 1,
 oL 5 5 2,
 oC 6 174 ([.t 4, .t 5, .c (.int .i64 3)]),
 o 7 (.field 2 1 false (.t 6)),
 oM 3 7] false)
 (.ret))
def K6c : IFn := ⟨2, 8, [.tmp 3], false, Q1vd⟩
def Ka_c : IR :=
 .seq (.reg [o 1 (.box 5 (.t 0)),
 o 2 (.zero [.ns 2, zS, zI, zI, zI, .ns 11, .ns 3, .ns 3, .ns 5, .ns 4, .ns 5]),
 o 3 (.mov (.c zI))] false)
 (.seq (.reg [o 6 (.build [zB] []),
 o 7 (.box 1 (.t 6)),
 oM 4 7] false)
 (.seq (.reg [oM 8 4,
 oL 9 5 1,
 oC 10 215 ([.t 8, .t 9])] false)
 (.seq (.reg [oM 11 4,
 oL 12 5 1,
 oM 13 4,
 ob 14 (.mkfn 217 [.t 13] []) [2],
 oD 15 216 ([.t 11, .t 12, sA13, .t 14]) [0, 1, 2, 3],
 oM 16 4,
 oM 17 4,
 oL 18 5 1,
 oD 19 219 ([.t 17, .t 18, sA40]) (rg 0 5 ++ [6, 7]),
 oD 20 218 ([.t 16, .t 19]) (rg 0 9),
 ob 21 (.build [.ns 2, zS, zI, zI, zI, .ns 11, .ns 3, .ns 3, .ns 5, .ns 4, .ns 5] [(0, 1, .t 15), (1, 10, .t 20)]) (rg 0 10),
 o 5 (.zero [.ns 2, zS, zI, zI, zI, .ns 11, .ns 3, .ns 3, .ns 5, .ns 4, .ns 5]),
 ⟨none, none, .store 11 (.t 5) (.t 21), (rg 0 12)⟩] true)
 (.seq (.seq (.reg [oM 22 4,
 o 23 (.nilck (.t 22)),
 oF 24 0 23,
 oK 25 1 24] false)
 (.cond (.t 25) (.seq (.reg [o 26 (.build [.ns 2, zS, zI, zI, zI, .ns 11, .ns 3, .ns 3, .ns 5, .ns 4, .ns 5] []),
 oS 11 2 26,
 o 3 (.mov (.c (.int .i64 6)))] false)
 (.ret))
 (.skip)))
 (.seq (.reg [oL 27 11 5,
 oS 11 2 27,
 o 3 (.mov (.c zI))] false)
 (.ret))))))
def Ka : IFn := ⟨1, 28, [.cell 2 11 true, .tmp 3], false, Ka_c⟩
def Qjo : List Nat := [100047, 1, 4, 12, 13, 14]
def Q1gn : IR :=
 .seq (.reg [o 15 (.bin .lss (.t 14) (.t 13))] false)
 (.seq (.cond (.t 15) (.skip)
 (.exit 0))
 (.seq (.block 1 (.seq (.reg [oI 16 6 12 14,
 oL 17 6 16,
 o 7 (.zero zL0),
 oS 6 7 17] false)
 (.seq (.reg [oF 18 0 7,
 oK 19 1 18,
 oM 20 1,
 o 21 (.bin .eql (.t 19) (.t 20))] false)
 (.cond (.t 21) (.seq (.reg [oF 22 1 7,
 oL 23 5 22,
 oC 24 189 ([.t 23]),
 oS 5 4 24,
 o 5 (.mov (.c (.bool true)))] false)
 (.ret))
 (.skip)))))
 (.reg [oA 25 14,
 oM 14 25] false)))
def Q1un : IR :=
 .seq (.reg [o 2 (.box 5 (.t 0)),
 o 4 (.zero zL1),
 o 5 (.mov (.c zB))] false)
 (.seq (.seq (.reg [oF 8 0 2,
 oK 9 1 8,
 o 10 (.bin .eql (.t 9) (.c (.int .i64 5)))] false)
 (.cond (.t 10) (.seq (.reg [oF 11 4 2,
 oK 12 1 11,
 oN 13 12,
 o 14 (.mov (.c zI))] false)
 (.block 0 (.loop Qjo Q1gn)))
 (.skip)))
 (.seq (.reg [o 26 (.build zL1 []),
 oS 5 4 26,
 o 5 (.mov (.c zB))] false)
 (.ret)))
def K4x : IFn := ⟨2, 27, [.cell 4 5 true, .tmp 5], false, Q1un⟩
def Q1ui : IR :=
 .reg [oM 4 0,
 oM 5 0,
 oN 6 5,
 oM 7 1,
 o 8 (.call true (.f 220) [.t 4, .t 6, .t 7])] false
def K4s : IFn := ⟨2, 9, [], false, Q1ui⟩
def Q1ur : IR :=
 .seq (.reg [o 2 (.box 6 (.t 0)),
 o 3 (.box 6 (.t 1)),
 o 4 (.mov (.c zI))] false)
 (.seq (.reg [oF 5 0 2,
 oK 6 1 5,
 oF 7 0 3,
 oK 8 1 7,
 oC 9 188 ([.t 6, .t 8]),
 oM 4 9] false)
 (.ret))
def K51 : IFn := ⟨2, 10, [.tmp 4], false, Q1ur⟩
def Q1ul : IR :=
 .seq (.reg [o 4 (.mov (.c zI))] false)
 (.seq (.reg [oM 5 0,
 oM 6 1,
 oC 7 221 ([.t 5, .t 6]),
 oM 4 7] false)
 (.ret))
def K4v : IFn := ⟨2, 8, [.tmp 4], false, Q1ul⟩
def Qjr : List Nat := [100049, 1, 2, 31, 32, 33]
def Q1gq : IR :=
 .seq (.reg [o 34 (.bin .lss (.t 33) (.t 32))] false)
 (.seq (.cond (.t 34) (.skip)
 (.exit 2))
 (.seq (.block 3 (.seq (.reg [oM 35 33,
 oI 36 6 31 33,
 oL 37 6 36,
 o 6 (.zero zL0),
 oM 5 35,
 oS 6 6 37] false)
 (.reg [oF 38 4 1,
 oE 39 1 38 [0],
 oM 40 5,
 oF 41 1 6,
 ob 42 (.load 5 true (.t 41)) [3],
 oD 43 189 ([.t 42]) [3, 4],
 ob 44 (.iaddr 6 (.t 39) (.t 40)) (rg 0 6),
 ob 45 (.faddr 1 (.t 44)) (rg 0 7),
 ⟨none, none, .store 5 (.t 45) (.t 43), (rg 0 8)⟩] true)))
 (.reg [oA 46 33,
 oM 33 46] false)))
def Qjq : List Nat := [100048, 1, 2, 12, 13, 14]
def Q1gp : IR :=
 .seq (.reg [o 15 (.bin .lss (.t 14) (.t 13))] false)
 (.seq (.cond (.t 15) (.skip)
 (.exit 0))
 (.seq (.block 1 (.seq (.reg [oM 16 14,
 oI 17 5 12 14,
 oL 18 5 17,
 o 4 (.zero zL1),
 oM 3 16,
 oS 5 4 18] false)
 (.reg [oF 19 3 1,
 oE 20 1 19 [0],
 oM 21 3,
 oL 22 5 4,
 oD 23 189 ([.t 22]) [3],
 ob 24 (.iaddr 5 (.t 20) (.t 21)) (rg 0 5),
 ⟨none, none, .store 5 (.t 24) (.t 23), (rg 0 6)⟩] true)))
 (.reg [oA 25 14,
 oM 14 25] false)))
def Q1ut : IR :=
 .seq (.reg [o 1 (.box 5 (.t 0)),
 o 2 (.zero zL1)] false)
 (.seq (.reg [oF 7 3 1,
 oK 8 1 7,
 oC 9 222 ([.t 8]),
 oF 10 3 1,
 oS 1 10 9] false)
 (.seq (.seq (.reg [oF 11 3 1,
 oK 12 1 11,
 oN 13 12,
 o 14 (.mov (.c zI))] false)
 (.block 0 (.loop Qjq Q1gp)))
 (.seq (.reg [oF 26 4 1,
 oK 27 1 26,
 oC 28 185 ([.t 27]),
 oF 29 4 1,
 oS 1 29 28] false)
 (.seq (.seq (.reg [oF 30 4 1,
 oK 31 1 30,
 oN 32 31,
 o 33 (.mov (.c zI))] false)
 (.block 2 (.loop Qjr Q1gq)))
 (.seq (.reg [oL 47 5 1,
 oS 5 2 47] false)
 (.ret))))))
def K53 : IFn := ⟨1, 48, [.cell 2 5 true], false, Q1ut⟩
def Q1vn : IR :=
 .seq (.reg [o 2 (.zero zL1)] false)
 (.seq (.reg [oM 3 0,
 oC 4 223 ([.t 3, .f 224]),
 oS 5 2 4] false)
 (.ret))
def K6v : IFn := ⟨1, 5, [.cell 2 5 true], false, Q1vn⟩
def K9_c : IR :=
 .seq (.reg [o 1 (.box 11 (.t 0)),
 o 2 (.zero zL1)] false)
 (.seq (.reg [oF 3 0 1,
 oE 4 1 3 [0],
 oD 5 227 ([.t 4, .f 228]) [0, 1],
 oD 6 226 ([sA13, .t 5]) [0, 1, 2],
 oF 7 1 1,
 ob 8 (.load 10 true (.t 7)) [4],
 oD 9 229 ([.t 8]) (rg 0 6),
 oD 10 226 ([sA40, .t 9]) (rg 0 7),
 ob 11 (.lit 6 2 zL0 [(0, .t 6), (1, .t 10)]) (rg 0 8),
 oD 12 78 ([.t 11]) (rg 0 9),
 ⟨none, none, .store 5 (.t 2) (.t 12), (rg 0 10)⟩] true)
 (.ret))
def K9 : IFn := ⟨1, 13, [.cell 2 5 true], false, K9_c⟩
def Q1um : IR :=
 .seq (.reg [o 2 (.zero zL1)] false)
 (.seq (.reg [o 4 (.build zL1 [(0, 1, .c (.int .i64 1))]),
 o 3 (.zero zL1),
 oS 5 3 4] false)
 (.seq (.seq (.reg [oM 5 0] false)
 (.cond (.t 5) (.reg [oF 6 1 3,
 ⟨none, none, .store 1 (.t 6) (.c (.int .i64 1)), []⟩] false)
 (.skip)))
 (.seq (.reg [oL 7 5 3,
 oS 5 2 7] false)
 (.ret))))
def K4w : IFn := ⟨1, 8, [.cell 2 5 true], false, Q1um⟩
def Q1us : IR :=
 .seq (.reg [o 2 (.zero zL1)] false)
 (.seq (.reg [oM 3 0,
 o 4 (.build zL1 [(0, 1, .c (.int .i64 3)), (2, 1, .t 3)]),
 oS 5 2 4] false)
 (.ret))
def K52 : IFn := ⟨1, 5, [.cell 2 5 true], false, Q1us⟩
def Qj2 : List Nat := [100051, 2, 3, 5, 7]
def Q1g1 : IR :=
 .seq (.seq (.reg [oM 91 7,
 oF 92 4 2,
 oK 93 1 92,
 oN 94 93,
 o 95 (.bin .lss (.t 91) (.t 94)),
 oM 96 95,
 gT 97 96 (.mov (.t 7)),
 gT 98 96 (.faddr 4 (.t 3)),
 gT 99 96 (.load 1 false (.t 98)),
 gT 100 96 (.len false (.t 99)),
 gT 101 96 (.bin .lss (.t 97) (.t 100)),
 oP 102 96 101,
 oM 103 102,
 gT 104 103 (.mov (.t 5)),
 gT 105 103 (.bin .eql (.t 104) (.c zI)),
 oP 106 103 105] false)
 (.cond (.t 106) (.skip)
 (.exit 2)))
 (.seq (.block 3 (.seq (.reg [oF 109 4 2,
 oE 110 1 109 [0],
 oM 111 7,
 ob 112 (.iaddr 6 (.t 110) (.t 111)) [0, 1, 2],
 ob 113 (.faddr 0 (.t 112)) [0, 1, 2, 3],
 oE 114 1 113 (rg 0 5),
 oF 115 4 3,
 oE 116 1 115 [6],
 oM 117 7,
 ob 118 (.iaddr 6 (.t 116) (.t 117)) [6, 7, 8],
 ob 119 (.faddr 0 (.t 118)) [6, 7, 8, 9],
 oE 120 1 119 (rg 6 11),
 ob 121 (.bin .lss (.t 114) (.t 120)) (rg 0 12),
 oF 122 4 2,
 oE 123 1 122 [13],
 oM 124 7,
 ob 125 (.iaddr 6 (.t 123) (.t 124)) [13, 14, 15],
 ob 126 (.faddr 0 (.t 125)) [13, 14, 15, 16],
 oE 127 1 126 (rg 13 18),
 oF 128 4 3,
 oE 129 1 128 [19],
 oM 130 7,
 ob 131 (.iaddr 6 (.t 129) (.t 130)) [19, 20, 21],
 ob 132 (.faddr 0 (.t 131)) [19, 20, 21, 22],
 oE 133 1 132 (rg 19 24),
 ob 134 (.bin .gtr (.t 127) (.t 133)) (rg 13 25),
 oD 135 230 ([.t 121, .t 134]) (rg 0 26),
 ob 5 (.mov (.t 135)) (rg 0 27)] true)
 (.seq (.reg [oM 136 5,
 o 137 (.bin .eql (.t 136) (.c zI))] false)
 (.cond (.t 137) (.reg [oF 138 4 2,
 oE 139 1 138 [0],
 oM 140 7,
 ob 141 (.iaddr 6 (.t 139) (.t 140)) [0, 1, 2],
 ob 142 (.faddr 1 (.t 141)) [0, 1, 2, 3],
 ob 143 (.load 5 true (.t 142)) (rg 0 5),
 oF 144 4 3,
 oE 145 1 144 [6],
 oM 146 7,
 ob 147 (.iaddr 6 (.t 145) (.t 146)) [6, 7, 8],
 ob 148 (.faddr 1 (.t 147)) [6, 7, 8, 9],
 ob 149 (.load 5 true (.t 148)) (rg 6 11),
 oD 150 194 ([.t 143, .t 149]) (rg 0 12),
 ob 5 (.mov (.t 150)) (rg 0 13)] true)
 (.skip)))))
 (.reg [oM 107 7,
 oA 108 107,
 oM 7 108] false))
def Qj1 : List Nat := [100050, 2, 3, 5, 6]
def Q1g0 : IR :=
 .seq (.seq (.reg [oM 45 6,
 oF 46 3 2,
 oK 47 1 46,
 oN 48 47,
 o 49 (.bin .lss (.t 45) (.t 48)),
 oM 50 49,
 gT 51 50 (.mov (.t 6)),
 gT 52 50 (.faddr 3 (.t 3)),
 gT 53 50 (.load 1 false (.t 52)),
 gT 54 50 (.len false (.t 53)),
 gT 55 50 (.bin .lss (.t 51) (.t 54)),
 oP 56 50 55,
 oM 57 56,
 gT 58 57 (.mov (.t 5)),
 gT 59 57 (.bin .eql (.t 58) (.c zI)),
 oP 60 57 59] false)
 (.cond (.t 60) (.skip)
 (.exit 0)))
 (.seq (.block 1 (.reg [oF 63 3 2,
 oE 64 1 63 [0],
 oM 65 6,
 ob 66 (.iaddr 5 (.t 64) (.t 65)) [0, 1, 2],
 ob 67 (.load 5 true (.t 66)) [0, 1, 2, 3],
 oF 68 3 3,
 oE 69 1 68 [5],
 oM 70 6,
 ob 71 (.iaddr 5 (.t 69) (.t 70)) [5, 6, 7],
 ob 72 (.load 5 true (.t 71)) [5, 6, 7, 8],
 oD 73 194 ([.t 67, .t 72]) (rg 0 10),
 ob 5 (.mov (.t 73)) (rg 0 11)] true))
 (.reg [oM 61 6,
 oA 62 61,
 oM 6 62] false))
def Q1te : IR :=
 .seq (.reg [o 2 (.box 5 (.t 0)),
 o 3 (.box 5 (.t 1)),
 o 4 (.mov (.c zI))] false)
 (.seq (.reg [oF 8 0 2,
 oK 9 1 8,
 oF 10 0 3,
 oK 11 1 10,
 o 12 (.bin .lss (.t 9) (.t 11)),
 oF 13 0 2,
 oK 14 1 13,
 oF 15 0 3,
 oK 16 1 15,
 o 17 (.bin .gtr (.t 14) (.t 16)),
 oC 18 230 ([.t 12, .t 17]),
 oM 5 18] false)
 (.seq (.seq (.reg [oM 19 5,
 o 20 (.bin .eql (.t 19) (.c zI))] false)
 (.cond (.t 20) (.reg [oF 21 1 2,
 oK 22 1 21,
 oF 23 1 3,
 oK 24 1 23,
 o 25 (.bin .lss (.t 22) (.t 24)),
 oF 26 1 2,
 oK 27 1 26,
 oF 28 1 3,
 oK 29 1 28,
 o 30 (.bin .gtr (.t 27) (.t 29)),
 oC 31 230 ([.t 25, .t 30]),
 oM 5 31] false)
 (.skip)))
 (.seq (.seq (.reg [oM 32 5,
 o 33 (.bin .eql (.t 32) (.c zI))] false)
 (.cond (.t 33) (.reg [oF 34 2 2,
 oK 35 1 34,
 oF 36 2 3,
 oK 37 1 36,
 o 38 (.bin .lss (.t 35) (.t 37)),
 oF 39 2 2,
 oK 40 1 39,
 oF 41 2 3,
 oK 42 1 41,
 o 43 (.bin .gtr (.t 40) (.t 42)),
 oC 44 230 ([.t 38, .t 43]),
 oM 5 44] false)
 (.skip)))
 (.seq (.seq (.reg [o 6 (.mov (.c zI))] false)
 (.block 0 (.loop Qj1 Q1g0)))
 (.seq (.seq (.reg [oM 74 5,
 o 75 (.bin .eql (.t 74) (.c zI))] false)
 (.cond (.t 75) (.reg [oF 76 3 2,
 oK 77 1 76,
 oN 78 77,
 oF 79 3 3,
 oK 80 1 79,
 oN 81 80,
 o 82 (.bin .lss (.t 78) (.t 81)),
 oF 83 3 2,
 oK 84 1 83,
 oN 85 84,
 oF 86 3 3,
 oK 87 1 86,
 oN 88 87,
 o 89 (.bin .gtr (.t 85) (.t 88)),
 oC 90 230 ([.t 82, .t 89]),
 oM 5 90] false)
 (.skip)))
 (.seq (.seq (.reg [o 7 (.mov (.c zI))] false)
 (.block 2 (.loop Qj2 Q1g1)))
 (.seq (.seq (.reg [oM 151 5,
 o 152 (.bin .eql (.t 151) (.c zI))] false)
 (.cond (.t 152) (.reg [oF 153 4 2,
 oK 154 1 153,
 oN 155 154,
 oF 156 4 3,
 oK 157 1 156,
 oN 158 157,
 o 159 (.bin .lss (.t 155) (.t 158)),
 oF 160 4 2,
 oK 161 1 160,
 oN 162 161,
 oF 163 4 3,
 oK 164 1 163,
 oN 165 164,
 o 166 (.bin .gtr (.t 162) (.t 165)),
 oC 167 230 ([.t 159, .t 166]),
 oM 5 167] false)
 (.skip)))
 (.seq (.reg [oM 168 5,
 oM 4 168] false)
 (.ret)))))))))
def K1l : IFn := ⟨2, 169, [.tmp 4], false, Q1te⟩
def Q1tp : IR :=
 .seq (.reg [o 6 (.mov (.c (zS)))] false)
 (.seq (.reg [oM 7 0,
 o 8 (.bin .add (.t 7) (.c (.str ⟨#[47]⟩))),
 oM 9 1,
 o 10 (.bin .add (.t 8) (.t 9)),
 o 11 (.bin .add (.t 10) (.c (.str ⟨#[47]⟩))),
 oM 12 2,
 o 13 (.bin .add (.t 11) (.t 12)),
 oM 6 13] false)
 (.ret))
def K1w : IFn := ⟨3, 14, [.tmp 6], false, Q1tp⟩
def Q100 : List Nat := [100058, 3, 9, 18, 19, 20]
def Q1n0 : IR :=
 .seq (.reg [o 21 (.bin .lss (.t 20) (.t 19))] false)
 (.seq (.cond (.t 21) (.skip)
 (.exit 0))
 (.seq (.block 1 (.seq (.reg [oI 22 5 18 20,
 oL 23 5 22,
 o 11 (.zero zL1),
 oS 5 11 23] false)
 (.reg [oM 24 9,
 oM 25 3,
 oL 26 5 11,
 o 27 (.call false (.t 25) [.t 26]),
 o 28 (.lit 3 1 [zS, zI, zI] [(0, .t 27)]),
 oJ 29 3 32 24 28,
 oM 9 29] false)))
 (.reg [oA 30 20,
 oM 20 30] false)))
def Q1vk : IR :=
 .seq (.reg [o 5 (.box 5 (.t 1)),
 o 8 (.mov (.c (.ns 3)))] false)
 (.seq (.reg [o 9 (.mov (.c (.ns 3)))] false)
 (.seq (.seq (.reg [oM 12 0,
 oM 13 0,
 oL 14 5 5,
 oM 15 2,
 oC 16 76 ([.t 13, .t 14, .t 15]),
 oC 17 174 ([.t 12, .t 16, .c (.int .i64 4)]),
 o 18 (.field 3 1 false (.t 17)),
 oN 19 18,
 o 20 (.mov (.c zI))] false)
 (.block 0 (.loop Q100 Q1n0)))
 (.seq (.reg [oM 31 9,
 oM 8 31] false)
 (.ret))))
def K6q : IFn := ⟨4, 32, [.tmp 8], false, Q1vk⟩
def Q1v9 : IR :=
 .seq (.reg [o 2 (.box 5 (.t 0)),
 o 3 (.zero [zS, zI, zI])] false)
 (.seq (.reg [oK 4 1 1,
 oL 5 5 2,
 oD 6 89 ([.t 4, .t 5, sA20]) [0, 1],
 oK 7 1 1,
 oL 8 5 2,
 oD 9 71 ([.t 7, .t 8, .c (.str ⟨#[112, 111, 114, 116]⟩)]) (rg 0 5),
 oK 10 1 1,
 oL 11 5 2,
 oD 12 71 ([.t 10, .t 11, .c (.str ⟨#[116, 97, 114, 103, 101, 116]⟩)]) (rg 0 8),
 ob 13 (.build [zS, zI, zI] [(0, 1, .t 6), (1, 1, .t 9), (2, 1, .t 12)]) (rg 0 9),
 ⟨none, none, .store 3 (.t 3) (.t 13), (rg 0 10)⟩] true)
 (.ret))
def K68 : IFn := ⟨2, 14, [.cell 3 3 true], false, Q1v9⟩
def Q1u5 : IR :=
 .seq (.reg [o 1 (.box 3 (.t 0)),
 o 2 (.zero zL1)] false)
 (.seq (.reg [oF 3 0 1,
 oE 4 1 3 [0],
 oD 5 164 ([.t 4]) [0, 1],
 ob 6 (.build zL0 [(0, 1, sA62), (1, 5, .t 5)]) [0, 1, 2],
 oF 7 1 1,
 oE 8 1 7 [4],
 oD 9 164 ([.t 8]) [0, 1, 2, 4, 5],
 ob 10 (.build zL0 [(0, 1, sA14), (1, 5, .t 9)]) [0, 1, 2, 4, 5, 6],
 oF 11 2 1,
 oE 12 1 11 [8],
 oD 13 164 ([.t 12]) [0, 1, 2, 4, 5, 6, 8, 9],
 ob 14 (.build zL0 [(0, 1, sA1), (1, 5, .t 13)]) [0, 1, 2, 4, 5, 6, 8, 9, 10],
 ob 15 (.lit 6 3 zL0 [(0, .t 6), (1, .t 10), (2, .t 14)]) (rg 0 12),
 oD 16 163 ([.t 15]) (rg 0 13),
 ⟨none, none, .store 5 (.t 2) (.t 16), (rg 0 14)⟩] true)
 (.ret))
def K2r : IFn := ⟨1, 17, [.cell 2 5 true], false, Q1u5⟩
def Qji : List Nat := [100060, 0, 2, 3, 4]
def Q1gh : IR :=
 .seq (.seq (.reg [oM 5 4,
 oM 6 0,
 oN 7 6,
 o 8 (.bin .lss (.t 5) (.t 7))] false)
 (.cond (.t 8) (.skip)
 (.exit 0)))
 (.seq (.block 1 (.reg [oM 11 3,
 oM 12 0,
 oM 13 4,
 oI 14 1 12 13,
 oK 15 1 14,
 oC 16 169 ([.t 15]),
 o 17 (.lit 5 1 zL1 [(0, .t 16)]),
 oJ 18 5 80 11 17,
 oM 3 18] false))
 (.reg [oM 9 4,
 oA 10 9,
 oM 4 10] false))
def Q1ua : IR :=
 .seq (.reg [o 2 (.zero zL1)] false)
 (.seq (.reg [o 3 (.mov (.c (.ns 5)))] false)
 (.seq (.seq (.reg [o 4 (.mov (.c zI))] false)
 (.block 0 (.loop Qji Q1gh)))
 (.seq (.reg [oM 19 3,
 o 20 (.build zL1 [(0, 1, .c (.int .i64 4)), (3, 1, .t 19)]),
 oS 5 2 20] false)
 (.ret))))
def K2x : IFn := ⟨1, 21, [.cell 2 5 true], false, Q1ua⟩
def Qja : List Nat := [100061, 0, 2, 3, 4]
def Q1g9 : IR :=
 .seq (.seq (.reg [oM 5 4,
 oM 6 0,
 oN 7 6,
 o 8 (.bin .lss (.t 5) (.t 7))] false)
 (.cond (.t 8) (.skip)
 (.exit 0)))
 (.seq (.block 1 (.reg [oM 11 3,
 oM 12 0,
 oM 13 4,
 ob 14 (.iaddr 2 (.t 12) (.t 13)) [1, 2],
 ob 15 (.faddr 0 (.t 14)) [1, 2, 3],
 oE 16 1 15 [1, 2, 3, 4],
 oD 17 169 ([.t 16]) (rg 1 6),
 ob 18 (.build zL0 [(0, 1, sA10), (1, 5, .t 17)]) (rg 1 7),
 oM 19 0,
 oM 20 4,
 ob 21 (.iaddr 2 (.t 19) (.t 20)) [8, 9],
 ob 22 (.faddr 1 (.t 21)) [8, 9, 10],
 oE 23 1 22 [8, 9, 10, 11],
 oD 24 169 ([.t 23]) (rg 1 7 ++ rg 8 13),
 ob 25 (.build zL0 [(0, 1, sA52), (1, 5, .t 24)]) (rg 1 7 ++ rg 8 14),
 ob 26 (.lit 6 2 zL0 [(0, .t 18), (1, .t 25)]) (rg 1 15),
 oD 27 163 ([.t 26]) (rg 1 16),
 ob 28 (.lit 5 1 zL1 [(0, .t 27)]) (rg 1 17),
 ob 29 (.append 5 80 (.t 11) (.t 28)) (rg 0 18),
 ob 3 (.mov (.t 29)) (rg 0 19)] true))
 (.reg [oM 9 4,
 oA 10 9,
 oM 4 10] false))
def Q1ty : IR :=
 .seq (.reg [o 2 (.zero zL1)] false)
 (.seq (.reg [o 3 (.mov (.c (.ns 5)))] false)
 (.seq (.seq (.reg [o 4 (.mov (.c zI))] false)
 (.block 0 (.loop Qja Q1g9)))
 (.seq (.reg [oM 30 3,
 o 31 (.build zL1 [(0, 1, .c (.int .i64 4)), (3, 1, .t 30)]),
 oS 5 2 31] false)
 (.ret))))
def K2g : IFn := ⟨1, 32, [.cell 2 5 true], false, Q1ty⟩
def Q1u1 : IR :=
 .seq (.reg [o 1 (.box 10 (.t 0)),
 o 2 (.zero zL1)] false)
 (.seq (.reg [oF 3 0 1,
 oE 4 1 3 [0],
 oD 5 169 ([.t 4]) [0, 1],
 ob 6 (.build zL0 [(0, 1, sA19), (1, 5, .t 5)]) [0, 1, 2],
 oF 7 1 1,
 oE 8 1 7 [4],
 oD 9 164 ([.t 8]) [0, 1, 2, 4, 5],
 ob 10 (.build zL0 [(0, 1, sA28), (1, 5, .t 9)]) [0, 1, 2, 4, 5, 6],
 oF 11 2 1,
 oE 12 1 11 [8],
 oD 13 164 ([.t 12]) [0, 1, 2, 4, 5, 6, 8, 9],
 ob 14 (.build zL0 [(0, 1, sA35), (1, 5, .t 13)]) [0, 1, 2, 4, 5, 6, 8, 9, 10],
 oF 15 3 1,
 oE 16 1 15 [12],
 oD 17 164 ([.t 16]) [0, 1, 2, 4, 5, 6, 8, 9, 10, 12, 13],
 ob 18 (.build zL0 [(0, 1, sA6), (1, 5, .t 17)]) [0, 1, 2, 4, 5, 6, 8, 9, 10, 12, 13, 14],
 oF 19 4 1,
 oE 20 1 19 [16],
 oD 21 233 ([.t 20]) [0, 1, 2, 4, 5, 6, 8, 9, 10, 12, 13, 14, 16, 17],
 ob 22 (.build zL0 [(0, 1, sA61), (1, 5, .t 21)]) [0, 1, 2, 4, 5, 6, 8, 9, 10, 12, 13, 14, 16, 17, 18],
 oF 23 5 1,
 oE 24 1 23 [20],
 oD 25 165 ([.t 24]) [0, 1, 2, 4, 5, 6, 8, 9, 10, 12, 13, 14, 16, 17, 18, 20, 21],
 ob 26 (.build zL0 [(0, 1, sA17), (1, 5, .t 25)]) [0, 1, 2, 4, 5, 6, 8, 9, 10, 12, 13, 14, 16, 17, 18, 20, 21, 22],
 oF 27 6 1,
 oE 28 1 27 [24],
 oD 29 234 ([.t 28]) [0, 1, 2, 4, 5, 6, 8, 9, 10, 12, 13, 14, 16, 17, 18, 20, 21, 22, 24, 25],
 ob 30 (.build zL0 [(0, 1, sA18), (1, 5, .t 29)]) [0, 1, 2, 4, 5, 6, 8, 9, 10, 12, 13, 14, 16, 17, 18, 20, 21, 22, 24, 25, 26],
 oF 31 7 1,
 oE 32 1 31 [28],
 oD 33 235 ([.t 32]) [0, 1, 2, 4, 5, 6, 8, 9, 10, 12, 13, 14, 16, 17, 18, 20, 21, 22, 24, 25, 26, 28, 29],
 ob 34 (.build zL0 [(0, 1, sA27), (1, 5, .t 33)]) [0, 1, 2, 4, 5, 6, 8, 9, 10, 12, 13, 14, 16, 17, 18, 20, 21, 22, 24, 25, 26, 28, 29, 30],
 oF 35 8 1,
 oE 36 1 35 [32],
 oD 37 236 ([.t 36]) [0, 1, 2, 4, 5, 6, 8, 9, 10, 12, 13, 14, 16, 17, 18, 20, 21, 22, 24, 25, 26, 28, 29, 30, 32, 33],
 ob 38 (.build zL0 [(0, 1, sA41), (1, 5, .t 37)]) [0, 1, 2, 4, 5, 6, 8, 9, 10, 12, 13, 14, 16, 17, 18, 20, 21, 22, 24, 25, 26, 28, 29, 30, 32, 33, 34],
 oF 39 9 1,
 oE 40 1 39 [36],
 oD 41 237 ([.t 40]) [0, 1, 2, 4, 5, 6, 8, 9, 10, 12, 13, 14, 16, 17, 18, 20, 21, 22, 24, 25, 26, 28, 29, 30, 32, 33, 34, 36, 37],
 ob 42 (.build zL0 [(0, 1, sA46), (1, 5, .t 41)]) [0, 1, 2, 4, 5, 6, 8, 9, 10, 12, 13, 14, 16, 17, 18, 20, 21, 22, 24, 25, 26, 28, 29, 30, 32, 33, 34, 36, 37, 38],
 ob 43 (.lit 6 10 zL0 [(0, .t 6), (1, .t 10), (2, .t 14), (3, .t 18), (4, .t 22), (5, .t 26), (6, .t 30), (7, .t 34), (8, .t 38), (9, .t 42)]) (rg 0 40),
 oD 44 163 ([.t 43]) (rg 0 41),
 ⟨none, none, .store 5 (.t 2) (.t 44), (rg 0 42)⟩] true)
 (.ret))
def K2k : IFn := ⟨1, 45, [.cell 2 5 true], false, Q1u1⟩
def Ko_c : IR :=
 .seq (.reg [o 3 (.box 5 (.t 1)),
 o 4 (.zero zL1)] false)
 (.seq (.reg [oM 5 0,
 oM 6 0,
 o 7 (.nilck (.t 6)),
 oF 8 0 7,
 oK 9 1 8,
 oM 10 9,
 gF 11 10 (.faddr 0 (.t 3)),
 gF 12 10 (.load 1 false (.t 11)),
 gF 13 10 (.bin .neq (.t 12) (.c (.int .i64 5))),
 gF 14 10 (.mov (.t 13)),
 gT 15 14 (.faddr 0 (.t 3)),
 gT 16 14 (.load 1 false (.t 15)),
 gT 17 14 (.bin .neq (.t 16) (.c zI)),
 gF 18 10 (.pick (.t 14) (.t 17) (.c zB)),
 oQ 19 10 18,
 o 20 (.nilck (.t 5)),
 oF 21 0 20,
 oS 1 21 19] false)
 (.seq (.reg [oL 22 5 3,
 oS 5 4 22] false)
 (.ret)))
def Ko : IFn := ⟨2, 23, [.cell 4 5 true], false, Ko_c⟩
def Qna : List Nat := [100062, 3, 9, 16, 17, 18]
def Q1n2 : IR :=
 .seq (.reg [o 19 (.bin .lss (.t 18) (.t 17))] false)
 (.seq (.cond (.t 19) (.skip)
 (.exit 0))
 (.seq (.block 1 (.seq (.reg [oI 20 5 16 18,
 oL 21 5 20,
 o 11 (.zero zL1),
 oS 5 11 21] false)
 (.reg [oM 22 9,
 oM 23 3,
 oL 24 5 11,
 o 25 (.call false (.t 23) [.t 24]),
 o 26 (.lit 2 1 [zS, zS] [(0, .t 25)]),
 oJ 27 2 32 22 26,
 oM 9 27] false)))
 (.reg [oA 28 18,
 oM 18 28] false)))
def Ks_c : IR :=
 .seq (.reg [o 5 (.box 5 (.t 1)),
 o 8 (.mov (.c (.ns 2)))] false)
 (.seq (.reg [o 9 (.mov (.c (.ns 2)))] false)
 (.seq (.seq (.reg [oM 12 0,
 oL 13 5 5,
 oM 14 2,
 oC 15 238 ([.t 12, .t 13, .t 14, .c (.int .i64 4)]),
 o 16 (.field 3 1 false (.t 15)),
 oN 17 16,
 o 18 (.mov (.c zI))] false)
 (.block 0 (.loop Qna Q1n2)))
 (.seq (.reg [oM 29 9,
 oM 8 29] false)
 (.ret))))
def Ks : IFn := ⟨4, 30, [.tmp 8], false, Ks_c⟩
def Ke_c : IR :=
 .seq (.reg [o 3 (.box 5 (.t 1)),
 o 4 (.zero [zS, zS])] false)
 (.seq (.reg [oM 5 0,
 oL 6 5 3,
 oC 7 215 ([.t 5, .t 6])] false)
 (.seq (.reg [oM 8 0,
 oL 9 5 3,
 oD 10 239 ([.t 8, .t 9, sA10]) [0, 1],
 oM 11 0,
 oL 12 5 3,
 oD 13 239 ([.t 11, .t 12, sA52]) (rg 0 5),
 ob 14 (.build [zS, zS] [(0, 1, .t 10), (1, 1, .t 13)]) (rg 0 6),
 ⟨none, none, .store 2 (.t 4) (.t 14), (rg 0 7)⟩] true)
 (.ret)))
def Ke : IFn := ⟨2, 15, [.cell 4 2 true], false, Ke_c⟩
def Kl_c : IR :=
 .seq (.reg [o 3 (.box 5 (.t 1)),
 o 4 (.zero zL10)] false)
 (.seq (.reg [oM 5 0,
 oL 6 5 3,
 oC 7 215 ([.t 5, .t 6])] false)
 (.seq (.reg [oM 8 0,
 oL 9 5 3,
 oD 10 239 ([.t 8, .t 9, sA19]) [0, 1],
 oM 11 0,
 oL 12 5 3,
 oD 13 240 ([.t 11, .t 12, sA28]) (rg 0 5),
 oM 14 0,
 oL 15 5 3,
 oD 16 240 ([.t 14, .t 15, sA35]) (rg 0 8),
 oM 17 0,
 oL 18 5 3,
 oD 19 240 ([.t 17, .t 18, sA6]) (rg 0 11),
 oM 20 0,
 oL 21 5 3,
 oM 22 0,
 ob 23 (.mkfn 242 [.t 22] []) [14],
 oD 24 241 ([.t 20, .t 21, sA61, .t 23]) (rg 0 16),
 oM 25 0,
 oL 26 5 3,
 oM 27 0,
 ob 28 (.mkfn 244 [.t 27] []) [19],
 oD 29 243 ([.t 25, .t 26, sA17, .t 28]) (rg 0 21),
 oM 30 0,
 oL 31 5 3,
 oM 32 0,
 ob 33 (.mkfn 246 [.t 32] []) [24],
 oD 34 245 ([.t 30, .t 31, sA18, .t 33]) (rg 0 26),
 oM 35 0,
 oL 36 5 3,
 oM 37 0,
 ob 38 (.mkfn 248 [.t 37] []) [29],
 oD 39 247 ([.t 35, .t 36, sA27, .t 38]) (rg 0 31),
 oM 40 0,
 oL 41 5 3,
 oM 42 0,
 ob 43 (.mkfn 250 [.t 42] []) [34],
 oD 44 249 ([.t 40, .t 41, sA41, .t 43]) (rg 0 36),
 oM 45 0,
 oL 46 5 3,
 oM 47 0,
 ob 48 (.mkfn 252 [.t 47] []) [39],
 oD 49 251 ([.t 45, .t 46, sA46, .t 48]) (rg 0 41),
 ob 50 (.build zL10 [(0, 1, .t 10), (1, 1, .t 13), (2, 1, .t 16), (3, 1, .t 19), (4, 1, .t 24), (5, 1, .t 29), (6, 1, .t 34), (7, 1, .t 39), (8, 1, .t 44), (9, 1, .t 49)]) (rg 0 42),
 ⟨none, none, .store 10 (.t 4) (.t 50), (rg 0 43)⟩] true)
 (.ret)))
def Kl : IFn := ⟨2, 51, [.cell 4 10 true], false, Kl_c⟩
def Kp_c : IR :=
 .seq (.reg [o 4 (.box 5 (.t 1)),
 o 6 (.zero zL1)] false)
 (.seq (.reg [oM 7 0,
 oL 8 5 4,
 oM 9 2,
 oC 10 238 ([.t 7, .t 8, .t 9, .c (.int .i64 5)]),
 oS 5 6 10] false)
 (.ret))
def Kp : IFn := ⟨3, 11, [.cell 6 5 true], false, Kp_c⟩
def Qzz : List Nat := [100065, 0, 1, 2, 6, 7, 8]
def Q1mz : IR :=
 .seq (.seq (.reg [oM 33 8,
 oM 34 1,
 o 35 (.bin .leq (.t 33) (.t 34))] false)
 (.cond (.t 35) (.skip)
 (.exit 4)))
 (.block 5 (.seq (.reg [oM 36 0,
 oM 37 7,
 oM 38 7,
 oM 39 6,
 o 40 (.bin .add (.t 38) (.t 39)),
 oM 41 8,
 oM 42 2,
 oC 43 254 ([.t 36, .t 37, .t 40, .t 41, .t 42])] false)
 (.seq (.reg [oM 44 8,
 oM 7 44] false)
 (.reg [oM 45 8,
 oM 46 6,
 o 47 (.bin .mul (.c (.int .i64 2)) (.t 46)),
 o 48 (.bin .add (.t 45) (.t 47)),
 oM 8 48] false))))
def Qjn : List Nat := [100064, 0, 1, 2, 6]
def Q1gm : IR :=
 .seq (.seq (.reg [oM 28 6,
 oM 29 1,
 o 30 (.bin .lss (.t 28) (.t 29))] false)
 (.cond (.t 30) (.skip)
 (.exit 2)))
 (.block 3 (.seq (.reg [oM 31 6,
 o 32 (.bin .mul (.c (.int .i64 2)) (.t 31)),
 o 7 (.mov (.c zI)),
 oM 8 32] false)
 (.seq (.block 4 (.loop Qzz Q1mz))
 (.seq (.seq (.reg [oM 49 7,
 oM 50 6,
 o 51 (.bin .add (.t 49) (.t 50)),
 oM 9 51] false)
 (.seq (.reg [oM 52 9,
 oM 53 1,
 o 54 (.bin .lss (.t 52) (.t 53))] false)
 (.cond (.t 54) (.reg [oM 55 0,
 oM 56 7,
 oM 57 9,
 oM 58 1,
 oM 59 2,
 oC 60 254 ([.t 55, .t 56, .t 57, .t 58, .t 59])] false)
 (.skip))))
 (.reg [oM 61 6,
 o 62 (.bin .mul (.t 61) (.c (.int .i64 2))),
 oM 6 62] false)))))
def Qjm : List Nat := [100063, 0, 1, 2, 6, 7, 8]
def Q1gl : IR :=
 .seq (.seq (.reg [oM 11 8,
 oM 12 1,
 o 13 (.bin .leq (.t 11) (.t 12))] false)
 (.cond (.t 13) (.skip)
 (.exit 0)))
 (.block 1 (.seq (.reg [oM 14 0,
 oM 15 7,
 oM 16 8,
 oM 17 2,
 o 18 (.call true (.f 253) [.t 14, .t 15, .t 16, .t 17])] false)
 (.seq (.reg [oM 19 8,
 oM 7 19] false)
 (.reg [oM 20 8,
 oM 21 6,
 o 22 (.bin .add (.t 20) (.t 21)),
 oM 8 22] false))))
def Q1uk : IR :=
 .seq (.reg [o 6 (.mov (.c (.int .i64 20)))] false)
 (.seq (.reg [oM 10 6,
 o 7 (.mov (.c zI)),
 oM 8 10] false)
 (.seq (.block 0 (.loop Qjm Q1gl))
 (.seq (.reg [oM 23 0,
 oM 24 7,
 oM 25 1,
 oM 26 2,
 o 27 (.call true (.f 253) [.t 23, .t 24, .t 25, .t 26])] false)
 (.block 2 (.loop Qjn Q1gm)))))
def K4u : IFn := ⟨3, 63, [], false, Q1uk⟩
def Qjv : List Nat := [100066, 1, 4, 5, 8, 9, 10]
def Q1gu : IR :=
 .seq (.reg [o 11 (.bin .lss (.t 10) (.t 9))] false)
 (.seq (.cond (.t 11) (.skip)
 (.exit 0))
 (.seq (.block 1 (.seq (.reg [oI 12 3 8 10,
 oL 13 3 12,
 o 7 (.zero [zS, zI, .ns 1]),
 oS 3 7 13] false)
 (.reg [oM 14 5,
 oM 15 1,
 oL 16 3 7,
 o 17 (.call false (.t 15) [.t 16]),
 o 18 (.lit 5 1 zL1 [(0, .t 17)]),
 oJ 19 5 80 14 18,
 oM 5 19] false)))
 (.reg [oA 20 10,
 oM 10 20] false)))
def Q1vq : IR :=
 .seq (.reg [o 4 (.zero zL1)] false)
 (.seq (.reg [o 5 (.mov (.c (.ns 5)))] false)
 (.seq (.seq (.reg [oM 8 0,
 oN 9 8,
 o 10 (.mov (.c zI))] false)
 (.block 0 (.loop Qjv Q1gu)))
 (.seq (.reg [oM 21 5,
 o 22 (.build zL1 [(0, 1, .c (.int .i64 4)), (3, 1, .t 21)]),
 oS 5 4 22] false)
 (.ret))))
def K72 : IFn := ⟨2, 23, [.cell 4 5 true], false, Q1vq⟩
def Q1vo : IR :=
 .seq (.reg [o 1 (.box 3 (.t 0)),
 o 2 (.zero zL1)] false)
 (.seq (.reg [oF 3 0 1,
 oE 4 1 3 [0],
 oD 5 95 ([sA10, .t 4]) [0, 1],
 oF 6 1 1,
 oE 7 1 6 [3],
 oD 8 79 ([sA22, .t 7]) (rg 0 5),
 oF 9 2 1,
 oE 10 1 9 [6],
 oD 11 225 ([.t 10, .f 193]) (rg 0 8),
 oD 12 83 ([sA51, .t 11]) (rg 0 9),
 ob 13 (.lit 6 3 zL0 [(0, .t 5), (1, .t 8), (2, .t 12)]) (rg 0 10),
 oD 14 78 ([.t 13]) (rg 0 11),
 ⟨none, none, .store 5 (.t 2) (.t 14), (rg 0 12)⟩] true)
 (.ret))
def K6w : IFn := ⟨1, 15, [.cell 2 5 true], false, Q1vo⟩
def Qjw : List Nat := [100067, 1, 4, 5, 8, 9, 10]
def Q1gv : IR :=
 .seq (.reg [o 11 (.bin .lss (.t 10) (.t 9))] false)
 (.seq (.cond (.t 11) (.skip)
 (.exit 0))
 (.seq (.block 1 (.seq (.reg [oI 12 1 8 10,
 oK 13 1 12,
 oM 7 13] false)
 (.reg [oM 14 5,
 oM 15 1,
 oM 16 7,
 o 17 (.call false (.t 15) [.t 16]),
 o 18 (.lit 5 1 zL1 [(0, .t 17)]),
 oJ 19 5 80 14 18,
 oM 5 19] false)))
 (.reg [oA 20 10,
 oM 10 20] false)))
def Q1vr : IR :=
 .seq (.reg [o 4 (.zero zL1)] false)
 (.seq (.reg [o 5 (.mov (.c (.ns 5)))] false)
 (.seq (.seq (.reg [oM 8 0,
 oN 9 8,
 o 10 (.mov (.c zI))] false)
 (.block 0 (.loop Qjw Q1gv)))
 (.seq (.reg [oM 21 5,
 o 22 (.build zL1 [(0, 1, .c (.int .i64 4)), (3, 1, .t 21)]),
 oS 5 4 22] false)
 (.ret))))
def K73 : IFn := ⟨2, 23, [.cell 4 5 true], false, Q1vr⟩
def Q1t4 : IR :=
 .seq (.reg [o 3 (.box 5 (.t 1)),
 o 4 (.zero zL0)] false)
 (.seq (.reg [oM 5 0,
 oL 6 5 3,
 o 7 (.build zL0 [(0, 1, .t 5), (1, 5, .t 6)]),
 oS 6 4 7] false)
 (.ret))
def K1b : IFn := ⟨2, 8, [.cell 4 6 true], false, Q1t4⟩
def Qis : List Nat := [100068, 1, 4, 5, 8, 9, 10]
def Q1fr : IR :=
 .seq (.reg [o 11 (.bin .lss (.t 10) (.t 9))] false)
 (.seq (.cond (.t 11) (.skip)
 (.exit 0))
 (.seq (.block 1 (.seq (.reg [oI 12 2 8 10,
 oL 13 2 12,
 o 7 (.zero [zS, zS]),
 oS 2 7 13] false)
 (.reg [oM 14 5,
 oM 15 1,
 oL 16 2 7,
 o 17 (.call false (.t 15) [.t 16]),
 o 18 (.lit 5 1 zL1 [(0, .t 17)]),
 oJ 19 5 80 14 18,
 oM 5 19] false)))
 (.reg [oA 20 10,
 oM 10 20] false)))
def Q1t5 : IR :=
 .seq (.reg [o 4 (.zero zL1)] false)
 (.seq (.reg [o 5 (.mov (.c (.ns 5)))] false)
 (.seq (.seq (.reg [oM 8 0,
 oN 9 8,
 o 10 (.mov (.c zI))] false)
 (.block 0 (.loop Qis Q1fr)))
 (.seq (.reg [oM 21 5,
 oC 22 256 ([.t 21]),
 oS 5 4 22] false)
 (.ret))))
def K1c : IFn := ⟨2, 23, [.cell 4 5 true], false, Q1t5⟩
def Q1sv : IR :=
 .seq (.reg [o 1 (.box 2 (.t 0)),
 o 2 (.zero zL1)] false)
 (.seq (.reg [oF 3 0 1,
 oE 4 1 3 [0],
 oD 5 193 ([.t 4]) [0, 1],
 oD 6 226 ([sA10, .t 5]) [0, 1, 2],
 oF 7 1 1,
 oE 8 1 7 [4],
 oD 9 193 ([.t 8]) (rg 0 6),
 oD 10 226 ([sA52, .t 9]) (rg 0 7),
 ob 11 (.lit 6 2 zL0 [(0, .t 6), (1, .t 10)]) (rg 0 8),
 oD 12 78 ([.t 11]) (rg 0 9),
 ⟨none, none, .store 5 (.t 2) (.t 12), (rg 0 10)⟩] true)
 (.ret))
def K12 : IFn := ⟨1, 13, [.cell 2 5 true], false, Q1sv⟩
def Q1t1 : IR :=
 .seq (.reg [o 1 (.box 10 (.t 0)),
 o 2 (.zero zL1)] false)
 (.seq (.reg [oF 3 4 1,
 oE 4 1 3 [0],
 oD 5 257 ([.t 4, .f 258]) [0, 1],
 oD 6 226 ([sA61, .t 5]) [0, 1, 2],
 oF 7 3 1,
 oE 8 1 7 [4],
 oD 9 109 ([.t 8]) (rg 0 6),
 oD 10 226 ([sA6, .t 9]) (rg 0 7),
 oF 11 0 1,
 oE 12 1 11 [8],
 oD 13 193 ([.t 12]) (rg 0 10),
 oD 14 226 ([sA19, .t 13]) (rg 0 11),
 oF 15 5 1,
 oE 16 1 15 [12],
 oD 17 259 ([.t 16, .f 260]) (rg 0 14),
 oD 18 226 ([sA17, .t 17]) (rg 0 15),
 oF 19 6 1,
 oE 20 1 19 [16],
 oD 21 261 ([.t 20, .f 262]) (rg 0 18),
 oD 22 226 ([sA18, .t 21]) (rg 0 19),
 oF 23 7 1,
 oE 24 1 23 [20],
 oD 25 263 ([.t 24, .f 264]) (rg 0 22),
 oD 26 226 ([sA27, .t 25]) (rg 0 23),
 oF 27 1 1,
 oE 28 1 27 [24],
 oD 29 109 ([.t 28]) (rg 0 26),
 oD 30 226 ([sA28, .t 29]) (rg 0 27),
 oF 31 2 1,
 oE 32 1 31 [28],
 oD 33 109 ([.t 32]) (rg 0 30),
 oD 34 226 ([sA35, .t 33]) (rg 0 31),
 oF 35 8 1,
 oE 36 1 35 [32],
 oD 37 265 ([.t 36, .f 266]) (rg 0 34),
 oD 38 226 ([sA41, .t 37]) (rg 0 35),
 oF 39 9 1,
 oE 40 1 39 [36],
 oD 41 267 ([.t 40, .f 268]) (rg 0 38),
 oD 42 226 ([sA46, .t 41]) (rg 0 39),
 ob 43 (.lit 6 10 zL0 [(0, .t 6), (1, .t 10), (2, .t 14), (3, .t 18), (4, .t 22), (5, .t 26), (6, .t 30), (7, .t 34), (8, .t 38), (9, .t 42)]) (rg 0 40),
 oD 44 78 ([.t 43]) (rg 0 41),
 ⟨none, none, .store 5 (.t 2) (.t 44), (rg 0 42)⟩] true)
 (.ret))
def K18 : IFn := ⟨1, 45, [.cell 2 5 true], false, Q1t1⟩
def Q1tm : IR :=
 .seq (.reg [o 4 (.mov (.c zI))] false)
 (.seq (.seq (.reg [oM 5 0] false)
 (.cond (.t 5) (.seq (.reg [o 4 (.mov (.c (.int .i64 (-1))))] false)
 (.ret))
 (.skip)))
 (.seq (.seq (.reg [oM 6 1] false)
 (.cond (.t 6) (.seq (.reg [o 4 (.mov (.c (.int .i64 1)))] false)
 (.ret))
 (.skip)))
 (.seq (.reg [o 4 (.mov (.c zI))] false)
 (.ret))))
def K1t : IFn := ⟨2, 7, [.tmp 4], false, Q1tm⟩
def Qj9 : List Nat := [100071, 0, 2, 3, 4]
def Q1g8 : IR :=
 .seq (.seq (.reg [oM 6 4,
 oM 7 0,
 oN 8 7,
 o 9 (.bin .lss (.t 6) (.t 8))] false)
 (.cond (.t 9) (.skip)
 (.exit 0)))
 (.seq (.block 1 (.seq (.reg [oM 12 0,
 oM 13 4,
 oI 14 11 12 13,
 oL 15 11 14,
 o 5 (.zero zL8),
 oS 11 5 15] false)
 (.reg [oM 16 3,
 oF 17 0 5,
 oE 18 1 17 [1],
 oD 19 169 ([.t 18]) [1, 2],
 ob 20 (.build zL0 [(0, 1, sA20), (1, 5, .t 19)]) [1, 2, 3],
 oF 21 1 5,
 oE 22 1 21 [5],
 oD 23 169 ([.t 22]) [1, 2, 3, 5, 6],
 ob 24 (.build zL0 [(0, 1, sA9), (1, 5, .t 23)]) [1, 2, 3, 5, 6, 7],
 oF 25 2 5,
 ob 26 (.load 3 true (.t 25)) [9],
 oD 27 211 ([.t 26]) [1, 2, 3, 5, 6, 7, 9, 10],
 ob 28 (.build zL0 [(0, 1, sA33), (1, 5, .t 27)]) [1, 2, 3, 5, 6, 7, 9, 10, 11],
 oF 29 5 5,
 ob 30 (.load 3 true (.t 29)) [13],
 oD 31 211 ([.t 30]) [1, 2, 3, 5, 6, 7, 9, 10, 11, 13, 14],
 ob 32 (.build zL0 [(0, 1, sA11), (1, 5, .t 31)]) [1, 2, 3, 5, 6, 7, 9, 10, 11, 13, 14, 15],
 oF 33 8 5,
 oE 34 1 33 [17],
 oD 35 274 ([.t 34]) [1, 2, 3, 5, 6, 7, 9, 10, 11, 13, 14, 15, 17, 18],
 ob 36 (.build zL0 [(0, 1, sA12), (1, 5, .t 35)]) [1, 2, 3, 5, 6, 7, 9, 10, 11, 13, 14, 15, 17, 18, 19],
 oF 37 9 5,
 oE 38 1 37 [21],
 oD 39 274 ([.t 38]) [1, 2, 3, 5, 6, 7, 9, 10, 11, 13, 14, 15, 17, 18, 19, 21, 22],
 ob 40 (.build zL0 [(0, 1, sA37), (1, 5, .t 39)]) [1, 2, 3, 5, 6, 7, 9, 10, 11, 13, 14, 15, 17, 18, 19, 21, 22, 23],
 oF 41 10 5,
 oE 42 1 41 [25],
 oD 43 274 ([.t 42]) [1, 2, 3, 5, 6, 7, 9, 10, 11, 13, 14, 15, 17, 18, 19, 21, 22, 23, 25, 26],
 ob 44 (.build zL0 [(0, 1, sA43), (1, 5, .t 43)]) [1, 2, 3, 5, 6, 7, 9, 10, 11, 13, 14, 15, 17, 18, 19, 21, 22, 23, 25, 26, 27],
 ob 45 (.lit 6 7 zL0 [(0, .t 20), (1, .t 24), (2, .t 28), (3, .t 32), (4, .t 36), (5, .t 40), (6, .t 44)]) (rg 1 29),
 oD 46 163 ([.t 45]) (rg 1 30),
 ob 47 (.lit 5 1 zL1 [(0, .t 46)]) (rg 1 31),
 ob 48 (.append 5 80 (.t 16) (.t 47)) (rg 0 32),
 ob 3 (.mov (.t 48)) (rg 0 33)] true)))
 (.reg [oM 10 4,
 oA 11 10,
 oM 4 11] false))
def Q1tv : IR :=
 .seq (.reg [o 2 (.zero zL1)] false)
 (.seq (.reg [o 3 (.mov (.c (.ns 5)))] false)
 (.seq (.seq (.reg [o 4 (.mov (.c zI))] false)
 (.block 0 (.loop Qj9 Q1g8)))
 (.seq (.reg [oM 49 3,
 o 50 (.build zL1 [(0, 1, .c (.int .i64 4)), (3, 1, .t 49)]),
 oS 5 2 50] false)
 (.ret))))
def K27 : IFn := ⟨1, 51, [.cell 2 5 true], false, Q1tv⟩
def Qjd : List Nat := [100072, 0, 2, 3, 4]
def Q1gc : IR :=
 .seq (.seq (.reg [oM 5 4,
 oM 6 0,
 oN 7 6,
 o 8 (.bin .lss (.t 5) (.t 7))] false)
 (.cond (.t 8) (.skip)
 (.exit 0)))
 (.seq (.block 1 (.reg [oM 11 3,
 oM 12 0,
 oM 13 4,
 ob 14 (.iaddr 3 (.t 12) (.t 13)) [1, 2],
 ob 15 (.faddr 0 (.t 14)) [1, 2, 3],
 oE 16 1 15 [1, 2, 3, 4],
 oD 17 167 ([.t 16]) (rg 1 6),
 ob 18 (.build zL0 [(0, 1, sA34), (1, 5, .t 17)]) (rg 1 7),
 oM 19 0,
 oM 20 4,
 ob 21 (.iaddr 3 (.t 19) (.t 20)) [8, 9],
 ob 22 (.faddr 1 (.t 21)) [8, 9, 10],
 oE 23 1 22 [8, 9, 10, 11],
 oD 24 165 ([.t 23]) (rg 1 7 ++ rg 8 13),
 ob 25 (.build zL0 [(0, 1, sA38), (1, 5, .t 24)]) (rg 1 7 ++ rg 8 14),
 oM 26 0,
 oM 27 4,
 ob 28 (.iaddr 3 (.t 26) (.t 27)) [15, 16],
 ob 29 (.faddr 2 (.t 28)) [15, 16, 17],
 oE 30 1 29 [15, 16, 17, 18],
 oD 31 164 ([.t 30]) (rg 1 7 ++ rg 8 14 ++ rg 15 20),
 ob 32 (.build zL0 [(0, 1, sA53), (1, 5, .t 31)]) (rg 1 7 ++ rg 8 14 ++ rg 15 21),
 ob 33 (.lit 6 3 zL0 [(0, .t 18), (1, .t 25), (2, .t 32)]) (rg 1 22),
 oD 34 163 ([.t 33]) (rg 1 23),
 ob 35 (.lit 5 1 zL1 [(0, .t 34)]) (rg 1 24),
 ob 36 (.append 5 80 (.t 11) (.t 35)) (rg 0 25),
 ob 3 (.mov (.t 36)) (rg 0 26)] true))
 (.reg [oM 9 4,
 oA 10 9,
 oM 4 10] false))
def Q1u0 : IR :=
 .seq (.reg [o 2 (.zero zL1)] false)
 (.seq (.reg [o 3 (.mov (.c (.ns 5)))] false)
 (.seq (.seq (.reg [o 4 (.mov (.c zI))] false)
 (.block 0 (.loop Qjd Q1gc)))
 (.seq (.reg [oM 37 3,
 o 38 (.build zL1 [(0, 1, .c (.int .i64 4)), (3, 1, .t 37)]),
 oS 5 2 38] false)
 (.ret))))
def K2j : IFn := ⟨1, 39, [.cell 2 5 true], false, Q1u0⟩
def Qje : List Nat := [100073, 0, 2, 3, 4]
def Q1gd : IR :=
 .seq (.seq (.reg [oM 6 4,
 oM 7 0,
 oN 8 7,
 o 9 (.bin .lss (.t 6) (.t 8))] false)
 (.cond (.t 9) (.skip)
 (.exit 0)))
 (.seq (.block 1 (.seq (.reg [oM 12 0,
 oM 13 4,
 oI 14 5 12 13,
 oL 15 5 14,
 o 5 (.zero [zB, zB, .ns 3, zS, zI]),
 oS 5 5 15] false)
 (.reg [oM 16 3,
 oF 17 0 5,
 oE 18 1 17 [1],
 oD 19 167 ([.t 18]) [1, 2],
 ob 20 (.build zL0 [(0, 1, sA34), (1, 5, .t 19)]) [1, 2, 3],
 oF 21 1 5,
 oE 22 1 21 [5],
 oD 23 167 ([.t 22]) [1, 2, 3, 5, 6],
 ob 24 (.build zL0 [(0, 1, sA59), (1, 5, .t 23)]) [1, 2, 3, 5, 6, 7],
 oF 25 2 5,
 oE 26 1 25 [9],
 oD 27 165 ([.t 26]) [1, 2, 3, 5, 6, 7, 9, 10],
 ob 28 (.build zL0 [(0, 1, sA38), (1, 5, .t 27)]) [1, 2, 3, 5, 6, 7, 9, 10, 11],
 oF 29 3 5,
 oE 30 1 29 [13],
 oD 31 169 ([.t 30]) [1, 2, 3, 5, 6, 7, 9, 10, 11, 13, 14],
 ob 32 (.build zL0 [(0, 1, sA47), (1, 5, .t 31)]) [1, 2, 3, 5, 6, 7, 9, 10, 11, 13, 14, 15],
 oF 33 4 5,
 oE 34 1 33 [17],
 oD 35 164 ([.t 34]) [1, 2, 3, 5, 6, 7, 9, 10, 11, 13, 14, 15, 17, 18],
 ob 36 (.build zL0 [(0, 1, sA53), (1, 5, .t 35)]) [1, 2, 3, 5, 6, 7, 9, 10, 11, 13, 14, 15, 17, 18, 19],
 ob 37 (.lit 6 5 zL0 [(0, .t 20), (1, .t 24), (2, .t 28), (3, .t 32), (4, .t 36)]) (rg 1 21),
 oD 38 163 ([.t 37]) (rg 1 22),
 ob 39 (.lit 5 1 zL1 [(0, .t 38)]) (rg 1 23),
 ob 40 (.append 5 80 (.t 16) (.t 39)) (rg 0 24),
 ob 3 (.mov (.t 40)) (rg 0 25)] true)))
 (.reg [oM 10 4,
 oA 11 10,
 oM 4 11] false))
def Q1u2 : IR :=
 .seq (.reg [o 2 (.zero zL1)] false)
 (.seq (.reg [o 3 (.mov (.c (.ns 5)))] false)
 (.seq (.seq (.reg [o 4 (.mov (.c zI))] false)
 (.block 0 (.loop Qje Q1gd)))
 (.seq (.reg [oM 41 3,
 o 42 (.build zL1 [(0, 1, .c (.int .i64 4)), (3, 1, .t 41)]),
 oS 5 2 42] false)
 (.ret))))
def K2l : IFn := ⟨1, 43, [.cell 2 5 true], false, Q1u2⟩
def Qjh : List Nat := [100074, 0, 2, 3, 4]
def Q1gg : IR :=
 .seq (.seq (.reg [oM 6 4,
 oM 7 0,
 oN 8 7,
 o 9 (.bin .lss (.t 6) (.t 8))] false)
 (.cond (.t 9) (.skip)
 (.exit 0)))
 (.seq (.block 1 (.seq (.reg [oM 12 0,
 oM 13 4,
 oI 14 4 12 13,
 oL 15 4 14,
 o 5 (.zero [zI, zS, .ns 3, zB]),
 oS 4 5 15] false)
 (.reg [oM 16 3,
 oF 17 0 5,
 oE 18 1 17 [1],
 oD 19 164 ([.t 18]) [1, 2],
 ob 20 (.build zL0 [(0, 1, sA16), (1, 5, .t 19)]) [1, 2, 3],
 oF 21 1 5,
 oE 22 1 21 [5],
 oD 23 169 ([.t 22]) [1, 2, 3, 5, 6],
 ob 24 (.build zL0 [(0, 1, sA47), (1, 5, .t 23)]) [1, 2, 3, 5, 6, 7],
 oF 25 2 5,
 oE 26 1 25 [9],
 oD 27 165 ([.t 26]) [1, 2, 3, 5, 6, 7, 9, 10],
 ob 28 (.build zL0 [(0, 1, sA38), (1, 5, .t 27)]) [1, 2, 3, 5, 6, 7, 9, 10, 11],
 oF 29 3 5,
 oE 30 1 29 [13],
 oD 31 167 ([.t 30]) [1, 2, 3, 5, 6, 7, 9, 10, 11, 13, 14],
 ob 32 (.build zL0 [(0, 1, sA34), (1, 5, .t 31)]) [1, 2, 3, 5, 6, 7, 9, 10, 11, 13, 14, 15],
 ob 33 (.lit 6 4 zL0 [(0, .t 20), (1, .t 24), (2, .t 28), (3, .t 32)]) (rg 1 17),
 oD 34 163 ([.t 33]) (rg 1 18),
 ob 35 (.lit 5 1 zL1 [(0, .t 34)]) (rg 1 19),
 ob 36 (.append 5 80 (.t 16) (.t 35)) (rg 0 20),
 ob 3 (.mov (.t 36)) (rg 0 21)] true)))
 (.reg [oM 10 4,
 oA 11 10,
 oM 4 11] false))
def Q1u7 : IR :=
 .seq (.reg [o 2 (.zero zL1)] false)
 (.seq (.reg [o 3 (.mov (.c (.ns 5)))] false)
 (.seq (.seq (.reg [o 4 (.mov (.c zI))] false)
 (.block 0 (.loop Qjh Q1gg)))
 (.seq (.reg [oM 37 3,
 o 38 (.build zL1 [(0, 1, .c (.int .i64 4)), (3, 1, .t 37)]),
 oS 5 2 38] false)
 (.ret))))
def K2u : IFn := ⟨1, 39, [.cell 2 5 true], false, Q1u7⟩
def Qjj : List Nat := [100075, 0, 2, 3, 4]
def Q1gi : IR :=
 .seq (.seq (.reg [oM 6 4,
 oM 7 0,
 oN 8 7,
 o 9 (.bin .lss (.t 6) (.t 8))] false)
 (.cond (.t 9) (.skip)
 (.exit 0)))
 (.seq (.block 1 (.seq (.reg [oM 12 0,
 oM 13 4,
 oI 14 5 12 13,
 oL 15 5 14,
 o 5 (.zero [zS, zS, zB, zI, zI]),
 oS 5 5 15] false)
 (.reg [oM 16 3,
 oF 17 0 5,
 oE 18 1 17 [1],
 oD 19 169 ([.t 18]) [1, 2],
 ob 20 (.build zL0 [(0, 1, sA10), (1, 5, .t 19)]) [1, 2, 3],
 oF 21 1 5,
 oE 22 1 21 [5],
 oD 23 169 ([.t 22]) [1, 2, 3, 5, 6],
 ob 24 (.build zL0 [(0, 1, sA52), (1, 5, .t 23)]) [1, 2, 3, 5, 6, 7],
 oF 25 2 5,
 oE 26 1 25 [9],
 oD 27 167 ([.t 26]) [1, 2, 3, 5, 6, 7, 9, 10],
 ob 28 (.build zL0 [(0, 1, sA3), (1, 5, .t 27)]) [1, 2, 3, 5, 6, 7, 9, 10, 11],
 oF 29 3 5,
 oE 30 1 29 [13],
 oD 31 164 ([.t 30]) [1, 2, 3, 5, 6, 7, 9, 10, 11, 13, 14],
 ob 32 (.build zL0 [(0, 1, sA2), (1, 5, .t 31)]) [1, 2, 3, 5, 6, 7, 9, 10, 11, 13, 14, 15],
 oF 33 4 5,
 oE 34 1 33 [17],
 oD 35 164 ([.t 34]) [1, 2, 3, 5, 6, 7, 9, 10, 11, 13, 14, 15, 17, 18],
 ob 36 (.build zL0 [(0, 1, sA39), (1, 5, .t 35)]) [1, 2, 3, 5, 6, 7, 9, 10, 11, 13, 14, 15, 17, 18, 19],
 ob 37 (.lit 6 5 zL0 [(0, .t 20), (1, .t 24), (2, .t 28), (3, .t 32), (4, .t 36)]) (rg 1 21),
 oD 38 163 ([.t 37]) (rg 1 22),
 ob 39 (.lit 5 1 zL1 [(0, .t 38)]) (rg 1 23),
 ob 40 (.append 5 80 (.t 16) (.t 39)) (rg 0 24),
 ob 3 (.mov (.t 40)) (rg 0 25)] true)))
 (.reg [oM 10 4,
 oA 11 10,
 oM 4 11] false))
def Q1uc : IR :=
 .seq (.reg [o 2 (.zero zL1)] false)
 (.seq (.reg [o 3 (.mov (.c (.ns 5)))] false)
 (.seq (.seq (.reg [o 4 (.mov (.c zI))] false)
 (.block 0 (.loop Qjj Q1gi)))
 (.seq (.reg [oM 41 3,
 o 42 (.build zL1 [(0, 1, .c (.int .i64 4)), (3, 1, .t 41)]),
 oS 5 2 42] false)
 (.ret))))
def K2z : IFn := ⟨1, 43, [.cell 2 5 true], false, Q1uc⟩
def Kd_c : IR :=
 .seq (.reg [o 5 (.box 5 (.t 1)),
 o 8 (.zero zL1)] false)
 (.seq (.seq (.reg [oF 11 0 5,
 oK 12 1 11,
 o 13 (.bin .neq (.t 12) (.c (.int .i64 5)))] false)
 (.cond (.t 13) (.seq (.reg [oM 14 0,
 oM 15 0,
 o 16 (.nilck (.t 15)),
 oF 17 0 16,
 oK 18 1 17,
 oM 19 18,
 gF 20 19 (.faddr 0 (.t 5)),
 gF 21 19 (.load 1 false (.t 20)),
 gF 22 19 (.bin .neq (.t 21) (.c zI)),
 oQ 23 19 22,
 o 24 (.nilck (.t 14)),
 oF 25 0 24,
 oS 1 25 23] false)
 (.seq (.reg [o 26 (.build zL1 []),
 oS 5 8 26] false)
 (.ret)))
 (.skip)))
 (.seq (.reg [oL 28 5 5,
 oM 29 2,
 oC 30 184 ([.t 28, .t 29]),
 oM 27 30,
 oX 31 27 0,
 oX 32 27 1,
 o 9 (.zero zL1),
 oS 5 9 31,
 oM 10 32] false)
 (.seq (.seq (.reg [oF 33 0 9,
 oK 34 1 33,
 oM 35 3,
 o 36 (.bin .eql (.t 34) (.t 35))] false)
 (.cond (.t 36) (.seq (.reg [oL 37 5 9,
 oS 5 8 37] false)
 (.ret))
 (.skip)))
 (.seq (.reg [oM 38 0,
 oM 39 0,
 o 40 (.nilck (.t 39)),
 oF 41 0 40,
 oK 42 1 41,
 oM 43 42,
 gF 44 43 (.faddr 0 (.t 9)),
 gF 45 43 (.load 1 false (.t 44)),
 gF 46 43 (.bin .neq (.t 45) (.c zI)),
 oQ 47 43 46,
 o 48 (.nilck (.t 38)),
 oF 49 0 48,
 oS 1 49 47] false)
 (.seq (.reg [o 50 (.build zL1 []),
 oS 5 8 50] false)
 (.ret))))))
def Kd : IFn := ⟨4, 51, [.cell 8 5 true], false, Kd_c⟩
def Kn_c : IR :=
 .seq (.reg [o 4 (.box 5 (.t 1)),
 o 6 (.mov (.c (zS)))] false)
 (.seq (.reg [oM 7 0,
 oL 8 5 4,
 oM 9 2,
 oC 10 238 ([.t 7, .t 8, .t 9, .c (.int .i64 3)]),
 o 11 (.field 2 1 false (.t 10)),
 oM 6 11] false)
 (.ret))
def Kn : IFn := ⟨3, 12, [.tmp 6], false, Kn_c⟩
def Kg_c : IR :=
 .seq (.reg [o 4 (.box 5 (.t 1)),
 o 6 (.mov (.c zI))] false)
 (.seq (.reg [oM 7 0,
 oL 8 5 4,
 oM 9 2,
 oC 10 238 ([.t 7, .t 8, .t 9, .c (.int .i64 2)]),
 o 11 (.field 1 1 false (.t 10)),
 oM 6 11] false)
 (.ret))
def Kg : IFn := ⟨3, 12, [.tmp 6], false, Kg_c⟩
def Qnb : List Nat := [100076, 3, 9, 16, 17, 18]
def Q1n3 : IR :=
 .seq (.reg [o 19 (.bin .lss (.t 18) (.t 17))] false)
 (.seq (.cond (.t 19) (.skip)
 (.exit 0))
 (.seq (.block 1 (.seq (.reg [oI 20 5 16 18,
 oL 21 5 20,
 o 11 (.zero zL1),
 oS 5 11 21] false)
 (.reg [oM 22 9,
 oM 23 3,
 oL 24 5 11,
 o 25 (.call false (.t 23) [.t 24]),
 o 26 (.lit 11 1 zL8 [(0, .t 25)]),
 oJ 27 11 152 22 26,
 oM 9 27] false)))
 (.reg [oA 28 18,
 oM 18 28] false)))
def Kt_c : IR :=
 .seq (.reg [o 5 (.box 5 (.t 1)),
 o 8 (.mov (.c (.ns 11)))] false)
 (.seq (.reg [o 9 (.mov (.c (.ns 11)))] false)
 (.seq (.seq (.reg [oM 12 0,
 oL 13 5 5,
 oM 14 2,
 oC 15 238 ([.t 12, .t 13, .t 14, .c (.int .i64 4)]),
 o 16 (.field 3 1 false (.t 15)),
 oN 17 16,
 o 18 (.mov (.c zI))] false)
 (.block 0 (.loop Qnb Q1n3)))
 (.seq (.reg [oM 29 9,
 oM 8 29] false)
 (.ret))))
def Kt : IFn := ⟨4, 30, [.tmp 8], false, Kt_c⟩
def Kb_c : IR :=
 .seq (.reg [o 3 (.box 5 (.t 1)),
 o 4 (.zero zL8)] false)
 (.seq (.reg [oM 5 0,
 oL 6 5 3,
 oC 7 215 ([.t 5, .t 6])] false)
 (.seq (.reg [oM 8 0,
 oL 9 5 3,
 oD 10 239 ([.t 8, .t 9, sA20]) [0, 1],
 oM 11 0,
 oL 12 5 3,
 oD 13 239 ([.t 11, .t 12, sA9]) (rg 0 5),
 oM 14 0,
 oM 15 0,
 oL 16 5 3,
 oD 17 219 ([.t 15, .t 16, sA33]) (rg 0 6 ++ [7, 8]),
 oD 18 275 ([.t 14, .t 17]) (rg 0 10),
 oM 19 0,
 oM 20 0,
 oL 21 5 3,
 oD 22 219 ([.t 20, .t 21, sA11]) (rg 0 11 ++ [12, 13]),
 oD 23 275 ([.t 19, .t 22]) (rg 0 15),
 oM 24 0,
 oL 25 5 3,
 oM 26 0,
 ob 27 (.mkfn 277 [.t 26] []) [18],
 oD 28 276 ([.t 24, .t 25, sA12, .t 27]) (rg 0 20),
 oM 29 0,
 oL 30 5 3,
 oM 31 0,
 ob 32 (.mkfn 277 [.t 31] []) [23],
 oD 33 276 ([.t 29, .t 30, sA37, .t 32]) (rg 0 25),
 oM 34 0,
 oL 35 5 3,
 oM 36 0,
 ob 37 (.mkfn 277 [.t 36] []) [28],
 oD 38 276 ([.t 34, .t 35, sA43, .t 37]) (rg 0 30),
 ob 39 (.build zL8 [(0, 1, .t 10), (1, 1, .t 13), (2, 3, .t 18), (5, 3, .t 23), (8, 1, .t 28), (9, 1, .t 33), (10, 1, .t 38)]) (rg 0 31),
 ⟨none, none, .store 11 (.t 4) (.t 39), (rg 0 32)⟩] true)
 (.ret)))
def Kb : IFn := ⟨2, 40, [.cell 4 11 true], false, Kb_c⟩
def Qnc : List Nat := [100077, 3, 9, 16, 17, 18]
def Q1n4 : IR :=
 .seq (.reg [o 19 (.bin .lss (.t 18) (.t 17))] false)
 (.seq (.cond (.t 19) (.skip)
 (.exit 0))
 (.seq (.block 1 (.seq (.reg [oI 20 5 16 18,
 oL 21 5 20,
 o 11 (.zero zL1),
 oS 5 11 21] false)
 (.reg [oM 22 9,
 oM 23 3,
 oL 24 5 11,
 o 25 (.call false (.t 23) [.t 24]),
 o 26 (.lit 3 1 [zS, zI, .ns 1] [(0, .t 25)]),
 oJ 27 3 48 22 26,
 oM 9 27] false)))
 (.reg [oA 28 18,
 oM 18 28] false)))
def Ku_c : IR :=
 .seq (.reg [o 5 (.box 5 (.t 1)),
 o 8 (.mov (.c (.ns 3)))] false)
 (.seq (.reg [o 9 (.mov (.c (.ns 3)))] false)
 (.seq (.seq (.reg [oM 12 0,
 oL 13 5 5,
 oM 14 2,
 oC 15 238 ([.t 12, .t 13, .t 14, .c (.int .i64 4)]),
 o 16 (.field 3 1 false (.t 15)),
 oN 17 16,
 o 18 (.mov (.c zI))] false)
 (.block 0 (.loop Qnc Q1n4)))
 (.seq (.reg [oM 29 9,
 oM 8 29] false)
 (.ret))))
def Ku : IFn := ⟨4, 30, [.tmp 8], false, Ku_c⟩
def Kj_c : IR :=
 .seq (.reg [o 3 (.box 5 (.t 1)),
 o 4 (.zero [zS, zI, .ns 1])] false)
 (.seq (.reg [oM 5 0,
 oL 6 5 3,
 oC 7 215 ([.t 5, .t 6])] false)
 (.seq (.reg [oM 8 0,
 oL 9 5 3,
 oD 10 239 ([.t 8, .t 9, sA10]) [0, 1],
 oM 11 0,
 oL 12 5 3,
 oD 13 240 ([.t 11, .t 12, sA22]) (rg 0 5),
 oM 14 0,
 oL 15 5 3,
 oM 16 0,
 ob 17 (.mkfn 279 [.t 16] []) [8],
 oD 18 278 ([.t 14, .t 15, sA51, .t 17]) (rg 0 10),
 ob 19 (.build [zS, zI, .ns 1] [(0, 1, .t 10), (1, 1, .t 13), (2, 1, .t 18)]) (rg 0 11),
 ⟨none, none, .store 3 (.t 4) (.t 19), (rg 0 12)⟩] true)
 (.ret)))
def Kj : IFn := ⟨2, 20, [.cell 4 3 true], false, Kj_c⟩
def Qnd : List Nat := [100078, 3, 9, 16, 17, 18]
def Q1n5 : IR :=
 .seq (.reg [o 19 (.bin .lss (.t 18) (.t 17))] false)
 (.seq (.cond (.t 19) (.skip)
 (.exit 0))
 (.seq (.block 1 (.seq (.reg [oI 20 5 16 18,
 oL 21 5 20,
 o 11 (.zero zL1),
 oS 5 11 21] false)
 (.reg [oM 22 9,
 oM 23 3,
 oL 24 5 11,
 o 25 (.call false (.t 23) [.t 24]),
 o 26 (.lit 3 1 [zB, .ns 3, zI] [(0, .t 25)]),
 oJ 27 3 40 22 26,
 oM 9 27] false)))
 (.reg [oA 28 18,
 oM 18 28] false)))
def Kv_c : IR :=
 .seq (.reg [o 5 (.box 5 (.t 1)),
 o 8 (.mov (.c (.ns 3)))] false)
 (.seq (.reg [o 9 (.mov (.c (.ns 3)))] false)
 (.seq (.seq (.reg [oM 12 0,
 oL 13 5 5,
 oM 14 2,
 oC 15 238 ([.t 12, .t 13, .t 14, .c (.int .i64 4)]),
 o 16 (.field 3 1 false (.t 15)),
 oN 17 16,
 o 18 (.mov (.c zI))] false)
 (.block 0 (.loop Qnd Q1n5)))
 (.seq (.reg [oM 29 9,
 oM 8 29] false)
 (.ret))))
def Kv : IFn := ⟨4, 30, [.tmp 8], false, Kv_c⟩
def Kf_c : IR :=
 .seq (.reg [o 3 (.box 5 (.t 1)),
 o 4 (.zero [zB, .ns 3, zI])] false)
 (.seq (.reg [oM 5 0,
 oL 6 5 3,
 oC 7 215 ([.t 5, .t 6])] false)
 (.seq (.reg [oM 8 0,
 oL 9 5 3,
 oD 10 280 ([.t 8, .t 9, sA34]) [0, 1],
 oM 11 0,
 oL 12 5 3,
 oM 13 0,
 ob 14 (.mkfn 244 [.t 13] []) [5],
 oD 15 243 ([.t 11, .t 12, sA38, .t 14]) (rg 0 7),
 oM 16 0,
 oL 17 5 3,
 oD 18 240 ([.t 16, .t 17, sA53]) (rg 0 10),
 ob 19 (.build [zB, .ns 3, zI] [(0, 1, .t 10), (1, 1, .t 15), (2, 1, .t 18)]) (rg 0 11),
 ⟨none, none, .store 3 (.t 4) (.t 19), (rg 0 12)⟩] true)
 (.ret)))
def Kf : IFn := ⟨2, 20, [.cell 4 3 true], false, Kf_c⟩
def Qne : List Nat := [100079, 3, 9, 16, 17, 18]
def Q1n6 : IR :=
 .seq (.reg [o 19 (.bin .lss (.t 18) (.t 17))] false)
 (.seq (.cond (.t 19) (.skip)
 (.exit 0))
 (.seq (.block 1 (.seq (.reg [oI 20 5 16 18,
 oL 21 5 20,
 o 11 (.zero zL1),
 oS 5 11 21] false)
 (.reg [oM 22 9,
 oM 23 3,
 oL 24 5 11,
 o 25 (.call false (.t 23) [.t 24]),
 o 26 (.lit 5 1 [zB, zB, .ns 3, zS, zI] [(0, .t 25)]),
 oJ 27 5 56 22 26,
 oM 9 27] false)))
 (.reg [oA 28 18,
 oM 18 28] false)))
def Kw_c : IR :=
 .seq (.reg [o 5 (.box 5 (.t 1)),
 o 8 (.mov (.c (.ns 5)))] false)
 (.seq (.reg [o 9 (.mov (.c (.ns 5)))] false)
 (.seq (.seq (.reg [oM 12 0,
 oL 13 5 5,
 oM 14 2,
 oC 15 238 ([.t 12, .t 13, .t 14, .c (.int .i64 4)]),
 o 16 (.field 3 1 false (.t 15)),
 oN 17 16,
 o 18 (.mov (.c zI))] false)
 (.block 0 (.loop Qne Q1n6)))
 (.seq (.reg [oM 29 9,
 oM 8 29] false)
 (.ret))))
def Kw : IFn := ⟨4, 30, [.tmp 8], false, Kw_c⟩
def Kh_c : IR :=
 .seq (.reg [o 3 (.box 5 (.t 1)),
 o 4 (.zero [zB, zB, .ns 3, zS, zI])] false)
 (.seq (.reg [oM 5 0,
 oL 6 5 3,
 oC 7 215 ([.t 5, .t 6])] false)
 (.seq (.reg [oM 8 0,
 oL 9 5 3,
 oD 10 280 ([.t 8, .t 9, sA34]) [0, 1],
 oM 11 0,
 oL 12 5 3,
 oD 13 280 ([.t 11, .t 12, sA59]) (rg 0 5),
 oM 14 0,
 oL 15 5 3,
 oM 16 0,
 ob 17 (.mkfn 244 [.t 16] []) [8],
 oD 18 243 ([.t 14, .t 15, sA38, .t 17]) (rg 0 10),
 oM 19 0,
 oL 20 5 3,
 oD 21 239 ([.t 19, .t 20, sA47]) (rg 0 13),
 oM 22 0,
 oL 23 5 3,
 oD 24 240 ([.t 22, .t 23, sA53]) (rg 0 16),
 ob 25 (.build [zB, zB, .ns 3, zS, zI] [(0, 1, .t 10), (1, 1, .t 13), (2, 1, .t 18), (3, 1, .t 21), (4, 1, .t 24)]) (rg 0 17),
 ⟨none, none, .store 5 (.t 4) (.t 25), (rg 0 18)⟩] true)
 (.ret)))
def Kh : IFn := ⟨2, 26, [.cell 4 5 true], false, Kh_c⟩
def Qnf : List Nat := [100080, 3, 9, 16, 17, 18]
def Q1n7 : IR :=
 .seq (.reg [o 19 (.bin .lss (.t 18) (.t 17))] false)
 (.seq (.cond (.t 19) (.skip)
 (.exit 0))
 (.seq (.block 1 (.seq (.reg [oI 20 5 16 18,
 oL 21 5 20,
 o 11 (.zero zL1),
 oS 5 11 21] false)
 (.reg [oM 22 9,
 oM 23 3,
 oL 24 5 11,
 o 25 (.call false (.t 23) [.t 24]),
 o 26 (.lit 4 1 [zI, zS, .ns 3, zB] [(0, .t 25)]),
 oJ 27 4 56 22 26,
 oM 9 27] false)))
 (.reg [oA 28 18,
 oM 18 28] false)))
def Kx_c : IR :=
 .seq (.reg [o 5 (.box 5 (.t 1)),
 o 8 (.mov (.c (.ns 4)))] false)
 (.seq (.reg [o 9 (.mov (.c (.ns 4)))] false)
 (.seq (.seq (.reg [oM 12 0,
 oL 13 5 5,
 oM 14 2,
 oC 15 238 ([.t 12, .t 13, .t 14, .c (.int .i64 4)]),
 o 16 (.field 3 1 false (.t 15)),
 oN 17 16,
 o 18 (.mov (.c zI))] false)
 (.block 0 (.loop Qnf Q1n7)))
 (.seq (.reg [oM 29 9,
 oM 8 29] false)
 (.ret))))
def Kx : IFn := ⟨4, 30, [.tmp 8], false, Kx_c⟩
def Km_c : IR :=
 .seq (.reg [o 3 (.box 5 (.t 1)),
 o 4 (.zero [zI, zS, .ns 3, zB])] false)
 (.seq (.reg [oM 5 0,
 oL 6 5 3,
 oC 7 215 ([.t 5, .t 6])] false)
 (.seq (.reg [oM 8 0,
 oL 9 5 3,
 oD 10 240 ([.t 8, .t 9, sA16]) [0, 1],
 oM 11 0,
 oL 12 5 3,
 oD 13 239 ([.t 11, .t 12, sA47]) (rg 0 5),
 oM 14 0,
 oL 15 5 3,
 oM 16 0,
 ob 17 (.mkfn 244 [.t 16] []) [8],
 oD 18 243 ([.t 14, .t 15, sA38, .t 17]) (rg 0 10),
 oM 19 0,
 oL 20 5 3,
 oD 21 280 ([.t 19, .t 20, sA34]) (rg 0 13),
 ob 22 (.build [zI, zS, .ns 3, zB] [(0, 1, .t 10), (1, 1, .t 13), (2, 1, .t 18), (3, 1, .t 21)]) (rg 0 14),
 ⟨none, none, .store 4 (.t 4) (.t 22), (rg 0 15)⟩] true)
 (.ret)))
def Km : IFn := ⟨2, 23, [.cell 4 4 true], false, Km_c⟩
def Qng : List Nat := [100081, 3, 9, 16, 17, 18]
def Q1n8 : IR :=
 .seq (.reg [o 19 (.bin .lss (.t 18) (.t 17))] false)
 (.seq (.cond (.t 19) (.skip)
 (.exit 0))
 (.seq (.block 1 (.seq (.reg [oI 20 5 16 18,
 oL 21 5 20,
 o 11 (.zero zL1),
 oS 5 11 21] false)
 (.reg [oM 22 9,
 oM 23 3,
 oL 24 5 11,
 o 25 (.call false (.t 23) [.t 24]),
 o 26 (.lit 5 1 [zS, zS, zB, zI, zI] [(0, .t 25)]),
 oJ 27 5 56 22 26,
 oM 9 27] false)))
 (.reg [oA 28 18,
 oM 18 28] false)))
def Ky_c : IR :=
 .seq (.reg [o 5 (.box 5 (.t 1)),
 o 8 (.mov (.c (.ns 5)))] false)
 (.seq (.reg [o 9 (.mov (.c (.ns 5)))] false)
 (.seq (.seq (.reg [oM 12 0,
 oL 13 5 5,
 oM 14 2,
 oC 15 238 ([.t 12, .t 13, .t 14, .c (.int .i64 4)]),
 o 16 (.field 3 1 false (.t 15)),
 oN 17 16,
 o 18 (.mov (.c zI))] false)
 (.block 0 (.loop Qng Q1n8)))
 (.seq (.reg [oM 29 9,
 oM 8 29] false)
 (.ret))))
def Ky : IFn := ⟨4, 30, [.tmp 8], false, Ky_c⟩
def Kr_c : IR :=
 .seq (.reg [o 3 (.box 5 (.t 1)),
 o 4 (.zero [zS, zS, zB, zI, zI])] false)
 (.seq (.reg [oM 5 0,
 oL 6 5 3,
 oC 7 215 ([.t 5, .t 6])] false)
 (.seq (.reg [oM 8 0,
 oL 9 5 3,
 oD 10 239 ([.t 8, .t 9, sA10]) [0, 1],
 oM 11 0,
 oL 12 5 3,
 oD 13 239 ([.t 11, .t 12, sA52]) (rg 0 5),
 oM 14 0,
 oL 15 5 3,
 oD 16 280 ([.t 14, .t 15, sA3]) (rg 0 8),
 oM 17 0,
 oL 18 5 3,
 oD 19 240 ([.t 17, .t 18, sA2]) (rg 0 11),
 oM 20 0,
 oL 21 5 3,
 oD 22 240 ([.t 20, .t 21, sA39]) (rg 0 14),
 ob 23 (.build [zS, zS, zB, zI, zI] [(0, 1, .t 10), (1, 1, .t 13), (2, 1, .t 16), (3, 1, .t 19), (4, 1, .t 22)]) (rg 0 15),
 ⟨none, none, .store 5 (.t 4) (.t 23), (rg 0 16)⟩] true)
 (.ret)))
def Kr : IFn := ⟨2, 24, [.cell 4 5 true], false, Kr_c⟩
def Qjl : List Nat := [100083, 0, 1, 2, 3, 8, 9]
def Q1gk : IR :=
 .seq (.seq (.reg [oM 18 9,
 oM 19 1,
 ob 20 (.bin .gtr (.t 18) (.t 19)) [0, 1],
 ob 21 (.mov (.t 20)) [0, 1, 2],
 ⟨(some 22), (some (21, true)), .mov (.t 3), [0, 1, 2, 3]⟩,
 ⟨(some 23), (some (21, true)), .mov (.t 0), [0, 1, 2, 3]⟩,
 ⟨(some 24), (some (21, true)), .mov (.t 9), [0, 1, 2, 3]⟩,
 ⟨(some 25), (some (21, true)), .iaddr 6 (.t 23) (.t 24), (rg 0 4 ++ [5, 6])⟩,
 ⟨(some 26), (some (21, true)), .load 6 true (.t 25), (rg 0 4 ++ [5, 6, 7])⟩,
 ⟨(some 27), (some (21, true)), .mov (.t 0), [0, 1, 2, 3]⟩,
 ⟨(some 28), (some (21, true)), .mov (.t 9), [0, 1, 2, 3]⟩,
 ⟨(some 29), (some (21, true)), .bin .sub (.t 28) (.c (.int .i64 1)), (rg 0 4 ++ [10])⟩,
 ⟨(some 30), (some (21, true)), .iaddr 6 (.t 27) (.t 29), (rg 0 4 ++ [9, 10, 11])⟩,
 ⟨(some 31), (some (21, true)), .load 6 true (.t 30), (rg 0 4 ++ rg 9 13)⟩,
 ⟨(some 32), (some (21, true)), .call false (.t 22) [.t 26, .t 31], (rg 0 14)⟩,
 ⟨(some 33), (some (21, true)), .bin .lss (.t 32) (.c zI), (rg 0 15)⟩,
 ob 34 (.pick (.t 21) (.t 33) (.c zB)) (rg 0 16)] true)
 (.cond (.t 34) (.skip)
 (.exit 2)))
 (.seq (.block 3 (.reg [oM 37 0,
 oM 38 9,
 oM 39 0,
 oM 40 9,
 ob 41 (.bin .sub (.t 40) (.c (.int .i64 1))) [3],
 oM 42 0,
 oM 43 9,
 ob 44 (.bin .sub (.t 43) (.c (.int .i64 1))) [6],
 ob 45 (.iaddr 6 (.t 42) (.t 44)) [5, 6, 7],
 ob 46 (.load 6 true (.t 45)) [5, 6, 7, 8],
 oM 47 0,
 oM 48 9,
 ob 49 (.iaddr 6 (.t 47) (.t 48)) [10, 11],
 ob 50 (.load 6 true (.t 49)) [10, 11, 12],
 ob 51 (.iaddr 6 (.t 37) (.t 38)) ([0, 1] ++ rg 5 14),
 ⟨none, none, .store 6 (.t 51) (.t 46), ([0, 1] ++ rg 5 15)⟩,
 ob 52 (.iaddr 6 (.t 39) (.t 41)) (rg 0 16),
 ⟨none, none, .store 6 (.t 52) (.t 50), (rg 0 17)⟩] true))
 (.reg [oM 35 9,
 o 36 (.bin .sub (.t 35) (.c (.int .i64 1))),
 oM 9 36] false))
def Qjk : List Nat := [100082, 0, 1, 2, 3, 8]
def Q1gj : IR :=
 .seq (.seq (.reg [oM 12 8,
 oM 13 2,
 o 14 (.bin .lss (.t 12) (.t 13))] false)
 (.cond (.t 14) (.skip)
 (.exit 0)))
 (.seq (.block 1 (.seq (.reg [oM 17 8,
 oM 9 17] false)
 (.block 2 (.loop Qjl Q1gk))))
 (.reg [oM 15 8,
 oA 16 15,
 oM 8 16] false))
def Q1uj : IR :=
 .seq (.reg [oM 10 1,
 oA 11 10,
 oM 8 11] false)
 (.block 0 (.loop Qjk Q1gj))
def K4t : IFn := ⟨4, 53, [], false, Q1uj⟩
def Q1up : IR :=
 .seq (.reg [o 2 (.zero zL1)] false)
 (.seq (.reg [oM 3 0,
 o 4 (.build zL1 [(0, 1, .c (.int .i64 4)), (3, 1, .t 3)]),
 oC 5 189 ([.t 4]),
 oS 5 2 5] false)
 (.ret))
def K4z : IFn := ⟨1, 6, [.cell 2 5 true], false, Q1up⟩
def Qit : List Nat := [100084, 1, 4, 5, 8, 9, 10]
def Q1fs : IR :=
 .seq (.reg [o 11 (.bin .lss (.t 10) (.t 9))] false)
 (.seq (.cond (.t 11) (.skip)
 (.exit 0))
 (.seq (.block 1 (.seq (.reg [oI 12 11 8 10,
 oL 13 11 12,
 o 7 (.zero zL8),
 oS 11 7 13] false)
 (.reg [oM 14 5,
 oM 15 1,
 oL 16 11 7,
 o 17 (.call false (.t 15) [.t 16]),
 o 18 (.lit 5 1 zL1 [(0, .t 17)]),
 oJ 19 5 80 14 18,
 oM 5 19] false)))
 (.reg [oA 20 10,
 oM 10 20] false)))
def Q1t6 : IR :=
 .seq (.reg [o 4 (.zero zL1)] false)
 (.seq (.reg [o 5 (.mov (.c (.ns 5)))] false)
 (.seq (.seq (.reg [oM 8 0,
 oN 9 8,
 o 10 (.mov (.c zI))] false)
 (.block 0 (.loop Qit Q1fs)))
 (.seq (.reg [oM 21 5,
 oC 22 256 ([.t 21]),
 oS 5 4 22] false)
 (.ret))))
def K1d : IFn := ⟨2, 23, [.cell 4 5 true], false, Q1t6⟩
def Q1su : IR :=
 .seq (.reg [o 1 (.box 11 (.t 0)),
 o 2 (.zero zL1)] false)
 (.seq (.reg [oF 3 1 1,
 oE 4 1 3 [0],
 oD 5 193 ([.t 4]) [0, 1],
 oD 6 226 ([sA9, .t 5]) [0, 1, 2],
 oF 7 5 1,
 ob 8 (.load 3 true (.t 7)) [4],
 oD 9 282 ([.t 8]) (rg 0 6),
 oD 10 226 ([sA11, .t 9]) (rg 0 7),
 oF 11 8 1,
 oE 12 1 11 [8],
 oD 13 283 ([.t 12, .f 284]) (rg 0 10),
 oD 14 226 ([sA12, .t 13]) (rg 0 11),
 oF 15 0 1,
 oE 16 1 15 [12],
 oD 17 193 ([.t 16]) (rg 0 14),
 oD 18 226 ([sA20, .t 17]) (rg 0 15),
 oF 19 9 1,
 oE 20 1 19 [16],
 oD 21 283 ([.t 20, .f 284]) (rg 0 18),
 oD 22 226 ([sA37, .t 21]) (rg 0 19),
 oF 23 2 1,
 ob 24 (.load 3 true (.t 23)) [20],
 oD 25 282 ([.t 24]) (rg 0 22),
 oD 26 226 ([sA33, .t 25]) (rg 0 23),
 oF 27 10 1,
 oE 28 1 27 [24],
 oD 29 283 ([.t 28, .f 284]) (rg 0 26),
 oD 30 226 ([sA43, .t 29]) (rg 0 27),
 ob 31 (.lit 6 7 zL0 [(0, .t 6), (1, .t 10), (2, .t 14), (3, .t 18), (4, .t 22), (5, .t 26), (6, .t 30)]) (rg 0 28),
 oD 32 78 ([.t 31]) (rg 0 29),
 ⟨none, none, .store 5 (.t 2) (.t 32), (rg 0 30)⟩] true)
 (.ret))
def K11 : IFn := ⟨1, 33, [.cell 2 5 true], false, Q1su⟩
def Qiu : List Nat := [100085, 1, 4, 5, 8, 9, 10]
def Q1ft : IR :=
 .seq (.reg [o 11 (.bin .lss (.t 10) (.t 9))] false)
 (.seq (.cond (.t 11) (.skip)
 (.exit 0))
 (.seq (.block 1 (.seq (.reg [oI 12 3 8 10,
 oL 13 3 12,
 o 7 (.zero [zS, zI, .ns 1]),
 oS 3 7 13] false)
 (.reg [oM 14 5,
 oM 15 1,
 oL 16 3 7,
 o 17 (.call false (.t 15) [.t 16]),
 o 18 (.lit 5 1 zL1 [(0, .t 17)]),
 oJ 19 5 80 14 18,
 oM 5 19] false)))
 (.reg [oA 20 10,
 oM 10 20] false)))
def Q1t7 : IR :=
 .seq (.reg [o 4 (.zero zL1)] false)
 (.seq (.reg [o 5 (.mov (.c (.ns 5)))] false)
 (.seq (.seq (.reg [oM 8 0,
 oN 9 8,
 o 10 (.mov (.c zI))] false)
 (.block 0 (.loop Qiu Q1ft)))
 (.seq (.reg [oM 21 5,
 oC 22 256 ([.t 21]),
 oS 5 4 22] false)
 (.ret))))
def K1e : IFn := ⟨2, 23, [.cell 4 5 true], false, Q1t7⟩
def Q1sz : IR :=
 .seq (.reg [o 1 (.box 3 (.t 0)),
 o 2 (.zero zL1)] false)
 (.seq (.reg [oF 3 0 1,
 oE 4 1 3 [0],
 oD 5 193 ([.t 4]) [0, 1],
 oD 6 226 ([sA10, .t 5]) [0, 1, 2],
 oF 7 1 1,
 oE 8 1 7 [4],
 oD 9 109 ([.t 8]) (rg 0 6),
 oD 10 226 ([sA22, .t 9]) (rg 0 7),
 oF 11 2 1,
 oE 12 1 11 [8],
 oD 13 285 ([.t 12, .f 193]) (rg 0 10),
 oD 14 226 ([sA51, .t 13]) (rg 0 11),
 ob 15 (.lit 6 3 zL0 [(0, .t 6), (1, .t 10), (2, .t 14)]) (rg 0 12),
 oD 16 78 ([.t 15]) (rg 0 13),
 ⟨none, none, .store 5 (.t 2) (.t 16), (rg 0 14)⟩] true)
 (.ret))
def K16 : IFn := ⟨1, 17, [.cell 2 5 true], false, Q1sz⟩
def Qiv : List Nat := [100086, 1, 4, 5, 8, 9, 10]
def Q1fu : IR :=
 .seq (.reg [o 11 (.bin .lss (.t 10) (.t 9))] false)
 (.seq (.cond (.t 11) (.skip)
 (.exit 0))
 (.seq (.block 1 (.seq (.reg [oI 12 3 8 10,
 oL 13 3 12,
 o 7 (.zero [zB, .ns 3, zI]),
 oS 3 7 13] false)
 (.reg [oM 14 5,
 oM 15 1,
 oL 16 3 7,
 o 17 (.call false (.t 15) [.t 16]),
 o 18 (.lit 5 1 zL1 [(0, .t 17)]),
 oJ 19 5 80 14 18,
 oM 5 19] false)))
 (.reg [oA 20 10,
 oM 10 20] false)))
def Q1t8 : IR :=
 .seq (.reg [o 4 (.zero zL1)] false)
 (.seq (.reg [o 5 (.mov (.c (.ns 5)))] false)
 (.seq (.seq (.reg [oM 8 0,
 oN 9 8,
 o 10 (.mov (.c zI))] false)
 (.block 0 (.loop Qiv Q1fu)))
 (.seq (.reg [oM 21 5,
 oC 22 256 ([.t 21]),
 oS 5 4 22] false)
 (.ret))))
def K1f : IFn := ⟨2, 23, [.cell 4 5 true], false, Q1t8⟩
def Q1sw : IR :=
 .seq (.reg [o 1 (.box 3 (.t 0)),
 o 2 (.zero zL1)] false)
 (.seq (.reg [oF 3 0 1,
 oE 4 1 3 [0],
 oD 5 192 ([.t 4]) [0, 1],
 oD 6 226 ([sA34, .t 5]) [0, 1, 2],
 oF 7 1 1,
 oE 8 1 7 [4],
 oD 9 259 ([.t 8, .f 260]) (rg 0 6),
 oD 10 226 ([sA38, .t 9]) (rg 0 7),
 oF 11 2 1,
 oE 12 1 11 [8],
 oD 13 109 ([.t 12]) (rg 0 10),
 oD 14 226 ([sA53, .t 13]) (rg 0 11),
 ob 15 (.lit 6 3 zL0 [(0, .t 6), (1, .t 10), (2, .t 14)]) (rg 0 12),
 oD 16 78 ([.t 15]) (rg 0 13),
 ⟨none, none, .store 5 (.t 2) (.t 16), (rg 0 14)⟩] true)
 (.ret))
def K13 : IFn := ⟨1, 17, [.cell 2 5 true], false, Q1sw⟩
def Qiw : List Nat := [100087, 1, 4, 5, 8, 9, 10]
def Q1fv : IR :=
 .seq (.reg [o 11 (.bin .lss (.t 10) (.t 9))] false)
 (.seq (.cond (.t 11) (.skip)
 (.exit 0))
 (.seq (.block 1 (.seq (.reg [oI 12 5 8 10,
 oL 13 5 12,
 o 7 (.zero [zB, zB, .ns 3, zS, zI]),
 oS 5 7 13] false)
 (.reg [oM 14 5,
 oM 15 1,
 oL 16 5 7,
 o 17 (.call false (.t 15) [.t 16]),
 o 18 (.lit 5 1 zL1 [(0, .t 17)]),
 oJ 19 5 80 14 18,
 oM 5 19] false)))
 (.reg [oA 20 10,
 oM 10 20] false)))
def Q1t9 : IR :=
 .seq (.reg [o 4 (.zero zL1)] false)
 (.seq (.reg [o 5 (.mov (.c (.ns 5)))] false)
 (.seq (.seq (.reg [oM 8 0,
 oN 9 8,
 o 10 (.mov (.c zI))] false)
 (.block 0 (.loop Qiw Q1fv)))
 (.seq (.reg [oM 21 5,
 oC 22 256 ([.t 21]),
 oS 5 4 22] false)
 (.ret))))
def K1g : IFn := ⟨2, 23, [.cell 4 5 true], false, Q1t9⟩
def Q1sx : IR :=
 .seq (.reg [o 1 (.box 5 (.t 0)),
 o 2 (.zero zL1)] false)
 (.seq (.reg [oF 3 1 1,
 oE 4 1 3 [0],
 oD 5 192 ([.t 4]) [0, 1],
 oD 6 226 ([sA59, .t 5]) [0, 1, 2],
 oF 7 0 1,
 oE 8 1 7 [4],
 oD 9 192 ([.t 8]) (rg 0 6),
 oD 10 226 ([sA34, .t 9]) (rg 0 7),
 oF 11 2 1,
 oE 12 1 11 [8],
 oD 13 259 ([.t 12, .f 260]) (rg 0 10),
 oD 14 226 ([sA38, .t 13]) (rg 0 11),
 oF 15 3 1,
 oE 16 1 15 [12],
 oD 17 193 ([.t 16]) (rg 0 14),
 oD 18 226 ([sA47, .t 17]) (rg 0 15),
 oF 19 4 1,
 oE 20 1 19 [16],
 oD 21 109 ([.t 20]) (rg 0 18),
 oD 22 226 ([sA53, .t 21]) (rg 0 19),
 ob 23 (.lit 6 5 zL0 [(0, .t 6), (1, .t 10), (2, .t 14), (3, .t 18), (4, .t 22)]) (rg 0 20),
 oD 24 78 ([.t 23]) (rg 0 21),
 ⟨none, none, .store 5 (.t 2) (.t 24), (rg 0 22)⟩] true)
 (.ret))
def K14 : IFn := ⟨1, 25, [.cell 2 5 true], false, Q1sx⟩
def Qix : List Nat := [100088, 1, 4, 5, 8, 9, 10]
def Q1fw : IR :=
 .seq (.reg [o 11 (.bin .lss (.t 10) (.t 9))] false)
 (.seq (.cond (.t 11) (.skip)
 (.exit 0))
 (.seq (.block 1 (.seq (.reg [oI 12 4 8 10,
 oL 13 4 12,
 o 7 (.zero [zI, zS, .ns 3, zB]),
 oS 4 7 13] false)
 (.reg [oM 14 5,
 oM 15 1,
 oL 16 4 7,
 o 17 (.call false (.t 15) [.t 16]),
 o 18 (.lit 5 1 zL1 [(0, .t 17)]),
 oJ 19 5 80 14 18,
 oM 5 19] false)))
 (.reg [oA 20 10,
 oM 10 20] false)))
def Q1ta : IR :=
 .seq (.reg [o 4 (.zero zL1)] false)
 (.seq (.reg [o 5 (.mov (.c (.ns 5)))] false)
 (.seq (.seq (.reg [oM 8 0,
 oN 9 8,
 o 10 (.mov (.c zI))] false)
 (.block 0 (.loop Qix Q1fw)))
 (.seq (.reg [oM 21 5,
 oC 22 256 ([.t 21]),
 oS 5 4 22] false)
 (.ret))))
def K1h : IFn := ⟨2, 23, [.cell 4 5 true], false, Q1ta⟩
def Q1t2 : IR :=
 .seq (.reg [o 1 (.box 4 (.t 0)),
 o 2 (.zero zL1)] false)
 (.seq (.reg [oF 3 0 1,
 oE 4 1 3 [0],
 oD 5 109 ([.t 4]) [0, 1],
 oD 6 226 ([sA16, .t 5]) [0, 1, 2],
 oF 7 3 1,
 oE 8 1 7 [4],
 oD 9 192 ([.t 8]) (rg 0 6),
 oD 10 226 ([sA34, .t 9]) (rg 0 7),
 oF 11 2 1,
 oE 12 1 11 [8],
 oD 13 259 ([.t 12, .f 260]) (rg 0 10),
 oD 14 226 ([sA38, .t 13]) (rg 0 11),
 oF 15 1 1,
 oE 16 1 15 [12],
 oD 17 193 ([.t 16]) (rg 0 14),
 oD 18 226 ([sA47, .t 17]) (rg 0 15),
 ob 19 (.lit 6 4 zL0 [(0, .t 6), (1, .t 10), (2, .t 14), (3, .t 18)]) (rg 0 16),
 oD 20 78 ([.t 19]) (rg 0 17),
 ⟨none, none, .store 5 (.t 2) (.t 20), (rg 0 18)⟩] true)
 (.ret))
def K19 : IFn := ⟨1, 21, [.cell 2 5 true], false, Q1t2⟩
def Qiy : List Nat := [100089, 1, 4, 5, 8, 9, 10]
def Q1fx : IR :=
 .seq (.reg [o 11 (.bin .lss (.t 10) (.t 9))] false)
 (.seq (.cond (.t 11) (.skip)
 (.exit 0))
 (.seq (.block 1 (.seq (.reg [oI 12 5 8 10,
 oL 13 5 12,
 o 7 (.zero [zS, zS, zB, zI, zI]),
 oS 5 7 13] false)
 (.reg [oM 14 5,
 oM 15 1,
 oL 16 5 7,
 o 17 (.call false (.t 15) [.t 16]),
 o 18 (.lit 5 1 zL1 [(0, .t 17)]),
 oJ 19 5 80 14 18,
 oM 5 19] false)))
 (.reg [oA 20 10,
 oM 10 20] false)))
def Q1tb : IR :=
 .seq (.reg [o 4 (.zero zL1)] false)
 (.seq (.reg [o 5 (.mov (.c (.ns 5)))] false)
 (.seq (.seq (.reg [oM 8 0,
 oN 9 8,
 o 10 (.mov (.c zI))] false)
 (.block 0 (.loop Qiy Q1fx)))
 (.seq (.reg [oM 21 5,
 oC 22 256 ([.t 21]),
 oS 5 4 22] false)
 (.ret))))
def K1i : IFn := ⟨2, 23, [.cell 4 5 true], false, Q1tb⟩
def Q1t3 : IR :=
 .seq (.reg [o 1 (.box 5 (.t 0)),
 o 2 (.zero zL1)] false)
 (.seq (.reg [oF 3 3 1,
 oE 4 1 3 [0],
 oD 5 109 ([.t 4]) [0, 1],
 oD 6 226 ([sA2, .t 5]) [0, 1, 2],
 oF 7 2 1,
 oE 8 1 7 [4],
 oD 9 192 ([.t 8]) (rg 0 6),
 oD 10 226 ([sA3, .t 9]) (rg 0 7),
 oF 11 0 1,
 oE 12 1 11 [8],
 oD 13 193 ([.t 12]) (rg 0 10),
 oD 14 226 ([sA10, .t 13]) (rg 0 11),
 oF 15 4 1,
 oE 16 1 15 [12],
 oD 17 109 ([.t 16]) (rg 0 14),
 oD 18 226 ([sA39, .t 17]) (rg 0 15),
 oF 19 1 1,
 oE 20 1 19 [16],
 oD 21 193 ([.t 20]) (rg 0 18),
 oD 22 226 ([sA52, .t 21]) (rg 0 19),
 ob 23 (.lit 6 5 zL0 [(0, .t 6), (1, .t 10), (2, .t 14), (3, .t 18), (4, .t 22)]) (rg 0 20),
 oD 24 78 ([.t 23]) (rg 0 21),
 ⟨none, none, .store 5 (.t 2) (.t 24), (rg 0 22)⟩] true)
 (.ret))
def K1a : IFn := ⟨1, 25, [.cell 2 5 true], false, Q1t3⟩
def Qjf : List Nat := [100095, 0, 2, 3, 4]
def Q1ge : IR :=
 .seq (.seq (.reg [oM 5 4,
 oM 6 0,
 oN 7 6,
 o 8 (.bin .lss (.t 5) (.t 7))] false)
 (.cond (.t 8) (.skip)
 (.exit 0)))
 (.seq (.block 1 (.reg [oM 11 3,
 oM 12 0,
 oM 13 4,
 ob 14 (.iaddr 4 (.t 12) (.t 13)) [1, 2],
 ob 15 (.faddr 0 (.t 14)) [1, 2, 3],
 oE 16 1 15 [1, 2, 3, 4],
 oD 17 164 ([.t 16]) (rg 1 6),
 ob 18 (.build zL0 [(0, 1, sA0), (1, 5, .t 17)]) (rg 1 7),
 oM 19 0,
 oM 20 4,
 ob 21 (.iaddr 4 (.t 19) (.t 20)) [8, 9],
 ob 22 (.faddr 1 (.t 21)) [8, 9, 10],
 oE 23 1 22 [8, 9, 10, 11],
 oD 24 164 ([.t 23]) (rg 1 7 ++ rg 8 13),
 ob 25 (.build zL0 [(0, 1, sA24), (1, 5, .t 24)]) (rg 1 7 ++ rg 8 14),
 oM 26 0,
 oM 27 4,
 ob 28 (.iaddr 4 (.t 26) (.t 27)) [15, 16],
 ob 29 (.faddr 2 (.t 28)) [15, 16, 17],
 oE 30 1 29 [15, 16, 17, 18],
 oD 31 164 ([.t 30]) (rg 1 7 ++ rg 8 14 ++ rg 15 20),
 ob 32 (.build zL0 [(0, 1, sA44), (1, 5, .t 31)]) (rg 1 7 ++ rg 8 14 ++ rg 15 21),
 oM 33 0,
 oM 34 4,
 ob 35 (.iaddr 4 (.t 33) (.t 34)) [22, 23],
 ob 36 (.faddr 3 (.t 35)) [22, 23, 24],
 oE 37 1 36 [22, 23, 24, 25],
 oD 38 164 ([.t 37]) (rg 1 7 ++ rg 8 14 ++ rg 15 21 ++ rg 22 27),
 ob 39 (.build zL0 [(0, 1, sA5), (1, 5, .t 38)]) (rg 1 7 ++ rg 8 14 ++ rg 15 21 ++ rg 22 28),
 ob 40 (.lit 6 4 zL0 [(0, .t 18), (1, .t 25), (2, .t 32), (3, .t 39)]) (rg 1 29),
 oD 41 163 ([.t 40]) (rg 1 30),
 ob 42 (.lit 5 1 zL1 [(0, .t 41)]) (rg 1 31),
 ob 43 (.append 5 80 (.t 11) (.t 42)) (rg 0 32),
 ob 3 (.mov (.t 43)) (rg 0 33)] true))
 (.reg [oM 9 4,
 oA 10 9,
 oM 4 10] false))
def Q1u3 : IR :=
 .seq (.reg [o 2 (.zero zL1)] false)
 (.seq (.reg [o 3 (.mov (.c (.ns 5)))] false)
 (.seq (.seq (.reg [o 4 (.mov (.c zI))] false)
 (.block 0 (.loop Qjf Q1ge)))
 (.seq (.reg [oM 44 3,
 o 45 (.build zL1 [(0, 1, .c (.int .i64 4)), (3, 1, .t 44)]),
 oS 5 2 45] false)
 (.ret))))
def K2n : IFn := ⟨1, 46, [.cell 2 5 true], false, Q1u3⟩
def Kk_c : IR :=
 .seq (.reg [o 3 (.box 5 (.t 1)),
 o 4 (.zero [zI, zI, zI])] false)
 (.seq (.reg [oM 5 0,
 oL 6 5 3,
 oD 7 240 ([.t 5, .t 6, sA62]) [0, 1],
 oM 8 0,
 oL 9 5 3,
 oD 10 240 ([.t 8, .t 9, sA14]) (rg 0 5),
 oM 11 0,
 oL 12 5 3,
 oD 13 240 ([.t 11, .t 12, sA1]) (rg 0 8),
 ob 14 (.build [zI, zI, zI] [(0, 1, .t 7), (1, 1, .t 10), (2, 1, .t 13)]) (rg 0 9),
 ⟨none, none, .store 3 (.t 4) (.t 14), (rg 0 10)⟩] true)
 (.ret))
def Kk : IFn := ⟨2, 15, [.cell 4 3 true], false, Kk_c⟩
def Qnh : List Nat := [100096, 3, 9, 16, 17, 18]
def Q1n9 : IR :=
 .seq (.reg [o 19 (.bin .lss (.t 18) (.t 17))] false)
 (.seq (.cond (.t 19) (.skip)
 (.exit 0))
 (.seq (.block 1 (.seq (.reg [oI 20 5 16 18,
 oL 21 5 20,
 o 11 (.zero zL1),
 oS 5 11 21] false)
 (.reg [oM 22 9,
 oM 23 3,
 oL 24 5 11,
 o 25 (.call false (.t 23) [.t 24]),
 o 26 (.lit 4 1 [zI, zI, zI, zI] [(0, .t 25)]),
 oJ 27 4 32 22 26,
 oM 9 27] false)))
 (.reg [oA 28 18,
 oM 18 28] false)))
def Kz_c : IR :=
 .seq (.reg [o 5 (.box 5 (.t 1)),
 o 8 (.mov (.c (.ns 4)))] false)
 (.seq (.reg [o 9 (.mov (.c (.ns 4)))] false)
 (.seq (.seq (.reg [oM 12 0,
 oL 13 5 5,
 oM 14 2,
 oC 15 238 ([.t 12, .t 13, .t 14, .c (.int .i64 4)]),
 o 16 (.field 3 1 false (.t 15)),
 oN 17 16,
 o 18 (.mov (.c zI))] false)
 (.block 0 (.loop Qnh Q1n9)))
 (.seq (.reg [oM 29 9,
 oM 8 29] false)
 (.ret))))
def Kz : IFn := ⟨4, 30, [.tmp 8], false, Kz_c⟩
def Ki_c : IR :=
 .seq (.reg [o 3 (.box 5 (.t 1)),
 o 4 (.zero [zI, zI, zI, zI])] false)
 (.seq (.reg [oM 5 0,
 oL 6 5 3,
 oC 7 215 ([.t 5, .t 6])] false)
 (.seq (.reg [oM 8 0,
 oL 9 5 3,
 oD 10 240 ([.t 8, .t 9, sA0]) [0, 1],
 oM 11 0,
 oL 12 5 3,
 oD 13 240 ([.t 11, .t 12, sA24]) (rg 0 5),
 oM 14 0,
 oL 15 5 3,
 oD 16 240 ([.t 14, .t 15, sA44]) (rg 0 8),
 oM 17 0,
 oL 18 5 3,
 oD 19 240 ([.t 17, .t 18, sA5]) (rg 0 11),
 ob 20 (.build [zI, zI, zI, zI] [(0, 1, .t 10), (1, 1, .t 13), (2, 1, .t 16), (3, 1, .t 19)]) (rg 0 12),
 ⟨none, none, .store 4 (.t 4) (.t 20), (rg 0 13)⟩] true)
 (.ret)))
def Ki : IFn := ⟨2, 21, [.cell 4 4 true], false, Ki_c⟩
def Qir : List Nat := [100097, 3, 9, 16, 17, 18]
def Q1fq : IR :=
 .seq (.reg [o 19 (.bin .lss (.t 18) (.t 17))] false)
 (.seq (.cond (.t 19) (.skip)
 (.exit 0))
 (.seq (.block 1 (.seq (.reg [oI 20 5 16 18,
 oL 21 5 20,
 o 11 (.zero zL1),
 oS 5 11 21] false)
 (.reg [oM 22 9,
 oM 23 3,
 oL 24 5 11,
 o 25 (.call false (.t 23) [.t 24]),
 o 26 (.lit 1 1 [zS] [(0, .t 25)]),
 oJ 27 1 16 22 26,
 oM 9 27] false)))
 (.reg [oA 28 18,
 oM 18 28] false)))
def Q1st : IR :=
 .seq (.reg [o 5 (.box 5 (.t 1)),
 o 8 (.mov (.c (.ns 1)))] false)
 (.seq (.reg [o 9 (.mov (.c (.ns 1)))] false)
 (.seq (.seq (.reg [oM 12 0,
 oL 13 5 5,
 oM 14 2,
 oC 15 238 ([.t 12, .t 13, .t 14, .c (.int .i64 4)]),
 o 16 (.field 3 1 false (.t 15)),
 oN 17 16,
 o 18 (.mov (.c zI))] false)
 (.block 0 (.loop Qir Q1fq)))
 (.seq (.reg [oM 29 9,
 oM 8 29] false)
 (.ret))))
def K10 : IFn := ⟨4, 30, [.tmp 8], false, Q1st⟩
def Kq_c : IR :=
 .seq (.reg [o 3 (.box 5 (.t 1)),
 o 4 (.mov (.c (zS)))] false)
 (.seq (.reg [oM 5 0,
 oM 6 0,
 o 7 (.nilck (.t 6)),
 oF 8 0 7,
 oK 9 1 8,
 oM 10 9,
 gF 11 10 (.faddr 0 (.t 3)),
 gF 12 10 (.load 1 false (.t 11)),
 gF 13 10 (.bin .neq (.t 12) (.c (.int .i64 3))),
 gF 14 10 (.mov (.t 13)),
 gT 15 14 (.faddr 0 (.t 3)),
 gT 16 14 (.load 1 false (.t 15)),
 gT 17 14 (.bin .neq (.t 16) (.c zI)),
 gF 18 10 (.pick (.t 14) (.t 17) (.c zB)),
 oQ 19 10 18,
 o 20 (.nilck (.t 5)),
 oF 21 0 20,
 oS 1 21 19] false)
 (.seq (.seq (.reg [oF 22 0 3,
 oK 23 1 22,
 o 24 (.bin .neq (.t 23) (.c (.int .i64 3)))] false)
 (.cond (.t 24) (.seq (.reg [o 4 (.mov (.c (zS)))] false)
 (.ret))
 (.skip)))
 (.seq (.reg [oF 25 2 3,
 oK 26 1 25,
 oM 4 26] false)
 (.ret))))
def Kq : IFn := ⟨2, 27, [.tmp 4], false, Kq_c⟩
def Kc_c : IR :=
 .seq (.reg [o 4 (.box 5 (.t 1)),
 o 6 (.mov (.c zB))] false)
 (.seq (.reg [oM 7 0,
 oL 8 5 4,
 oM 9 2,
 oC 10 238 ([.t 7, .t 8, .t 9, .c (.int .i64 1)]),
 o 11 (.field 1 1 false (.t 10)),
 o 12 (.bin .neq (.t 11) (.c zI)),
 oM 6 12] false)
 (.ret))
def Kc : IFn := ⟨3, 13, [.tmp 6], false, Kc_c⟩
def Q1t0 : IR :=
 .seq (.reg [o 1 (.box 3 (.t 0)),
 o 2 (.zero zL1)] false)
 (.seq (.reg [oF 3 0 1,
 oE 4 1 3 [0],
 oD 5 109 ([.t 4]) [0, 1],
 oD 6 226 ([sA62, .t 5]) [0, 1, 2],
 oF 7 2 1,
 oE 8 1 7 [4],
 oD 9 109 ([.t 8]) (rg 0 6),
 oD 10 226 ([sA1, .t 9]) (rg 0 7),
 oF 11 1 1,
 oE 12 1 11 [8],
 oD 13 109 ([.t 12]) (rg 0 10),
 oD 14 226 ([sA14, .t 13]) (rg 0 11),
 ob 15 (.lit 6 3 zL0 [(0, .t 6), (1, .t 10), (2, .t 14)]) (rg 0 12),
 oD 16 78 ([.t 15]) (rg 0 13),
 ⟨none, none, .store 5 (.t 2) (.t 16), (rg 0 14)⟩] true)
 (.ret))
def K17 : IFn := ⟨1, 17, [.cell 2 5 true], false, Q1t0⟩
def Qiz : List Nat := [100098, 1, 4, 5, 8, 9, 10]
def Q1fy : IR :=
 .seq (.reg [o 11 (.bin .lss (.t 10) (.t 9))] false)
 (.seq (.cond (.t 11) (.skip)
 (.exit 0))
 (.seq (.block 1 (.seq (.reg [oI 12 4 8 10,
 oL 13 4 12,
 o 7 (.zero [zI, zI, zI, zI]),
 oS 4 7 13] false)
 (.reg [oM 14 5,
 oM 15 1,
 oL 16 4 7,
 o 17 (.call false (.t 15) [.t 16]),
 o 18 (.lit 5 1 zL1 [(0, .t 17)]),
 oJ 19 5 80 14 18,
 oM 5 19] false)))
 (.reg [oA 20 10,
 oM 10 20] false)))
def Q1tc : IR :=
 .seq (.reg [o 4 (.zero zL1)] false)
 (.seq (.reg [o 5 (.mov (.c (.ns 5)))] false)
 (.seq (.seq (.reg [oM 8 0,
 oN 9 8,
 o 10 (.mov (.c zI))] false)
 (.block 0 (.loop Qiz Q1fy)))
 (.seq (.reg [oM 21 5,
 oC 22 256 ([.t 21]),
 oS 5 4 22] false)
 (.ret))))
def K1j : IFn := ⟨2, 23, [.cell 4 5 true], false, Q1tc⟩
def Q1sy : IR :=
 .seq (.reg [o 1 (.box 4 (.t 0)),
 o 2 (.zero zL1)] false)
 (.seq (.reg [oF 3 0 1,
 oE 4 1 3 [0],
 oD 5 109 ([.t 4]) [0, 1],
 oD 6 226 ([sA0, .t 5]) [0, 1, 2],
 oF 7 3 1,
 oE 8 1 7 [4],
 oD 9 109 ([.t 8]) (rg 0 6),
 oD 10 226 ([sA5, .t 9]) (rg 0 7),
 oF 11 1 1,
 oE 12 1 11 [8],
 oD 13 109 ([.t 12]) (rg 0 10),
 oD 14 226 ([sA24, .t 13]) (rg 0 11),
 oF 15 2 1,
 oE 16 1 15 [12],
 oD 17 109 ([.t 16]) (rg 0 14),
 oD 18 226 ([sA44, .t 17]) (rg 0 15),
 ob 19 (.lit 6 4 zL0 [(0, .t 6), (1, .t 10), (2, .t 14), (3, .t 18)]) (rg 0 16),
 oD 20 78 ([.t 19]) (rg 0 17),
 ⟨none, none, .store 5 (.t 2) (.t 20), (rg 0 18)⟩] true)
 (.ret))
def K15 : IFn := ⟨1, 21, [.cell 2 5 true], false, Q1sy⟩
def Qj0 : List Nat := [100099, 1, 4, 5, 8, 9, 10]
def Q1fz : IR :=
 .seq (.reg [o 11 (.bin .lss (.t 10) (.t 9))] false)
 (.seq (.cond (.t 11) (.skip)
 (.exit 0))
 (.seq (.block 1 (.seq (.reg [oI 12 1 8 10,
 oK 13 1 12,
 oM 7 13] false)
 (.reg [oM 14 5,
 oM 15 1,
 oM 16 7,
 o 17 (.call false (.t 15) [.t 16]),
 o 18 (.lit 5 1 zL1 [(0, .t 17)]),
 oJ 19 5 80 14 18,
 oM 5 19] false)))
 (.reg [oA 20 10,
 oM 10 20] false)))
def Q1td : IR :=
 .seq (.reg [o 4 (.zero zL1)] false)
 (.seq (.reg [o 5 (.mov (.c (.ns 5)))] false)
 (.seq (.seq (.reg [oM 8 0,
 oN 9 8,
 o 10 (.mov (.c zI))] false)
 (.block 0 (.loop Qj0 Q1fz)))
 (.seq (.reg [oM 21 5,
 oC 22 256 ([.t 21]),
 oS 5 4 22] false)
 (.ret))))
def K1k : IFn := ⟨2, 23, [.cell 4 5 true], false, Q1td⟩
def table : List (Nat × Fun) :=
  [(8, .ir K5),
   (11, .ir K8),
   (12, .ir K6),
   (17, .ir K1v),
   (18, .ir K3t),
   (21, .ir K5w),
   (22, .ir K5e),
   (27, .ir K1y),
   (29, .ir K5y),
   (31, .ir K5n),
   (33, .ir K3v),
   (34, .ir K3n),
   (35, .ir K5x),
   (43, .ir K5v),
   (56, .ir K5f),
   (57, .ir K5a),
   (58, .ir K49),
   (60, .ir K30),
   (63, .ir K1r),
   (64, .ir K5d),
   (65, .ir K1o),
   (66, .ir K1q),
   (67, .ir K1p),
   (68, .ir K77),
   (70, .ir K5z),
   (71, .ir K66),
   (72, .ir K6a),
   (73, .ir K6e),
   (74, .ir K6g),
   (75, .ir K60),
   (76, .ir K62),
   (77, .ir K6f),
   (78, .ir K50),
   (79, .ir K75),
   (80, .ir K7l),
   (81, .ir K7n),
   (82, .ir K7o),
   (83, .ir K78),
   (84, .ir K6s),
   (85, .ir K76),
   (86, .ir K6x),
   (89, .ir K6d),
   (95, .ir K7m),
   (98, .ir K1n),
   (99, .ir K2q),
   (104, .ir K7a),
   (109, .ir K4y),
   (119, .ir K1x),
   (120, .ir K1z),
   (127, .ir K7d),
   (129, .ir K7e),
   (132, .ir K2v),
   (133, .ir K29),
   (134, .ir K7f),
   (135, .ir K67),
   (152, .ir K7i),
   (153, .ir K69),
   (163, .ir K2h),
   (164, .ir K2c),
   (165, .ir K2s),
   (166, .ir K2y),
   (167, .ir K24),
   (168, .ir K20),
   (169, .ir K2w),
   (170, .ir K1s),
   (171, .ir K6u),
   (172, .ir K1m),
   (173, .ir K1u),
   (174, .ir K61),
   (175, .ax (Qlo 2 32)),
   (176, .ax (Qlo 5 48)),
   (177, .ax (Qlo 1 16)),
   (178, .ax (Qln 2 40)),
   (179, .ir K6n),
   (180, .ir K6b),
   (181, .ir K6o),
   (182, .ir K6c),
   (183, .ir Ka),
   (184, .ir K4x),
   (185, .ax (Qln 6 96)),
   (186, .ir K4s),
   (187, .ir K51),
   (188, .ir K4v),
   (189, .ir K53),
   (190, .ir K6v),
   (191, .ir K9),
   (192, .ir K4w),
   (193, .ir K52),
   (194, .ir K1l),
   (199, .ir K1w),
   (205, .ir K6q),
   (206, .ir K68),
   (211, .ir K2r),
   (212, .ir K2x),
   (213, .ir K2g),
   (214, .ir K2k),
   (215, .ir Ko),
   (216, .ir Ks),
   (217, .ir Ke),
   (218, .ir Kl),
   (219, .ir Kp),
   (220, .ir K4u),
   (221, .cmpstr),
   (222, .ax (Qln 5 80)),
   (223, .ir K72),
   (224, .ir K6w),
   (225, .ir K73),
   (226, .ir K1b),
   (227, .ir K1c),
   (228, .ir K12),
   (229, .ir K18),
   (230, .ir K1t),
   (233, .ir K27),
   (234, .ir K2j),
   (235, .ir K2l),
   (236, .ir K2u),
   (237, .ir K2z),
   (238, .ir Kd),
   (239, .ir Kn),
   (240, .ir Kg),
   (241, .ir Kt),
   (242, .ir Kb),
   (243, .ir Ku),
   (244, .ir Kj),
   (245, .ir Kv),
   (246, .ir Kf),
   (247, .ir Kw),
   (248, .ir Kh),
   (249, .ir Kx),
   (250, .ir Km),
   (251, .ir Ky),
   (252, .ir Kr),
   (253, .ir K4t),
   (256, .ir K4z),
   (257, .ir K1d),
   (258, .ir K11),
   (259, .ir K1e),
   (260, .ir K16),
   (261, .ir K1f),
   (262, .ir K13),
   (263, .ir K1g),
   (264, .ir K14),
   (265, .ir K1h),
   (266, .ir K19),
   (267, .ir K1i),
   (268, .ir K1a),
   (274, .ir K2n),
   (275, .ir Kk),
   (276, .ir Kz),
   (277, .ir Ki),
   (278, .ir K10),
   (279, .ir Kq),
   (280, .ir Kc),
   (282, .ir K17),
   (283, .ir K1j),
   (284, .ir K15),
   (285, .ir K1k)]
end Go.Proofs.YtimjjohlpnkacaaGreat.Ir
end

section
/- The printed functions are the given ones. -/
namespace Go.Proofs.YtimjjohlpnkacaaGreat
open Go.Pv
theorem Q226 : Q14 Tryz.prog Tryz.f8 Ir.K5 = true := by kernel_rfl
theorem Q1rk : Q14 Tryz.prog Tryz.f11 Ir.K8 = true := by kernel_rfl
theorem Q1rl : Q14 Tryz.prog Tryz.f12 Ir.K6 = true := by kernel_rfl
theorem Q1rm : Q14 Tryz.prog Tryz.f17 Ir.K1v = true := by kernel_rfl
theorem Q1rn : Q14 Tryz.prog Tryz.f18 Ir.K3t = true := by kernel_rfl
theorem Q1ro : Q14 Tryz.prog Tryz.f21 Ir.K5w = true := by kernel_rfl
theorem Q1rp : Q14 Tryz.prog Tryz.f22 Ir.K5e = true := by kernel_rfl
theorem Q1rq : Q14 Tryz.prog Tryz.f27 Ir.K1y = true := by kernel_rfl
theorem Q1rr : Q14 Tryz.prog Tryz.f29 Ir.K5y = true := by kernel_rfl
theorem Q1rs : Q14 Tryz.prog Tryz.f31 Ir.K5n = true := by kernel_rfl
theorem Q1rt : Q14 Tryz.prog Tryz.f33 Ir.K3v = true := by kernel_rfl
theorem Q1ru : Q14 Tryz.prog Tryz.f34 Ir.K3n = true := by kernel_rfl
theorem Q1rv : Q14 Tryz.prog Tryz.f35 Ir.K5x = true := by kernel_rfl
theorem Q1rw : Q14 Tryz.prog Tryz.f43 Ir.K5v = true := by kernel_rfl
theorem Q1rx : Q14 Tryz.prog Tryz.f56 Ir.K5f = true := by kernel_rfl
theorem Q1ry : Q14 Tryz.prog Tryz.f57 Ir.K5a = true := by kernel_rfl
theorem Q1rz : Q14 Tryz.prog Tryz.f58 Ir.K49 = true := by kernel_rfl
theorem Q1s0 : Q14 Tryz.prog Tryz.f60 Ir.K30 = true := by kernel_rfl
theorem Q1s1 : Q14 Tryz.prog Tryz.f63 Ir.K1r = true := by kernel_rfl
theorem Q1s2 : Q14 Tryz.prog Tryz.f64 Ir.K5d = true := by kernel_rfl
theorem Q1s3 : Q14 Tryz.prog Tryz.f65 Ir.K1o = true := by kernel_rfl
theorem Q1s4 : Q14 Tryz.prog Tryz.f66 Ir.K1q = true := by kernel_rfl
theorem Q1s5 : Q14 Tryz.prog Tryz.f67 Ir.K1p = true := by kernel_rfl
theorem Q1s6 : Q14 Tryz.prog Tryz.f68 Ir.K77 = true := by kernel_rfl
theorem Q1s7 : Q14 Tryz.prog Tryz.f70 Ir.K5z = true := by kernel_rfl
theorem Q1s8 : Q14 Tryz.prog Tryz.f71 Ir.K66 = true := by kernel_rfl
theorem Q1s9 : Q14 Tryz.prog Tryz.f72 Ir.K6a = true := by kernel_rfl
theorem Q1sa : Q14 Tryz.prog Tryz.f73 Ir.K6e = true := by kernel_rfl
theorem Q1sb : Q14 Tryz.prog Tryz.f74 Ir.K6g = true := by kernel_rfl
theorem Q1sc : Q14 Tryz.prog Tryz.f75 Ir.K60 = true := by kernel_rfl
theorem Q1sd : Q14 Tryz.prog Tryz.f76 Ir.K62 = true := by kernel_rfl
theorem Q1se : Q14 Tryz.prog Tryz.f77 Ir.K6f = true := by kernel_rfl
theorem Q1sf : Q14 Tryz.prog Tryz.f78 Ir.K50 = true := by kernel_rfl
theorem Q1sg : Q14 Tryz.prog Tryz.f79 Ir.K75 = true := by kernel_rfl
theorem Q1sh : Q14 Tryz.prog Tryz.f80 Ir.K7l = true := by kernel_rfl
theorem Q1si : Q14 Tryz.prog Tryz.f81 Ir.K7n = true := by kernel_rfl
theorem Q1sj : Q14 Tryz.prog Tryz.f82 Ir.K7o = true := by kernel_rfl
theorem Q1sk : Q14 Tryz.prog Tryz.f83 Ir.K78 = true := by kernel_rfl
theorem Q1sl : Q14 Tryz.prog Tryz.f84 Ir.K6s = true := by kernel_rfl
theorem Q1sm : Q14 Tryz.prog Tryz.f85 Ir.K76 = true := by kernel_rfl
theorem Q1sn : Q14 Tryz.prog Tryz.f86 Ir.K6x = true := by kernel_rfl
theorem Q1so : Q14 Tryz.prog Tryz.f89 Ir.K6d = true := by kernel_rfl
theorem Q1sp : Q14 Tryz.prog Tryz.f95 Ir.K7m = true := by kernel_rfl
theorem Q1sq : Q14 Tryz.prog Tryz.f98 Ir.K1n = true := by kernel_rfl
theorem Q1sr : Q14 Tryz.prog Tryz.f99 Ir.K2q = true := by kernel_rfl
theorem Q1jk : Q14 Tryz.prog Tryz.f104 Ir.K7a = true := by kernel_rfl
theorem Q1jl : Q14 Tryz.prog Tryz.f109 Ir.K4y = true := by kernel_rfl
theorem Q1jm : Q14 Tryz.prog Tryz.f119 Ir.K1x = true := by kernel_rfl
theorem Q1jn : Q14 Tryz.prog Tryz.f120 Ir.K1z = true := by kernel_rfl
theorem Q1jo : Q14 Tryz.prog Tryz.f127 Ir.K7d = true := by kernel_rfl
theorem Q1jp : Q14 Tryz.prog Tryz.f129 Ir.K7e = true := by kernel_rfl
theorem Q1jq : Q14 Tryz.prog Tryz.f132 Ir.K2v = true := by kernel_rfl
theorem Q1jr : Q14 Tryz.prog Tryz.f133 Ir.K29 = true := by kernel_rfl
theorem Q1js : Q14 Tryz.prog Tryz.f134 Ir.K7f = true := by kernel_rfl
theorem Q1jt : Q14 Tryz.prog Tryz.f135 Ir.K67 = true := by kernel_rfl
theorem Q1ju : Q14 Tryz.prog Tryz.f152 Ir.K7i = true := by kernel_rfl
theorem Q1jv : Q14 Tryz.prog Tryz.f153 Ir.K69 = true := by kernel_rfl
theorem Q1jw : Q14 Tryz.prog Tryz.f163 Ir.K2h = true := by kernel_rfl
theorem Q1jx : Q14 Tryz.prog Tryz.f164 Ir.K2c = true := by kernel_rfl
theorem Q1jy : Q14 Tryz.prog Tryz.f165 Ir.K2s = true := by kernel_rfl
theorem Q1jz : Q14 Tryz.prog Tryz.f166 Ir.K2y = true := by kernel_rfl
theorem Q1k0 : Q14 Tryz.prog Tryz.f167 Ir.K24 = true := by kernel_rfl
theorem Q1k1 : Q14 Tryz.prog Tryz.f168 Ir.K20 = true := by kernel_rfl
theorem Q1k2 : Q14 Tryz.prog Tryz.f169 Ir.K2w = true := by kernel_rfl
theorem Q1k3 : Q14 Tryz.prog Tryz.f170 Ir.K1s = true := by kernel_rfl
theorem Q1k4 : Q14 Tryz.prog Tryz.f171 Ir.K6u = true := by kernel_rfl
theorem Q1k5 : Q14 Tryz.prog Tryz.f172 Ir.K1m = true := by kernel_rfl
theorem Q1k6 : Q14 Tryz.prog Tryz.f173 Ir.K1u = true := by kernel_rfl
theorem Q1k7 : Q14 Tryz.prog Tryz.f174 Ir.K61 = true := by kernel_rfl
theorem Q1k8 : Q14 Tryz.prog Tryz.f179 Ir.K6n = true := by kernel_rfl
theorem Q1k9 : Q14 Tryz.prog Tryz.f180 Ir.K6b = true := by kernel_rfl
theorem Q1ka : Q14 Tryz.prog Tryz.f181 Ir.K6o = true := by kernel_rfl
theorem Q1kb : Q14 Tryz.prog Tryz.f182 Ir.K6c = true := by kernel_rfl
theorem Q1kc : Q14 Tryz.prog Tryz.f183 Ir.Ka = true := by kernel_rfl
theorem Q1kd : Q14 Tryz.prog Tryz.f184 Ir.K4x = true := by kernel_rfl
theorem Q1ke : Q14 Tryz.prog Tryz.f186 Ir.K4s = true := by kernel_rfl
theorem Q1kf : Q14 Tryz.prog Tryz.f187 Ir.K51 = true := by kernel_rfl
theorem Q1kg : Q14 Tryz.prog Tryz.f188 Ir.K4v = true := by kernel_rfl
theorem Q1kh : Q14 Tryz.prog Tryz.f189 Ir.K53 = true := by kernel_rfl
theorem Q1ki : Q14 Tryz.prog Tryz.f190 Ir.K6v = true := by kernel_rfl
theorem Q1kj : Q14 Tryz.prog Tryz.f191 Ir.K9 = true := by kernel_rfl
theorem Q1kk : Q14 Tryz.prog Tryz.f192 Ir.K4w = true := by kernel_rfl
theorem Q1kl : Q14 Tryz.prog Tryz.f193 Ir.K52 = true := by kernel_rfl
theorem Q1km : Q14 Tryz.prog Tryz.f194 Ir.K1l = true := by kernel_rfl
theorem Q1kn : Q14 Tryz.prog Tryz.f199 Ir.K1w = true := by kernel_rfl
theorem Q1ko : Q14 Tryz.prog Tryz.f205 Ir.K6q = true := by kernel_rfl
theorem Q1kp : Q14 Tryz.prog Tryz.f206 Ir.K68 = true := by kernel_rfl
theorem Q1kq : Q14 Tryz.prog Tryz.f211 Ir.K2r = true := by kernel_rfl
theorem Q1kr : Q14 Tryz.prog Tryz.f212 Ir.K2x = true := by kernel_rfl
theorem Q1ks : Q14 Tryz.prog Tryz.f213 Ir.K2g = true := by kernel_rfl
theorem Q1kt : Q14 Tryz.prog Tryz.f214 Ir.K2k = true := by kernel_rfl
theorem Q1ku : Q14 Tryz.prog Tryz.f215 Ir.Ko = true := by kernel_rfl
theorem Q1kv : Q14 Tryz.prog Tryz.f216 Ir.Ks = true := by kernel_rfl
theorem Q1kw : Q14 Tryz.prog Tryz.f217 Ir.Ke = true := by kernel_rfl
theorem Q1kx : Q14 Tryz.prog Tryz.f218 Ir.Kl = true := by kernel_rfl
theorem Q1ky : Q14 Tryz.prog Tryz.f219 Ir.Kp = true := by kernel_rfl
theorem Q1kz : Q14 Tryz.prog Tryz.f220 Ir.K4u = true := by kernel_rfl
theorem Q1l0 : Q14 Tryz.prog Tryz.f223 Ir.K72 = true := by kernel_rfl
theorem Q1l1 : Q14 Tryz.prog Tryz.f224 Ir.K6w = true := by kernel_rfl
theorem Q1l2 : Q14 Tryz.prog Tryz.f225 Ir.K73 = true := by kernel_rfl
theorem Q1l3 : Q14 Tryz.prog Tryz.f226 Ir.K1b = true := by kernel_rfl
theorem Q1l4 : Q14 Tryz.prog Tryz.f227 Ir.K1c = true := by kernel_rfl
theorem Q1l5 : Q14 Tryz.prog Tryz.f228 Ir.K12 = true := by kernel_rfl
theorem Q1l6 : Q14 Tryz.prog Tryz.f229 Ir.K18 = true := by kernel_rfl
theorem Q1l7 : Q14 Tryz.prog Tryz.f230 Ir.K1t = true := by kernel_rfl
theorem Q1l8 : Q14 Tryz.prog Tryz.f233 Ir.K27 = true := by kernel_rfl
theorem Q1l9 : Q14 Tryz.prog Tryz.f234 Ir.K2j = true := by kernel_rfl
theorem Q1la : Q14 Tryz.prog Tryz.f235 Ir.K2l = true := by kernel_rfl
theorem Q1lb : Q14 Tryz.prog Tryz.f236 Ir.K2u = true := by kernel_rfl
theorem Q1lc : Q14 Tryz.prog Tryz.f237 Ir.K2z = true := by kernel_rfl
theorem Q1ld : Q14 Tryz.prog Tryz.f238 Ir.Kd = true := by kernel_rfl
theorem Q1le : Q14 Tryz.prog Tryz.f239 Ir.Kn = true := by kernel_rfl
theorem Q1lf : Q14 Tryz.prog Tryz.f240 Ir.Kg = true := by kernel_rfl
theorem Q1lg : Q14 Tryz.prog Tryz.f241 Ir.Kt = true := by kernel_rfl
theorem Q1lh : Q14 Tryz.prog Tryz.f242 Ir.Kb = true := by kernel_rfl
theorem Q1li : Q14 Tryz.prog Tryz.f243 Ir.Ku = true := by kernel_rfl
theorem Q1lj : Q14 Tryz.prog Tryz.f244 Ir.Kj = true := by kernel_rfl
theorem Q1lk : Q14 Tryz.prog Tryz.f245 Ir.Kv = true := by kernel_rfl
theorem Q1ll : Q14 Tryz.prog Tryz.f246 Ir.Kf = true := by kernel_rfl
theorem Q1lm : Q14 Tryz.prog Tryz.f247 Ir.Kw = true := by kernel_rfl
theorem Q1ln : Q14 Tryz.prog Tryz.f248 Ir.Kh = true := by kernel_rfl
theorem Q1lo : Q14 Tryz.prog Tryz.f249 Ir.Kx = true := by kernel_rfl
theorem Q1lp : Q14 Tryz.prog Tryz.f250 Ir.Km = true := by kernel_rfl
theorem Q1lq : Q14 Tryz.prog Tryz.f251 Ir.Ky = true := by kernel_rfl
theorem Q1lr : Q14 Tryz.prog Tryz.f252 Ir.Kr = true := by kernel_rfl
theorem Q1ls : Q14 Tryz.prog Tryz.f253 Ir.K4t = true := by kernel_rfl
theorem Q1lt : Q14 Tryz.prog Tryz.f256 Ir.K4z = true := by kernel_rfl
theorem Q1lu : Q14 Tryz.prog Tryz.f257 Ir.K1d = true := by kernel_rfl
theorem Q1lv : Q14 Tryz.prog Tryz.f258 Ir.K11 = true := by kernel_rfl
theorem Q1lw : Q14 Tryz.prog Tryz.f259 Ir.K1e = true := by kernel_rfl
theorem Q1lx : Q14 Tryz.prog Tryz.f260 Ir.K16 = true := by kernel_rfl
theorem Q1ly : Q14 Tryz.prog Tryz.f261 Ir.K1f = true := by kernel_rfl
theorem Q1lz : Q14 Tryz.prog Tryz.f262 Ir.K13 = true := by kernel_rfl
theorem Q1m0 : Q14 Tryz.prog Tryz.f263 Ir.K1g = true := by kernel_rfl
theorem Q1m1 : Q14 Tryz.prog Tryz.f264 Ir.K14 = true := by kernel_rfl
theorem Q1m2 : Q14 Tryz.prog Tryz.f265 Ir.K1h = true := by kernel_rfl
theorem Q1m3 : Q14 Tryz.prog Tryz.f266 Ir.K19 = true := by kernel_rfl
theorem Q1m4 : Q14 Tryz.prog Tryz.f267 Ir.K1i = true := by kernel_rfl
theorem Q1m5 : Q14 Tryz.prog Tryz.f268 Ir.K1a = true := by kernel_rfl
theorem Q1m6 : Q14 Tryz.prog Tryz.f274 Ir.K2n = true := by kernel_rfl
theorem Q1m7 : Q14 Tryz.prog Tryz.f275 Ir.Kk = true := by kernel_rfl
theorem Q1m8 : Q14 Tryz.prog Tryz.f276 Ir.Kz = true := by kernel_rfl
theorem Q1m9 : Q14 Tryz.prog Tryz.f277 Ir.Ki = true := by kernel_rfl
theorem Q1ma : Q14 Tryz.prog Tryz.f278 Ir.K10 = true := by kernel_rfl
theorem Q1mb : Q14 Tryz.prog Tryz.f279 Ir.Kq = true := by kernel_rfl
theorem Q1mc : Q14 Tryz.prog Tryz.f280 Ir.Kc = true := by kernel_rfl
theorem Q1md : Q14 Tryz.prog Tryz.f282 Ir.K17 = true := by kernel_rfl
theorem Q1me : Q14 Tryz.prog Tryz.f283 Ir.K1j = true := by kernel_rfl
theorem Q1mf : Q14 Tryz.prog Tryz.f284 Ir.K15 = true := by kernel_rfl
theorem Q1mg : Q14 Tryz.prog Tryz.f285 Ir.K1k = true := by kernel_rfl
theorem Q1mh : Q5z Tryz.prog Tryz.f175 2 32 [.str ⟨#[]⟩, .str ⟨#[]⟩] = true := by kernel_rfl
theorem Q1mi : Q5z Tryz.prog Tryz.f176 5 48 [.str ⟨#[]⟩, .str ⟨#[]⟩, .int .i64 0, .bool false, .bool false] = true := by kernel_rfl
theorem Q1mj : Q5z Tryz.prog Tryz.f177 1 16 [.str ⟨#[]⟩] = true := by kernel_rfl
theorem Q1mk : Q5z Tryz.prog Tryz.f178 2 40 [.str ⟨#[]⟩, .ns 1] = true := by kernel_rfl
theorem Q1ml : Q5z Tryz.prog Tryz.f185 6 96 [.str ⟨#[]⟩, .int .i64 0, .int .i64 0, .str ⟨#[]⟩, .ns 5, .ns 6] = true := by kernel_rfl
theorem Q1mm : Q5z Tryz.prog Tryz.f222 5 80 [.int .i64 0, .int .i64 0, .str ⟨#[]⟩, .ns 5, .ns 6] = true := by kernel_rfl
theorem mixed : Tryz.prog.follows .mixedOrders = true := by kernel_rfl
theorem own : ownKnob Tryz.prog.godebug = none := by kernel_rfl
theorem laidOut : laidOutB Tryz.prog = true := by kernel_rfl
theorem tie (cmp : Q1d7 Tryz.prog 221) : Tie Tryz.prog (tabG Ir.table) :=
  Qq Tryz.func8 Q226 <| Qq Tryz.func11 Q1rk <| Qq Tryz.func12 Q1rl <| Qq Tryz.func17 Q1rm <| Qq Tryz.func18 Q1rn <| Qq Tryz.func21 Q1ro <| Qq Tryz.func22 Q1rp <| Qq Tryz.func27 Q1rq <| Qq Tryz.func29 Q1rr <| Qq Tryz.func31 Q1rs <| Qq Tryz.func33 Q1rt <| Qq Tryz.func34 Q1ru <| Qq Tryz.func35 Q1rv <| Qq Tryz.func43 Q1rw <| Qq Tryz.func56 Q1rx <| Qq Tryz.func57 Q1ry <| Qq Tryz.func58 Q1rz <| Qq Tryz.func60 Q1s0 <| Qq Tryz.func63 Q1s1 <| Qq Tryz.func64 Q1s2 <| Qq Tryz.func65 Q1s3 <| Qq Tryz.func66 Q1s4 <| Qq Tryz.func67 Q1s5 <| Qq Tryz.func68 Q1s6 <| Qq Tryz.func70 Q1s7 <| Qq Tryz.func71 Q1s8 <| Qq Tryz.func72 Q1s9 <| Qq Tryz.func73 Q1sa <| Qq Tryz.func74 Q1sb <| Qq Tryz.func75 Q1sc <| Qq Tryz.func76 Q1sd <| Qq Tryz.func77 Q1se <| Qq Tryz.func78 Q1sf <| Qq Tryz.func79 Q1sg <| Qq Tryz.func80 Q1sh <| Qq Tryz.func81 Q1si <| Qq Tryz.func82 Q1sj <| Qq Tryz.func83 Q1sk <| Qq Tryz.func84 Q1sl <| Qq Tryz.func85 Q1sm <| Qq Tryz.func86 Q1sn <| Qq Tryz.func89 Q1so <| Qq Tryz.func95 Q1sp <| Qq Tryz.func98 Q1sq <| Qq Tryz.func99 Q1sr <| Qq Tryz.func104 Q1jk <| Qq Tryz.func109 Q1jl <| Qq Tryz.func119 Q1jm <| Qq Tryz.func120 Q1jn <| Qq Tryz.func127 Q1jo <| Qq Tryz.func129 Q1jp <| Qq Tryz.func132 Q1jq <| Qq Tryz.func133 Q1jr <| Qq Tryz.func134 Q1js <| Qq Tryz.func135 Q1jt <| Qq Tryz.func152 Q1ju <| Qq Tryz.func153 Q1jv <| Qq Tryz.func163 Q1jw <| Qq Tryz.func164 Q1jx <| Qq Tryz.func165 Q1jy <| Qq Tryz.func166 Q1jz <| Qq Tryz.func167 Q1k0 <| Qq Tryz.func168 Q1k1 <| Qq Tryz.func169 Q1k2 <| Qq Tryz.func170 Q1k3 <| Qq Tryz.func171 Q1k4 <| Qq Tryz.func172 Q1k5 <| Qq Tryz.func173 Q1k6 <| Qq Tryz.func174 Q1k7 <| (fun h => Q9w h (Qlp mixed Tryz.func175 Q1mh)) <| (fun h => Q9w h (Qlp mixed Tryz.func176 Q1mi)) <| (fun h => Q9w h (Qlp mixed Tryz.func177 Q1mj)) <| (fun h => Q9w h (Qtn mixed Tryz.func178 Q1mk)) <| Qq Tryz.func179 Q1k8 <| Qq Tryz.func180 Q1k9 <| Qq Tryz.func181 Q1ka <| Qq Tryz.func182 Q1kb <| Qq Tryz.func183 Q1kc <| Qq Tryz.func184 Q1kd <| (fun h => Q9w h (Qtn mixed Tryz.func185 Q1ml)) <| Qq Tryz.func186 Q1ke <| Qq Tryz.func187 Q1kf <| Qq Tryz.func188 Q1kg <| Qq Tryz.func189 Q1kh <| Qq Tryz.func190 Q1ki <| Qq Tryz.func191 Q1kj <| Qq Tryz.func192 Q1kk <| Qq Tryz.func193 Q1kl <| Qq Tryz.func194 Q1km <| Qq Tryz.func199 Q1kn <| Qq Tryz.func205 Q1ko <| Qq Tryz.func206 Q1kp <| Qq Tryz.func211 Q1kq <| Qq Tryz.func212 Q1kr <| Qq Tryz.func213 Q1ks <| Qq Tryz.func214 Q1kt <| Qq Tryz.func215 Q1ku <| Qq Tryz.func216 Q1kv <| Qq Tryz.func217 Q1kw <| Qq Tryz.func218 Q1kx <| Qq Tryz.func219 Q1ky <| Qq Tryz.func220 Q1kz <| (fun h => Q9w h cmp) <| (fun h => Q9w h (Qtn mixed Tryz.func222 Q1mm)) <| Qq Tryz.func223 Q1l0 <| Qq Tryz.func224 Q1l1 <| Qq Tryz.func225 Q1l2 <| Qq Tryz.func226 Q1l3 <| Qq Tryz.func227 Q1l4 <| Qq Tryz.func228 Q1l5 <| Qq Tryz.func229 Q1l6 <| Qq Tryz.func230 Q1l7 <| Qq Tryz.func233 Q1l8 <| Qq Tryz.func234 Q1l9 <| Qq Tryz.func235 Q1la <| Qq Tryz.func236 Q1lb <| Qq Tryz.func237 Q1lc <| Qq Tryz.func238 Q1ld <| Qq Tryz.func239 Q1le <| Qq Tryz.func240 Q1lf <| Qq Tryz.func241 Q1lg <| Qq Tryz.func242 Q1lh <| Qq Tryz.func243 Q1li <| Qq Tryz.func244 Q1lj <| Qq Tryz.func245 Q1lk <| Qq Tryz.func246 Q1ll <| Qq Tryz.func247 Q1lm <| Qq Tryz.func248 Q1ln <| Qq Tryz.func249 Q1lo <| Qq Tryz.func250 Q1lp <| Qq Tryz.func251 Q1lq <| Qq Tryz.func252 Q1lr <| Qq Tryz.func253 Q1ls <| Qq Tryz.func256 Q1lt <| Qq Tryz.func257 Q1lu <| Qq Tryz.func258 Q1lv <| Qq Tryz.func259 Q1lw <| Qq Tryz.func260 Q1lx <| Qq Tryz.func261 Q1ly <| Qq Tryz.func262 Q1lz <| Qq Tryz.func263 Q1m0 <| Qq Tryz.func264 Q1m1 <| Qq Tryz.func265 Q1m2 <| Qq Tryz.func266 Q1m3 <| Qq Tryz.func267 Q1m4 <| Qq Tryz.func268 Q1m5 <| Qq Tryz.func274 Q1m6 <| Qq Tryz.func275 Q1m7 <| Qq Tryz.func276 Q1m8 <| Qq Tryz.func277 Q1m9 <| Qq Tryz.func278 Q1ma <| Qq Tryz.func279 Q1mb <| Qq Tryz.func280 Q1mc <| Qq Tryz.func282 Q1md <| Qq Tryz.func283 Q1me <| Qq Tryz.func284 Q1mf <| Qq Tryz.func285 Q1mg <| Q1mn
end Go.Proofs.YtimjjohlpnkacaaGreat
end

section
/-
  Runs along a trace, over views: operations, regions, code, calls, loops' rounds.
-/
namespace Go.Pv
def Seen (o : Option Ob) (rows : List (List PV)) : Prop := ∃ ob, o = some ob ∧ ViewOK ob.sz ob.cells rows
theorem Q3k {ob : Ob} {rows : List (List PV)} (h : ViewOK ob.sz ob.cells rows) : Seen (some ob) rows := ⟨ob, rfl, h⟩
def putV (vw : Views) (cut : List Nat) (new : Views) : Views := new ++ vw.filter fun x => !(has cut x.1)
theorem Q10i {vw : Views} {cut : List Nat} {id : Nat} {rows : List (List PV)} (h : look (vw.filter fun x => !(has cut x.1)) id = some rows) : look vw id = some rows ∧ has cut id = false := by
 induction vw with
 | nil => cases h
 | cons x r ih =>
  obtain ⟨k, rs⟩ := x
  simp only [List.filter_cons] at h
  cases hc : has cut k with
  | true =>
   rw [hc] at h
   simp only [Bool.not_true, Bool.false_eq_true, if_false] at h
   obtain ⟨h1, h2⟩ := ih h
   refine ⟨?_, h2⟩
   simp only [look]
   cases c : Nat.beq k id with
   | true =>
    have := Nat.eq_of_beq_eq_true c
    subst this
    rw [hc] at h2
    cases h2
   | false => exact h1
  | false =>
   rw [hc] at h
   simp only [Bool.not_false, if_true, look] at h ⊢
   cases c : Nat.beq k id with
   | true =>
    rw [c] at h
    have := Nat.eq_of_beq_eq_true c
    subst this
    exact ⟨h, hc⟩
   | false =>
    rw [c] at h
    exact ih h
theorem Qxr {l : List Nat} {id : Nat} (h : has l id = false) : id ∉ l := by
  induction l with
  | nil => exact List.not_mem_nil
  | cons k r ih =>
    simp only [has] at h
    cases c : Nat.beq k id with
    | true => rw [c] at h; cases h
    | false =>
      rw [c] at h
      simp only [cond_false] at h
      intro hm
      rcases List.mem_cons.1 hm with rfl | hm
      · simp at c
      · exact ih h hm
theorem Qme {vw new : Views} {cut : List Nat} {id : Nat} {rows : List (List PV)} (h : look (putV vw cut new) id = some rows) : look new id = some rows ∨ (look vw id = some rows ∧ id ∉ cut) := by
 unfold putV at h
 rw [Qu0] at h
 cases hn : look new id with
 | some r => rw [hn] at h; exact .inl h
 | none =>
  rw [hn] at h
  obtain ⟨h1, h2⟩ := Q10i h
  exact .inr ⟨h1, Qxr h2⟩
theorem Q10j {α : Type} {l : List (Nat × α)} {id : Nat} {x : α} (h : look l id = some x) : (id, x) ∈ l := by
 induction l with
 | nil => cases h
 | cons y r ih =>
  obtain ⟨k, z⟩ := y
  simp only [look] at h
  cases c : Nat.beq k id with
  | true =>
   rw [c] at h
   have := Nat.eq_of_beq_eq_true c
   subst this
   simp only [cond_true, Option.some.injEq] at h
   subst h
   exact List.mem_cons_self
  | false =>
   rw [c] at h
   exact List.mem_cons_of_mem _ (ih h)
def Turned (H : Nat → Option Ob) (vw : Views) (e : EV) : Prop := VOK (upH H e.eff.hw) (putV vw e.cut e.new)
theorem Q14o {ws : List (Nat × Option Ob)} {H : Nat → Option Ob} {id : Nat} {o : Option Ob} (hn : (ws.map (·.1)).Nodup) (h : (id, o) ∈ ws) : upH H ws id = o := by
  induction ws generalizing H with
  | nil => cases h
  | cons x r ih =>
    obtain ⟨k, z⟩ := x
    simp only [List.map_cons, List.nodup_cons] at hn
    rw [upH]
    rcases List.mem_cons.1 h with e | h
    · injection e with e1 e2
      subst e1 e2
      rw [Q73 (fun y hy e => hn.1 (by rw [← e]; exact List.mem_map_of_mem hy))]
      simp
    · exact ih hn.2 h
theorem Qz5 : ∀ {l : List Nat}, nodupB l = true → l.Nodup
 | [], _ => List.nodup_nil
 | k :: r, h => by
  simp only [nodupB, Bool.and_eq_true, Bool.not_eq_true'] at h
  exact List.nodup_cons.2 ⟨Qxr h.1, Qz5 h.2⟩
theorem Qzl {H : Nat → Option Ob} : ∀ (l : List Nat) (cl : List (Nat × Option Ob)), shut H l = some cl → ∀ id o, (id, o) ∈ cl → ∃ ob ob', H id = some ob ∧ o = some ob' ∧ ob'.sz = ob.sz ∧ ob'.cells = ob.cells
  | [], cl, h, id, o, hm => by
    simp only [shut, Option.some.injEq] at h
    subst h
    cases hm
  | k :: r, cl, h, id, o, hm => by
    simp only [shut] at h
    obtain ⟨ob, hob, h⟩ := Qp h
    obtain ⟨m, hm', h⟩ := Qp h
    simp only [Option.some.injEq] at h
    subst h
    rcases List.mem_cons.1 hm with e | hm
    · injection e with e1 e2
      subst e1 e2
      exact ⟨ob, _, hob, rfl, rfl, rfl⟩
    · exact Qzl r m hm' id o hm
def Q1ao (H : Nat → Option Ob) (vw : Views) (fr : Nat) (byRef : Bool) (f : Nat) (args : List PV) (az : List Ans) : Option EV :=
  (Q1gx H vw fr byRef f args az).bind fun e => bif nodupB (e.eff.hw.map (·.1)) then some e else none
theorem Qxs {G : Nat → Option Fun} {H : Nat → Option Ob} {vw : Views} (hv : VOK H vw) {fr : Nat} {byRef : Bool} {f : Nat} {args : List PV} {az : List Ans} {e : EV} (h : Q1ao H vw fr byRef f args az = some e) (hm : Met e.owed) (hq : Told G e.asked) : Qem (lim G) H fr byRef f args = some e.eff ∧ Turned H vw e := by
  unfold Q1ao at h
  obtain ⟨e', h0, h'⟩ := Qp h
  clear h
  cases hnd : nodupB (e'.eff.hw.map (·.1)) with
  | false => rw [hnd] at h'; cases h'
  | true =>
  rw [hnd] at h'
  simp only [cond_true, Option.some.injEq] at h'
  subst h'
  have hnd := Qz5 hnd
  unfold Q1gx at h0
  unfold Qem
  obtain ⟨y, hy, h⟩ := Qp h0
  clear h0
  obtain ⟨z, hz, h⟩ := Qp h
  simp only at h
  cases hd : disj (y.1.2.2 ++ z.1.2.2) z.1.2.1 with
  | false => rw [hd] at h; cases h
  | true =>
    rw [hd] at h
    simp only [cond_true] at h
    cases az with
    | nil => cases h
    | cons a az' =>
      obtain ⟨r, avw⟩ := a
      cases r with
      | st _ _ => cases h
      | ret v hh =>
        simp only at h
        cases hb : (Nat.ble z.1.2.1.length hh.length && Nat.ble (hh.length - z.1.2.1.length) 64) with
        | false => rw [hb] at h; cases h
        | true =>
          rw [hb] at h
          simp only [cond_true] at h
          obtain ⟨v', hv', h⟩ := Qp h
          obtain ⟨ws, hws, h⟩ := Qp h
          have key : ∀ (hy' : Met y.2) (hz' : Met z.2) (hw' : Met ws.2.1) (ht : Q7 G (.call f y.1.1 z.1.1) (.ret v hh)) (E : Eff),
              (bif flat 8 v && hh.all (fun ob => ob.cells.all (flat 8)) then some ⟨v', ws.1, z.1.2.1 ++ (y.1.2.2 ++ z.1.2.2)⟩ else (shut H (y.1.2.2 ++ z.1.2.2)).bind fun cl => some ⟨v', ws.1 ++ cl, z.1.2.1 ++ (y.1.2.2 ++ z.1.2.2)⟩) = some E →
              ((Q4v (pass H byRef 8) args []).bind fun y => (Q37 H false false 16 0 y.2.1).bind fun z =>
                let ids := z.2.1
                let lent := y.2.2 ++ z.2.2
                bif disj lent ids then
                  (lim G (.call f y.1 z.1)).bind fun r =>
                    match r with
                    | .ret v h =>
                      bif Nat.ble ids.length h.length && Nat.ble (h.length - ids.length) 64 then
                        (back (ren ids fr) 8 v).bind fun v' => (Q8n (ren ids fr) 0 h).bind fun ws =>
                          bif flat 8 v && h.all (fun ob => ob.cells.all (flat 8)) then some ⟨v', ws, ids ++ lent⟩
                          else (shut H lent).bind fun cl => some ⟨v', ws ++ cl, ids ++ lent⟩
                      else none
                    | _ => none
                else none) = some E := by
            intro hy' hz' hw' ht E hE
            rw [Q3n (Q6z hv 8) _ _ y hy hy', Option.bind_some, Q4o hv 16 _ _ z hz hz', Option.bind_some]
            simp only
            rw [hd]
            simp only [cond_true]
            rw [Q1h0 ht, Option.bind_some]
            simp only
            rw [hb]
            simp only [cond_true]
            rw [hv', Option.bind_some, Q7l hh 0 ws hws hw', Option.bind_some]
            exact hE
          have turn : ∀ (cl : List (Nat × Option Ob)) (hcl : ∀ id o, (id, o) ∈ cl → ∃ ob ob', H id = some ob ∧ o = some ob' ∧ ob'.sz = ob.sz ∧ ob'.cells = ob.cells) (hn : ((ws.1 ++ cl).map (·.1)).Nodup) (hw' : Met ws.2.1) , VOK (upH H (ws.1 ++ cl)) (putV vw (ws.1.map (·.1)) ws.2.2) := by
            intro cl hcl hn hw' id rows hl
            rcases Qme hl with hl | ⟨hl, hc⟩
            · obtain ⟨ob, hob, hok⟩ := Q7m hh 0 ws hws hw' id rows (Q10j hl)
              exact ⟨ob, Q14o hn (List.mem_append_left _ hob), hok⟩
            · obtain ⟨ob, hob, hok⟩ := hv id rows hl
              by_cases hx : ∃ o, (id, o) ∈ cl
              · obtain ⟨o, ho⟩ := hx
                obtain ⟨ob1, ob', h1, rfl, h2, h3⟩ := hcl id o ho
                rw [hob] at h1
                injection h1 with h1
                subst h1
                refine ⟨ob', Q14o hn (List.mem_append_right _ ho), ?_⟩
                rw [h2, h3]
                exact hok
              · refine ⟨ob, ?_, hok⟩
                rw [Q73 (fun y hy e => ?_)]
                · exact hob
                · rcases List.mem_append.1 hy with hy | hy
                  · exact hc (by rw [← e]; exact List.mem_map_of_mem hy)
                  · exact hx ⟨y.2, by rw [← e]; exact hy⟩
          cases hlent : y.1.2.2 ++ z.1.2.2 with
          | nil =>
            rw [hlent] at h
            simp only [Option.some.injEq] at h
            subst h
            simp only at hm hq hnd
            refine ⟨key hm.left hm.right.left hm.right.right (hq _ List.mem_cons_self) _ ?_, ?_⟩
            · rw [hlent]
              cases (flat 8 v && hh.all (fun ob => ob.cells.all (flat 8))) <;> simp [shut]
            · have := turn [] (fun _ _ h => by cases h) (by simpa using hnd) hm.right.right
              rw [List.append_nil] at this
              exact this
          | cons l0 lr =>
            rw [hlent] at h
            simp only at h
            cases hf : (flat 8 v && hh.all (fun ob => ob.cells.all (flat 8))) with
            | true =>
              rw [hf] at h
              simp only [cond_true, Option.some.injEq] at h
              subst h
              simp only at hm hq hnd
              refine ⟨key hm.left hm.right.left hm.right.right (hq _ List.mem_cons_self) _ ?_, ?_⟩
              · rw [hlent, hf]
                rfl
              · have := turn [] (fun _ _ h => by cases h) (by simpa using hnd) hm.right.right
                rw [List.append_nil] at this
                exact this
            | false =>
              rw [hf] at h
              simp only [cond_false] at h
              obtain ⟨cl, hcl, h⟩ := Qp h
              simp only [Option.some.injEq] at h
              subst h
              simp only at hm hq hnd
              refine ⟨key hm.left hm.right.left hm.right.right (hq _ List.mem_cons_self) _ ?_, ?_⟩
              · rw [hlent, hf]
                simp only [cond_false]
                rw [hcl, Option.bind_some]
              · exact turn cl (Qzl _ _ hcl) hnd hm.right.right
def mute : Orc := fun _ => none
theorem Q13c {X : Orc} {e : Nat → PV} {H : Nat → Option Ob} {fr : Nat} {o : IOp} {x : Eff} (h : iop mute e H fr o = some x) : iop X e H fr o = some x := by
 cases o with
 | call b f xs =>
  simp only [iop] at h
  obtain ⟨t, _, h⟩ := Qp h
  obtain ⟨_, h, _⟩ := Qp h
  unfold Qem at h
  obtain ⟨y, _, h⟩ := Qp h
  obtain ⟨z, _, h⟩ := Qp h
  simp only at h
  cases hd : disj (y.2.2 ++ z.2.2) z.2.1 with
  | false => rw [hd] at h; cases h
  | true =>
   rw [hd] at h
   simp only [cond_true] at h
   obtain ⟨_, h, _⟩ := Qp h
   cases h
 | _ => exact h
theorem Q15p {X : Orc} {e : Nat → PV} {H : Nat → Option Ob} {fr : Nat} {o : IOper} {x : Eff} (h : Q7o mute e H fr o = some x) : Q7o X e H fr o = some x := by
 unfold Q7o at h ⊢
 obtain ⟨w, hw, h⟩ := Qp h
 rw [hw, Option.bind_some]
 cases w with
 | true => exact Q13c h
 | false => exact h
def iopV (e : Nat → PV) (H : Nat → Option Ob) (vw : Views) (fr : Nat) (az : List Ans) : IOp → Option EV
  | .call byRef f args => (target (f.ev e) (evs e args)).bind fun t => (Q1ao H vw fr byRef t.1 t.2 az).bind fun y => some { y with eff := trim H y.eff }
  | o => (iop mute e H fr o).bind fun x => some ⟨x, x.hw.map (·.1), [], az, [], []⟩
def Q13e (e : Nat → PV) (H : Nat → Option Ob) (vw : Views) (fr : Nat) (az : List Ans) (o : IOper) : Option EV :=
 (o.wanted e).bind fun w => bif w then iopV e H vw fr az o.op else some ⟨⟨.tup [], [], []⟩, [], [], az, [], []⟩
theorem Qee {H : Nat → Option Ob} {vw : Views} (hv : VOK H vw) {x : Eff} {az : List Ans} : Turned H vw ⟨x, x.hw.map (·.1), [], az, [], []⟩ := by
  intro id rows hl
  rcases Qme hl with hl | ⟨hl, hc⟩
  · cases hl
  · obtain ⟨ob, hob, hok⟩ := hv id rows hl
    refine ⟨ob, ?_, hok⟩
    rw [Q73 (fun y hy e => hc (by rw [← e]; exact List.mem_map_of_mem hy))]
    exact hob
theorem Qea {G : Nat → Option Fun} {e : Nat → PV} {H : Nat → Option Ob} {vw : Views} (hv : VOK H vw) {fr : Nat} {az : List Ans} {o : IOper} {y : EV} (h : Q13e e H vw fr az o = some y) (hm : Met y.owed) (hq : Told G y.asked) : Q7o (lim G) e H fr o = some y.eff ∧ Turned H vw y := by
  unfold Q13e at h
  obtain ⟨w, hw, h⟩ := Qp h
  unfold Q7o
  rw [hw, Option.bind_some]
  cases w with
  | false =>
    simp only [cond_false, Option.some.injEq] at h
    subst h
    exact ⟨rfl, Qee hv (x := ⟨.tup [], [], []⟩)⟩
  | true =>
    simp only [cond_true] at h ⊢
    have gen : ((iop mute e H fr o.op).bind fun x => some (⟨x, x.hw.map (·.1), [], az, [], []⟩ : EV)) = some y → iop (lim G) e H fr o.op = some y.eff ∧ Turned H vw y := by
      intro h
      obtain ⟨x, hx, h⟩ := Qp h
      simp only [Option.some.injEq] at h
      subst h
      exact ⟨Q13c hx, Qee hv⟩
    cases ho : o.op with
    | call b f xs =>
      rw [ho] at h
      simp only [iopV] at h
      obtain ⟨t, ht, h⟩ := Qp h
      simp only [iop]
      obtain ⟨y', h9, hy⟩ := Qp h
      clear h
      simp only [Option.some.injEq] at hy
      subst hy
      have hs := Qxs hv h9 hm hq
      rw [ht, Option.bind_some, hs.1, Option.bind_some]
      refine ⟨rfl, fun id rows hl => ?_⟩
      rw [Q11b]
      exact hs.2 id rows hl
    | _ =>
      rw [ho] at h gen
      exact gen h
abbrev Q76 := List (Nat × (Eff × Views))
structure TV where
  env : List PV
  heap : List (Nat × Ob)
  vw : Views
  effs : List Eff
  hs : Q76
  az : List Ans
  owed : List Prop
  asked : Qau
def nobody : Nat → Option Ob := fun _ => none
def Qxv (nx : Nat) : Nat → List IOper → Q76 → List Ans → List PV → List (Nat × Ob) → Views → Option TV
  | _, [], hs, az, env, h, vw => some ⟨env, h, vw, [], hs, az, [], []⟩
  | i, o :: r, hs, az, env, h, vw =>
    match hs with
    | [] => (Q13e (envF env) (look h) vw (nx + 64 * i) az o).bind fun x => (Qxv nx (i + 1) r [] x.az (put env o.dst x.eff.v) (hput h x.eff.hw) (putV vw x.cut x.new)).bind fun y => some ⟨y.env, y.heap, y.vw, x.eff :: y.effs, y.hs, y.az, x.owed ++ y.owed, x.asked ++ y.asked⟩
    | (k + 1, z) :: hs' => (Q13e (envF env) (look h) vw (nx + 64 * i) az o).bind fun x => (Qxv nx (i + 1) r ((k, z) :: hs') x.az (put env o.dst x.eff.v) (hput h x.eff.hw) (putV vw x.cut x.new)).bind fun y => some ⟨y.env, y.heap, y.vw, x.eff :: y.effs, y.hs, y.az, x.owed ++ y.owed, x.asked ++ y.asked⟩
    | (0, x) :: hs' => (Qxv nx (i + 1) r hs' az (put env o.dst x.1.v) (hput h x.1.hw) (putV vw (x.1.hw.map (·.1)) x.2)).bind fun y => some ⟨y.env, y.heap, y.vw, x.1 :: y.effs, y.hs, y.az, (Q7o mute (envF env) (look h) (nx + 64 * i) o = some x.1) :: ((x.2.map fun p => Seen (upH nobody x.1.hw p.1) p.2) ++ y.owed), y.asked⟩
theorem VOK.turned {h : List (Nat × Ob)} {vw : Views} {y : EV} (ht : Turned (look h) vw y) : VOK (look (hput h y.eff.hw)) (putV vw y.cut y.new) := by
 rw [Q6y]
 exact ht
theorem Q17u {ws : List (Nat × Option Ob)} {H : Nat → Option Ob} {id : Nat} {ob : Ob} (h : upH nobody ws id = some ob) : upH H ws id = some ob := by
  by_cases c : ∃ x ∈ ws, x.1 = id
  · rw [Qmt (H' := nobody) c]
    exact h
  · rw [Q73 (fun y hy e => c ⟨y, hy, e⟩)] at h
    cases h
theorem Qly {G : Nat → Option Fun} {nx : Nat} : ∀ (ops : List IOper) (i : Nat) (hs : Q76) (az : List Ans) (env : List PV) (h : List (Nat × Ob)) (vw : Views) (t : TV), Qxv nx i ops hs az env h vw = some t → VOK (look h) vw → Met t.owed → Told G t.asked → Q5m (lim G) nx i ops env h = some (t.env, t.heap, t.effs) ∧ VOK (look t.heap) t.vw
  | [], i, hs, az, env, h, vw, t, ht, hv, _, _ => by
    simp only [Qxv, Option.some.injEq] at ht
    subst ht
    exact ⟨rfl, hv⟩
  | o :: r, i, hs, az, env, h, vw, t, ht, hv, hm, hq => by
    have go : ∀ (x : EV) (hs' : Q76) (vw' : Views), Q7o (lim G) (envF env) (look h) (nx + 64 * i) o = some x.eff → VOK (look (hput h x.eff.hw)) vw' → ∀ (y : TV), Qxv nx (i + 1) r hs' x.az (put env o.dst x.eff.v) (hput h x.eff.hw) vw' = some y → Met y.owed → Told G y.asked → y.env = t.env → y.heap = t.heap → y.vw = t.vw → x.eff :: y.effs = t.effs → Q5m (lim G) nx i (o :: r) env h = some (t.env, t.heap, t.effs) ∧ VOK (look t.heap) t.vw := by
      intro x hs' vw' hx hvx y hy hmy hqy e1 e2 e3 e4
      obtain ⟨r1, r2⟩ := Qly r (i + 1) hs' _ _ _ _ y hy hvx hmy hqy
      simp only [Q5m]
      rw [hx, Option.bind_some, r1, Option.bind_some, ← e1, ← e2, ← e3, ← e4]
      exact ⟨rfl, r2⟩
    unfold Qxv at ht
    split at ht
    · obtain ⟨x, hx, ht⟩ := Qp ht
      obtain ⟨y, hy, ht⟩ := Qp ht
      simp only [Option.some.injEq] at ht
      subst ht
      obtain ⟨s1, s2⟩ := Qea hv hx hm.left hq.left
      exact go x _ _ s1 (VOK.turned s2) y hy hm.right hq.right rfl rfl rfl rfl
    · obtain ⟨x, hx, ht⟩ := Qp ht
      obtain ⟨y, hy, ht⟩ := Qp ht
      simp only [Option.some.injEq] at ht
      subst ht
      obtain ⟨s1, s2⟩ := Qea hv hx hm.left hq.left
      exact go x _ _ s1 (VOK.turned s2) y hy hm.right hq.right rfl rfl rfl rfl
    · rename_i x hs'
      obtain ⟨y, hy, ht⟩ := Qp ht
      simp only [Option.some.injEq] at ht
      subst ht
      have hx : Q7o (lim G) (envF env) (look h) (nx + 64 * i) o = some x.1 := Q15p hm.head
      have hseen : Met (x.2.map fun p => Seen (upH nobody x.1.hw p.1) p.2) := hm.tail.left
      have hvx : VOK (look (hput h x.1.hw)) (putV vw (x.1.hw.map (·.1)) x.2) := by
        rw [Q6y]
        intro id rows hl
        rcases Qme hl with hl | ⟨hl, hc⟩
        · obtain ⟨ob, hob, hok⟩ := hseen _ (List.mem_map_of_mem (f := fun p : Nat × List (List PV) => Seen (upH nobody x.1.hw p.1) p.2) (Q10j hl))
          exact ⟨ob, Q17u hob, hok⟩
        · obtain ⟨ob, hob, hok⟩ := hv id rows hl
          refine ⟨ob, ?_, hok⟩
          rw [Q73 (fun y hy e => hc (by rw [← e]; exact List.mem_map_of_mem hy))]
          exact hob
      exact go ⟨x.1, x.1.hw.map (·.1), x.2, az, [], []⟩ hs' _ hx hvx y hy hm.tail.right hq rfl rfl rfl rfl
structure CV where
  ex : Ex
  st : St
  vw : Views
  hs : Q76
  az : List Ans
  owed : List Prop
  asked : Qau
def Q61 (m : Nat) : IR → Q76 → List Ans → Views → St → Option CV
 | .skip, hs, az, vw, s => some ⟨.normal, s, vw, hs, az, [], []⟩
 | .reg ops draw, hs, az, vw, s => (Qxv s.nx 0 ops hs az s.env s.heap vw).bind fun y => bif !draw || calm (ops.zip y.effs) 0 (ops.zip y.effs) then some ⟨.normal, ⟨y.env, y.heap, s.nx + 64 * ops.length⟩, y.vw, y.hs, y.az, y.owed, y.asked⟩ else none
 | .seq a b, hs, az, vw, s => (Q61 m a hs az vw s).bind fun x => (match x.ex with | .normal => (Q61 m b x.hs x.az x.vw x.st).bind fun y => some ⟨y.ex, y.st, y.vw, y.hs, y.az, x.owed ++ y.owed, x.asked ++ y.asked⟩ | _ => some x)
 | .cond c a b, hs, az, vw, s => (match c.ev (envF s.env) with | .bool t => (bif t then Q61 m a hs az vw s else Q61 m b hs az vw s) | _ => none)
 | .block id b, hs, az, vw, s => (Q61 m b hs az vw s).bind fun x => (match x.ex with | .exit j => (bif Nat.beq j id then some ⟨.normal, x.st, x.vw, x.hs, x.az, x.owed, x.asked⟩ else some x) | _ => some x)
 | .loop live b, hs, az, vw, s => (gcV vw m live s).bind fun y => (match az with
  | [] => none
  | a :: az' => (match a.r with | .st e s' => some ⟨e, s', a.vw, hs, az', y.2 ++ (a.vw.map fun p => Seen (look s'.heap p.1) p.2), [(.loop m live b y.1.1 y.1.2, a.r)]⟩ | _ => none))
 | .exit id, hs, az, vw, s => some ⟨.exit id, s, vw, hs, az, [], []⟩
 | .ret, hs, az, vw, s => some ⟨.ret, s, vw, hs, az, [], []⟩
theorem Q2p {G : Nat → Option Fun} {m : Nat} : ∀ (c : IR) (hs : Q76) (az : List Ans) (vw : Views) (s : St) (t : CV), Q61 m c hs az vw s = some t → VOK (look s.heap) vw → Met t.owed → Told G t.asked → Q4h (lim G) m c s = some (t.ex, t.st) ∧ VOK (look t.st.heap) t.vw
  | .skip, hs, az, vw, s, t, ht, hv, _, _ => by
    simp only [Q61, Option.some.injEq] at ht
    subst ht
    exact ⟨rfl, hv⟩
  | .reg ops draw, hs, az, vw, s, t, ht, hv, hm, hq => by
    simp only [Q61] at ht
    obtain ⟨y, hy, ht⟩ := Qp ht
    cases hc : (!draw || calm (ops.zip y.effs) 0 (ops.zip y.effs)) with
    | false => rw [hc] at ht; cases ht
    | true =>
      rw [hc] at ht
      simp only [cond_true, Option.some.injEq] at ht
      subst ht
      obtain ⟨r1, r2⟩ := Qly ops 0 hs az s.env s.heap vw y hy hv hm hq
      have h1 : ireg (lim G) ops draw s = some ⟨y.env, y.heap, s.nx + 64 * ops.length⟩ := by
        unfold ireg
        rw [r1, Option.bind_some]
        simp only
        rw [hc]
        rfl
      simp only [Q4h]
      rw [h1]
      exact ⟨rfl, r2⟩
  | .seq a b, hs, az, vw, s, t, ht, hv, hm, hq => by
    simp only [Q61] at ht
    obtain ⟨x, hx, ht⟩ := Qp ht
    obtain ⟨ex, st, vw1, hs1, as1, ow1, ak1⟩ := x
    simp only [Q4h]
    cases ex with
    | normal =>
      simp only at ht
      obtain ⟨y, hy, ht⟩ := Qp ht
      simp only [Option.some.injEq] at ht
      subst ht
      obtain ⟨r1, r2⟩ := Q2p a hs az vw s _ hx hv hm.left hq.left
      rw [r1, Option.bind_some]
      exact Q2p b _ _ _ _ y hy r2 hm.right hq.right
    | exit j =>
      simp only [Option.some.injEq] at ht
      subst ht
      obtain ⟨r1, r2⟩ := Q2p a hs az vw s _ hx hv hm hq
      rw [r1, Option.bind_some]
      exact ⟨rfl, r2⟩
    | ret =>
      simp only [Option.some.injEq] at ht
      subst ht
      obtain ⟨r1, r2⟩ := Q2p a hs az vw s _ hx hv hm hq
      rw [r1, Option.bind_some]
      exact ⟨rfl, r2⟩
  | .cond c a b, hs, az, vw, s, t, ht, hv, hm, hq => by
    simp only [Q61] at ht
    simp only [Q4h]
    split at ht
    · rename_i q hq'
      rw [hq']
      simp only
      cases q with
      | true => exact Q2p a hs az vw s t ht hv hm hq
      | false => exact Q2p b hs az vw s t ht hv hm hq
    · cases ht
  | .block id b, hs, az, vw, s, t, ht, hv, hm, hq => by
    simp only [Q61] at ht
    obtain ⟨x, hx, ht⟩ := Qp ht
    obtain ⟨ex, st, vw1, hs1, as1, ow1, ak1⟩ := x
    simp only [Q4h]
    cases ex with
    | normal =>
      simp only [Option.some.injEq] at ht
      subst ht
      obtain ⟨r1, r2⟩ := Q2p b hs az vw s _ hx hv hm hq
      rw [r1, Option.bind_some]
      exact ⟨rfl, r2⟩
    | ret =>
      simp only [Option.some.injEq] at ht
      subst ht
      obtain ⟨r1, r2⟩ := Q2p b hs az vw s _ hx hv hm hq
      rw [r1, Option.bind_some]
      exact ⟨rfl, r2⟩
    | exit j =>
      simp only at ht
      cases hj : Nat.beq j id with
      | true =>
        rw [hj] at ht
        simp only [cond_true, Option.some.injEq] at ht
        subst ht
        obtain ⟨r1, r2⟩ := Q2p b hs az vw s _ hx hv hm hq
        rw [r1, Option.bind_some]
        simp only
        rw [hj]
        exact ⟨rfl, r2⟩
      | false =>
        rw [hj] at ht
        simp only [cond_false, Option.some.injEq] at ht
        subst ht
        obtain ⟨r1, r2⟩ := Q2p b hs az vw s _ hx hv hm hq
        rw [r1, Option.bind_some]
        simp only
        rw [hj]
        exact ⟨rfl, r2⟩
  | .loop live b, hs, az, vw, s, t, ht, hv, hm, hq => by
    simp only [Q61] at ht
    obtain ⟨y, hy, ht⟩ := Qp ht
    simp only [Q4h]
    cases az with
    | nil => cases ht
    | cons a az' =>
      obtain ⟨r, avw⟩ := a
      cases r with
      | ret _ _ => cases ht
      | st e s' =>
        simp only [Option.some.injEq] at ht
        subst ht
        rw [Qxq hv hy hm.left, Option.bind_some, Q1h0 (hq _ List.mem_cons_self), Option.bind_some]
        refine ⟨rfl, fun id rows hl => ?_⟩
        exact hm.right _ (List.mem_map_of_mem (f := fun p : Nat × List (List PV) => Seen (look s'.heap p.1) p.2) (Q10j hl))
  | .exit id, hs, az, vw, s, t, ht, hv, _, _ => by
    simp only [Q61, Option.some.injEq] at ht
    subst ht
    exact ⟨rfl, hv⟩
  | .ret, hs, az, vw, s, t, ht, hv, _, _ => by
    simp only [Q61, Option.some.injEq] at ht
    subst ht
    exact ⟨rfl, hv⟩
def finV (fn : IFn) (m : Nat) (vw : Views) (s : St) : Option (Rs × List Prop) :=
 (mapO (rv s) fn.res).bind fun vs =>
  let a := bif fn.keep then Q4k s.nx vs else (vs, s.nx, [])
  let H := look (s.heap ++ a.2.2)
  (Q8z (Qbb H vw fn.keep 8) a.1 (upTo m)).bind fun y =>
   (Q8v H vw false true 32 0 y.1.2.1).bind fun z =>
    bif disj (y.1.2.2 ++ z.1.2.2) z.1.2.1 then some (.ret (match y.1.1 with | [v] => v | l => .tup l) (regr m z.1.1), y.2 ++ z.2) else none
theorem Qqx {fn : IFn} {m : Nat} {vw : Views} {s : St} (hv : VOK (look s.heap) vw) {y : Rs × List Prop} (h : finV fn m vw s = some y) (hm : Met y.2) : fin fn m s = some y.1 := by
 unfold finV at h
 unfold fin
 obtain ⟨vs, hvs, h⟩ := Qp h
 rw [hvs, Option.bind_some]
 simp only at h ⊢
 have hv' : VOK (look (s.heap ++ (bif fn.keep then Q4k s.nx vs else (vs, s.nx, [])).2.2)) vw := by
  intro id rows hl
  obtain ⟨ob, hob, hok⟩ := hv id rows hl
  refine ⟨ob, ?_, hok⟩
  rw [Qu0, hob]
 obtain ⟨x, hx, h⟩ := Qp h
 obtain ⟨z, hz, h⟩ := Qp h
 cases hd : disj (x.1.2.2 ++ z.1.2.2) z.1.2.1 with
 | false => rw [hd] at h; cases h
 | true =>
  rw [hd] at h
  simp only [cond_true, Option.some.injEq] at h
  subst h
  rw [Q3n (Q6z hv' 8) _ _ x hx hm.left, Option.bind_some, Q4o hv' 32 _ _ z hz hm.right, Option.bind_some, hd]
  rfl
def Q1ib (fn : IFn) (args : List PV) (h : List Ob) (vw : Views) (hs : Q76) (az : List Ans) : Option (Rs × List Prop × Qau) :=
 bif Nat.beq args.length fn.np then
  (Q61 h.length fn.body hs az vw ⟨args ++ nuns (fn.nt - fn.np), number 0 h, h.length⟩).bind fun x =>
   (match x.ex with
    | .exit _ => none
    | _ => (finV fn h.length x.vw x.st).bind fun r => some (r.1, x.owed ++ r.2, x.asked))
 else none
theorem Q1jj {G : Nat → Option Fun} {f : Nat} {fn : IFn} (hG : G f = some (.ir fn)) {args : List PV} {h : List Ob} {vw : Views} (hv : VOK (look (number 0 h)) vw) {hs : Q76} {az : List Ans} {r : Rs} {ow : List Prop} {ak : Qau} (hp : Met ow) (hq : Told G ak) (ht : Q1ib fn args h vw hs az = some (r, ow, ak)) : Q7 G (.call f args h) r := by
 refine Q1ct Qhj ?_
 unfold Q1ib at ht
 simp only [phi, hG]
 cases hl : Nat.beq args.length fn.np with
 | false => rw [hl] at ht; cases ht
 | true =>
  rw [hl] at ht
  simp only [cond_true] at ht ⊢
  obtain ⟨x, hx, ht⟩ := Qp ht
  obtain ⟨ex, st, vw1, hs1, as1, ow1, ak1⟩ := x
  cases ex with
  | exit j => cases ht
  | normal =>
   simp only at ht
   obtain ⟨r', hr, ht⟩ := Qp ht
   simp only [Option.some.injEq, Prod.mk.injEq] at ht
   obtain ⟨rfl, rfl, rfl⟩ := ht
   obtain ⟨r1, r2⟩ := Q2p _ hs az vw _ _ hx hv hp.left hq
   rw [r1, Option.bind_some]
   exact Qqx r2 hr hp.right
  | ret =>
   simp only at ht
   obtain ⟨r', hr, ht⟩ := Qp ht
   simp only [Option.some.injEq, Prod.mk.injEq] at ht
   obtain ⟨rfl, rfl, rfl⟩ := ht
   obtain ⟨r1, r2⟩ := Q2p _ hs az vw _ _ hx hv hp.left hq
   rw [r1, Option.bind_some]
   exact Qqx r2 hr hp.right
theorem VOK.nil {H : Nat → Option Ob} : VOK H [] := fun _ _ h => by cases h
def Q1il (m : Nat) (live : List Nat) (b : IR) (env : List PV) (h : List Ob) (vw : Views) (hs : Q76) (az : List Ans) : Option ((List PV × List Ob) × List Prop × Qau) :=
 (Q61 m b hs az vw ⟨env, number 0 h, h.length⟩).bind fun x => (match x.ex with | .normal => (gcV x.vw m live x.st).bind fun y => some (y.1, x.owed ++ y.2, x.asked) | _ => none)
theorem Q119 {G : Nat → Option Fun} {m : Nat} {live : List Nat} {b : IR} {env : List PV} {h : List Ob} {vw : Views} (hv : VOK (look (number 0 h)) vw) {hs : Q76} {az : List Ans} {y : List PV × List Ob} {ow : List Prop} {ak : Qau} {r : Rs} (hp : Met ow) (hq : Told G ak) (ht : Q1il m live b env h vw hs az = some (y, ow, ak)) (hr : Q7 G (.loop m live b y.1 y.2) r) : Q7 G (.loop m live b env h) r := by
 unfold Q1il at ht
 obtain ⟨x, hx, ht⟩ := Qp ht
 obtain ⟨ex, st, vw1, hs1, as1, ow1, ak1⟩ := x
 cases ex with
 | normal =>
  simp only at ht
  obtain ⟨y', hg, ht⟩ := Qp ht
  simp only [Option.some.injEq, Prod.mk.injEq] at ht
  obtain ⟨rfl, rfl, rfl⟩ := ht
  obtain ⟨r1, r2⟩ := Q2p _ hs az vw _ _ hx hv hp.left hq
  exact Q17r Qhj r1 (Qxq r2 hg hp.right) hr
 | exit j => cases ht
 | ret => cases ht
def Q1aw (m : Nat) (b : IR) (env : List PV) (h : List Ob) (vw : Views) (hs : Q76) (az : List Ans) : Option ((Ex × St) × List Prop × Qau) :=
 (Q61 m b hs az vw ⟨env, number 0 h, h.length⟩).bind fun x => (match x.ex with | .normal => none | e => some ((e, x.st), x.owed, x.asked))
theorem Q17s {G : Nat → Option Fun} {m : Nat} {live : List Nat} {b : IR} {env : List PV} {h : List Ob} {vw : Views} (hv : VOK (look (number 0 h)) vw) {hs : Q76} {az : List Ans} {x : Ex × St} {ow : List Prop} {ak : Qau} (hp : Met ow) (hq : Told G ak) (ht : Q1aw m b env h vw hs az = some (x, ow, ak)) : Q7 G (.loop m live b env h) (.st x.1 x.2) := by
 unfold Q1aw at ht
 obtain ⟨y, hy, ht⟩ := Qp ht
 obtain ⟨ex, st, vw1, hs1, as1, ow1, ak1⟩ := y
 cases ex with
 | normal => cases ht
 | exit j =>
  simp only [Option.some.injEq, Prod.mk.injEq] at ht
  obtain ⟨rfl, rfl, rfl⟩ := ht
  exact Qms Qhj (by intro h; cases h) (Q2p _ hs az vw _ _ hy hv hp hq).1
 | ret =>
  simp only [Option.some.injEq, Prod.mk.injEq] at ht
  obtain ⟨rfl, rfl, rfl⟩ := ht
  exact Qms Qhj (by intro h; cases h) (Q2p _ hs az vw _ _ hy hv hp hq).1
end Go.Pv
end

section
/-
  Small words and hints' lemmas for walks that a program prints.
-/
namespace Go.Pv
def bE (b : Bool) : Eff := ⟨.bool b, [], []⟩
def vE (v : PV) : Eff := ⟨v, [], []⟩
def w64 (n : Int) : Int := IntKind.i64.wrap n
def mx (x y : Int) : Int := if y > x then y else x
def sEq (a b : ByteArray) : Bool := a.toList == b.toList
def sLt (a b : ByteArray) : Bool := Op.bytesLess a.toList b.toList
theorem dec (c v : Bool) (h : c = v) : some (bE c) = some (bE v) := by rw [h]
theorem toldOf {G : Nat → Option Fun} {e : En} {r r' : Rs} (h : Q7 G e r) (hr : r = r') : Q7 G e r' := hr ▸ h
theorem Qo {α : Type} {f : α → List PV} {l : List α} {i : Nat} {x : α} (h : l[i]? = some x) : (l.map f)[i]? = some (f x) := by
 rw [List.getElem?_map, h]
 rfl
def ixE (sz : Nat) (l : List (List PV)) (i : Int) : Option Eff := (opP (fun _ => .un) (.iaddr sz (.c (.sl l)) (.c (.int .i64 i)))).bind fun v => some ⟨v, [], []⟩
theorem Q2s (sz : Nat) (l : List (List PV)) (i : Nat) (r : List PV) (h : l[i]? = some r) (hs : r.length = sz) : ixE sz l (i : Int) = some (vE (.rf r)) := by
 unfold ixE
 simp only [opP, Opd.ev, asNat]
 have h0 : decide (0 ≤ (i : Int)) = true := by simp
 rw [h0]
 simp only [cond_true, Option.bind_some, Int.toNat_natCast]
 rw [h]
 subst hs
 simp [vE]
theorem Q1gz (sz : Nat) (l : List (List PV)) (i : Int) (r : List PV) (h0 : 0 ≤ i) (h : l[i.toNat]? = some r) (hs : r.length = sz) : ixE sz l i = some (vE (.rf r)) := by
 have := Q2s sz l i.toNat r h hs
 rw [show ((i.toNat : Nat) : Int) = i by omega] at this
 exact this
def lenE (l : List (List PV)) : Option Eff := some ⟨.int .i64 (l.length : Int), [], []⟩
theorem Q11 (l : List (List PV)) (n : Nat) (h : l.length = n) : lenE l = some (vE (.int .i64 (n : Int))) := by
 unfold lenE
 rw [h]
 rfl
theorem Qzs {n : Int} (h : -9223372036854775808 ≤ n ∧ n ≤ 9223372036854775807) : w64 n = n := by
 unfold w64 IntKind.wrap
 simp [IntKind.signed, IntKind.bits]
 omega
def addE (a b : Int) : Option Eff := some ⟨.int .i64 (IntKind.i64.wrap (a + b)), [], []⟩
theorem Q2g (i : Nat) (h : i < 9223372036854775807) : addE (i : Int) 1 = some (vE (.int .i64 ((i + 1 : Nat) : Int))) := by
 unfold addE
 have : IntKind.i64.wrap ((i : Int) + 1) = ((i + 1 : Nat) : Int) := by
  have := Qzs (n := (i : Int) + 1) (by omega)
  unfold w64 at this
  rw [this]
  rfl
 rw [this]
 rfl
theorem Q1gw {ob : Ob} {k : Nat} (h : ob.cells.length = k) : apC ob k = some ob.cells := by
 unfold apC
 rw [h, Nat.beq_refl]
 rfl
def apE (id lid fr sz bytes ro lro : Nat) (lgr : Bool) (rows : List (List PV)) (r : List PV) (n : Nat) : Option Eff :=
 Q4e (look [(id, ⟨sz, ro, true, rows.flatten⟩), (lid, ⟨sz, lro, lgr, r⟩)]) fr sz bytes (.ms id sz 0 n) (.ms lid sz 0 1)
theorem Q42 (id lid fr sz bytes ro lro : Nat) (lgr : Bool) (rows rows' : List (List PV)) (r : List PV) (n n' : Nat) (hne : Nat.beq id lid = false) (hn : n = rows.length) (hn' : n' = rows'.length) (hr' : rows' = rows ++ [r])
  (hs : ∀ r ∈ rows, r.length = sz) (hr : r.length = sz) (hb : (n + 1) * bytes ≤ 140737488355328) :
  apE id lid fr sz bytes ro lro lgr rows r n = some ⟨.ms fr sz 0 n', [(id, none), (fr, some ⟨sz, ro, true, rows'.flatten⟩)], [id, lid]⟩ := by
 subst hn hn' hr'
 unfold apE Q4e
 have h1 : look [(id, (⟨sz, ro, true, rows.flatten⟩ : Ob)), (lid, ⟨sz, lro, lgr, r⟩)] lid = some ⟨sz, lro, lgr, r⟩ := by simp [look, hne]
 have h2 : look [(id, (⟨sz, ro, true, rows.flatten⟩ : Ob)), (lid, ⟨sz, lro, lgr, r⟩)] id = some ⟨sz, ro, true, rows.flatten⟩ := by simp [look]
 have hsrc : source (look [(id, (⟨sz, ro, true, rows.flatten⟩ : Ob)), (lid, ⟨sz, lro, lgr, r⟩)]) sz (.ms lid sz 0 1) = some (1, r, [lid]) := by
  simp only [source, h1, Option.bind_some]
  subst hr
  have : Nat.ble r.length r.length = true := Nat.ble_eq_true_of_le (Nat.le_refl _)
  simp [this]
 rw [hsrc, Option.bind_some]
 simp only [h2, Option.bind_some]
 have hc : (true && Nat.beq sz sz && Nat.beq sz sz && Nat.beq 0 0 && Nat.ble ((rows.length + 1) * bytes) 140737488355328) = true := by
  simp only [Nat.beq_refl, Bool.and_true, Bool.true_and]
  exact Nat.ble_eq_true_of_le hb
 rw [hc, Q1gw (ob := ⟨sz, ro, true, rows.flatten⟩) (Q5l sz rows hs)]
 simp
end Go.Pv
namespace Go.Pv
theorem VOK.cons {H : Nat → Option Ob} {vw : Views} {id : Nat} {rows : List (List PV)} (h : Seen (H id) rows) (hv : VOK H vw) : VOK H ((id, rows) :: vw) := by
 intro k rs hl
 simp only [look] at hl
 cases c : Nat.beq id k with
 | true =>
  have := Nat.eq_of_beq_eq_true c
  subst this
  rw [c] at hl
  simp only [cond_true, Option.some.injEq] at hl
  subst hl
  exact h
 | false =>
  rw [c] at hl
  exact hv k rs hl
theorem Q1k {α : Type} {l : List α} {i : Nat} {x : α} {r : List α} (h : l.drop i = x :: r) : l[i]? = some x ∧ i < l.length ∧ l.drop (i + 1) = r := by
 have h1 : l[i]? = some x := by
  have := congrArg (fun q => q[0]?) h
  simpa [List.getElem?_drop] using this
 have h2 : i < l.length := (List.getElem?_eq_some_iff.1 h1).1
 refine ⟨h1, h2, ?_⟩
 rw [← List.tail_drop, h]
 rfl
theorem Q1m {α : Type} {l : List α} {i : Nat} (h : l.drop i = []) : l.length ≤ i := by
 simpa using h
theorem Q2l {α : Type} {l : List α} {i : Nat} {x : α} (h : l[i]? = some x) : x ∈ l := List.mem_of_getElem? h
theorem Q12k (a b : ByteArray) (h : a.size + b.size ≤ 9223372036854775807) : ((sbin .add a b).bind fun v => some (⟨v, [], []⟩ : Eff)) = some (vE (.str (a ++ b))) := by
 simp only [sbin, Nat.ble_eq_true_of_le h, cond_true, Option.bind_some]
 rfl
def Q10g (l : List Int) : List (List PV) := l.map fun n => [.int .i64 n]
def Qn (l : List ByteArray) : List (List PV) := l.map fun n => [.str n]
theorem Q2f (l : List ByteArray) : (Qn l).length = l.length := by simp [Qn]
theorem Q88 {l : List ByteArray} {i : Nat} {x : ByteArray} (h : l[i]? = some x) : (Qn l)[i]? = some [.str x] := Qo (f := fun n => [.str n]) h
theorem Qmq (l : List ByteArray) (x : ByteArray) : Qn (l ++ [x]) = Qn l ++ [[.str x]] := by simp [Qn]
theorem Q5n {α : Type} {f : α → List PV} {n : Nat} (h : ∀ x, (f x).length = n) (l : List α) : ∀ r ∈ l.map f, r.length = n := fun r hr => by
 obtain ⟨x, _, rfl⟩ := List.mem_map.1 hr
 exact h x
theorem Q4d {α : Type} {f : α → List PV} (h : ∀ x, (f x).all plain = true) (l : List α) : ∀ r ∈ l.map f, ∀ p ∈ r, plain p = true := fun r hr p hp => by
 obtain ⟨x, _, rfl⟩ := List.mem_map.1 hr
 exact List.all_eq_true.1 (h x) p hp
theorem Qbm (l : List ByteArray) : ∀ r ∈ Qn l, r.length = 1 := Q5n (f := fun n => [.str n]) (fun _ => rfl) l
theorem Q41 (l : List ByteArray) (sz : Nat) (h : sz = 1) : ViewOK sz (Qn l).flatten (Qn l) := by subst h; exact ⟨rfl, Qbm l, Q4d (f := fun n => [.str n]) (fun _ => rfl) l⟩
end Go.Pv
namespace Go.Pv
def zoF (l : List (Nat × List PV)) (j : Nat) : List PV := (look l j).getD []
end Go.Pv
namespace Go.Pv
def optI : Option Int → Option Opd
 | none => none
 | some n => some (.c (.int .i64 n))
theorem Qze {l : List (List PV)} {sz : Nat} (hs : ∀ r ∈ l, r.length = sz) : Q70 l sz = true := by
 unfold Q70
 rw [List.all_eq_true]
 intro r hr
 rw [hs r hr]
 exact Nat.beq_refl sz
end Go.Pv
namespace Go.Pv
def ixmE (id sz off len : Nat) (i : Int) : Option Eff := (opP (fun _ => .un) (.iaddr sz (.c (.ms id sz off len)) (.c (.int .i64 i)))).bind fun v => some ⟨v, [], []⟩
theorem Q1q8 (id sz off len : Nat) (i : Int) (k at_ : Nat) (h : i = (k : Int)) (hk : k < len) (ha : at_ = (off + k) * sz) : ixmE id sz off len i = some (vE (.bx id at_)) := by
 subst h ha
 unfold ixmE
 simp only [opP, Opd.ev, asNat]
 have h0 : decide (0 ≤ (k : Int)) = true := by simp
 rw [h0]
 simp only [cond_true, Option.bind_some, Int.toNat_natCast]
 have h1 : (Nat.beq sz sz && Nat.blt k len) = true := by
  rw [Nat.beq_refl, Bool.true_and]
  exact Nat.ble_eq_true_of_le hk
 rw [h1]
 rfl
end Go.Pv
namespace Go.Pv
theorem Q4n (id sz len : Nat) (i : Int) (k : Nat) (hk : k = i.toNat) (h0 : 0 ≤ i) (h1 : i < (len : Int)) : ixmE id sz 0 len i = some (vE (.bx id (k * sz))) :=
 Q1q8 id sz 0 len i k (k * sz) (by omega) (by omega) (by rw [Nat.zero_add])
theorem Q9m (sz : Nat) : ∀ (rows : List (List PV)) (k : Nat), (∀ r ∈ rows, r.length = sz) → rows.flatten.drop (k * sz) = (rows.drop k).flatten
 | [], k, _ => by simp
 | r :: rs, 0, _ => by simp
 | r :: rs, k + 1, h => by
  have h0 := h r List.mem_cons_self
  rw [List.flatten_cons, List.drop_succ_cons, ← Q9m sz rs k (fun q hq => h q (List.mem_cons_of_mem _ hq)), Nat.add_mul, Nat.one_mul, Nat.add_comm, ← List.drop_drop, List.drop_left' h0]
theorem Q15l {sz : Nat} {rows : List (List PV)} {k : Nat} {r : List PV} {off n : Nat} (hr : rows[k]? = some r) (hs : ∀ r ∈ rows, r.length = sz) (hn : off + n ≤ sz) : (rows.flatten.drop (k * sz + off)).take n = (r.drop off).take n ∧ k * sz + off + n ≤ rows.flatten.length := by
  have hk : k < rows.length := (List.getElem?_eq_some_iff.1 hr).1
  have hd : rows.drop k = r :: rows.drop (k + 1) := by
    rw [List.drop_eq_getElem_cons hk]
    congr 1
    exact (List.getElem?_eq_some_iff.1 hr).2
  have hl := hs r (List.mem_of_getElem? hr)
  refine ⟨?_, ?_⟩
  · rw [← List.drop_drop, Q9m sz rows k hs, hd, List.flatten_cons]
    rw [List.drop_append_of_le_length (by omega), List.take_append_of_le_length (by rw [List.length_drop]; omega)]
  · rw [Q5l sz rows hs]
    have : (k + 1) * sz ≤ rows.length * sz := Nat.mul_le_mul_right _ hk
    rw [Nat.add_mul] at this
    omega
def ldE (id sz ro : Nat) (gr : Bool) (cells : List PV) (n : Nat) (ag : Bool) (at_ : Nat) : Option Eff := Qm9 (look [(id, ⟨sz, ro, gr, cells⟩)]) n ag (.bx id at_)
theorem Qan (id sz ro : Nat) (gr : Bool) (cells : List PV) (rows : List (List PV)) (n : Nat) (ag : Bool) (k off at_ : Nat) (r : List PV) (v : PV) (hc : cells = rows.flatten) (ha : at_ = k * sz + off) (hr : rows[k]? = some r) (hs : ∀ r ∈ rows, r.length = sz) (hn : off + n ≤ sz) (hv : shape ag ((r.drop off).take n) = some v) :
  ldE id sz ro gr cells n ag at_ = some ⟨v, [], [id]⟩ := by
 subst hc ha
 obtain ⟨h1, h2⟩ := Q15l hr hs hn
 unfold ldE Qm9 reads
 simp only [look, Nat.beq_refl, cond_true, Option.bind_some]
 rw [Nat.ble_eq_true_of_le h2]
 simp only [cond_true, Option.bind_some]
 rw [h1, hv, Option.bind_some]
theorem Q4u {α : Type} (l : List α) (k : Nat) (d : α) (h : k < l.length) : l[k]? = some (l.getD k d) := by
 rw [List.getD_eq_getElem?_getD, List.getElem?_eq_getElem h]
 rfl
end Go.Pv
namespace Go.Pv
theorem decR (c v : Bool) (hr : List Nat) (h : c = v) : some (⟨.bool c, [], hr⟩ : Eff) = some ⟨.bool v, [], hr⟩ := by rw [h]
end Go.Pv
namespace Go.Pv
end Go.Pv
end

section
/- More of single operations: sums that don't run over; shifts of indexes; stores into a slice of one's own that is known by its rows. -/
namespace Go.Pv
def wE (n : Int) : Option Eff := some ⟨.int .i64 (IntKind.i64.wrap n), [], []⟩
theorem w_ok (n : Int) (h : -9223372036854775808 ≤ n ∧ n ≤ 9223372036854775807) : wE n = some (vE (.int .i64 n)) := by
 unfold wE
 have := Qzs h
 unfold w64 at this
 rw [this]
 rfl
def sCmp (a b : ByteArray) : Int := cmpL a.toList b.toList
theorem Qlu {sz : Nat} : ∀ (rows : List (List PV)) (k : Nat) (r vals : List PV) (off n : Nat), rows[k]? = some r → (∀ q ∈ rows, q.length = sz) → off + n ≤ sz → vals.length = n →
  rows.flatten.take (k * sz + off) ++ (vals ++ rows.flatten.drop (k * sz + off + n)) = (rows.set k (r.take off ++ (vals ++ r.drop (off + n)))).flatten ∧ k * sz + off + n ≤ rows.flatten.length
 | [], _, _, _, _, _, h, _, _, _ => by simp at h
 | q :: rs, 0, r, vals, off, n, h, hs, hn, hv => by
  have hq := hs q List.mem_cons_self
  simp only [List.getElem?_cons_zero, Option.some.injEq] at h
  subst h
  simp only [Nat.zero_mul, Nat.zero_add, List.flatten_cons, List.set_cons_zero, List.length_append]
  refine ⟨?_, by omega⟩
  rw [List.take_append_of_le_length (by omega), List.drop_append_of_le_length (by omega)]
  simp only [List.append_assoc]
 | q :: rs, k + 1, r, vals, off, n, h, hs, hn, hv => by
  have hq := hs q List.mem_cons_self
  simp only [List.getElem?_cons_succ] at h
  obtain ⟨h1, h2⟩ := Qlu rs k r vals off n h (fun q hq => hs q (List.mem_cons_of_mem _ hq)) hn hv
  have e1 : (k + 1) * sz + off = q.length + (k * sz + off) := by rw [hq, Nat.add_mul]; omega
  have e2 : (k + 1) * sz + off + n = q.length + (k * sz + off + n) := by rw [hq, Nat.add_mul]; omega
  simp only [List.flatten_cons, List.set_cons_succ, List.length_append]
  refine ⟨?_, by omega⟩
  rw [e2, e1, List.take_length_add_append, List.drop_length_add_append, ← h1]
  simp only [List.append_assoc]
def stE (id sz ro : Nat) (gr : Bool) (cells : List PV) (n : Nat) (at_ : Nat) (x : PV) : Option Eff := Qb8 (look [(id, ⟨sz, ro, gr, cells⟩)]) n (.bx id at_) x
theorem Q1cq (id sz : Nat) (gr : Bool) (cells : List PV) (rows rows' : List (List PV)) (n k off at_ : Nat) (r : List PV) (x : PV) (hc : cells = rows.flatten) (ha : at_ = k * sz + off) (hr : rows[k]? = some r) (hs : ∀ r ∈ rows, r.length = sz) (hn : off + n ≤ sz) (hx : x.cs.length = n) (hf : x.fits = true) (hrows : rows' = rows.set k (r.take off ++ (x.cs ++ r.drop (off + n)))) :
  stE id sz 0 gr cells n at_ x = some ⟨.un, [(id, some ⟨sz, 0, gr, rows'.flatten⟩)], [id]⟩ := by
 subst hc ha hrows
 obtain ⟨h1, h2⟩ := Qlu rows k r x.cs off n hr hs hn hx
 unfold stE Qb8
 simp only [look, Nat.beq_refl, cond_true, Option.bind_some]
 rw [hx, hf, Nat.beq_refl, Nat.ble_eq_true_of_le h2, Nat.ble_eq_true_of_le (Nat.zero_le _), h1]
 rfl
theorem Qul {α : Type} (f : α → List PV) (l : List α) (k : Nat) (x : α) : (l.set k x).map f = (l.map f).set k (f x) := List.map_set
theorem Q5f {α : Type} {l : List α} {n : Nat} (h : l.length = n) (k : Nat) (x : α) : (l.set k x).length = n := by rw [List.length_set, h]
end Go.Pv
end

section
/- A walk's hints and answers, each with its proof. -/
namespace Go.Pv
structure It where
  hint : Option (Nat × (Eff × Views))
  p : Prop
  pf : p
def hsOf : List It → Q76
 | [] => []
 | x :: r => (match x.hint with | some h => h :: hsOf r | none => hsOf r)
def owOf : List It → List Prop
 | [] => []
 | x :: r => x.p :: owOf r
theorem Q1eu : ∀ l : List It, Met (owOf l)
 | [] => Met.nil
 | x :: r => Met.cons x.pf (Q1eu r)
structure An (G : Nat → Option Fun) where
  e : En
  r : Rs
  vw : Views
  pf : Q7 G e r
def asOf {G : Nat → Option Fun} : List (An G) → List Ans
 | [] => []
 | x :: r => ⟨x.r, x.vw⟩ :: asOf r
def akOf {G : Nat → Option Fun} : List (An G) → Qau
 | [] => []
 | x :: r => (x.e, x.r) :: akOf r
theorem Q14m {G : Nat → Option Fun} : ∀ l : List (An G), Told G (akOf l)
 | [] => Told.nil
 | x :: r => Told.cons x.pf (Q14m r)
def hB {c v : Bool} (n : Nat) (h : c = v) : It := ⟨some (n, (bE v, [])), some (bE c) = some (bE v), dec c v h⟩
def hP {x : Option Eff} {y : Eff} (n : Nat) (h : x = some y) : It := ⟨some (n, (y, [])), x = some y, h⟩
def hV {x : Option Eff} {y : Eff} (n : Nat) (vw : Views) (h : x = some y) : It := ⟨some (n, (y, vw)), x = some y, h⟩
def hQ {p : Prop} (h : p) : It := ⟨none, p, h⟩
def aN {G : Nat → Option Fun} {e : En} {r : Rs} (h : Q7 G e r) : An G := ⟨e, r, [], h⟩
def aV {G : Nat → Option Fun} {e : En} {r : Rs} (vw : Views) (h : Q7 G e r) : An G := ⟨e, r, vw, h⟩
def aB {G : Nat → Option Fun} {e : En} {c v : Bool} (h : Q7 G e (.ret (.bool c) [])) (hc : c = v) : An G := ⟨e, .ret (.bool v) [], [], hc ▸ h⟩
theorem vk1 {sz ro : Nat} {gr : Bool} {cells : List PV} {rows : List (List PV)} (h : ViewOK sz cells rows) : VOK (look (number 0 [⟨sz, ro, gr, cells⟩])) [(0, rows)] := VOK.cons (show Seen _ _ from Q3k (ob := ⟨sz, ro, gr, cells⟩) h) VOK.nil
theorem Q8 {G : Nat → Option Fun} {f : Nat} {fn : IFn} (hG : G f = some (.ir fn)) {args : List PV} {h : List Ob} {vw : Views} (hv : VOK (look (number 0 h)) vw) {r : Rs} (l : List It) (q : List (An G)) (ht : Q1ib fn args h vw (hsOf l) (asOf q) = some (r, owOf l, akOf q)) : Q7 G (.call f args h) r := Q1jj hG hv (Q1eu l) (Q14m q) ht
theorem Ql {G : Nat → Option Fun} {m : Nat} {live : List Nat} {b : IR} {env : List PV} {h : List Ob} {vw : Views} (hv : VOK (look (number 0 h)) vw) {y : List PV × List Ob} {r : Rs} (l : List It) (q : List (An G)) (ht : Q1il m live b env h vw (hsOf l) (asOf q) = some (y, owOf l, akOf q)) (hr : Q7 G (.loop m live b y.1 y.2) r) : Q7 G (.loop m live b env h) r := Q119 hv (Q1eu l) (Q14m q) ht hr
theorem Qm {G : Nat → Option Fun} {m : Nat} {live : List Nat} {b : IR} {env : List PV} {h : List Ob} {vw : Views} (hv : VOK (look (number 0 h)) vw) {x : Ex × St} (l : List It) (q : List (An G)) (ht : Q1aw m b env h vw (hsOf l) (asOf q) = some (x, owOf l, akOf q)) : Q7 G (.loop m live b env h) (.st x.1 x.2) := Q17s hv (Q1eu l) (Q14m q) ht
end Go.Pv
namespace Go.Pv
def hS {sz : Nat} {cells : List PV} {rows : List (List PV)} (ro : Nat) (gr : Bool) (h : ViewOK sz cells rows) : It := hQ (Q3k (ob := ⟨sz, ro, gr, cells⟩) h)
end Go.Pv
end

section
/-
  What a law is handed, as plain Lean values.
-/
namespace Go.Pv
def okI (k : IntKind) (n : Int) : Prop := (Lit.int k n).wf = true
def Q3s (n : Int) : Prop := -9223372036854775808 ≤ n ∧ n ≤ 9223372036854775807
def okU8 (n : Int) : Prop := 0 ≤ n ∧ n ≤ 255
theorem okI.i64 {n : Int} (h : okI .i64 n) : Q3s n := by
 unfold okI at h
 simp [Lit.wf, IntKind.min, IntKind.max, IntKind.signed, IntKind.bits] at h
 exact h
theorem okI.u8 {n : Int} (h : okI .u8 n) : okU8 n := by
 unfold okI at h
 simp [Lit.wf, IntKind.min, IntKind.max, IntKind.signed, IntKind.bits] at h
 unfold okU8
 omega
def okS (s : ByteArray) : Prop := s.size ≤ 140737488351232
def okL {α : Type} (bytes : Nat) (ok : α → Prop) (l : List α) : Prop := l.length * bytes ≤ 140737488351232 ∧ ∀ x ∈ l, ok x
section
variable {Γ : Nat → Option Ty}
theorem OfL.Q18 {f : Ty} {fs : List Ty} {c : List PV} (h : OfL Γ (f :: fs) c) : ∃ a b, c = a ++ b ∧ Of Γ f a ∧ OfL Γ fs b := by
 cases h with
 | cons _ _ a b h1 h2 => exact ⟨a, b, rfl, h1, h2⟩
theorem OfL.empty {c : List PV} (h : OfL Γ [] c) : c = [] := by cases h; rfl
theorem Of.str1 {c : List PV} (h : Of Γ .str c) : ∃ s, c = [.str s] ∧ okS s := by
 cases h with
 | str s h => exact ⟨s, rfl, h⟩
theorem Of.Q1w5 {c : List PV} (h : Of Γ .bool c) : ∃ b, c = [.bool b] := by
 cases h with
 | bool b => exact ⟨b, rfl⟩
theorem Of.bool2 {c : List PV} (h : Of Γ .bool c) : ∃ b, c = [.bool b] ∧ True := by
 obtain ⟨b, hb⟩ := h.Q1w5
 exact ⟨b, hb, trivial⟩
theorem Of.int1 {k : IntKind} {c : List PV} (h : Of Γ (.int k) c) : ∃ n, c = [.int k n] ∧ okI k n := by
 cases h with
 | int _ n h => exact ⟨n, rfl, h⟩
theorem Of.i64 {c : List PV} (h : Of Γ (.int .i64) c) : ∃ n, c = [.int .i64 n] ∧ Q3s n := by
 obtain ⟨n, h1, h2⟩ := h.int1
 exact ⟨n, h1, h2.i64⟩
theorem Of.u8 {c : List PV} (h : Of Γ (.int .u8) c) : ∃ n, c = [.int .u8 n] ∧ okU8 n := by
 obtain ⟨n, h1, h2⟩ := h.int1
 exact ⟨n, h1, h2.u8⟩
theorem Of.st1 {fs : List Ty} {c : List PV} (h : Of Γ (.st fs) c) : OfL Γ fs c := by
 cases h with
 | st _ _ h => exact h
theorem Qlm {α : Type} {f : α → List PV} {ok : α → Prop} : ∀ (l : List (List PV)), (∀ r ∈ l, ∃ x, r = f x ∧ ok x) → ∃ xs : List α, l = xs.map f ∧ ∀ x ∈ xs, ok x
  | [], _ => ⟨[], rfl, fun _ h => absurd h List.not_mem_nil⟩
  | r :: rs, h => by
    obtain ⟨x, hx, hok⟩ := h r List.mem_cons_self
    obtain ⟨xs, hxs, hoks⟩ := Qlm rs (fun q hq => h q (List.mem_cons_of_mem _ hq))
    refine ⟨x :: xs, by rw [hx, hxs]; rfl, fun y hy => ?_⟩
    rcases List.mem_cons.1 hy with rfl | hy
    · exact hok
    · exact hoks y hy
theorem Of.sl1 {bytes : Nat} {e : Ty} {c : List PV} {α : Type} {f : α → List PV} {ok : α → Prop} (h : Of Γ (.sl bytes e) c) (he : ∀ r, Of Γ e r → ∃ x, r = f x ∧ ok x) : ∃ xs : List α, c = [.sl (xs.map f)] ∧ okL bytes ok xs := by
 cases h with
 | sl _ _ l h hl =>
  obtain ⟨xs, rfl, hok⟩ := Qlm l (fun r hr => he r (hl r hr))
  exact ⟨xs, rfl, by simpa using h, hok⟩
theorem Arg.one {ty : Ty} {p : PV} (h : Arg Γ ty p) (hs : ty.isSt Γ = false) : Of Γ ty [p] := by
 obtain ⟨c, hc, hp⟩ := h
 rw [hs] at hp
 have hp : c = [p] := hp
 subst hp
 exact hc
theorem Arg.agg {ty : Ty} {p : PV} (h : Arg Γ ty p) (hs : ty.isSt Γ = true) : ∃ c, p = .agg c ∧ Of Γ ty c := by
 obtain ⟨c, hc, hp⟩ := h
 rw [hs] at hp
 exact ⟨c, hp, hc⟩
end
end Go.Pv
end

section
/-
  Strings: equality and order.
-/
namespace Go.Pv
theorem Q11a (b : ByteArray) : ∀ (n i : Nat) (acc : List UInt8), b.size - i = n → ByteArray.toList.loop b i acc = acc.reverse ++ b.data.toList.drop i := by
 intro n
 induction n with
 | zero =>
  intro i acc h
  unfold ByteArray.toList.loop
  have h1 : ¬ i < b.size := by omega
  rw [if_neg h1]
  have : b.data.toList.drop i = [] := by
   rw [List.drop_eq_nil_iff]
   have : b.data.toList.length = b.size := Array.length_toList
   omega
  rw [this, List.append_nil]
 | succ n ih =>
  intro i acc h
  unfold ByteArray.toList.loop
  have h1 : i < b.size := by omega
  rw [if_pos h1, ih (i + 1) _ (by omega)]
  have hl : i < b.data.toList.length := by rw [show b.data.toList.length = b.size from Array.length_toList]; exact h1
  rw [List.drop_eq_getElem_cons hl, List.reverse_cons, List.append_assoc]
  congr 1
  simp only [List.singleton_append, List.cons.injEq, and_true]
  have : b.data.size = b.size := rfl
  simp [ByteArray.get!, h1, this]
theorem toList_data (b : ByteArray) : b.toList = b.data.toList := by
 unfold ByteArray.toList
 rw [Q11a b _ 0 [] rfl]
 simp
theorem toList_inj {a b : ByteArray} (h : a.toList = b.toList) : a = b := by
 rw [toList_data, toList_data] at h
 cases a
 cases b
 simp at h
 rw [h]
theorem Q3v {a b : ByteArray} : sEq a b = true ↔ a = b := by
 unfold sEq
 rw [beq_iff_eq]
 exact ⟨toList_inj, fun h => by rw [h]⟩
mutual
inductive Val where
 | mk (kind n : Int) (s : ByteArray) (list : List Val) (fields : List Fld)
inductive Fld where
 | mk (name : ByteArray) (v : Val)
end
def Val.kind : Val → Int
 | .mk k _ _ _ _ => k
def Val.n : Val → Int
 | .mk _ n _ _ _ => n
def Val.s : Val → ByteArray
 | .mk _ _ s _ _ => s
def Val.list : Val → List Val
 | .mk _ _ _ l _ => l
def Val.fields : Val → List Fld
 | .mk _ _ _ _ f => f
def Fld.name : Fld → ByteArray
 | .mk n _ => n
def Fld.v : Fld → Val
 | .mk _ v => v
mutual
def Val.cs : Val → List PV
 | .mk k n s l f => [.int .i64 k, .int .i64 n, .str s, .sl (Val.css l), .sl (Fld.css f)]
def Val.css : List Val → List (List PV)
 | [] => []
 | v :: r => v.cs :: Val.css r
def Fld.css : List Fld → List (List PV)
 | [] => []
 | f :: r => f.cs :: Fld.css r
def Fld.cs : Fld → List PV
 | .mk n v => .str n :: v.cs
end
def Val.rows (l : List Val) : List (List PV) := Val.css l
def Fld.rows (l : List Fld) : List (List PV) := Fld.css l
def Val.cells (v : Val) : List PV := [.int .i64 v.kind, .int .i64 v.n, .str v.s, .sl (Val.rows v.list), .sl (Fld.rows v.fields)]
def Fld.cells (f : Fld) : List PV := [.str f.name, .int .i64 f.v.kind, .int .i64 f.v.n, .str f.v.s, .sl (Val.rows f.v.list), .sl (Fld.rows f.v.fields)]
theorem Val.Q1ic (v : Val) : v.cs = v.cells := by cases v; rfl
theorem Fld.Q1ic (f : Fld) : f.cs = f.cells := by
 cases f with
 | mk n v => cases v; rfl
theorem Val.Q1b : Val.rows [] = [] := rfl
theorem Fld.Q1b : Fld.rows [] = [] := rfl
theorem Val.Qy (v : Val) (l : List Val) : Val.rows (v :: l) = v.cells :: Val.rows l := by
 rw [← Val.Q1ic]
 rfl
theorem Fld.Qy (v : Fld) (l : List Fld) : Fld.rows (v :: l) = v.cells :: Fld.rows l := by
 rw [← Fld.Q1ic]
 rfl
theorem Val.Q3r : ∀ l : List Val, Val.rows l = l.map Val.cells
 | [] => rfl
 | v :: r => by rw [Val.Qy, Val.Q3r r]; rfl
theorem Fld.Q3r : ∀ l : List Fld, Fld.rows l = l.map Fld.cells
 | [] => rfl
 | v :: r => by rw [Fld.Qy, Fld.Q3r r]; rfl
theorem Val.Q9 (l : List Val) : (Val.rows l).length = l.length := by simp [Val.Q3r]
theorem Fld.Q9 (l : List Fld) : (Fld.rows l).length = l.length := by simp [Fld.Q3r]
theorem Val.Qo {l : List Val} {i : Nat} {x : Val} (h : l[i]? = some x) : (Val.rows l)[i]? = some (Val.cells x) := by rw [Val.Q3r]; exact Go.Pv.Qo h
theorem Fld.Qo {l : List Fld} {i : Nat} {x : Fld} (h : l[i]? = some x) : (Fld.rows l)[i]? = some (Fld.cells x) := by rw [Fld.Q3r]; exact Go.Pv.Qo h
theorem Val.Q1t (l : List Val) (x : Val) : Val.rows (l ++ [x]) = Val.rows l ++ [Val.cells x] := by simp [Val.Q3r]
theorem Fld.Q1t (l : List Fld) (x : Fld) : Fld.rows (l ++ [x]) = Fld.rows l ++ [Fld.cells x] := by simp [Fld.Q3r]
theorem Val.Qhh (l : List Val) (n : Nat) : Val.rows (l.take n) = (Val.rows l).take n := by simp [Val.Q3r, List.map_take]
theorem Fld.Qhh (l : List Fld) (n : Nat) : Fld.rows (l.take n) = (Fld.rows l).take n := by simp [Fld.Q3r, List.map_take]
theorem Val.Quk (l : List Val) (n : Nat) : Val.rows (l.drop n) = (Val.rows l).drop n := by simp [Val.Q3r, List.map_drop]
theorem Fld.Quk (l : List Fld) (n : Nat) : Fld.rows (l.drop n) = (Fld.rows l).drop n := by simp [Fld.Q3r, List.map_drop]
theorem Val.Q10z (l m : List Val) : Val.rows (l ++ m) = Val.rows l ++ Val.rows m := by simp [Val.Q3r]
theorem Fld.Q10z (l m : List Fld) : Fld.rows (l ++ m) = Fld.rows l ++ Fld.rows m := by simp [Fld.Q3r]
theorem Val.Qu (l : List Val) : ∀ r ∈ Val.rows l, r.length = 5 := by rw [Val.Q3r]; exact Q5n (f := Val.cells) (fun _ => rfl) l
theorem Fld.Qu (l : List Fld) : ∀ r ∈ Fld.rows l, r.length = 6 := by rw [Fld.Q3r]; exact Q5n (f := Fld.cells) (fun _ => rfl) l
theorem Val.Qb (l : List Val) (sz : Nat) (h : sz = 5) : ViewOK sz (Val.rows l).flatten (Val.rows l) := by subst h; exact ⟨rfl, Val.Qu l, by rw [Val.Q3r]; exact Q4d (f := Val.cells) (fun _ => rfl) l⟩
theorem Fld.Qb (l : List Fld) (sz : Nat) (h : sz = 6) : ViewOK sz (Fld.rows l).flatten (Fld.rows l) := by subst h; exact ⟨rfl, Fld.Qu l, by rw [Fld.Q3r]; exact Q4d (f := Fld.cells) (fun _ => rfl) l⟩
theorem Val.Q10l (v : Val) : SizeOf.sizeOf v.list < SizeOf.sizeOf v := by
 cases v with
 | mk k n s l f => simp only [Val.list, Val.mk.sizeOf_spec]; omega
theorem Val.Qm7 (v : Val) : SizeOf.sizeOf v.fields < SizeOf.sizeOf v := by
 cases v with
 | mk k n s l f => simp only [Val.fields, Val.mk.sizeOf_spec]; omega
theorem Fld.lt_v (f : Fld) : SizeOf.sizeOf f.v < SizeOf.sizeOf f := by
 cases f with
 | mk n v => simp only [Fld.v, Fld.mk.sizeOf_spec]; omega
theorem szL {v x : Val} {i : Nat} (h : v.list[i]? = some x) : SizeOf.sizeOf x < SizeOf.sizeOf v :=
 Nat.lt_trans (List.sizeOf_lt_of_mem (Q2l h)) v.Q10l
theorem szF {v : Val} {x : Fld} {i : Nat} (h : v.fields[i]? = some x) : SizeOf.sizeOf x.v < SizeOf.sizeOf v :=
 Nat.lt_trans x.lt_v (Nat.lt_trans (List.sizeOf_lt_of_mem (Q2l h)) v.Qm7)
inductive Val.Sm (B : Nat) : Val → Prop
  | mk (v : Val) (hl : v.list.length ≤ B) (hf : v.fields.length ≤ B) (sl : ∀ x ∈ v.list, Val.Sm B x) (sf : ∀ x ∈ v.fields, Val.Sm B x.v) : Val.Sm B v
theorem Val.Sm.all {B : Nat} {v : Val} (h : Val.Sm B v) : v.list.length ≤ B ∧ v.fields.length ≤ B ∧ (∀ x ∈ v.list, Val.Sm B x) ∧ (∀ x ∈ v.fields, Val.Sm B x.v) := by
 cases h with
 | mk _ h1 h2 h3 h4 => exact ⟨h1, h2, h3, h4⟩
theorem Val.Sm.mono {B C : Nat} (hb : B ≤ C) {v : Val} (h : Val.Sm B v) : Val.Sm C v := by
 induction h with
 | mk v h1 h2 _ _ i1 i2 => exact .mk v (by omega) (by omega) i1 i2
theorem Val.Sm.leaf {B : Nat} (k n : Int) (s : ByteArray) : Val.Sm B (.mk k n s [] []) := .mk _ (Nat.zero_le _) (Nat.zero_le _) (fun _ h => by cases h) (fun _ h => by cases h)
theorem Val.Sm.getD {B : Nat} {l : List Val} (h : ∀ x ∈ l, Val.Sm B x) (i : Nat) (k n : Int) (s : ByteArray) : Val.Sm B (l.getD i (.mk k n s [] [])) := by
  by_cases c : i < l.length
  · have := Q4u l i (.mk k n s [] []) c
    exact h _ (Q2l this)
  · rw [List.getD_eq_getElem?_getD, List.getElem?_eq_none (by omega)]
    exact .leaf k n s
inductive Qcc : Val → Prop
  | mk (v : Val) (h1 : Q3s v.kind) (h2 : Q3s v.n) (h3 : okS v.s) (hl : v.list.length * 80 ≤ 140737488351232) (hf : v.fields.length * 96 ≤ 140737488351232) (sl : ∀ x ∈ v.list, Qcc x) (sn : ∀ x ∈ v.fields, okS x.name) (sf : ∀ x ∈ v.fields, Qcc x.v) : Qcc v
theorem Qcc.all {v : Val} (h : Qcc v) : Q3s v.kind ∧ Q3s v.n ∧ okS v.s ∧ v.list.length * 80 ≤ 140737488351232 ∧ v.fields.length * 96 ≤ 140737488351232 ∧ (∀ x ∈ v.list, Qcc x) ∧ (∀ x ∈ v.fields, okS x.name ∧ Qcc x.v) := by
 cases h with
 | mk _ a b c d e f n g => exact ⟨a, b, c, d, e, f, fun x hx => ⟨n x hx, g x hx⟩⟩
theorem Qcc.sm {v : Val} (h : Qcc v) : Val.Sm 4611686018427387904 v := by
 induction h with
 | mk v _ _ _ hl hf _ _ _ i1 i2 => exact .mk v (by omega) (by omega) i1 i2
def Q12j (t : Nat) : Ty := .st [.int .i64, .int .i64, .str, .sl 80 (.nm t), .sl 96 (.st [.str, .nm t])]
theorem Q10k {α : Type} [SizeOf α] (x : α) (r : List α) : SizeOf.sizeOf x < SizeOf.sizeOf (x :: r) := by
 simp only [List.cons.sizeOf_spec]
 omega
theorem Q1b3 {α : Type} [SizeOf α] (x : α) (r : List α) : SizeOf.sizeOf r < SizeOf.sizeOf (x :: r) := by
 simp only [List.cons.sizeOf_spec]
 omega
theorem Q141 (x : Fld) (r : List Fld) : SizeOf.sizeOf x.v < SizeOf.sizeOf (x :: r) := Nat.lt_trans x.lt_v (Q10k x r)
def gam (t : Nat) : Nat → Option Ty := fun k => bif Nat.beq k t then some (Q12j t) else none
theorem gam_tab {P : Program} {t : Nat} (h : Qb2 P (gam t) (Q12j t) t = true) : TabOK P (gam t) := by
 intro k ty hk
 unfold gam at hk
 cases c : Nat.beq k t with
 | false => rw [c] at hk; cases hk
 | true =>
  rw [c] at hk
  simp only [cond_true, Option.some.injEq] at hk
  subst hk
  rw [Nat.eq_of_beq_eq_true c]
  exact ⟨rfl, h⟩
end Go.Pv
namespace Go.Pv
theorem Q4j {G : Nat → Option Fun} {e e' : En} {r : Rs} (h : Q7 G e r) (he : e = e') : Q7 G e' r := he ▸ h
end Go.Pv
end

section
/- Strings byte by byte; rows that are cloned. -/
namespace Go.Pv
theorem Qr7 : ∀ p, plain p = true → bare p = true := fun p h => by cases p <;> first | rfl | (cases h)
theorem Q8x {G : Nat → Option Fun} {f sz bytes : Nat} (hG : G f = some (.ax (Qln sz bytes))) {rows : List (List PV)} {n : Nat} (hn : rows.length = n) (hv : ViewOK sz rows.flatten rows) (hb : n * bytes ≤ 140737488355328) :
  Q7 G (.call f [.sl rows] []) (.ret (.ms 0 sz 0 n) [⟨sz, 0, true, rows.flatten⟩]) := by
 refine ⟨1, ?_⟩
 subst hn
 simp only [runs, phi, hG, Qln]
 have h1 : Q70 rows sz = true := Qze hv.size
 have h2 : rows.flatten.all bare = true := List.all_eq_true.2 fun p hp => Qr7 p (hv.all p hp)
 rw [h1, h2, Nat.ble_eq_true_of_le hb]
 rfl
theorem Q7e {G : Nat → Option Fun} {f sz bytes : Nat} (hG : G f = some (.ax (Qlo sz bytes))) {rows : List (List PV)} {n : Nat} (hn : rows.length = n) (hv : ViewOK sz rows.flatten rows) (hb : n * bytes ≤ 140737488355328) :
  Q7 G (.call f [.sl rows] []) (.ret (.sl rows) []) := by
 refine ⟨1, ?_⟩
 subst hn
 simp only [runs, phi, hG, Qlo]
 have h1 : Q70 rows sz = true := Qze hv.size
 have h2 : rows.flatten.all bare = true := List.all_eq_true.2 fun p hp => Qr7 p (hv.all p hp)
 rw [h1, h2, Nat.ble_eq_true_of_le hb]
 rfl
end Go.Pv
namespace Go.Pv
theorem szM {v x : Val} (h : x ∈ v.list) : SizeOf.sizeOf x < SizeOf.sizeOf v := Nat.lt_trans (List.sizeOf_lt_of_mem h) v.Q10l
theorem szN {v : Val} {x : Fld} (h : x ∈ v.fields) : SizeOf.sizeOf x.v < SizeOf.sizeOf v := Nat.lt_trans x.lt_v (Nat.lt_trans (List.sizeOf_lt_of_mem h) v.Qm7)
end Go.Pv
end

section
/- Arrays of bools, asked at an index of a loop. -/
namespace Go.Pv
def zr (z : Nat → PV) (i : Nat) : Nat → List PV
 | 0 => []
 | k + 1 => z i :: zr z (i + 1) k
end Go.Pv
end

section
/-
  What a law is handed, where its bulk is bounded: nothing within is longer.
-/
namespace Go.Pv
open Go.RowKit
inductive Cap (N : Nat) : PV → Prop
  | bool (b : Bool) : Cap N (.bool b)
  | int (k : IntKind) (n : Int) : Cap N (.int k n)
  | str (s : ByteArray) (h : s.size ≤ N) : Cap N (.str s)
  | sl (l : List (List PV)) (h : l.length ≤ N) (hl : ∀ r ∈ l, ∀ p ∈ r, Cap N p) : Cap N (.sl l)
def CapL (N : Nat) (c : List PV) : Prop := ∀ p ∈ c, Cap N p
theorem CapL.one {N : Nat} {p : PV} (h : Cap N p) : CapL N [p] := fun q hq => by
 rw [List.mem_singleton] at hq
 subst hq
 exact h
inductive CapD {H : Type} (N : Nat) : DataW H → Prop
  | lit (l : Lit) (h : ∀ b, l = .string b → b.length ≤ N) : CapD N (.lit l)
  | agg (parts : List (DataW H)) (h : ∀ d ∈ parts, CapD N d) : CapD N (.agg parts)
  | slice (elems spare : List (DataW H)) (h : elems.length ≤ N) (hl : ∀ d ∈ elems, CapD N d) : CapD N (.slice elems spare)
  | nil : CapD N .nil
  | ptr (d : DataW H) : CapD N (.ptr d)
  | iface (t : String) (d : DataW H) : CapD N (.iface t d)
  | map (e : List (Lit × DataW H)) : CapD N (.map e)
  | held (h : H) : CapD N (.held h)
def ArgB (Γ : Nat → Option Ty) (N : Nat) (ty : Ty) (p : PV) : Prop := ∃ c, Of Γ ty c ∧ CapL N c ∧ (bif ty.isSt Γ then p = .agg c else c = [p])
def Q198 (Γ : Nat → Option Ty) (N : Nat) : List Ty → List PV → Prop
 | [], [] => True
 | t :: ts, p :: ps => ArgB Γ N t p ∧ Q198 Γ N ts ps
 | _, _ => False
section
variable {H : Type} {enc : TypeId × Value → H} {P : Program} {w : World} {base : Nat} {sp : Nat → Bool} {held : Bool} {Γ : Nat → Option Ty} {N : Nat}
theorem Qeb {n : Nat} {cs : List Value} (ih : ∀ (ty : Ty) (t : TypeId) (cs : List Value) (x : DataW H × List MemPlace), Qb2 P Γ ty t = true → DataW.trod enc P w base sp held n t cs = some x → Light P t x.1 → CapD N x.1 → ∃ c, RepN w NoM NoD cs c ∧ Of Γ ty c ∧ CapL N c) :
  ∀ (fs : List Ty) (gs : List Field) (off : Nat) (ys : List (DataW H × List MemPlace)), Qxi P Γ fs gs off cs.length = true → ys.length = gs.length → (∀ (j : Nat) g, gs[j]? = some g → DataW.trod enc P w base sp held n g.type ((cs.drop g.offset).take (P.cellsOf g.type)) = ys[j]?) →
   (∀ (j : Nat) g y, gs[j]? = some g → ys[j]? = some y → Light P g.type y.1 ∧ CapD N y.1) → ∃ c, RepN w NoM NoD (cs.drop off) c ∧ OfL Γ fs c ∧ CapL N c
 | [], [], off, ys, hc, _, _, _ => by
  simp only [Qxi] at hc
  have := Nat.eq_of_beq_eq_true hc
  refine ⟨[], ?_, .nil, fun p hp => absurd hp List.not_mem_nil⟩
  rw [this, List.drop_length]
  exact ⟨rfl, fun i v p h => by simp at h⟩
 | [], _ :: _, off, ys, hc, _, _, _ => by cases hc
 | _ :: _, [], off, ys, hc, _, _, _ => by cases hc
 | f :: fs, g :: gs, off, [], hc, hl, _, _ => by simp at hl
 | f :: fs, g :: gs, off, y :: ys, hc, hl, ht, hw => by
  simp only [Qxi, Bool.and_eq_true] at hc
  have ho := Nat.eq_of_beq_eq_true hc.1.1
  have h0 := ht 0 g rfl
  simp only [List.getElem?_cons_zero] at h0
  obtain ⟨a, ha, hoa, hca⟩ := ih f g.type _ y hc.1.2 h0 (hw 0 g y rfl rfl).1 (hw 0 g y rfl rfl).2
  obtain ⟨b, hb, hob, hcb⟩ := Qeb ih fs gs (off + P.cellsOf g.type) ys hc.2 (by simpa using hl) (fun j g' hj => by have := ht (j + 1) g' (by simpa using hj); simpa using this) (fun j g' y' h1 h2 => hw (j + 1) g' y' (by simpa using h1) (by simpa using h2))
  refine ⟨a ++ b, ?_, .cons f fs a b hoa hob, fun p hp => (List.mem_append.1 hp).elim (hca p) (hcb p)⟩
  have : cs.drop off = (cs.drop off).take (P.cellsOf g.type) ++ cs.drop (off + P.cellsOf g.type) := by
   rw [← List.drop_drop]
   exact (List.take_append_drop _ _).symm
  rw [this]
  rw [ho] at ha
  exact ha.app hb
theorem Q1ew (hΓ : TabOK P Γ) : ∀ (fuel : Nat) (ty : Ty) (t : TypeId) (cs : List Value) (x : DataW H × List MemPlace), Qb2 P Γ ty t = true → DataW.trod enc P w base sp held fuel t cs = some x → Light P t x.1 → CapD N x.1 → ∃ c, RepN w NoM NoD cs c ∧ Of Γ ty c ∧ CapL N c := by
  intro fuel
  induction fuel with
  | zero => intro ty t cs x _ h; simp [DataW.trod] at h
  | succ n ih =>
    have core : ∀ (ty : Ty) (t : TypeId) (cs : List Value) (x : DataW H × List MemPlace), ty.named = false → Qb2 P Γ ty t = true → DataW.trod enc P w base sp held (n + 1) t cs = some x → Light P t x.1 → CapD N x.1 → ∃ c, RepN w NoM NoD cs c ∧ Of Γ ty c ∧ CapL N c := by
      intro ty t cs x hn hc h hw hcd
      cases ty with
      | nm t' => cases hn
      | bool =>
        simp only [Qb2] at hc
        obtain ⟨b, rfl, rfl⟩ := DataW.trod_bool (Qcu hc) h
        exact ⟨_, .one rfl (.bool _ _), .bool b, CapL.one (.bool b)⟩
      | int k =>
        simp only [Qb2] at hc
        obtain ⟨m, rfl, rfl, hwf⟩ := DataW.trod_int (Qqz hc) h
        exact ⟨_, .one rfl (.int _ _ _), .int k m hwf, CapL.one (.int k m)⟩
      | str =>
        simp only [Qb2] at hc
        obtain ⟨s, rfl, rfl, hs⟩ := DataW.trod_string (Q78 hc) h
        refine ⟨_, .one rfl (.str _ _), .str s ?_, CapL.one (.str s (by cases hcd with | lit _ h => simpa using h _ rfl))⟩
        simp only [Light, DataW.weights, List.all_cons, Bool.and_eq_true, decide_eq_true_eq] at hw
        have := hw.1
        unfold reachBytes at this
        simpa using this
      | sl bytes e =>
        simp only [Qb2] at hc
        split at hc
        · rename_i te hu
          rw [Bool.and_eq_true, Bool.and_eq_true] at hc
          have hby := Nat.eq_of_beq_eq_true hc.1.1
          have hsz := Nat.le_of_ble_eq_true hc.1.2
          rcases DataW.trod_slice hu h with ⟨rfl, rfl⟩ | ⟨a, len, cap, elems, rest, n', hn', rfl, rfl, hb, hl, hm, hlen, hel, _, _⟩
          · refine ⟨[.sl []], .one rfl (.sl _ _ _ _ 0 [] 0 0 (fun _ _ => default) rfl (Nat.le_refl _) (Nat.zero_le _) (fun r hr => absurd hr List.not_mem_nil) (fun h => by omega) (fun j r hj => by simp at hj) (fun j r hj => by simp at hj)), .sl _ _ [] (by simp) (fun r hr => absurd hr List.not_mem_nil), CapL.one (.sl [] (Nat.zero_le _) (fun r hr => absurd hr List.not_mem_nil))⟩
          · have hnn : n' = n := by omega
            subst hnn
            simp only [Light, DataW.weights, hu, List.all_cons, List.all_append, Bool.and_eq_true, decide_eq_true_eq, List.length_map] at hw
            obtain ⟨hw1, hw2, _⟩ := hw
            have hlight := Q1ay hw2
            have hcap : elems.length ≤ N ∧ ∀ z ∈ elems, CapD N z.1 := by
              cases hcd with
              | slice _ _ h1 h2 => exact ⟨by simpa using h1, fun z hz => h2 _ (List.mem_map.2 ⟨z, hz, rfl⟩)⟩
            have each : ∀ i, i < len → ∃ r, (∃ ys, w.cells? base (a.add (i * P.cellsOf te)) (P.cellsOf te) = some ys ∧ RepN w NoM NoD ys r) ∧ Of Γ e r ∧ CapL N r := by
              intro i hi
              have h1 := hel i hi
              have hi' : i < elems.length := by omega
              rw [List.getElem?_eq_getElem hi'] at h1
              obtain ⟨ys, hy1, hy2⟩ := Option.bind_eq_some_iff.1 h1
              obtain ⟨r, hr, hor⟩ := ih e te ys _ hc.2 hy2 (hlight _ (List.mem_map.2 ⟨_, List.getElem_mem hi', rfl⟩)) (hcap.2 _ (List.getElem_mem hi'))
              exact ⟨r, ⟨ys, hy1, hr⟩, hor⟩
            obtain ⟨l, hll, hlq⟩ := Qll len each
            have hcellsz : ∀ i ys, i < len → w.cells? base (a.add (i * P.cellsOf te)) (P.cellsOf te) = some ys → ys.length = P.cellsOf te ∧ ∀ j, j < P.cellsOf te → w.cell? ((a.add (i * P.cellsOf te)).add j) = ys[j]? := by
              intro i ys _ hy
              have := World.cells?_some hy
              exact ⟨this.2.1, this.2.2⟩
            have hspot : 0 < len → a = ⟨a.block, a.off, none⟩ := by
              intro hpos
              obtain ⟨r, ⟨ys, hy, hr⟩, _⟩ := each 0 hpos
              obtain ⟨hyl, hyc⟩ := hcellsz 0 ys hpos hy
              have h0 := hyc 0 (by omega)
              rw [List.getElem?_eq_getElem (by omega)] at h0
              simp only [Nat.zero_mul, Addr.add, if_true] at h0
              obtain ⟨b, o, s⟩ := a
              cases s with
              | none => rfl
              | some s =>
                simp only [World.cell?] at h0
                split at h0 <;> simp at h0
            have hadd : ∀ i j, 0 < len → (a.add (i * P.cellsOf te)).add j = ⟨a.block, a.off + i * P.cellsOf te + j, none⟩ := by
              intro i j hpos
              rw [hspot hpos]
              unfold Addr.add
              by_cases h1 : i * P.cellsOf te = 0 <;> by_cases h2 : j = 0 <;> simp [h1, h2]
            refine ⟨[.sl l], .one rfl (.sl _ (some a) len cap (P.cellsOf te) l a.block a.off (fun j i => (w.cell? ⟨a.block, a.off + j * P.cellsOf te + i, none⟩).getD default) hll hl hm ?_ (fun hp => congrArg some (hspot hp)) ?_ ?_), .sl bytes e l ?_ ?_, CapL.one (.sl l (by rw [hll]; omega) (fun r hr => by
              obtain ⟨i, hi⟩ := List.getElem?_of_mem hr
              exact (hlq i r hi).2.2))⟩
            · intro r hr
              obtain ⟨i, hi⟩ := List.getElem?_of_mem hr
              have hil := (List.getElem?_eq_some_iff.1 hi).1
              obtain ⟨⟨ys, hy, hrn⟩, _⟩ := hlq i r hi
              rw [← hrn.1]
              exact (hcellsz i ys (by omega) hy).1
            · intro j r hj i p hi
              have hjl := (List.getElem?_eq_some_iff.1 hj).1
              have hil := (List.getElem?_eq_some_iff.1 hi).1
              obtain ⟨⟨ys, hy, hrn⟩, _⟩ := hlq j r hj
              obtain ⟨hyl, hyc⟩ := hcellsz j ys (by omega) hy
              have hiy : i < ys.length := by rw [hrn.1]; exact hil
              have := hyc i (by omega)
              rw [hadd j i (by omega), List.getElem?_eq_getElem hiy] at this
              refine ⟨fun h => h, by rw [this]; rfl, ?_⟩
              rw [this]
              exact (hrn.2 i _ p (List.getElem?_eq_getElem hiy) hi).1
            · intro j r hj i p hi
              have hjl := (List.getElem?_eq_some_iff.1 hj).1
              have hil := (List.getElem?_eq_some_iff.1 hi).1
              obtain ⟨⟨ys, hy, hrn⟩, _⟩ := hlq j r hj
              obtain ⟨hyl, hyc⟩ := hcellsz j ys (by omega) hy
              have hiy : i < ys.length := by rw [hrn.1]; exact hil
              have := hyc i (by omega)
              rw [hadd j i (by omega), List.getElem?_eq_getElem hiy] at this
              rw [this]
              exact (hrn.2 i _ p (List.getElem?_eq_getElem hiy) hi).2
            · rw [← hby, hll]
              unfold reachBytes at hw1
              have : len * P.bytesOf te ≤ (elems.length + rest.length) * P.bytesOf te := Nat.mul_le_mul_right _ (by omega)
              omega
            · intro r hr
              obtain ⟨i, hi⟩ := List.getElem?_of_mem hr
              exact (hlq i r hi).2.1
        · cases hc
      | st fs =>
        simp only [Qb2] at hc
        split at hc
        · rename_i gs hu
          obtain ⟨xs, n', hn', rfl, hl, hxl, hx⟩ := DataW.trod_struct hu h
          have hnn : n' = n := by omega
          subst hnn
          rw [← hl] at hc
          simp only [Light, DataW.weights, hu] at hw
          have hlight := Q15s hw
          have hcap : ∀ z ∈ xs, CapD N z.1 := by
            cases hcd with
            | agg _ h => exact fun z hz => h _ (List.mem_map.2 ⟨z, hz, rfl⟩)
          obtain ⟨c, hr, ho, hcc⟩ := Qeb ih fs gs.toList 0 xs hc (by simpa using hxl) (fun j g hj => hx j g (by simpa using hj)) (fun j g y hj hy => ⟨hlight j g.type y.1 (by simp [hj]) (by simp [hy]), hcap y (List.mem_of_getElem? hy)⟩)
          exact ⟨c, by simpa using hr, .st fs c ho, hcc⟩
        · cases hc
    intro ty t cs x hc h hw hcd
    cases hty : ty.named with
    | false => exact core ty t cs x hty hc h hw hcd
    | true =>
      cases ty with
      | nm t' =>
        simp only [Qb2, Bool.and_eq_true] at hc
        have := Nat.eq_of_beq_eq_true hc.1
        subst this
        obtain ⟨ty', hty'⟩ := Option.isSome_iff_exists.1 hc.2
        obtain ⟨h1, h2⟩ := hΓ _ _ hty'
        obtain ⟨c, hr, ho, hcc⟩ := core ty' t' cs x h1 h2 h hw hcd
        exact ⟨c, hr, .nm t' ty' c hty' ho, hcc⟩
      | _ => cases hty
theorem Q1bn (hΓ : TabOK P Γ) {ty : Ty} {t : TypeId} (hc : Qb2 P Γ ty t = true) (hs : (match P.underlying t with | some (.struct _) => ty.isSt Γ | some (.array _ _) => false | _ => !(ty.isSt Γ)) = true) {r : Reach} {b0 : Nat} {v : Value} {d : DataW H} {ps : List MemPlace} (hval : Value.okWide P w r b0 t v) (h : DataW.Trod enc P w base sp held t v d ps) (hw : Light P t d) (hcd : CapD N d) :
    ∃ p, Rep w NoM NoD v p ∧ ArgB Γ N ty p := by
  obtain ⟨fuel, hf⟩ := h
  obtain ⟨c, hr, ho, hcc⟩ := Q1ew hΓ fuel ty t _ _ hc hf hw hcd
  unfold Value.okWide at hval
  split at hs
  · rename_i fs hu
    rw [hu] at hval
    obtain ⟨cs, rfl, _, _⟩ := hval
    refine ⟨.agg c, .agg _ cs c (by simpa [Value.cells] using hr.1) (fun i v p hv hp => (hr.2 i v p (by simpa [Value.cells] using hv) hp).1) (fun i v p hv hp => (hr.2 i v p (by simpa [Value.cells] using hv) hp).2), c, ho, hcc, ?_⟩
    rw [hs]
    rfl
  · cases hs
  · rename_i hn1 hn2
    have hcell : Cell.okWide P w r b0 t v := by
      split at hval
      · rename_i fs hu; exact absurd hu (hn1 fs)
      · rename_i k e hu; exact absurd hu (hn2 k e)
      · exact hval
    have hone : v.oneCell' = true := by
      cases v with
      | agg cs => unfold Cell.okWide Cell.ok at hcell; split at hcell <;> simp_all
      | tuple cs => unfold Cell.okWide Cell.ok at hcell; split at hcell <;> simp_all
      | _ => rfl
    have hcs : v.cells.toList = [v] := by cases v <;> first | rfl | (cases hone)
    rw [hcs] at hr
    have hlen := hr.1
    cases c with
    | nil => simp at hlen
    | cons p rest =>
      have : rest = [] := List.eq_nil_of_length_eq_zero (by simpa using hlen.symm)
      subst this
      refine ⟨p, (hr.2 0 v p rfl rfl).2, [p], ho, hcc, ?_⟩
      have : ty.isSt Γ = false := by simpa using hs
      rw [this]
      rfl
theorem open_args2 (hΓ : TabOK P Γ) {r : Reach} {b0 : Nat} : ∀ {tys : List Ty} {ts : List TypeId} {vs : List Value} {ds : List (DataW H)} {ps : List MemPlace}, chkArgs P Γ tys ts = true → (∀ (j : Nat) t v, ts[j]? = some t → vs[j]? = some v → Value.okWide P w r b0 t v) → DataW.TrodAll enc P w base sp held ts vs ds ps →
    (DataW.weightsEach P ts ds).all (· ≤ reachBytes) = true → (∀ d ∈ ds, CapD N d) → ∃ qs, RepL w NoM NoD vs qs ∧ Q198 Γ N tys qs
  | [], [], vs, ds, ps, _, _, h, _, _ => by
    obtain ⟨rfl, rfl, rfl⟩ := ChangeShapes.trodAll_nil h
    exact ⟨[], RepL.nil _ _ _, trivial⟩
  | [], _ :: _, _, _, _, hc, _, _, _, _ => by cases hc
  | _ :: _, [], _, _, _, hc, _, _, _, _ => by cases hc
  | ty :: tys, t :: ts, vs, ds, ps, hc, hv, h, hw, hcd => by
    simp only [chkArgs, Bool.and_eq_true] at hc
    obtain ⟨v, vs', d, ds', p, q, rfl, rfl, rfl, h1, h2⟩ := ChangeShapes.trodAll_cons h
    simp only [DataW.weightsEach, List.all_append, Bool.and_eq_true] at hw
    obtain ⟨x, hx, hax⟩ := Q1bn hΓ hc.1.1.1.1 hc.1.1.1.2 (hv 0 t v rfl rfl) h1 hw.1 (hcd _ List.mem_cons_self)
    obtain ⟨qs, hq, haq⟩ := open_args2 hΓ hc.2 (fun j t' v' h1 h2 => hv (j + 1) t' v' (by simpa using h1) (by simpa using h2)) h2 hw.2 (fun d' hd' => hcd d' (List.mem_cons_of_mem _ hd'))
    exact ⟨x :: qs, RepL.cons hx hq, hax, haq⟩
end
theorem ArgB.one {Γ : Nat → Option Ty} {N : Nat} {ty : Ty} {p : PV} (h : ArgB Γ N ty p) (hs : ty.isSt Γ = false) : Of Γ ty [p] ∧ CapL N [p] := by
 obtain ⟨c, hc, hb, hp⟩ := h
 rw [hs] at hp
 have hp : c = [p] := hp
 subst hp
 exact ⟨hc, hb⟩
theorem ArgB.agg {Γ : Nat → Option Ty} {N : Nat} {ty : Ty} {p : PV} (h : ArgB Γ N ty p) (hs : ty.isSt Γ = true) : ∃ c, p = .agg c ∧ Of Γ ty c ∧ CapL N c := by
 obtain ⟨c, hc, hb, hp⟩ := h
 rw [hs] at hp
 exact ⟨c, hp, hc, hb⟩
theorem Cap.strI {N : Nat} {s : ByteArray} (h : Cap N (.str s)) : s.size ≤ N := by
 cases h with
 | str _ h => exact h
theorem Cap.slI {N : Nat} {l : List (List PV)} (h : Cap N (.sl l)) : l.length ≤ N ∧ ∀ r ∈ l, CapL N r := by
 cases h with
 | sl _ h hl => exact ⟨h, hl⟩
theorem Cap.Q74 {N : Nat} {α : Type} {f : α → List PV} {l : List α} (h : Cap N (.sl (l.map f))) : l.length ≤ N ∧ ∀ x ∈ l, CapL N (f x) := by
 obtain ⟨h1, h2⟩ := h.slI
 exact ⟨by simpa using h1, fun x hx => h2 _ (List.mem_map.2 ⟨x, hx, rfl⟩)⟩
theorem law_callsB {P : Program} {G : Nat → Option Fun} (hm : P.follows .mixedOrders = true) (hT : Tie P G) {Γ : Nat → Option Ty} {N : Nat} {tys : List Ty} {f : Nat} (hpure : ∀ qs, Q198 Γ N tys qs → ∃ n, runs G n (.call f qs []) = some (.ret (.bool true) []))
    {W : World} {args : Array Value} (h : ∃ qs, RepL W NoM NoD args.toList qs ∧ Q198 Γ N tys qs) : Calls P f args W fun e W' => e = .returned (.bool true) ∧ Below W.heap.size W W' := by
  obtain ⟨qs, hq, ha⟩ := h
  obtain ⟨n, hn⟩ := hpure qs ha
  obtain ⟨_, hok⟩ := (Qrb hm hT n).1 f qs [] _ _ hn
  have hnoM : ∀ b o, Mut NoD (hF []) NoM b o → NoM b o := by
    rintro b o (h | ⟨id, ob, h1, _⟩)
    · exact h
    · simp [hF] at h1
  refine (hok W NoD NoM args ⟨fun b o h => h.elim, Nat.le_refl _, fun id b h => (by cases h), fun id ob h => (by simp [hF] at h), fun i j a b k h => (by simp [hF] at h), fun id ob b o h => (by simp [hF] at h)⟩ (fun _ _ => rfl) (hq.mono fun v p h => h.to (fun b o _ h => hnoM b o h) (fun _ _ h => h))).mono ?_
  rintro e W' ⟨v, D', rfl, _, hk, _, _, _, _, hr⟩
  cases hr with
  | bool _ _ =>
    refine ⟨rfl, (hk.mono (M1 := fun _ _ => False) ?_).below⟩
    rintro b o _ ⟨id, ob, h1, _⟩
    simp [hF] at h1
end Go.Pv
end

section
/- Comparisons that answer -1, 0 or 1; the order of strings. -/
namespace Go.Pv
def R3 (a : Int) : Prop := a = -1 ∨ a = 0 ∨ a = 1
def T3 (a b e : Int) : Prop := (a = 0 → e = b) ∧ (b = 0 → e = a) ∧ (a = b → e = a)
def lx (a b : Int) : Int := if a = 0 then b else a
def icmp (a b : Int) : Int := if a < b then -1 else if b < a then 1 else 0
theorem Q1qa (a b : Int) : lx (-a) (-b) = -lx a b := by
 unfold lx
 split <;> split <;> omega
theorem Q20e {a b e a' b' e' : Int} (_ha : R3 a) (_hb : R3 b) (_he : R3 e) (t : T3 a b e) (t' : T3 a' b' e') : T3 (lx a a') (lx b b') (lx e e') := by
 unfold T3 at *
 unfold lx R3 at *
 split <;> split <;> split <;> omega
theorem Q10f (a b : Int) : R3 (icmp a b) := by
  unfold icmp R3
  split
  · omega
  · split <;> omega
theorem Q1eo (a b : Int) : icmp b a = -icmp a b := by
 unfold icmp
 split <;> split <;> first | omega | (split <;> omega) | skip
 all_goals omega
theorem Q1ii (a b e : Int) : T3 (icmp a b) (icmp b e) (icmp a e) := by
 unfold T3 icmp
 split <;> split <;> split <;> (try split) <;> (try split) <;> (try split) <;> omega
theorem Q1ap {a b : Int} : icmp a b = 0 ↔ a = b := by
  unfold icmp
  constructor
  · intro h
    split at h
    · omega
    · split at h <;> omega
  · intro h
    rw [if_neg (by omega), if_neg (by omega)]
theorem Q105 : ∀ a b : List UInt8, R3 (cmpL a b)
  | [], [] => Or.inr (Or.inl rfl)
  | [], _ :: _ => Or.inl rfl
  | _ :: _, [] => Or.inr (Or.inr rfl)
  | x :: a, y :: b => by
    rw [cmpL]
    split
    · exact Or.inl rfl
    · split
      · exact Or.inr (Or.inr rfl)
      · exact Q105 a b
theorem Q7u (x y : UInt8) (a b : List UInt8) : cmpL (x :: a) (y :: b) = lx (icmp (x.toNat : Int) (y.toNat : Int)) (cmpL a b) := by
  rw [cmpL]
  unfold lx icmp
  simp only [UInt8.lt_iff_toNat_lt]
  by_cases h1 : x.toNat < y.toNat
  · rw [if_pos h1, if_pos (show (x.toNat : Int) < (y.toNat : Int) by omega)]
    rfl
  · by_cases h2 : y.toNat < x.toNat
    · rw [if_neg h1, if_pos h2, if_neg (show ¬ (x.toNat : Int) < (y.toNat : Int) by omega), if_pos (show (y.toNat : Int) < (x.toNat : Int) by omega)]
      rfl
    · rw [if_neg h1, if_neg h2, if_neg (show ¬ (x.toNat : Int) < (y.toNat : Int) by omega), if_neg (show ¬ (y.toNat : Int) < (x.toNat : Int) by omega)]
      rfl
theorem Qto : ∀ a b : List UInt8, cmpL b a = -cmpL a b
 | [], [] => rfl
 | [], _ :: _ => rfl
 | _ :: _, [] => rfl
 | x :: a, y :: b => by rw [Q7u, Q7u, Qto a b, Q1eo (x.toNat : Int) (y.toNat : Int), Q1qa]
theorem Q1a7 : ∀ a b d : List UInt8, T3 (cmpL a b) (cmpL b d) (cmpL a d)
 | [], [], [] => by simp [T3, cmpL]
 | [], [], _ :: _ => by simp [T3, cmpL]
 | [], _ :: _, [] => by simp [T3, cmpL]
 | [], _ :: _, _ :: _ => by simp [T3, cmpL]
 | _ :: _, [], [] => by simp [T3, cmpL]
 | _ :: _, [], _ :: _ => by simp [T3, cmpL]
 | x :: a, y :: b, [] => by
  have h := Q105 (x :: a) (y :: b)
  unfold R3 at h
  unfold T3
  rw [show cmpL (y :: b) [] = 1 from rfl, show cmpL (x :: a) [] = 1 from rfl]
  omega
 | x :: a, y :: b, w :: d => by
  rw [Q7u, Q7u, Q7u]
  exact Q20e (Q10f _ _) (Q10f _ _) (Q10f _ _) (Q1ii _ _ _) (Q1a7 a b d)
theorem Qxk : ∀ a b : List UInt8, cmpL a b = 0 → a = b
  | [], [], _ => rfl
  | [], _ :: _, h => by simp [cmpL] at h
  | _ :: _, [], h => by simp [cmpL] at h
  | x :: a, y :: b, h => by
    rw [Q7u] at h
    unfold lx at h
    split at h
    · rename_i e
      have := Q1ap.1 e
      rw [UInt8.toNat_inj.1 (show x.toNat = y.toNat by omega), Qxk a b h]
    · omega
theorem Q1a6 (a : List UInt8) : cmpL a a = 0 := by
 have := Qto a a
 omega
theorem Q13p : ∀ a b : List UInt8, Op.bytesLess a b = decide (cmpL a b < 0)
  | [], [] => rfl
  | [], _ :: _ => rfl
  | _ :: _, [] => rfl
  | x :: a, y :: b => by
    have ih := Q13p a b
    rw [Op.bytesLess, cmpL, ih]
    by_cases h : x < y
    · simp [h]
    · by_cases h2 : y < x
      · have h3 : ¬ x = y := fun e => h (e ▸ h2)
        simp [h, h2, h3]
      · have h3 : x = y := by
          rw [UInt8.lt_iff_toNat_lt] at h h2
          exact UInt8.toNat_inj.1 (by omega)
        simp [h3]
theorem Qmk (a b : ByteArray) : R3 (sCmp a b) := Q105 _ _
theorem Q7d (a b : ByteArray) : sCmp b a = -sCmp a b := Qto _ _
theorem Q1cb (a b d : ByteArray) : T3 (sCmp a b) (sCmp b d) (sCmp a d) := Q1a7 _ _ _
theorem Qzg {a b : ByteArray} : sCmp a b = 0 ↔ a = b := ⟨fun h => toList_inj (Qxk _ _ h), fun h => by rw [h]; exact Q1a6 _⟩
theorem Q1is (a b : ByteArray) : sLt a b = decide (sCmp a b < 0) := Q13p _ _
end Go.Pv
end

section
/- The library's stable sort as plain functions on lists, and what it answers: the stably sorted list. Program-free. -/
namespace Go.Pv.Srt
section
variable {α : Type} (z : α) (c : α → α → Int)
def gt (d : List α) (i : Int) : α := d.getD i.toNat z
def sw (d : List α) (i j : Int) : List α := (d.set i.toNat (gt z d j)).set j.toNat (gt z d i)
def ins1 (a : Int) : Nat → List α → Int → List α
 | 0, v, _ => v
 | k + 1, v, j => bif decide (a < j) then (bif decide (c (gt z v j) (gt z v (j - 1)) < 0) then ins1 a k (sw z v j (j - 1)) (j - 1) else v) else v
def ins0 (a b : Int) : Nat → Int → List α → List α
 | 0, _, v => v
 | k + 1, i, v => bif decide (i < b) then ins0 a b k (i + 1) (ins1 z c a (i.toNat + 1) v i) else v
def ins (d : List α) (a b : Int) : List α := ins0 z c a b ((b - (a + 1)).toNat + 1) (a + 1) d
theorem Q1em {d A C : List α} {x : α} {i : Int} (hd : d = A ++ x :: C) (hi : i = (A.length : Int)) : gt z d i = x := by
 subst hd hi
 simp [gt]
theorem Q1h6 {A C : List α} {x y : α} {i : Int} (hi : i = (A.length : Int)) : (A ++ x :: C).set i.toNat y = A ++ y :: C := by
 subst hi
 simp
theorem Q1j1 {A M C : List α} {x y : α} {i j : Int} (hi : i = (A.length : Int)) (hj : j = (A.length : Int) + 1 + (M.length : Int)) : sw z (A ++ x :: (M ++ y :: C)) j i = A ++ y :: (M ++ x :: C) := by
 have e1 : gt z (A ++ x :: (M ++ y :: C)) i = x := Q1em z rfl hi
 have e2 : gt z (A ++ x :: (M ++ y :: C)) j = y := Q1em z (A := A ++ x :: M) (C := C) (by simp) (by simp; omega)
 unfold sw
 rw [e1, e2]
 have e3 : A ++ x :: (M ++ y :: C) = (A ++ x :: M) ++ y :: C := by simp
 rw [e3, Q1h6 (A := A ++ x :: M) (by simp; omega)]
 have e4 : (A ++ x :: M) ++ x :: C = A ++ x :: (M ++ x :: C) := by simp
 rw [e4, Q1h6 hi]
def insR (x : α) : List α → List α
 | [] => [x]
 | s :: t => bif decide (c x s < 0) then s :: insR x t else x :: s :: t
def Qdo (l : List α) : List α := (l.foldl (fun r x => insR c x r) []).reverse
theorem Qxu (a : Int) (A : List α) (x : α) (ha : a = (A.length : Int)) : ∀ (R C : List α) (k : Nat) (j : Int), j = (A.length : Int) + (R.length : Int) → R.length < k → ins1 z c a k (A ++ (R.reverse ++ x :: C)) j = A ++ ((insR c x R).reverse ++ C)
 | _, _, 0, _, _, h => absurd h (Nat.not_lt_zero _)
 | [], C, k + 1, j, hj, _ => by
  rw [ins1, show decide (a < j) = false by simp at hj ⊢; omega]
  simp [insR]
 | s :: t, C, k + 1, j, hj, hk => by
  simp only [List.length_cons] at hj hk
  have e0 : A ++ ((s :: t).reverse ++ x :: C) = (A ++ t.reverse) ++ s :: ([] ++ x :: C) := by simp
  rw [ins1, show decide (a < j) = true by simp; omega, cond_true, e0]
  have e1 : gt z ((A ++ t.reverse) ++ s :: ([] ++ x :: C)) j = x := Q1em z (A := A ++ t.reverse ++ [s]) (C := C) (by simp) (by simp; omega)
  have e2 : gt z ((A ++ t.reverse) ++ s :: ([] ++ x :: C)) (j - 1) = s := Q1em z (A := A ++ t.reverse) rfl (by simp; omega)
  rw [e1, e2, insR]
  cases decide (c x s < 0) with
  | true =>
   rw [cond_true, cond_true, Q1j1 z (by simp; omega) (by simp; omega)]
   have e3 : (A ++ t.reverse) ++ x :: ([] ++ s :: C) = A ++ (t.reverse ++ x :: (s :: C)) := by simp
   rw [e3, Qxu a A x ha t (s :: C) k (j - 1) (by omega) (by omega)]
   simp
  | false => simp
theorem Qxt (a b : Int) (A : List α) (ha : a = (A.length : Int)) : ∀ (M R C : List α) (k : Nat) (i : Int), i = (A.length : Int) + (R.length : Int) → b = i + (M.length : Int) → M.length < k →
  ins0 z c a b k i (A ++ (R.reverse ++ (M ++ C))) = A ++ ((M.foldl (fun r x => insR c x r) R).reverse ++ C)
 | _, _, _, 0, _, _, _, h => absurd h (Nat.not_lt_zero _)
 | [], R, C, k + 1, i, hi, hb, _ => by
  rw [ins0, show decide (i < b) = false by simp at hb ⊢; omega]
  simp
 | x :: M, R, C, k + 1, i, hi, hb, hk => by
  simp only [List.length_cons] at hb hk
  rw [ins0, show decide (i < b) = true by simp; omega, cond_true, List.cons_append, Qxu z c a A x ha R (M ++ C) _ i hi (by omega)]
  have hl : (insR c x R).length = R.length + 1 := by
   clear hi hb hk
   induction R with
   | nil => rfl
   | cons s t ih => rw [insR]; cases decide (c x s < 0) <;> simp [ih]
  rw [Qxt a b A ha M (insR c x R) C k (i + 1) (by omega) (by omega) (by omega)]
  rfl
theorem Qtx {d A M C : List α} {a b : Int} (hd : d = A ++ (M ++ C)) (ha : a = (A.length : Int)) (hb : b = a + (M.length : Int)) : ins z c d a b = A ++ (Qdo c M ++ C) := by
 subst hd
 unfold ins Qdo
 cases M with
 | nil =>
  simp only [List.length_nil, Int.ofNat_zero] at hb
  rw [ins0, show decide (a + 1 < b) = false by simp; omega]
  rfl
 | cons x M =>
  simp only [List.length_cons] at hb
  have e : A ++ (x :: M ++ C) = A ++ ([x].reverse ++ (M ++ C)) := by simp
  rw [e, Qxt z c a b A ha M [x] C _ _ (by simp; omega) (by omega) (by omega)]
  rfl
end
end Go.Pv.Srt
end

section
/- The library's stable sort: its merging, and that it answers the stably sorted list. Program-free. -/
namespace Go.Pv.Srt
section
variable {α : Type} (z : α) (c : α → α → Int)
structure Tot : Prop where
  asym : ∀ x y, c x y < 0 → ¬ c y x < 0
  tr : ∀ x y w, ¬ c y x < 0 → ¬ c w y < 0 → ¬ c w x < 0
def le (x y : α) : Prop := ¬ c y x < 0
def Up (l : List α) : Prop := l.Pairwise (le c)
def eqv (x y : α) : Bool := decide (¬ c x y < 0) && decide (¬ c y x < 0)
def F (l r : List α) : Prop := l.length = r.length ∧ ∀ x, l.filter (eqv c x) = r.filter (eqv c x)
variable {c}
theorem F.rfl {l : List α} : F c l l := ⟨Eq.refl _, fun _ => Eq.refl _⟩
theorem F.trans {l r s : List α} (h : F c l r) (g : F c r s) : F c l s := ⟨h.1.trans g.1, fun x => (h.2 x).trans (g.2 x)⟩
theorem F.symm {l r : List α} (h : F c l r) : F c r l := ⟨h.1.symm, fun x => (h.2 x).symm⟩
theorem F.app {l r l' r' : List α} (h : F c l r) (g : F c l' r') : F c (l ++ l') (r ++ r') :=
 ⟨by rw [List.length_append, List.length_append, h.1, g.1], fun x => by rw [List.filter_append, List.filter_append, h.2 x, g.2 x]⟩
theorem Tot.refl (T : Tot c) (x : α) : ¬ c x x < 0 := fun h => T.asym x x h h
theorem Q1dt (T : Tot c) (x : α) : eqv c x x = true := by simpa [eqv] using T.refl x
theorem F.mem (T : Tot c) {l r : List α} (h : F c l r) {x : α} (hx : x ∈ l) : x ∈ r := by
 have h1 : x ∈ l.filter (eqv c x) := List.mem_filter.2 ⟨hx, Q1dt T x⟩
 rw [h.2 x] at h1
 exact (List.mem_filter.1 h1).1
theorem F.swap (T : Tot c) {A B : List α} (h : ∀ a ∈ A, ∀ b ∈ B, c b a < 0) : F c (A ++ B) (B ++ A) := by
  refine ⟨by simp [Nat.add_comm], fun x => ?_⟩
  rw [List.filter_append, List.filter_append]
  by_cases hA : A.filter (eqv c x) = []
  · rw [hA]
    simp
  · have hB : B.filter (eqv c x) = [] := by
      obtain ⟨a, ha⟩ := List.exists_mem_of_ne_nil _ hA
      obtain ⟨ha, hxa⟩ := List.mem_filter.1 ha
      refine List.filter_eq_nil_iff.2 fun b hb hxb => ?_
      simp only [eqv, Bool.and_eq_true, decide_eq_true_eq] at hxa hxb
      exact T.tr a x b hxa.1 hxb.2 (h a ha b hb)
    rw [hB]
    simp
theorem Q13b {x y : α} : ∀ {R : List α}, y ∈ insR c x R → y = x ∨ y ∈ R
  | [], h => by simpa [insR] using h
  | s :: t, h => by
    rw [insR] at h
    cases hd : decide (c x s < 0) with
    | true =>
      rw [hd, cond_true] at h
      rcases List.mem_cons.1 h with e | e
      · exact Or.inr (by simp [e])
      · rcases Q13b e with e | e
        · exact Or.inl e
        · exact Or.inr (List.mem_cons_of_mem _ e)
    | false =>
      rw [hd, cond_false] at h
      rcases List.mem_cons.1 h with e | e
      · exact Or.inl e
      · exact Or.inr e
theorem Q1aq (T : Tot c) (x : α) : ∀ {R : List α}, R.Pairwise (fun a b => le c b a) → (insR c x R).Pairwise (fun a b => le c b a)
  | [], _ => by simp [insR]
  | s :: t, h => by
    have h' := List.pairwise_cons.1 h
    rw [insR]
    by_cases hd : c x s < 0
    · rw [show decide (c x s < 0) = true by simpa using hd, cond_true]
      refine List.pairwise_cons.2 ⟨fun y hy => ?_, Q1aq T x h'.2⟩
      rcases Q13b hy with e | e
      · subst e
        exact T.asym _ _ hd
      · exact h'.1 y e
    · rw [show decide (c x s < 0) = false by simpa using hd, cond_false]
      refine List.pairwise_cons.2 ⟨fun y hy => ?_, h⟩
      rcases List.mem_cons.1 hy with e | e
      · subst e
        exact hd
      · exact T.tr y s x (h'.1 y e) hd
theorem Q1gy (T : Tot c) (x : α) : ∀ (R : List α), F c (R.reverse ++ [x]) (insR c x R).reverse
  | [] => F.rfl
  | s :: t => by
    rw [insR]
    by_cases hd : c x s < 0
    · rw [show decide (c x s < 0) = true by simpa using hd, cond_true, List.reverse_cons, List.reverse_cons, List.append_assoc]
      have h1 : F c ([s] ++ [x]) ([x] ++ [s]) := F.swap T (by simpa using hd)
      exact (F.rfl.app h1).trans (by rw [← List.append_assoc]; exact (Q1gy T x t).app F.rfl)
    · rw [show decide (c x s < 0) = false by simpa using hd, cond_false, List.reverse_cons (a := x)]
      exact F.rfl
theorem Q108 (T : Tot c) : ∀ (M R : List α), R.Pairwise (fun a b => le c b a) → (M.foldl (fun r x => insR c x r) R).Pairwise (fun a b => le c b a) ∧ F c (R.reverse ++ M) (M.foldl (fun r x => insR c x r) R).reverse
 | [], R, h => ⟨h, by simpa using F.rfl⟩
 | x :: M, R, h => by
  obtain ⟨h1, h2⟩ := Q108 T M (insR c x R) (Q1aq T x h)
  refine ⟨h1, F.trans ?_ h2⟩
  have e : R.reverse ++ x :: M = (R.reverse ++ [x]) ++ M := by simp
  rw [e]
  exact (Q1gy T x R).app F.rfl
theorem Q13d (T : Tot c) (l : List α) : Up c (Qdo c l) := by
 unfold Up Qdo
 rw [List.pairwise_reverse]
 exact (Q108 T l [] List.Pairwise.nil).1
theorem Q1au (T : Tot c) (l : List α) : F c l (Qdo c l) := (Q108 T l [] List.Pairwise.nil).2
def bs (g : Int → Bool) : Nat → Int → Int → Int
 | 0, i, _ => i
 | k + 1, i, j => bif decide (i < j) then (bif g ((i + j) / 2) then bs g k ((i + j) / 2 + 1) j else bs g k i ((i + j) / 2)) else i
end
end Go.Pv.Srt
end

section
/- The library's stable sort: symmetric merging and the sort as a whole answer the stably sorted list. Program-free. -/
namespace Go.Pv.Srt
section
variable {α : Type} (z : α) (c : α → α → Int)
def st1 (d : List α) (a m b : Int) : Int := bs (fun h => decide (c (gt z d h) (gt z d a) < 0)) ((b - m).toNat + 1) m b
variable {c}
end
end Go.Pv.Srt
end

section
/- The library's stable sort: merging in general, blocks, the whole. Program-free. -/
namespace Go.Pv.Srt
section
variable {α : Type} (z : α) {c : α → α → Int}
end
end Go.Pv.Srt
end

section
/- The library's stable sort: blocks, and the whole: it answers what insertion answers. Program-free. -/
namespace Go.Pv.Srt
section
variable {α : Type} (z : α) (c : α → α → Int)
inductive Bl (s : Nat) : List α → Prop
  | last {l : List α} : l.length ≤ s → Up c l → Bl s l
  | cons {l r : List α} : l.length = s → Up c l → Bl s r → Bl s (l ++ r)
inductive Fu (s : Nat) : List α → Prop
  | nil : Fu s []
  | snoc {p l : List α} : Fu s p → l.length = s → Up c l → Fu s (p ++ l)
variable {c}
theorem Bl.one {s : Nat} {Q : List α} (h : Bl c s Q) (hl : Q.length ≤ s) : Up c Q := by
 cases h with
 | last _ h => exact h
 | cons h1 h2 h3 =>
  rename_i l r
  rw [List.length_append] at hl
  rw [List.length_eq_zero_iff.1 (show r.length = 0 by omega), List.append_nil]
  exact h2
theorem Bl.split {s : Nat} {Q : List α} (h : Bl c s Q) (hl : s < Q.length) : ∃ l r, Q = l ++ r ∧ l.length = s ∧ Up c l ∧ Bl c s r := by
 cases h with
 | last h _ => omega
 | cons h1 h2 h3 => exact ⟨_, _, rfl, h1, h2, h3⟩
end
end Go.Pv.Srt
end

